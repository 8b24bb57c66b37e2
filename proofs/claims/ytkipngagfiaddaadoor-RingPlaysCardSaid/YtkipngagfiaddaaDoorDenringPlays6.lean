/- RingPlaysCard: part 6 of what its proof rests on: an evaluator of the program's code, proved sound; plain functions printed from the code by a program of this session, with proofs; plain laws. No condition. -/
import Derived.Test.YtkipngagfiaddaaDoorDenringPlays5
import Derived.Handed
import Derived.Lay
import Derived.MakeChecks
import Derived.FnData
import Derived.Stop.Joined
import Derived.SevenTiedAt
import Derived.Test.YtkipngagfiaddaaDoorRows
import Derived.Test.YtkipngagfiaddaaDoorCards
import Derived.Test.YtkipngagfiaddaaDoorTie

namespace Go.Proofs.YtkipngagfiaddaaDoor.Den
open Go Go.Proofs
set_option maxRecDepth 100000
set_option maxHeartbeats 4000000
set_option linter.unusedVariables false
set_option linter.unusedSimpArgs false
def law17_RingPlays_S0_c0 (x1 : List R_i64_i64_i64_i64_i64) : Bool := (bif tb (decide (200 < ((x1.length : Nat) : Int))) then true else false)
theorem law17_RingPlays_S0_t0 (x0 : Bool) (x1 : List R_i64_i64_i64_i64_i64) : law17_RingPlays_S0_c0 x1 = true → segG (runC E0 (cl E0) S8_0) [0] [2] [0] 0 ([(V.d (slD enc_R_i64_i64_i64_i64_i64 true 5 x0 x1))], []) = some (.ret, ([(V.d (.bool true))], [])) := by
  unfold law17_RingPlays_S0_c0
  cases h1 : tb (decide (200 < ((x1.length : Nat) : Int)))
  · intro g0
    exact absurd g0 ft
  · intro g0
    exact seg_walk [.o 11 (fun _ => o_len_os (enc := enc_R_i64_i64_i64_i64_i64) (l := x1) (fl := true) (n := x0) (s := 5)), .b (tbE h1), .c (law17_alive_t0)] (by kernel_rfl)
theorem law17_RingPlays_S0_t1 (x0 : Bool) (x1 : List R_i64_i64_i64_i64_i64) : law17_RingPlays_S0_c0 x1 = false → segG (runC E0 (cl E0) S8_0) [0] [2] [0] 0 ([(V.d (slD enc_R_i64_i64_i64_i64_i64 true 5 x0 x1))], []) = some (.normal, ([(V.d (slD enc_R_i64_i64_i64_i64_i64 true 5 x0 x1))], [])) := by
  unfold law17_RingPlays_S0_c0
  cases h1 : tb (decide (200 < ((x1.length : Nat) : Int)))
  · intro g0
    exact seg_walk [.o 11 (fun _ => o_len_os (enc := enc_R_i64_i64_i64_i64_i64) (l := x1) (fl := true) (n := x0) (s := 5)), .b (tbE h1)] (by kernel_rfl)
  · intro g0
    exact absurd g0 tf
def law17_RingPlays_S1_c0 (x6 : List R_i64_i64_i64_i64_i64) (x8 : Int) : Bool := (bif tb (decide (x8 < ((x6.length : Nat) : Int))) then true else false)
theorem law17_RingPlays_S1_t0 (x0 : List R_i64_i64_i64_i64_i64) (x1 : Int) (x2 : List R_i64_i64_i64_i64_i64) (x3 : Bool) (x4 : Bool) (x5 : Bool) (x6 : List R_i64_i64_i64_i64_i64) (x7 : Bool) (x8 : Int) : law17_RingPlays_S1_c0 x6 x8 = true → segG (runC E0 (cl E0) S8_1) [0, 3, 4, 5] [] [0, 3, 4, 5] 2 ([(V.d (slD enc_R_i64_i64_i64_i64_i64 true 5 x5 x6)), (V.ptr 0 1 0 0), (V.so x7 1 x2.length), (V.d (.int .i64 x8))], [(Blk.flat 86 161 [(arrE enc_R_i64_i64_i64_i64_i64 x0 32 ++ [(.int .i64 x1)])] x3), (Blk.flat 58 5 (List.map enc_R_i64_i64_i64_i64_i64 x2) x4)]) = some (.normal, ([(V.d (slD enc_R_i64_i64_i64_i64_i64 true 5 x5 x6)), (V.ptr 0 1 0 0), (V.so x7 1 x2.length), (V.d (.int .i64 x8))], [(Blk.flat 86 161 [(arrE enc_R_i64_i64_i64_i64_i64 x0 32 ++ [(.int .i64 x1)])] x3), (Blk.flat 58 5 (List.map enc_R_i64_i64_i64_i64_i64 x2) x4)])) := by
  unfold law17_RingPlays_S1_c0
  cases h1 : tb (decide (x8 < ((x6.length : Nat) : Int)))
  · intro g0
    exact absurd g0 ft
  · intro g0
    exact seg_walk [.o 17 (fun _ => o_len_os (enc := enc_R_i64_i64_i64_i64_i64) (l := x6) (fl := true) (n := x5) (s := 5)), .b (tbE h1)] (by kernel_rfl)
theorem law17_RingPlays_S1_t1 (x0 : List R_i64_i64_i64_i64_i64) (x1 : Int) (x2 : List R_i64_i64_i64_i64_i64) (x3 : Bool) (x4 : Bool) (x5 : Bool) (x6 : List R_i64_i64_i64_i64_i64) (x7 : Bool) (x8 : Int) : law17_RingPlays_S1_c0 x6 x8 = false → segG (runC E0 (cl E0) S8_1) [0, 3, 4, 5] [] [0, 3, 4, 5] 2 ([(V.d (slD enc_R_i64_i64_i64_i64_i64 true 5 x5 x6)), (V.ptr 0 1 0 0), (V.so x7 1 x2.length), (V.d (.int .i64 x8))], [(Blk.flat 86 161 [(arrE enc_R_i64_i64_i64_i64_i64 x0 32 ++ [(.int .i64 x1)])] x3), (Blk.flat 58 5 (List.map enc_R_i64_i64_i64_i64_i64 x2) x4)]) = some ((.exit 0), ([], [(Blk.flat 86 161 [(arrE enc_R_i64_i64_i64_i64_i64 x0 32 ++ [(.int .i64 x1)])] x3), (Blk.flat 58 5 (List.map enc_R_i64_i64_i64_i64_i64 x2) x4)])) := by
  unfold law17_RingPlays_S1_c0
  cases h1 : tb (decide (x8 < ((x6.length : Nat) : Int)))
  · intro g0
    exact seg_walk [.o 17 (fun _ => o_len_os (enc := enc_R_i64_i64_i64_i64_i64) (l := x6) (fl := true) (n := x5) (s := 5)), .b (tbE h1)] (by kernel_rfl)
  · intro g0
    exact absurd g0 tf
def law17_RingPlays_S2_e0 (x2 : List R_i64_i64_i64_i64_i64) : List R_i64_i64_i64_i64_i64 := (sub x2 (mxI 0 (wi (((x2.length : Nat) : Int) - 32))) ((x2.length : Nat) : Int))
def law17_RingPlays_S2_c0 (x0 : List R_i64_i64_i64_i64_i64) (x1 : Int) (x2 : List R_i64_i64_i64_i64_i64) : Bool := (bif tb (ring_Ring_All_p_Fi161_c0 x0 x1) then (bif tb (ref17_All_v_L_c0 x2 false) then (bif tb (ref17_Same_oo_c0 ((ring_Ring_All_p_Fi161_e0 x0 x1).c7) []) then true else false) else (bif tb (ref17_All_v_L_c1 x2 false) then (bif tb (ins x2.length (mxI 0 (wi (((x2.length : Nat) : Int) - 32))) ((x2.length : Nat) : Int)) then (bif tb (ref17_Same_oo_c0 ((ring_Ring_All_p_Fi161_e0 x0 x1).c7) (law17_RingPlays_S2_e0 x2)) then true else false) else false) else (bif tb (ref17_All_v_L_c2 x2 false) then (bif tb (ref17_Same_oz_c0 ((ring_Ring_All_p_Fi161_e0 x0 x1).c7)) then true else false) else false))) else false)
def law17_RingPlays_S2_r0_6 (x0 : List R_i64_i64_i64_i64_i64) (x1 : Int) (x2 : List R_i64_i64_i64_i64_i64) : Bool := (bif tb (ref17_All_v_L_c0 x2 false) then (ref17_Same_oo_r0_0 ((ring_Ring_All_p_Fi161_e0 x0 x1).c7) []) else (bif tb (ref17_All_v_L_c1 x2 false) then (ref17_Same_oo_r0_0 ((ring_Ring_All_p_Fi161_e0 x0 x1).c7) (law17_RingPlays_S2_e0 x2)) else (ref17_Same_oz_r0_0 ((ring_Ring_All_p_Fi161_e0 x0 x1).c7))))
theorem law17_RingPlays_S2_t0 (x0 : List R_i64_i64_i64_i64_i64) (x1 : Int) (x2 : List R_i64_i64_i64_i64_i64) (x3 : Int) (x4 : Int) (x5 : Int) (x6 : Int) (x7 : Int) (x8 : Bool) (x9 : Bool) (x10 : Bool) (x11 : Bool) (x12 : List R_i64_i64_i64_i64_i64) (x13 : Int) (x14 : Int) (x15 : Bool) : law17_RingPlays_S2_c0 x0 x1 x2 = true → segG (runC E0 (cl E0) S8_2) [0, 3, 4, 5, 6, 7] [] [0, 3, 4, 5, 6, 7, 8] 3 ([(V.d (slD enc_R_i64_i64_i64_i64_i64 true 5 x11 x12)), (V.ptr 0 1 0 0), (V.so false 1 x2.length), (V.d (.int .i64 x13)), (V.d (.int .i64 x14)), (V.d (.bool x15))], [(Blk.flat 86 161 [(arrE enc_R_i64_i64_i64_i64_i64 x0 32 ++ [(.int .i64 x1)])] x8), (Blk.flat 58 5 (List.map enc_R_i64_i64_i64_i64_i64 x2) x9), (Blk.flat 58 5 [[(.int .i64 x3), (.int .i64 x4), (.int .i64 x5), (.int .i64 x6), (.int .i64 x7)]] x10)]) = some (.normal, ([(V.d (slD enc_R_i64_i64_i64_i64_i64 true 5 x11 x12)), (V.ptr 0 1 0 0), (V.so false 1 x2.length), (V.d (.int .i64 x13)), (V.d (.int .i64 x14)), (V.d (.bool x15)), (V.d (.bool (law17_RingPlays_S2_r0_6 x0 x1 x2)))], [(Blk.flat 86 161 [(arrE enc_R_i64_i64_i64_i64_i64 x0 32 ++ [(.int .i64 x1)])] x8), (Blk.flat 58 5 (List.map enc_R_i64_i64_i64_i64_i64 x2) x9), (Blk.flat 58 5 [[(.int .i64 x3), (.int .i64 x4), (.int .i64 x5), (.int .i64 x6), (.int .i64 x7)]] x10)])) := by
  unfold law17_RingPlays_S2_c0 law17_RingPlays_S2_r0_6
  cases h1 : tb (ring_Ring_All_p_Fi161_c0 x0 x1)
  · intro g0
    exact absurd g0 ft
  · cases h2 : tb (ref17_All_v_L_c0 x2 false)
    · cases h3 : tb (ref17_All_v_L_c1 x2 false)
      · cases h4 : tb (ref17_All_v_L_c2 x2 false)
        · intro g0
          exact absurd g0 ft
        · cases h5 : tb (ref17_Same_oz_c0 ((ring_Ring_All_p_Fi161_e0 x0 x1).c7))
          · intro g0
            exact absurd g0 ft
          · intro g0
            exact seg_walk [.c (ring_Ring_All_p_Fi161_t0 x0 x1 x8 (tbE h1)), .c (ref17_All_v_L_t2 x2 x9 false (tbE h2) (tbE h3) (tbE h4)), .y (mm := [(Blk.flat 86 161 [(arrE enc_R_i64_i64_i64_i64_i64 x0 32 ++ [(.int .i64 x1)])] x8), (Blk.flat 58 5 (List.map enc_R_i64_i64_i64_i64_i64 x2) x9), (Blk.flat 58 5 [[(.int .i64 x3), (.int .i64 x4), (.int .i64 x5), (.int .i64 x6), (.int .i64 x7)]] x10), (Blk.flat 58 5 (List.map enc_R_i64_i64_i64_i64_i64 ((ring_Ring_All_p_Fi161_e0 x0 x1).c7)) false)]) (args := [(V.so ((ring_Ring_All_p_Fi161_e0 x0 x1).c0) 3 (((ring_Ring_All_p_Fi161_e0 x0 x1).c7).length)), (V.d (.rs false 5 [] false))]) (args1 := [(V.d (slD enc_R_i64_i64_i64_i64_i64 true 5 ((ring_Ring_All_p_Fi161_e0 x0 x1).c0) ((ring_Ring_All_p_Fi161_e0 x0 x1).c7))), (V.d (.rs false 5 [] false))]) (byvals_cons (byval_so (enc := enc_R_i64_i64_i64_i64_i64) (l := ((ring_Ring_All_p_Fi161_e0 x0 x1).c7)) (b := ((ring_Ring_All_p_Fi161_e0 x0 x1).c0)) (e := 58) (s := 5) (p := false) (n := (((ring_Ring_All_p_Fi161_e0 x0 x1).c7).length)) (Nat.beq_refl _) (by kernel_rfl)) (by kernel_rfl)), .c (ref17_Same_oz_t0 ((ring_Ring_All_p_Fi161_e0 x0 x1).c0) ((ring_Ring_All_p_Fi161_e0 x0 x1).c7) (tbE h5))] (by kernel_rfl)
      · cases h4 : tb (ins x2.length (mxI 0 (wi (((x2.length : Nat) : Int) - 32))) ((x2.length : Nat) : Int))
        · intro g0
          exact absurd g0 ft
        · cases h5 : tb (ref17_Same_oo_c0 ((ring_Ring_All_p_Fi161_e0 x0 x1).c7) (law17_RingPlays_S2_e0 x2))
          · intro g0
            exact absurd g0 ft
          · intro g0
            exact seg_walk [.c (ring_Ring_All_p_Fi161_t0 x0 x1 x8 (tbE h1)), .c (ref17_All_v_L_t1 x2 x9 false (tbE h2) (tbE h3)), .y (mm := [(Blk.flat 86 161 [(arrE enc_R_i64_i64_i64_i64_i64 x0 32 ++ [(.int .i64 x1)])] x8), (Blk.flat 58 5 (List.map enc_R_i64_i64_i64_i64_i64 x2) x9), (Blk.flat 58 5 [[(.int .i64 x3), (.int .i64 x4), (.int .i64 x5), (.int .i64 x6), (.int .i64 x7)]] x10), (Blk.flat 58 5 (List.map enc_R_i64_i64_i64_i64_i64 ((ring_Ring_All_p_Fi161_e0 x0 x1).c7)) false)]) (args := [(V.so ((ring_Ring_All_p_Fi161_e0 x0 x1).c0) 3 (((ring_Ring_All_p_Fi161_e0 x0 x1).c7).length)), (V.sl 1 x2.length ((mxI 0 (wi (((x2.length : Nat) : Int) - 32))) : Int).toNat ((((x2.length : Nat) : Int) : Int).toNat - ((mxI 0 (wi (((x2.length : Nat) : Int) - 32))) : Int).toNat))]) (args1 := [(V.d (slD enc_R_i64_i64_i64_i64_i64 true 5 ((ring_Ring_All_p_Fi161_e0 x0 x1).c0) ((ring_Ring_All_p_Fi161_e0 x0 x1).c7))), (V.d (.rs true 5 (List.map enc_R_i64_i64_i64_i64_i64 (sub x2 (mxI 0 (wi (((x2.length : Nat) : Int) - 32))) ((x2.length : Nat) : Int))) false))]) (byvals_cons (byval_so (enc := enc_R_i64_i64_i64_i64_i64) (l := ((ring_Ring_All_p_Fi161_e0 x0 x1).c7)) (b := ((ring_Ring_All_p_Fi161_e0 x0 x1).c0)) (e := 58) (s := 5) (p := false) (n := (((ring_Ring_All_p_Fi161_e0 x0 x1).c7).length)) (Nat.beq_refl _) (by kernel_rfl)) (byvals_cons (byval_sp (enc := enc_R_i64_i64_i64_i64_i64) (l := x2) (e := 58) (s := 5) (p := x9) (n := x2.length) (lo := (mxI 0 (wi (((x2.length : Nat) : Int) - 32)))) (hi := ((x2.length : Nat) : Int)) (Nat.beq_refl _) (by kernel_rfl) (tbE h4)) (by kernel_rfl))), .c (ref17_Same_oo_t0 ((ring_Ring_All_p_Fi161_e0 x0 x1).c0) ((ring_Ring_All_p_Fi161_e0 x0 x1).c7) false (law17_RingPlays_S2_e0 x2) (tbE h5))] (by kernel_rfl)
    · cases h3 : tb (ref17_Same_oo_c0 ((ring_Ring_All_p_Fi161_e0 x0 x1).c7) [])
      · intro g0
        exact absurd g0 ft
      · intro g0
        exact seg_walk [.c (ring_Ring_All_p_Fi161_t0 x0 x1 x8 (tbE h1)), .c (ref17_All_v_L_t0 x2 x9 false (tbE h2)), .y (mm := [(Blk.flat 86 161 [(arrE enc_R_i64_i64_i64_i64_i64 x0 32 ++ [(.int .i64 x1)])] x8), (Blk.flat 58 5 (List.map enc_R_i64_i64_i64_i64_i64 x2) x9), (Blk.flat 58 5 [[(.int .i64 x3), (.int .i64 x4), (.int .i64 x5), (.int .i64 x6), (.int .i64 x7)]] x10), (Blk.flat 58 5 (List.map enc_R_i64_i64_i64_i64_i64 ((ring_Ring_All_p_Fi161_e0 x0 x1).c7)) false)]) (args := [(V.so ((ring_Ring_All_p_Fi161_e0 x0 x1).c0) 3 (((ring_Ring_All_p_Fi161_e0 x0 x1).c7).length)), (V.d .nils)]) (args1 := [(V.d (slD enc_R_i64_i64_i64_i64_i64 true 5 ((ring_Ring_All_p_Fi161_e0 x0 x1).c0) ((ring_Ring_All_p_Fi161_e0 x0 x1).c7))), (V.d .nils)]) (byvals_cons (byval_so (enc := enc_R_i64_i64_i64_i64_i64) (l := ((ring_Ring_All_p_Fi161_e0 x0 x1).c7)) (b := ((ring_Ring_All_p_Fi161_e0 x0 x1).c0)) (e := 58) (s := 5) (p := false) (n := (((ring_Ring_All_p_Fi161_e0 x0 x1).c7).length)) (Nat.beq_refl _) (by kernel_rfl)) (by kernel_rfl)), .c (ref17_Same_oo_t0 ((ring_Ring_All_p_Fi161_e0 x0 x1).c0) ((ring_Ring_All_p_Fi161_e0 x0 x1).c7) true [] (tbE h3))] (by kernel_rfl)
def law17_RingPlays_S3_c0 (x1 : Int) (x2 : List R_i64_i64_i64_i64_i64) (x12 : List R_i64_i64_i64_i64_i64) (x13 : Int) (x14 : Int) (x15 : Bool) (x16 : Bool) : Bool := (bif tb (true != (((x14 : Int) == 0) == x15)) then true else (bif tb ((x14 : Int) != 0) then (bif tb ((x14 : Int) != 1) then true else (bif tb (x16) then (bif tb (((mxI 0 (wi (x1 - 32))) : Int) != (mxI 0 (wi (((x2.length : Nat) : Int) - 32)))) then true else (bif tb (inb x12.length x13) then (bif tb (ring_Right_ai5_c0 ((gt x12 x13).c0) ((gt x12 x13).c1) ((gt x12 x13).c2) ((gt x12 x13).c3) ((gt x12 x13).c4)) then (bif tb (true != ((ring_Right_ai5_r0_0 ((gt x12 x13).c0) ((gt x12 x13).c1) ((gt x12 x13).c2) ((gt x12 x13).c3) ((gt x12 x13).c4)) == x15)) then true else (bif tb (ring_Text_ai5_c0 ((gt x12 x13).c0) ((gt x12 x13).c1) ((gt x12 x13).c2) ((gt x12 x13).c3) ((gt x12 x13).c4)) then (bif tb (ref17_Text_ai5_c0 ((gt x12 x13).c0) ((gt x12 x13).c1) ((gt x12 x13).c2) ((gt x12 x13).c3) ((gt x12 x13).c4)) then true else false) else false)) else false) else false)) else true)) else (bif tb (x16) then (bif tb (((mxI 0 (wi (x1 - 32))) : Int) != (mxI 0 (wi (((x2.length : Nat) : Int) - 32)))) then true else (bif tb (inb x12.length x13) then (bif tb (ring_Right_ai5_c0 ((gt x12 x13).c0) ((gt x12 x13).c1) ((gt x12 x13).c2) ((gt x12 x13).c3) ((gt x12 x13).c4)) then (bif tb (true != ((ring_Right_ai5_r0_0 ((gt x12 x13).c0) ((gt x12 x13).c1) ((gt x12 x13).c2) ((gt x12 x13).c3) ((gt x12 x13).c4)) == x15)) then true else (bif tb (ring_Text_ai5_c0 ((gt x12 x13).c0) ((gt x12 x13).c1) ((gt x12 x13).c2) ((gt x12 x13).c3) ((gt x12 x13).c4)) then (bif tb (ref17_Text_ai5_c0 ((gt x12 x13).c0) ((gt x12 x13).c1) ((gt x12 x13).c2) ((gt x12 x13).c3) ((gt x12 x13).c4)) then true else false) else false)) else false) else false)) else true)))
def law17_RingPlays_S3_r0_4 (x1 : Int) (x2 : List R_i64_i64_i64_i64_i64) (x12 : List R_i64_i64_i64_i64_i64) (x13 : Int) (x14 : Int) (x15 : Bool) (x16 : Bool) : Bool := (bif tb (true != (((x14 : Int) == 0) == x15)) then true else (bif tb ((x14 : Int) != 0) then (bif tb ((x14 : Int) != 1) then true else (bif tb (x16) then (bif tb (((mxI 0 (wi (x1 - 32))) : Int) != (mxI 0 (wi (((x2.length : Nat) : Int) - 32)))) then true else (bif tb (true != ((ring_Right_ai5_r0_0 ((gt x12 x13).c0) ((gt x12 x13).c1) ((gt x12 x13).c2) ((gt x12 x13).c3) ((gt x12 x13).c4)) == x15)) then true else (!((ring_Text_ai5_r0_0 ((gt x12 x13).c0) ((gt x12 x13).c1) ((gt x12 x13).c2) ((gt x12 x13).c3) ((gt x12 x13).c4)).toList == (ref17_Text_ai5_r0_0 ((gt x12 x13).c0) ((gt x12 x13).c1) ((gt x12 x13).c2) ((gt x12 x13).c3) ((gt x12 x13).c4)).toList)))) else true)) else (bif tb (x16) then (bif tb (((mxI 0 (wi (x1 - 32))) : Int) != (mxI 0 (wi (((x2.length : Nat) : Int) - 32)))) then true else (bif tb (true != ((ring_Right_ai5_r0_0 ((gt x12 x13).c0) ((gt x12 x13).c1) ((gt x12 x13).c2) ((gt x12 x13).c3) ((gt x12 x13).c4)) == x15)) then true else (!((ring_Text_ai5_r0_0 ((gt x12 x13).c0) ((gt x12 x13).c1) ((gt x12 x13).c2) ((gt x12 x13).c3) ((gt x12 x13).c4)).toList == (ref17_Text_ai5_r0_0 ((gt x12 x13).c0) ((gt x12 x13).c1) ((gt x12 x13).c2) ((gt x12 x13).c3) ((gt x12 x13).c4)).toList)))) else true)))
theorem law17_RingPlays_S3_t0 (x0 : List R_i64_i64_i64_i64_i64) (x1 : Int) (x2 : List R_i64_i64_i64_i64_i64) (x3 : Int) (x4 : Int) (x5 : Int) (x6 : Int) (x7 : Int) (x8 : Bool) (x9 : Bool) (x10 : Bool) (x11 : Bool) (x12 : List R_i64_i64_i64_i64_i64) (x13 : Int) (x14 : Int) (x15 : Bool) (x16 : Bool) : law17_RingPlays_S3_c0 x1 x2 x12 x13 x14 x15 x16 = true → segG (runC E0 (cl E0) S8_3) [0, 3, 4, 5, 6, 7, 8] [] [0, 3, 4, 5, 89] 3 ([(V.d (slD enc_R_i64_i64_i64_i64_i64 true 5 x11 x12)), (V.ptr 0 1 0 0), (V.so false 1 x2.length), (V.d (.int .i64 x13)), (V.d (.int .i64 x14)), (V.d (.bool x15)), (V.d (.bool x16))], [(Blk.flat 86 161 [(arrE enc_R_i64_i64_i64_i64_i64 x0 32 ++ [(.int .i64 x1)])] x8), (Blk.flat 58 5 (List.map enc_R_i64_i64_i64_i64_i64 x2) x9), (Blk.flat 58 5 [[(.int .i64 x3), (.int .i64 x4), (.int .i64 x5), (.int .i64 x6), (.int .i64 x7)]] x10)]) = some (.normal, ([(V.d (slD enc_R_i64_i64_i64_i64_i64 true 5 x11 x12)), (V.ptr 0 1 0 0), (V.so false 1 x2.length), (V.d (.int .i64 x13)), (V.d (.bool (law17_RingPlays_S3_r0_4 x1 x2 x12 x13 x14 x15 x16)))], [(Blk.flat 86 161 [(arrE enc_R_i64_i64_i64_i64_i64 x0 32 ++ [(.int .i64 x1)])] x8), (Blk.flat 58 5 (List.map enc_R_i64_i64_i64_i64_i64 x2) x9), (Blk.flat 58 5 [[(.int .i64 x3), (.int .i64 x4), (.int .i64 x5), (.int .i64 x6), (.int .i64 x7)]] x10)])) := by
  unfold law17_RingPlays_S3_c0 law17_RingPlays_S3_r0_4
  cases h1 : tb (true != (((x14 : Int) == 0) == x15))
  · cases h2 : tb ((x14 : Int) != 0)
    · cases h3 : tb (x16)
      · intro g0
        exact seg_walk [.b (tbE h1), .b (tbE h2), .b (notF (tbE h3))] (by kernel_rfl)
      · cases h4 : tb (((mxI 0 (wi (x1 - 32))) : Int) != (mxI 0 (wi (((x2.length : Nat) : Int) - 32))))
        · cases h5 : tb (inb x12.length x13)
          · intro g0
            exact absurd g0 ft
          · cases h6 : tb (ring_Right_ai5_c0 ((gt x12 x13).c0) ((gt x12 x13).c1) ((gt x12 x13).c2) ((gt x12 x13).c3) ((gt x12 x13).c4))
            · intro g0
              exact absurd g0 ft
            · cases h7 : tb (true != ((ring_Right_ai5_r0_0 ((gt x12 x13).c0) ((gt x12 x13).c1) ((gt x12 x13).c2) ((gt x12 x13).c3) ((gt x12 x13).c4)) == x15))
              · cases h8 : tb (ring_Text_ai5_c0 ((gt x12 x13).c0) ((gt x12 x13).c1) ((gt x12 x13).c2) ((gt x12 x13).c3) ((gt x12 x13).c4))
                · intro g0
                  exact absurd g0 ft
                · cases h9 : tb (ref17_Text_ai5_c0 ((gt x12 x13).c0) ((gt x12 x13).c1) ((gt x12 x13).c2) ((gt x12 x13).c3) ((gt x12 x13).c4))
                  · intro g0
                    exact absurd g0 ft
                  · intro g0
                    exact seg_walk [.b (tbE h1), .b (tbE h2), .b (notT (tbE h3)), .c (ring_Ring_Lost_p_Fi161_t0 x0 x1 true), .y (mm := [(Blk.flat 86 161 [(arrE enc_R_i64_i64_i64_i64_i64 x0 32 ++ [(.int .i64 x1)])] true), (Blk.flat 58 5 (List.map enc_R_i64_i64_i64_i64_i64 x2) true), (Blk.flat 58 5 [[(.int .i64 x3), (.int .i64 x4), (.int .i64 x5), (.int .i64 x6), (.int .i64 x7)]] true)]) (args := [(V.so false 1 x2.length)]) (args1 := [(V.d (.rs true 5 (List.map enc_R_i64_i64_i64_i64_i64 x2) false))]) (byvals_cons (byval_so (enc := enc_R_i64_i64_i64_i64_i64) (l := x2) (b := false) (e := 58) (s := 5) (p := true) (n := x2.length) (Nat.beq_refl _) (by kernel_rfl)) (by kernel_rfl)), .c (ref17_Lost_o_t0 false x2), .b (tbE h4), .o 71 (fun _ => o_idx_os (enc := enc_R_i64_i64_i64_i64_i64) (l := x12) (fl := true) (n := x11) (s := 5) (k := .i64) (tbE h5)), .c (ring_Right_ai5_t0 ((gt x12 x13).c0) ((gt x12 x13).c1) ((gt x12 x13).c2) ((gt x12 x13).c3) ((gt x12 x13).c4) (tbE h6)), .b (tbE h7), .o 80 (fun _ => o_idx_os (enc := enc_R_i64_i64_i64_i64_i64) (l := x12) (fl := true) (n := x11) (s := 5) (k := .i64) (tbE h5)), .c (ring_Text_ai5_t0 ((gt x12 x13).c0) ((gt x12 x13).c1) ((gt x12 x13).c2) ((gt x12 x13).c3) ((gt x12 x13).c4) (tbE h8)), .o 85 (fun _ => o_idx_os (enc := enc_R_i64_i64_i64_i64_i64) (l := x12) (fl := true) (n := x11) (s := 5) (k := .i64) (tbE h5)), .c (ref17_Text_ai5_t0 ((gt x12 x13).c0) ((gt x12 x13).c1) ((gt x12 x13).c2) ((gt x12 x13).c3) ((gt x12 x13).c4) (tbE h9))] (by kernel_rfl)
              · intro g0
                exact seg_walk [.b (tbE h1), .b (tbE h2), .b (notT (tbE h3)), .c (ring_Ring_Lost_p_Fi161_t0 x0 x1 true), .y (mm := [(Blk.flat 86 161 [(arrE enc_R_i64_i64_i64_i64_i64 x0 32 ++ [(.int .i64 x1)])] true), (Blk.flat 58 5 (List.map enc_R_i64_i64_i64_i64_i64 x2) true), (Blk.flat 58 5 [[(.int .i64 x3), (.int .i64 x4), (.int .i64 x5), (.int .i64 x6), (.int .i64 x7)]] true)]) (args := [(V.so false 1 x2.length)]) (args1 := [(V.d (.rs true 5 (List.map enc_R_i64_i64_i64_i64_i64 x2) false))]) (byvals_cons (byval_so (enc := enc_R_i64_i64_i64_i64_i64) (l := x2) (b := false) (e := 58) (s := 5) (p := true) (n := x2.length) (Nat.beq_refl _) (by kernel_rfl)) (by kernel_rfl)), .c (ref17_Lost_o_t0 false x2), .b (tbE h4), .o 71 (fun _ => o_idx_os (enc := enc_R_i64_i64_i64_i64_i64) (l := x12) (fl := true) (n := x11) (s := 5) (k := .i64) (tbE h5)), .c (ring_Right_ai5_t0 ((gt x12 x13).c0) ((gt x12 x13).c1) ((gt x12 x13).c2) ((gt x12 x13).c3) ((gt x12 x13).c4) (tbE h6)), .b (tbE h7)] (by kernel_rfl)
        · intro g0
          exact seg_walk [.b (tbE h1), .b (tbE h2), .b (notT (tbE h3)), .c (ring_Ring_Lost_p_Fi161_t0 x0 x1 true), .y (mm := [(Blk.flat 86 161 [(arrE enc_R_i64_i64_i64_i64_i64 x0 32 ++ [(.int .i64 x1)])] true), (Blk.flat 58 5 (List.map enc_R_i64_i64_i64_i64_i64 x2) true), (Blk.flat 58 5 [[(.int .i64 x3), (.int .i64 x4), (.int .i64 x5), (.int .i64 x6), (.int .i64 x7)]] true)]) (args := [(V.so false 1 x2.length)]) (args1 := [(V.d (.rs true 5 (List.map enc_R_i64_i64_i64_i64_i64 x2) false))]) (byvals_cons (byval_so (enc := enc_R_i64_i64_i64_i64_i64) (l := x2) (b := false) (e := 58) (s := 5) (p := true) (n := x2.length) (Nat.beq_refl _) (by kernel_rfl)) (by kernel_rfl)), .c (ref17_Lost_o_t0 false x2), .b (tbE h4)] (by kernel_rfl)
    · cases h3 : tb ((x14 : Int) != 1)
      · cases h4 : tb (x16)
        · intro g0
          exact seg_walk [.b (tbE h1), .b (tbE h2), .b (tbE h3), .b (notF (tbE h4))] (by kernel_rfl)
        · cases h5 : tb (((mxI 0 (wi (x1 - 32))) : Int) != (mxI 0 (wi (((x2.length : Nat) : Int) - 32))))
          · cases h6 : tb (inb x12.length x13)
            · intro g0
              exact absurd g0 ft
            · cases h7 : tb (ring_Right_ai5_c0 ((gt x12 x13).c0) ((gt x12 x13).c1) ((gt x12 x13).c2) ((gt x12 x13).c3) ((gt x12 x13).c4))
              · intro g0
                exact absurd g0 ft
              · cases h8 : tb (true != ((ring_Right_ai5_r0_0 ((gt x12 x13).c0) ((gt x12 x13).c1) ((gt x12 x13).c2) ((gt x12 x13).c3) ((gt x12 x13).c4)) == x15))
                · cases h9 : tb (ring_Text_ai5_c0 ((gt x12 x13).c0) ((gt x12 x13).c1) ((gt x12 x13).c2) ((gt x12 x13).c3) ((gt x12 x13).c4))
                  · intro g0
                    exact absurd g0 ft
                  · cases h10 : tb (ref17_Text_ai5_c0 ((gt x12 x13).c0) ((gt x12 x13).c1) ((gt x12 x13).c2) ((gt x12 x13).c3) ((gt x12 x13).c4))
                    · intro g0
                      exact absurd g0 ft
                    · intro g0
                      exact seg_walk [.b (tbE h1), .b (tbE h2), .b (tbE h3), .b (notT (tbE h4)), .c (ring_Ring_Lost_p_Fi161_t0 x0 x1 true), .y (mm := [(Blk.flat 86 161 [(arrE enc_R_i64_i64_i64_i64_i64 x0 32 ++ [(.int .i64 x1)])] true), (Blk.flat 58 5 (List.map enc_R_i64_i64_i64_i64_i64 x2) true), (Blk.flat 58 5 [[(.int .i64 x3), (.int .i64 x4), (.int .i64 x5), (.int .i64 x6), (.int .i64 x7)]] true)]) (args := [(V.so false 1 x2.length)]) (args1 := [(V.d (.rs true 5 (List.map enc_R_i64_i64_i64_i64_i64 x2) false))]) (byvals_cons (byval_so (enc := enc_R_i64_i64_i64_i64_i64) (l := x2) (b := false) (e := 58) (s := 5) (p := true) (n := x2.length) (Nat.beq_refl _) (by kernel_rfl)) (by kernel_rfl)), .c (ref17_Lost_o_t0 false x2), .b (tbE h5), .o 71 (fun _ => o_idx_os (enc := enc_R_i64_i64_i64_i64_i64) (l := x12) (fl := true) (n := x11) (s := 5) (k := .i64) (tbE h6)), .c (ring_Right_ai5_t0 ((gt x12 x13).c0) ((gt x12 x13).c1) ((gt x12 x13).c2) ((gt x12 x13).c3) ((gt x12 x13).c4) (tbE h7)), .b (tbE h8), .o 80 (fun _ => o_idx_os (enc := enc_R_i64_i64_i64_i64_i64) (l := x12) (fl := true) (n := x11) (s := 5) (k := .i64) (tbE h6)), .c (ring_Text_ai5_t0 ((gt x12 x13).c0) ((gt x12 x13).c1) ((gt x12 x13).c2) ((gt x12 x13).c3) ((gt x12 x13).c4) (tbE h9)), .o 85 (fun _ => o_idx_os (enc := enc_R_i64_i64_i64_i64_i64) (l := x12) (fl := true) (n := x11) (s := 5) (k := .i64) (tbE h6)), .c (ref17_Text_ai5_t0 ((gt x12 x13).c0) ((gt x12 x13).c1) ((gt x12 x13).c2) ((gt x12 x13).c3) ((gt x12 x13).c4) (tbE h10))] (by kernel_rfl)
                · intro g0
                  exact seg_walk [.b (tbE h1), .b (tbE h2), .b (tbE h3), .b (notT (tbE h4)), .c (ring_Ring_Lost_p_Fi161_t0 x0 x1 true), .y (mm := [(Blk.flat 86 161 [(arrE enc_R_i64_i64_i64_i64_i64 x0 32 ++ [(.int .i64 x1)])] true), (Blk.flat 58 5 (List.map enc_R_i64_i64_i64_i64_i64 x2) true), (Blk.flat 58 5 [[(.int .i64 x3), (.int .i64 x4), (.int .i64 x5), (.int .i64 x6), (.int .i64 x7)]] true)]) (args := [(V.so false 1 x2.length)]) (args1 := [(V.d (.rs true 5 (List.map enc_R_i64_i64_i64_i64_i64 x2) false))]) (byvals_cons (byval_so (enc := enc_R_i64_i64_i64_i64_i64) (l := x2) (b := false) (e := 58) (s := 5) (p := true) (n := x2.length) (Nat.beq_refl _) (by kernel_rfl)) (by kernel_rfl)), .c (ref17_Lost_o_t0 false x2), .b (tbE h5), .o 71 (fun _ => o_idx_os (enc := enc_R_i64_i64_i64_i64_i64) (l := x12) (fl := true) (n := x11) (s := 5) (k := .i64) (tbE h6)), .c (ring_Right_ai5_t0 ((gt x12 x13).c0) ((gt x12 x13).c1) ((gt x12 x13).c2) ((gt x12 x13).c3) ((gt x12 x13).c4) (tbE h7)), .b (tbE h8)] (by kernel_rfl)
          · intro g0
            exact seg_walk [.b (tbE h1), .b (tbE h2), .b (tbE h3), .b (notT (tbE h4)), .c (ring_Ring_Lost_p_Fi161_t0 x0 x1 true), .y (mm := [(Blk.flat 86 161 [(arrE enc_R_i64_i64_i64_i64_i64 x0 32 ++ [(.int .i64 x1)])] true), (Blk.flat 58 5 (List.map enc_R_i64_i64_i64_i64_i64 x2) true), (Blk.flat 58 5 [[(.int .i64 x3), (.int .i64 x4), (.int .i64 x5), (.int .i64 x6), (.int .i64 x7)]] true)]) (args := [(V.so false 1 x2.length)]) (args1 := [(V.d (.rs true 5 (List.map enc_R_i64_i64_i64_i64_i64 x2) false))]) (byvals_cons (byval_so (enc := enc_R_i64_i64_i64_i64_i64) (l := x2) (b := false) (e := 58) (s := 5) (p := true) (n := x2.length) (Nat.beq_refl _) (by kernel_rfl)) (by kernel_rfl)), .c (ref17_Lost_o_t0 false x2), .b (tbE h5)] (by kernel_rfl)
      · intro g0
        exact seg_walk [.b (tbE h1), .b (tbE h2), .b (tbE h3)] (by kernel_rfl)
  · intro g0
    exact seg_walk [.b (tbE h1)] (by kernel_rfl)
def law17_RingPlays_S2_1_e0 (x2 : List R_i64_i64_i64_i64_i64) : List R_i64_i64_i64_i64_i64 := (sub x2 (mxI 0 (wi (((x2.length : Nat) : Int) - 32))) ((x2.length : Nat) : Int))
def law17_RingPlays_S2_1_c0 (x0 : List R_i64_i64_i64_i64_i64) (x1 : Int) (x2 : List R_i64_i64_i64_i64_i64) (x7 : Bool) : Bool := (bif tb (ring_Ring_All_p_Fi161_c0 x0 x1) then (bif tb (ref17_All_v_L_c0 x2 x7) then (bif tb (ref17_Same_oo_c0 ((ring_Ring_All_p_Fi161_e0 x0 x1).c7) []) then true else false) else (bif tb (ref17_All_v_L_c1 x2 x7) then (bif tb (ins x2.length (mxI 0 (wi (((x2.length : Nat) : Int) - 32))) ((x2.length : Nat) : Int)) then (bif tb (ref17_Same_oo_c0 ((ring_Ring_All_p_Fi161_e0 x0 x1).c7) (law17_RingPlays_S2_1_e0 x2)) then true else false) else false) else (bif tb (ref17_All_v_L_c2 x2 x7) then (bif tb (ref17_Same_oz_c0 ((ring_Ring_All_p_Fi161_e0 x0 x1).c7)) then true else false) else false))) else false)
def law17_RingPlays_S2_1_r0_6 (x0 : List R_i64_i64_i64_i64_i64) (x1 : Int) (x2 : List R_i64_i64_i64_i64_i64) (x7 : Bool) : Bool := (bif tb (ref17_All_v_L_c0 x2 x7) then (ref17_Same_oo_r0_0 ((ring_Ring_All_p_Fi161_e0 x0 x1).c7) []) else (bif tb (ref17_All_v_L_c1 x2 x7) then (ref17_Same_oo_r0_0 ((ring_Ring_All_p_Fi161_e0 x0 x1).c7) (law17_RingPlays_S2_1_e0 x2)) else (ref17_Same_oz_r0_0 ((ring_Ring_All_p_Fi161_e0 x0 x1).c7))))
theorem law17_RingPlays_S2_1_t0 (x0 : List R_i64_i64_i64_i64_i64) (x1 : Int) (x2 : List R_i64_i64_i64_i64_i64) (x3 : Bool) (x4 : Bool) (x5 : Bool) (x6 : List R_i64_i64_i64_i64_i64) (x7 : Bool) (x8 : Int) (x9 : Int) (x10 : Bool) : law17_RingPlays_S2_1_c0 x0 x1 x2 x7 = true → segG (runC E0 (cl E0) S8_2) [0, 3, 4, 5, 6, 7] [] [0, 3, 4, 5, 6, 7, 8] 2 ([(V.d (slD enc_R_i64_i64_i64_i64_i64 true 5 x5 x6)), (V.ptr 0 1 0 0), (V.so x7 1 x2.length), (V.d (.int .i64 x8)), (V.d (.int .i64 x9)), (V.d (.bool x10))], [(Blk.flat 86 161 [(arrE enc_R_i64_i64_i64_i64_i64 x0 32 ++ [(.int .i64 x1)])] x3), (Blk.flat 58 5 (List.map enc_R_i64_i64_i64_i64_i64 x2) x4)]) = some (.normal, ([(V.d (slD enc_R_i64_i64_i64_i64_i64 true 5 x5 x6)), (V.ptr 0 1 0 0), (V.so x7 1 x2.length), (V.d (.int .i64 x8)), (V.d (.int .i64 x9)), (V.d (.bool x10)), (V.d (.bool (law17_RingPlays_S2_1_r0_6 x0 x1 x2 x7)))], [(Blk.flat 86 161 [(arrE enc_R_i64_i64_i64_i64_i64 x0 32 ++ [(.int .i64 x1)])] x3), (Blk.flat 58 5 (List.map enc_R_i64_i64_i64_i64_i64 x2) x4)])) := by
  unfold law17_RingPlays_S2_1_c0 law17_RingPlays_S2_1_r0_6
  cases h1 : tb (ring_Ring_All_p_Fi161_c0 x0 x1)
  · intro g0
    exact absurd g0 ft
  · cases h2 : tb (ref17_All_v_L_c0 x2 x7)
    · cases h3 : tb (ref17_All_v_L_c1 x2 x7)
      · cases h4 : tb (ref17_All_v_L_c2 x2 x7)
        · intro g0
          exact absurd g0 ft
        · cases h5 : tb (ref17_Same_oz_c0 ((ring_Ring_All_p_Fi161_e0 x0 x1).c7))
          · intro g0
            exact absurd g0 ft
          · intro g0
            exact seg_walk [.c (ring_Ring_All_p_Fi161_t0 x0 x1 x3 (tbE h1)), .c (ref17_All_v_L_t2 x2 x4 x7 (tbE h2) (tbE h3) (tbE h4)), .y (mm := [(Blk.flat 86 161 [(arrE enc_R_i64_i64_i64_i64_i64 x0 32 ++ [(.int .i64 x1)])] x3), (Blk.flat 58 5 (List.map enc_R_i64_i64_i64_i64_i64 x2) x4), (Blk.flat 58 5 (List.map enc_R_i64_i64_i64_i64_i64 ((ring_Ring_All_p_Fi161_e0 x0 x1).c7)) false)]) (args := [(V.so ((ring_Ring_All_p_Fi161_e0 x0 x1).c0) 2 (((ring_Ring_All_p_Fi161_e0 x0 x1).c7).length)), (V.d (.rs false 5 [] false))]) (args1 := [(V.d (slD enc_R_i64_i64_i64_i64_i64 true 5 ((ring_Ring_All_p_Fi161_e0 x0 x1).c0) ((ring_Ring_All_p_Fi161_e0 x0 x1).c7))), (V.d (.rs false 5 [] false))]) (byvals_cons (byval_so (enc := enc_R_i64_i64_i64_i64_i64) (l := ((ring_Ring_All_p_Fi161_e0 x0 x1).c7)) (b := ((ring_Ring_All_p_Fi161_e0 x0 x1).c0)) (e := 58) (s := 5) (p := false) (n := (((ring_Ring_All_p_Fi161_e0 x0 x1).c7).length)) (Nat.beq_refl _) (by kernel_rfl)) (by kernel_rfl)), .c (ref17_Same_oz_t0 ((ring_Ring_All_p_Fi161_e0 x0 x1).c0) ((ring_Ring_All_p_Fi161_e0 x0 x1).c7) (tbE h5))] (by kernel_rfl)
      · cases h4 : tb (ins x2.length (mxI 0 (wi (((x2.length : Nat) : Int) - 32))) ((x2.length : Nat) : Int))
        · intro g0
          exact absurd g0 ft
        · cases h5 : tb (ref17_Same_oo_c0 ((ring_Ring_All_p_Fi161_e0 x0 x1).c7) (law17_RingPlays_S2_1_e0 x2))
          · intro g0
            exact absurd g0 ft
          · intro g0
            exact seg_walk [.c (ring_Ring_All_p_Fi161_t0 x0 x1 x3 (tbE h1)), .c (ref17_All_v_L_t1 x2 x4 x7 (tbE h2) (tbE h3)), .y (mm := [(Blk.flat 86 161 [(arrE enc_R_i64_i64_i64_i64_i64 x0 32 ++ [(.int .i64 x1)])] x3), (Blk.flat 58 5 (List.map enc_R_i64_i64_i64_i64_i64 x2) x4), (Blk.flat 58 5 (List.map enc_R_i64_i64_i64_i64_i64 ((ring_Ring_All_p_Fi161_e0 x0 x1).c7)) false)]) (args := [(V.so ((ring_Ring_All_p_Fi161_e0 x0 x1).c0) 2 (((ring_Ring_All_p_Fi161_e0 x0 x1).c7).length)), (V.sl 1 x2.length ((mxI 0 (wi (((x2.length : Nat) : Int) - 32))) : Int).toNat ((((x2.length : Nat) : Int) : Int).toNat - ((mxI 0 (wi (((x2.length : Nat) : Int) - 32))) : Int).toNat))]) (args1 := [(V.d (slD enc_R_i64_i64_i64_i64_i64 true 5 ((ring_Ring_All_p_Fi161_e0 x0 x1).c0) ((ring_Ring_All_p_Fi161_e0 x0 x1).c7))), (V.d (.rs true 5 (List.map enc_R_i64_i64_i64_i64_i64 (sub x2 (mxI 0 (wi (((x2.length : Nat) : Int) - 32))) ((x2.length : Nat) : Int))) false))]) (byvals_cons (byval_so (enc := enc_R_i64_i64_i64_i64_i64) (l := ((ring_Ring_All_p_Fi161_e0 x0 x1).c7)) (b := ((ring_Ring_All_p_Fi161_e0 x0 x1).c0)) (e := 58) (s := 5) (p := false) (n := (((ring_Ring_All_p_Fi161_e0 x0 x1).c7).length)) (Nat.beq_refl _) (by kernel_rfl)) (byvals_cons (byval_sp (enc := enc_R_i64_i64_i64_i64_i64) (l := x2) (e := 58) (s := 5) (p := x4) (n := x2.length) (lo := (mxI 0 (wi (((x2.length : Nat) : Int) - 32)))) (hi := ((x2.length : Nat) : Int)) (Nat.beq_refl _) (by kernel_rfl) (tbE h4)) (by kernel_rfl))), .c (ref17_Same_oo_t0 ((ring_Ring_All_p_Fi161_e0 x0 x1).c0) ((ring_Ring_All_p_Fi161_e0 x0 x1).c7) false (law17_RingPlays_S2_1_e0 x2) (tbE h5))] (by kernel_rfl)
    · cases h3 : tb (ref17_Same_oo_c0 ((ring_Ring_All_p_Fi161_e0 x0 x1).c7) [])
      · intro g0
        exact absurd g0 ft
      · intro g0
        exact seg_walk [.c (ring_Ring_All_p_Fi161_t0 x0 x1 x3 (tbE h1)), .c (ref17_All_v_L_t0 x2 x4 x7 (tbE h2)), .y (mm := [(Blk.flat 86 161 [(arrE enc_R_i64_i64_i64_i64_i64 x0 32 ++ [(.int .i64 x1)])] x3), (Blk.flat 58 5 (List.map enc_R_i64_i64_i64_i64_i64 x2) x4), (Blk.flat 58 5 (List.map enc_R_i64_i64_i64_i64_i64 ((ring_Ring_All_p_Fi161_e0 x0 x1).c7)) false)]) (args := [(V.so ((ring_Ring_All_p_Fi161_e0 x0 x1).c0) 2 (((ring_Ring_All_p_Fi161_e0 x0 x1).c7).length)), (V.d .nils)]) (args1 := [(V.d (slD enc_R_i64_i64_i64_i64_i64 true 5 ((ring_Ring_All_p_Fi161_e0 x0 x1).c0) ((ring_Ring_All_p_Fi161_e0 x0 x1).c7))), (V.d .nils)]) (byvals_cons (byval_so (enc := enc_R_i64_i64_i64_i64_i64) (l := ((ring_Ring_All_p_Fi161_e0 x0 x1).c7)) (b := ((ring_Ring_All_p_Fi161_e0 x0 x1).c0)) (e := 58) (s := 5) (p := false) (n := (((ring_Ring_All_p_Fi161_e0 x0 x1).c7).length)) (Nat.beq_refl _) (by kernel_rfl)) (by kernel_rfl)), .c (ref17_Same_oo_t0 ((ring_Ring_All_p_Fi161_e0 x0 x1).c0) ((ring_Ring_All_p_Fi161_e0 x0 x1).c7) true [] (tbE h3))] (by kernel_rfl)
def law17_RingPlays_S3_1_c0 (x1 : Int) (x2 : List R_i64_i64_i64_i64_i64) (x6 : List R_i64_i64_i64_i64_i64) (x8 : Int) (x9 : Int) (x10 : Bool) (x11 : Bool) : Bool := (bif tb (true != (((x9 : Int) == 0) == x10)) then true else (bif tb ((x9 : Int) != 0) then (bif tb ((x9 : Int) != 1) then true else (bif tb (x11) then (bif tb (((mxI 0 (wi (x1 - 32))) : Int) != (mxI 0 (wi (((x2.length : Nat) : Int) - 32)))) then true else (bif tb (inb x6.length x8) then (bif tb (ring_Right_ai5_c0 ((gt x6 x8).c0) ((gt x6 x8).c1) ((gt x6 x8).c2) ((gt x6 x8).c3) ((gt x6 x8).c4)) then (bif tb (true != ((ring_Right_ai5_r0_0 ((gt x6 x8).c0) ((gt x6 x8).c1) ((gt x6 x8).c2) ((gt x6 x8).c3) ((gt x6 x8).c4)) == x10)) then true else (bif tb (ring_Text_ai5_c0 ((gt x6 x8).c0) ((gt x6 x8).c1) ((gt x6 x8).c2) ((gt x6 x8).c3) ((gt x6 x8).c4)) then (bif tb (ref17_Text_ai5_c0 ((gt x6 x8).c0) ((gt x6 x8).c1) ((gt x6 x8).c2) ((gt x6 x8).c3) ((gt x6 x8).c4)) then true else false) else false)) else false) else false)) else true)) else (bif tb (x11) then (bif tb (((mxI 0 (wi (x1 - 32))) : Int) != (mxI 0 (wi (((x2.length : Nat) : Int) - 32)))) then true else (bif tb (inb x6.length x8) then (bif tb (ring_Right_ai5_c0 ((gt x6 x8).c0) ((gt x6 x8).c1) ((gt x6 x8).c2) ((gt x6 x8).c3) ((gt x6 x8).c4)) then (bif tb (true != ((ring_Right_ai5_r0_0 ((gt x6 x8).c0) ((gt x6 x8).c1) ((gt x6 x8).c2) ((gt x6 x8).c3) ((gt x6 x8).c4)) == x10)) then true else (bif tb (ring_Text_ai5_c0 ((gt x6 x8).c0) ((gt x6 x8).c1) ((gt x6 x8).c2) ((gt x6 x8).c3) ((gt x6 x8).c4)) then (bif tb (ref17_Text_ai5_c0 ((gt x6 x8).c0) ((gt x6 x8).c1) ((gt x6 x8).c2) ((gt x6 x8).c3) ((gt x6 x8).c4)) then true else false) else false)) else false) else false)) else true)))
def law17_RingPlays_S3_1_r0_4 (x1 : Int) (x2 : List R_i64_i64_i64_i64_i64) (x6 : List R_i64_i64_i64_i64_i64) (x8 : Int) (x9 : Int) (x10 : Bool) (x11 : Bool) : Bool := (bif tb (true != (((x9 : Int) == 0) == x10)) then true else (bif tb ((x9 : Int) != 0) then (bif tb ((x9 : Int) != 1) then true else (bif tb (x11) then (bif tb (((mxI 0 (wi (x1 - 32))) : Int) != (mxI 0 (wi (((x2.length : Nat) : Int) - 32)))) then true else (bif tb (true != ((ring_Right_ai5_r0_0 ((gt x6 x8).c0) ((gt x6 x8).c1) ((gt x6 x8).c2) ((gt x6 x8).c3) ((gt x6 x8).c4)) == x10)) then true else (!((ring_Text_ai5_r0_0 ((gt x6 x8).c0) ((gt x6 x8).c1) ((gt x6 x8).c2) ((gt x6 x8).c3) ((gt x6 x8).c4)).toList == (ref17_Text_ai5_r0_0 ((gt x6 x8).c0) ((gt x6 x8).c1) ((gt x6 x8).c2) ((gt x6 x8).c3) ((gt x6 x8).c4)).toList)))) else true)) else (bif tb (x11) then (bif tb (((mxI 0 (wi (x1 - 32))) : Int) != (mxI 0 (wi (((x2.length : Nat) : Int) - 32)))) then true else (bif tb (true != ((ring_Right_ai5_r0_0 ((gt x6 x8).c0) ((gt x6 x8).c1) ((gt x6 x8).c2) ((gt x6 x8).c3) ((gt x6 x8).c4)) == x10)) then true else (!((ring_Text_ai5_r0_0 ((gt x6 x8).c0) ((gt x6 x8).c1) ((gt x6 x8).c2) ((gt x6 x8).c3) ((gt x6 x8).c4)).toList == (ref17_Text_ai5_r0_0 ((gt x6 x8).c0) ((gt x6 x8).c1) ((gt x6 x8).c2) ((gt x6 x8).c3) ((gt x6 x8).c4)).toList)))) else true)))
theorem law17_RingPlays_S3_1_t0 (x0 : List R_i64_i64_i64_i64_i64) (x1 : Int) (x2 : List R_i64_i64_i64_i64_i64) (x3 : Bool) (x4 : Bool) (x5 : Bool) (x6 : List R_i64_i64_i64_i64_i64) (x7 : Bool) (x8 : Int) (x9 : Int) (x10 : Bool) (x11 : Bool) : law17_RingPlays_S3_1_c0 x1 x2 x6 x8 x9 x10 x11 = true → segG (runC E0 (cl E0) S8_3) [0, 3, 4, 5, 6, 7, 8] [] [0, 3, 4, 5, 89] 2 ([(V.d (slD enc_R_i64_i64_i64_i64_i64 true 5 x5 x6)), (V.ptr 0 1 0 0), (V.so x7 1 x2.length), (V.d (.int .i64 x8)), (V.d (.int .i64 x9)), (V.d (.bool x10)), (V.d (.bool x11))], [(Blk.flat 86 161 [(arrE enc_R_i64_i64_i64_i64_i64 x0 32 ++ [(.int .i64 x1)])] x3), (Blk.flat 58 5 (List.map enc_R_i64_i64_i64_i64_i64 x2) x4)]) = some (.normal, ([(V.d (slD enc_R_i64_i64_i64_i64_i64 true 5 x5 x6)), (V.ptr 0 1 0 0), (V.so x7 1 x2.length), (V.d (.int .i64 x8)), (V.d (.bool (law17_RingPlays_S3_1_r0_4 x1 x2 x6 x8 x9 x10 x11)))], [(Blk.flat 86 161 [(arrE enc_R_i64_i64_i64_i64_i64 x0 32 ++ [(.int .i64 x1)])] x3), (Blk.flat 58 5 (List.map enc_R_i64_i64_i64_i64_i64 x2) x4)])) := by
  unfold law17_RingPlays_S3_1_c0 law17_RingPlays_S3_1_r0_4
  cases h1 : tb (true != (((x9 : Int) == 0) == x10))
  · cases h2 : tb ((x9 : Int) != 0)
    · cases h3 : tb (x11)
      · intro g0
        exact seg_walk [.b (tbE h1), .b (tbE h2), .b (notF (tbE h3))] (by kernel_rfl)
      · cases h4 : tb (((mxI 0 (wi (x1 - 32))) : Int) != (mxI 0 (wi (((x2.length : Nat) : Int) - 32))))
        · cases h5 : tb (inb x6.length x8)
          · intro g0
            exact absurd g0 ft
          · cases h6 : tb (ring_Right_ai5_c0 ((gt x6 x8).c0) ((gt x6 x8).c1) ((gt x6 x8).c2) ((gt x6 x8).c3) ((gt x6 x8).c4))
            · intro g0
              exact absurd g0 ft
            · cases h7 : tb (true != ((ring_Right_ai5_r0_0 ((gt x6 x8).c0) ((gt x6 x8).c1) ((gt x6 x8).c2) ((gt x6 x8).c3) ((gt x6 x8).c4)) == x10))
              · cases h8 : tb (ring_Text_ai5_c0 ((gt x6 x8).c0) ((gt x6 x8).c1) ((gt x6 x8).c2) ((gt x6 x8).c3) ((gt x6 x8).c4))
                · intro g0
                  exact absurd g0 ft
                · cases h9 : tb (ref17_Text_ai5_c0 ((gt x6 x8).c0) ((gt x6 x8).c1) ((gt x6 x8).c2) ((gt x6 x8).c3) ((gt x6 x8).c4))
                  · intro g0
                    exact absurd g0 ft
                  · intro g0
                    exact seg_walk [.b (tbE h1), .b (tbE h2), .b (notT (tbE h3)), .c (ring_Ring_Lost_p_Fi161_t0 x0 x1 true), .y (mm := [(Blk.flat 86 161 [(arrE enc_R_i64_i64_i64_i64_i64 x0 32 ++ [(.int .i64 x1)])] true), (Blk.flat 58 5 (List.map enc_R_i64_i64_i64_i64_i64 x2) true)]) (args := [(V.so x7 1 x2.length)]) (args1 := [(V.d (slD enc_R_i64_i64_i64_i64_i64 true 5 x7 x2))]) (byvals_cons (byval_so (enc := enc_R_i64_i64_i64_i64_i64) (l := x2) (b := x7) (e := 58) (s := 5) (p := true) (n := x2.length) (Nat.beq_refl _) (by kernel_rfl)) (by kernel_rfl)), .c (ref17_Lost_o_t0 x7 x2), .b (tbE h4), .o 71 (fun _ => o_idx_os (enc := enc_R_i64_i64_i64_i64_i64) (l := x6) (fl := true) (n := x5) (s := 5) (k := .i64) (tbE h5)), .c (ring_Right_ai5_t0 ((gt x6 x8).c0) ((gt x6 x8).c1) ((gt x6 x8).c2) ((gt x6 x8).c3) ((gt x6 x8).c4) (tbE h6)), .b (tbE h7), .o 80 (fun _ => o_idx_os (enc := enc_R_i64_i64_i64_i64_i64) (l := x6) (fl := true) (n := x5) (s := 5) (k := .i64) (tbE h5)), .c (ring_Text_ai5_t0 ((gt x6 x8).c0) ((gt x6 x8).c1) ((gt x6 x8).c2) ((gt x6 x8).c3) ((gt x6 x8).c4) (tbE h8)), .o 85 (fun _ => o_idx_os (enc := enc_R_i64_i64_i64_i64_i64) (l := x6) (fl := true) (n := x5) (s := 5) (k := .i64) (tbE h5)), .c (ref17_Text_ai5_t0 ((gt x6 x8).c0) ((gt x6 x8).c1) ((gt x6 x8).c2) ((gt x6 x8).c3) ((gt x6 x8).c4) (tbE h9))] (by kernel_rfl)
              · intro g0
                exact seg_walk [.b (tbE h1), .b (tbE h2), .b (notT (tbE h3)), .c (ring_Ring_Lost_p_Fi161_t0 x0 x1 true), .y (mm := [(Blk.flat 86 161 [(arrE enc_R_i64_i64_i64_i64_i64 x0 32 ++ [(.int .i64 x1)])] true), (Blk.flat 58 5 (List.map enc_R_i64_i64_i64_i64_i64 x2) true)]) (args := [(V.so x7 1 x2.length)]) (args1 := [(V.d (slD enc_R_i64_i64_i64_i64_i64 true 5 x7 x2))]) (byvals_cons (byval_so (enc := enc_R_i64_i64_i64_i64_i64) (l := x2) (b := x7) (e := 58) (s := 5) (p := true) (n := x2.length) (Nat.beq_refl _) (by kernel_rfl)) (by kernel_rfl)), .c (ref17_Lost_o_t0 x7 x2), .b (tbE h4), .o 71 (fun _ => o_idx_os (enc := enc_R_i64_i64_i64_i64_i64) (l := x6) (fl := true) (n := x5) (s := 5) (k := .i64) (tbE h5)), .c (ring_Right_ai5_t0 ((gt x6 x8).c0) ((gt x6 x8).c1) ((gt x6 x8).c2) ((gt x6 x8).c3) ((gt x6 x8).c4) (tbE h6)), .b (tbE h7)] (by kernel_rfl)
        · intro g0
          exact seg_walk [.b (tbE h1), .b (tbE h2), .b (notT (tbE h3)), .c (ring_Ring_Lost_p_Fi161_t0 x0 x1 true), .y (mm := [(Blk.flat 86 161 [(arrE enc_R_i64_i64_i64_i64_i64 x0 32 ++ [(.int .i64 x1)])] true), (Blk.flat 58 5 (List.map enc_R_i64_i64_i64_i64_i64 x2) true)]) (args := [(V.so x7 1 x2.length)]) (args1 := [(V.d (slD enc_R_i64_i64_i64_i64_i64 true 5 x7 x2))]) (byvals_cons (byval_so (enc := enc_R_i64_i64_i64_i64_i64) (l := x2) (b := x7) (e := 58) (s := 5) (p := true) (n := x2.length) (Nat.beq_refl _) (by kernel_rfl)) (by kernel_rfl)), .c (ref17_Lost_o_t0 x7 x2), .b (tbE h4)] (by kernel_rfl)
    · cases h3 : tb ((x9 : Int) != 1)
      · cases h4 : tb (x11)
        · intro g0
          exact seg_walk [.b (tbE h1), .b (tbE h2), .b (tbE h3), .b (notF (tbE h4))] (by kernel_rfl)
        · cases h5 : tb (((mxI 0 (wi (x1 - 32))) : Int) != (mxI 0 (wi (((x2.length : Nat) : Int) - 32))))
          · cases h6 : tb (inb x6.length x8)
            · intro g0
              exact absurd g0 ft
            · cases h7 : tb (ring_Right_ai5_c0 ((gt x6 x8).c0) ((gt x6 x8).c1) ((gt x6 x8).c2) ((gt x6 x8).c3) ((gt x6 x8).c4))
              · intro g0
                exact absurd g0 ft
              · cases h8 : tb (true != ((ring_Right_ai5_r0_0 ((gt x6 x8).c0) ((gt x6 x8).c1) ((gt x6 x8).c2) ((gt x6 x8).c3) ((gt x6 x8).c4)) == x10))
                · cases h9 : tb (ring_Text_ai5_c0 ((gt x6 x8).c0) ((gt x6 x8).c1) ((gt x6 x8).c2) ((gt x6 x8).c3) ((gt x6 x8).c4))
                  · intro g0
                    exact absurd g0 ft
                  · cases h10 : tb (ref17_Text_ai5_c0 ((gt x6 x8).c0) ((gt x6 x8).c1) ((gt x6 x8).c2) ((gt x6 x8).c3) ((gt x6 x8).c4))
                    · intro g0
                      exact absurd g0 ft
                    · intro g0
                      exact seg_walk [.b (tbE h1), .b (tbE h2), .b (tbE h3), .b (notT (tbE h4)), .c (ring_Ring_Lost_p_Fi161_t0 x0 x1 true), .y (mm := [(Blk.flat 86 161 [(arrE enc_R_i64_i64_i64_i64_i64 x0 32 ++ [(.int .i64 x1)])] true), (Blk.flat 58 5 (List.map enc_R_i64_i64_i64_i64_i64 x2) true)]) (args := [(V.so x7 1 x2.length)]) (args1 := [(V.d (slD enc_R_i64_i64_i64_i64_i64 true 5 x7 x2))]) (byvals_cons (byval_so (enc := enc_R_i64_i64_i64_i64_i64) (l := x2) (b := x7) (e := 58) (s := 5) (p := true) (n := x2.length) (Nat.beq_refl _) (by kernel_rfl)) (by kernel_rfl)), .c (ref17_Lost_o_t0 x7 x2), .b (tbE h5), .o 71 (fun _ => o_idx_os (enc := enc_R_i64_i64_i64_i64_i64) (l := x6) (fl := true) (n := x5) (s := 5) (k := .i64) (tbE h6)), .c (ring_Right_ai5_t0 ((gt x6 x8).c0) ((gt x6 x8).c1) ((gt x6 x8).c2) ((gt x6 x8).c3) ((gt x6 x8).c4) (tbE h7)), .b (tbE h8), .o 80 (fun _ => o_idx_os (enc := enc_R_i64_i64_i64_i64_i64) (l := x6) (fl := true) (n := x5) (s := 5) (k := .i64) (tbE h6)), .c (ring_Text_ai5_t0 ((gt x6 x8).c0) ((gt x6 x8).c1) ((gt x6 x8).c2) ((gt x6 x8).c3) ((gt x6 x8).c4) (tbE h9)), .o 85 (fun _ => o_idx_os (enc := enc_R_i64_i64_i64_i64_i64) (l := x6) (fl := true) (n := x5) (s := 5) (k := .i64) (tbE h6)), .c (ref17_Text_ai5_t0 ((gt x6 x8).c0) ((gt x6 x8).c1) ((gt x6 x8).c2) ((gt x6 x8).c3) ((gt x6 x8).c4) (tbE h10))] (by kernel_rfl)
                · intro g0
                  exact seg_walk [.b (tbE h1), .b (tbE h2), .b (tbE h3), .b (notT (tbE h4)), .c (ring_Ring_Lost_p_Fi161_t0 x0 x1 true), .y (mm := [(Blk.flat 86 161 [(arrE enc_R_i64_i64_i64_i64_i64 x0 32 ++ [(.int .i64 x1)])] true), (Blk.flat 58 5 (List.map enc_R_i64_i64_i64_i64_i64 x2) true)]) (args := [(V.so x7 1 x2.length)]) (args1 := [(V.d (slD enc_R_i64_i64_i64_i64_i64 true 5 x7 x2))]) (byvals_cons (byval_so (enc := enc_R_i64_i64_i64_i64_i64) (l := x2) (b := x7) (e := 58) (s := 5) (p := true) (n := x2.length) (Nat.beq_refl _) (by kernel_rfl)) (by kernel_rfl)), .c (ref17_Lost_o_t0 x7 x2), .b (tbE h5), .o 71 (fun _ => o_idx_os (enc := enc_R_i64_i64_i64_i64_i64) (l := x6) (fl := true) (n := x5) (s := 5) (k := .i64) (tbE h6)), .c (ring_Right_ai5_t0 ((gt x6 x8).c0) ((gt x6 x8).c1) ((gt x6 x8).c2) ((gt x6 x8).c3) ((gt x6 x8).c4) (tbE h7)), .b (tbE h8)] (by kernel_rfl)
          · intro g0
            exact seg_walk [.b (tbE h1), .b (tbE h2), .b (tbE h3), .b (notT (tbE h4)), .c (ring_Ring_Lost_p_Fi161_t0 x0 x1 true), .y (mm := [(Blk.flat 86 161 [(arrE enc_R_i64_i64_i64_i64_i64 x0 32 ++ [(.int .i64 x1)])] true), (Blk.flat 58 5 (List.map enc_R_i64_i64_i64_i64_i64 x2) true)]) (args := [(V.so x7 1 x2.length)]) (args1 := [(V.d (slD enc_R_i64_i64_i64_i64_i64 true 5 x7 x2))]) (byvals_cons (byval_so (enc := enc_R_i64_i64_i64_i64_i64) (l := x2) (b := x7) (e := 58) (s := 5) (p := true) (n := x2.length) (Nat.beq_refl _) (by kernel_rfl)) (by kernel_rfl)), .c (ref17_Lost_o_t0 x7 x2), .b (tbE h5)] (by kernel_rfl)
      · intro g0
        exact seg_walk [.b (tbE h1), .b (tbE h2), .b (tbE h3)] (by kernel_rfl)
  · intro g0
    exact seg_walk [.b (tbE h1)] (by kernel_rfl)
structure law17_RingPlays_L4_s0 where
  c2 : Bool
  c3 : Int
  c4 : List R_i64_i64_i64_i64_i64
  c5 : Int
  c7 : List R_i64_i64_i64_i64_i64
  deriving Inhabited
def law17_RingPlays_L4_h0_e0 (x6 : List R_i64_i64_i64_i64_i64) (s0 : law17_RingPlays_L4_s0) : List R_i64_i64_i64_i64_i64 := (ring_Ring_Add_pai5_Fi161_r0_1 s0.c4 s0.c5 ((gt x6 s0.c3).c0) ((gt x6 s0.c3).c1) ((gt x6 s0.c3).c2) ((gt x6 s0.c3).c3) ((gt x6 s0.c3).c4))
def law17_RingPlays_L4_h0_e1 (x6 : List R_i64_i64_i64_i64_i64) (s0 : law17_RingPlays_L4_s0) : List R_i64_i64_i64_i64_i64 := (s0.c7 ++ ([⟨((gt x6 s0.c3).c0), ((gt x6 s0.c3).c1), ((gt x6 s0.c3).c2), ((gt x6 s0.c3).c3), ((gt x6 s0.c3).c4)⟩] : List R_i64_i64_i64_i64_i64))
def law17_RingPlays_L4_h0_e2 (x6 : List R_i64_i64_i64_i64_i64) (s0 : law17_RingPlays_L4_s0) : Int := (ring_Ring_Add_pai5_Fi161_r0_2 s0.c5 ((gt x6 s0.c3).c0) ((gt x6 s0.c3).c1) ((gt x6 s0.c3).c2) ((gt x6 s0.c3).c3) ((gt x6 s0.c3).c4))
def law17_RingPlays_L4_h0_e3 (x6 : List R_i64_i64_i64_i64_i64) (s0 : law17_RingPlays_L4_s0) : Int := (ring_Ring_Add_pai5_Fi161_r0_0 ((gt x6 s0.c3).c0) ((gt x6 s0.c3).c1) ((gt x6 s0.c3).c2) ((gt x6 s0.c3).c3) ((gt x6 s0.c3).c4))
def law17_RingPlays_L4_h0_e4 (x6 : List R_i64_i64_i64_i64_i64) (s0 : law17_RingPlays_L4_s0) : Bool := (ref17_Right_ai5_S0_r0_0 ((gt x6 s0.c3).c0) ((gt x6 s0.c3).c1) ((gt x6 s0.c3).c2) ((gt x6 s0.c3).c3) ((gt x6 s0.c3).c4))
def law17_RingPlays_L4_h0_e5 (x6 : List R_i64_i64_i64_i64_i64) (s0 : law17_RingPlays_L4_s0) : Bool := (law17_RingPlays_S2_r0_6 (law17_RingPlays_L4_h0_e0 x6 s0) (law17_RingPlays_L4_h0_e2 x6 s0) (law17_RingPlays_L4_h0_e1 x6 s0))
def law17_RingPlays_L4_h0_e6 (x6 : List R_i64_i64_i64_i64_i64) (s0 : law17_RingPlays_L4_s0) : Bool := (law17_RingPlays_S2_1_r0_6 (law17_RingPlays_L4_h0_e0 x6 s0) (law17_RingPlays_L4_h0_e2 x6 s0) s0.c7 s0.c2)
def law17_RingPlays_L4_enc (x0 : List R_i64_i64_i64_i64_i64) (x1 : Int) (x2 : List R_i64_i64_i64_i64_i64) (x3 : Bool) (x4 : Bool) (x5 : Bool) (x6 : List R_i64_i64_i64_i64_i64) (x7 : Bool) (x8 : Int) (s0 : law17_RingPlays_L4_s0) : List V × Mem := ([(V.d (slD enc_R_i64_i64_i64_i64_i64 true 5 x5 x6)), (V.ptr 0 1 0 0), (V.so s0.c2 1 s0.c7.length), (V.d (.int .i64 s0.c3))], [(Blk.flat 86 161 [(arrE enc_R_i64_i64_i64_i64_i64 s0.c4 32 ++ [(.int .i64 s0.c5)])] false), (Blk.flat 58 5 (List.map enc_R_i64_i64_i64_i64_i64 s0.c7) false)])
def law17_RingPlays_L4_sel (x6 : List R_i64_i64_i64_i64_i64) (s0 : law17_RingPlays_L4_s0) : Bool := (bif tb (law17_RingPlays_S1_c0 x6 s0.c3) then (bif tb (inb x6.length s0.c3) then (bif tb (ring_Ring_Add_pai5_Fi161_c0 s0.c5 ((gt x6 s0.c3).c0) ((gt x6 s0.c3).c1) ((gt x6 s0.c3).c2) ((gt x6 s0.c3).c3) ((gt x6 s0.c3).c4)) then (bif tb (ref17_Right_ai5_S0_r0_0 ((gt x6 s0.c3).c0) ((gt x6 s0.c3).c1) ((gt x6 s0.c3).c2) ((gt x6 s0.c3).c3) ((gt x6 s0.c3).c4)) then (bif tb (decide ((s0.c7.length + ([⟨((gt x6 s0.c3).c0), ((gt x6 s0.c3).c1), ((gt x6 s0.c3).c2), ((gt x6 s0.c3).c3), ((gt x6 s0.c3).c4)⟩] : List R_i64_i64_i64_i64_i64).length) * 40 ≤ 140737488355328)) then (bif tb (law17_RingPlays_S2_c0 (law17_RingPlays_L4_h0_e0 x6 s0) (law17_RingPlays_L4_h0_e2 x6 s0) (law17_RingPlays_L4_h0_e1 x6 s0)) then (bif tb (law17_RingPlays_S3_c0 (law17_RingPlays_L4_h0_e2 x6 s0) (law17_RingPlays_L4_h0_e1 x6 s0) x6 s0.c3 (law17_RingPlays_L4_h0_e3 x6 s0) (law17_RingPlays_L4_h0_e4 x6 s0) (law17_RingPlays_L4_h0_e5 x6 s0)) then (bif tb (law17_RingPlays_S3_r0_4 (law17_RingPlays_L4_h0_e2 x6 s0) (law17_RingPlays_L4_h0_e1 x6 s0) x6 s0.c3 (law17_RingPlays_L4_h0_e3 x6 s0) (law17_RingPlays_L4_h0_e4 x6 s0) (law17_RingPlays_L4_h0_e5 x6 s0)) then false else true) else false) else false) else false) else (bif tb (law17_RingPlays_S2_1_c0 (law17_RingPlays_L4_h0_e0 x6 s0) (law17_RingPlays_L4_h0_e2 x6 s0) s0.c7 s0.c2) then (bif tb (law17_RingPlays_S3_1_c0 (law17_RingPlays_L4_h0_e2 x6 s0) s0.c7 x6 s0.c3 (law17_RingPlays_L4_h0_e3 x6 s0) (law17_RingPlays_L4_h0_e4 x6 s0) (law17_RingPlays_L4_h0_e6 x6 s0)) then (bif tb (law17_RingPlays_S3_1_r0_4 (law17_RingPlays_L4_h0_e2 x6 s0) s0.c7 x6 s0.c3 (law17_RingPlays_L4_h0_e3 x6 s0) (law17_RingPlays_L4_h0_e4 x6 s0) (law17_RingPlays_L4_h0_e6 x6 s0)) then false else true) else false) else false)) else false) else false) else false)
def law17_RingPlays_L4_nx (x6 : List R_i64_i64_i64_i64_i64) (s0 : law17_RingPlays_L4_s0) : law17_RingPlays_L4_s0 := (bif tb (ref17_Right_ai5_S0_r0_0 ((gt x6 s0.c3).c0) ((gt x6 s0.c3).c1) ((gt x6 s0.c3).c2) ((gt x6 s0.c3).c3) ((gt x6 s0.c3).c4)) then ⟨false, (wi (s0.c3 + 1)), (law17_RingPlays_L4_h0_e0 x6 s0), (law17_RingPlays_L4_h0_e2 x6 s0), (law17_RingPlays_L4_h0_e1 x6 s0)⟩ else ⟨s0.c2, (wi (s0.c3 + 1)), (law17_RingPlays_L4_h0_e0 x6 s0), (law17_RingPlays_L4_h0_e2 x6 s0), s0.c7⟩)
def law17_RingPlays_L4_ok (x6 : List R_i64_i64_i64_i64_i64) (s0 : law17_RingPlays_L4_s0) : Bool := (itS (law17_RingPlays_L4_sel x6) (law17_RingPlays_L4_nx x6) bound s0).isSome
def law17_RingPlays_L4_end (x6 : List R_i64_i64_i64_i64_i64) (s0 : law17_RingPlays_L4_s0) : law17_RingPlays_L4_s0 := (itS (law17_RingPlays_L4_sel x6) (law17_RingPlays_L4_nx x6) bound s0).getD default
theorem law17_RingPlays_L4_go (x0 : List R_i64_i64_i64_i64_i64) (x1 : Int) (x2 : List R_i64_i64_i64_i64_i64) (x3 : Bool) (x4 : Bool) (x5 : Bool) (x6 : List R_i64_i64_i64_i64_i64) (x7 : Bool) (x8 : Int) (s0 : law17_RingPlays_L4_s0) : law17_RingPlays_L4_sel x6 s0 = true → (roundG (runC E0 (cl E0) L8_4) [0, 3, 4, 5] [2] 2) (law17_RingPlays_L4_enc x0 x1 x2 x3 x4 x5 x6 x7 x8 s0) = some (.normal, law17_RingPlays_L4_enc x0 x1 x2 x3 x4 x5 x6 x7 x8 (law17_RingPlays_L4_nx x6 s0)) := by
  unfold law17_RingPlays_L4_sel law17_RingPlays_L4_nx
  cases h1 : tb (law17_RingPlays_S1_c0 x6 s0.c3)
  · intro g0
    exact absurd g0 ft
  · cases h2 : tb (inb x6.length s0.c3)
    · intro g0
      exact absurd g0 ft
    · cases h3 : tb (ring_Ring_Add_pai5_Fi161_c0 s0.c5 ((gt x6 s0.c3).c0) ((gt x6 s0.c3).c1) ((gt x6 s0.c3).c2) ((gt x6 s0.c3).c3) ((gt x6 s0.c3).c4))
      · intro g0
        exact absurd g0 ft
      · cases h4 : tb (ref17_Right_ai5_S0_r0_0 ((gt x6 s0.c3).c0) ((gt x6 s0.c3).c1) ((gt x6 s0.c3).c2) ((gt x6 s0.c3).c3) ((gt x6 s0.c3).c4))
        · cases h5 : tb (law17_RingPlays_S2_1_c0 (law17_RingPlays_L4_h0_e0 x6 s0) (law17_RingPlays_L4_h0_e2 x6 s0) s0.c7 s0.c2)
          · intro g0
            exact absurd g0 ft
          · cases h6 : tb (law17_RingPlays_S3_1_c0 (law17_RingPlays_L4_h0_e2 x6 s0) s0.c7 x6 s0.c3 (law17_RingPlays_L4_h0_e3 x6 s0) (law17_RingPlays_L4_h0_e4 x6 s0) (law17_RingPlays_L4_h0_e6 x6 s0))
            · intro g0
              exact absurd g0 ft
            · cases h7 : tb (law17_RingPlays_S3_1_r0_4 (law17_RingPlays_L4_h0_e2 x6 s0) s0.c7 x6 s0.c3 (law17_RingPlays_L4_h0_e3 x6 s0) (law17_RingPlays_L4_h0_e4 x6 s0) (law17_RingPlays_L4_h0_e6 x6 s0))
              · intro _
                exact round_walk [.s (law17_RingPlays_S1_t0 s0.c4 s0.c5 s0.c7 false false x5 x6 s0.c2 s0.c3 (tbE h1)), .o 24 (fun _ => o_idx_os (enc := enc_R_i64_i64_i64_i64_i64) (l := x6) (fl := true) (n := x5) (s := 5) (k := .i64) (tbE h2)), .c (ring_Ring_Add_pai5_Fi161_t0 s0.c4 s0.c5 ((gt x6 s0.c3).c0) ((gt x6 s0.c3).c1) ((gt x6 s0.c3).c2) ((gt x6 s0.c3).c3) ((gt x6 s0.c3).c4) (tbE h3)), .o 29 (fun _ => o_idx_os (enc := enc_R_i64_i64_i64_i64_i64) (l := x6) (fl := true) (n := x5) (s := 5) (k := .i64) (tbE h2)), .c (ref17_Right_ai5_t0 ((gt x6 s0.c3).c0) ((gt x6 s0.c3).c1) ((gt x6 s0.c3).c2) ((gt x6 s0.c3).c3) ((gt x6 s0.c3).c4)), .b (tbE h4), .s (law17_RingPlays_S2_1_t0 (law17_RingPlays_L4_h0_e0 x6 s0) (law17_RingPlays_L4_h0_e2 x6 s0) s0.c7 false false x5 x6 s0.c2 s0.c3 (law17_RingPlays_L4_h0_e3 x6 s0) (law17_RingPlays_L4_h0_e4 x6 s0) (tbE h5)), .s (law17_RingPlays_S3_1_t0 (law17_RingPlays_L4_h0_e0 x6 s0) (law17_RingPlays_L4_h0_e2 x6 s0) s0.c7 false false x5 x6 s0.c2 s0.c3 (law17_RingPlays_L4_h0_e3 x6 s0) (law17_RingPlays_L4_h0_e4 x6 s0) (law17_RingPlays_L4_h0_e6 x6 s0) (tbE h6)), .b (tbE h7)] (by kernel_rfl)
              · intro g0
                exact absurd g0 ft
        · cases h5 : tb (decide ((s0.c7.length + ([⟨((gt x6 s0.c3).c0), ((gt x6 s0.c3).c1), ((gt x6 s0.c3).c2), ((gt x6 s0.c3).c3), ((gt x6 s0.c3).c4)⟩] : List R_i64_i64_i64_i64_i64).length) * 40 ≤ 140737488355328))
          · intro g0
            exact absurd g0 ft
          · cases h6 : tb (law17_RingPlays_S2_c0 (law17_RingPlays_L4_h0_e0 x6 s0) (law17_RingPlays_L4_h0_e2 x6 s0) (law17_RingPlays_L4_h0_e1 x6 s0))
            · intro g0
              exact absurd g0 ft
            · cases h7 : tb (law17_RingPlays_S3_c0 (law17_RingPlays_L4_h0_e2 x6 s0) (law17_RingPlays_L4_h0_e1 x6 s0) x6 s0.c3 (law17_RingPlays_L4_h0_e3 x6 s0) (law17_RingPlays_L4_h0_e4 x6 s0) (law17_RingPlays_L4_h0_e5 x6 s0))
              · intro g0
                exact absurd g0 ft
              · cases h8 : tb (law17_RingPlays_S3_r0_4 (law17_RingPlays_L4_h0_e2 x6 s0) (law17_RingPlays_L4_h0_e1 x6 s0) x6 s0.c3 (law17_RingPlays_L4_h0_e3 x6 s0) (law17_RingPlays_L4_h0_e4 x6 s0) (law17_RingPlays_L4_h0_e5 x6 s0))
                · intro _
                  exact round_walk [.s (law17_RingPlays_S1_t0 s0.c4 s0.c5 s0.c7 false false x5 x6 s0.c2 s0.c3 (tbE h1)), .o 24 (fun _ => o_idx_os (enc := enc_R_i64_i64_i64_i64_i64) (l := x6) (fl := true) (n := x5) (s := 5) (k := .i64) (tbE h2)), .c (ring_Ring_Add_pai5_Fi161_t0 s0.c4 s0.c5 ((gt x6 s0.c3).c0) ((gt x6 s0.c3).c1) ((gt x6 s0.c3).c2) ((gt x6 s0.c3).c3) ((gt x6 s0.c3).c4) (tbE h3)), .o 29 (fun _ => o_idx_os (enc := enc_R_i64_i64_i64_i64_i64) (l := x6) (fl := true) (n := x5) (s := 5) (k := .i64) (tbE h2)), .c (ref17_Right_ai5_t0 ((gt x6 s0.c3).c0) ((gt x6 s0.c3).c1) ((gt x6 s0.c3).c2) ((gt x6 s0.c3).c3) ((gt x6 s0.c3).c4)), .b (tbE h4), .o 36 (fun _ => o_idx_os (enc := enc_R_i64_i64_i64_i64_i64) (l := x6) (fl := true) (n := x5) (s := 5) (k := .i64) (tbE h2)), .m 39 (o_app_so (nl := s0.c2) (m := [(Blk.flat 86 161 [(arrE enc_R_i64_i64_i64_i64_i64 (law17_RingPlays_L4_h0_e0 x6 s0) 32 ++ [(.int .i64 (ring_Ring_Add_pai5_Fi161_r0_2 s0.c5 ((gt x6 s0.c3).c0) ((gt x6 s0.c3).c1) ((gt x6 s0.c3).c2) ((gt x6 s0.c3).c3) ((gt x6 s0.c3).c4)))])] false), (Blk.flat 58 5 (List.map enc_R_i64_i64_i64_i64_i64 s0.c7) false), (Blk.flat 58 5 [[(.int .i64 ((gt x6 s0.c3).c0)), (.int .i64 ((gt x6 s0.c3).c1)), (.int .i64 ((gt x6 s0.c3).c2)), (.int .i64 ((gt x6 s0.c3).c3)), (.int .i64 ((gt x6 s0.c3).c4))]] false)]) (enc := enc_R_i64_i64_i64_i64_i64) (l0 := s0.c7) (l1 := ([⟨((gt x6 s0.c3).c0), ((gt x6 s0.c3).c1), ((gt x6 s0.c3).c2), ((gt x6 s0.c3).c3), ((gt x6 s0.c3).c4)⟩] : List R_i64_i64_i64_i64_i64)) (id := 1) (e := 58) (s := 5) (bytes := 40) (x := (V.so false 2 1)) (n := s0.c7.length) (Nat.beq_refl _) (by kernel_rfl) (by kernel_rfl) (by kernel_rfl) (tbE h5)), .s (law17_RingPlays_S2_t0 (law17_RingPlays_L4_h0_e0 x6 s0) (law17_RingPlays_L4_h0_e2 x6 s0) (law17_RingPlays_L4_h0_e1 x6 s0) ((gt x6 s0.c3).c0) ((gt x6 s0.c3).c1) ((gt x6 s0.c3).c2) ((gt x6 s0.c3).c3) ((gt x6 s0.c3).c4) false false false x5 x6 s0.c3 (law17_RingPlays_L4_h0_e3 x6 s0) (law17_RingPlays_L4_h0_e4 x6 s0) (tbE h6)), .s (law17_RingPlays_S3_t0 (law17_RingPlays_L4_h0_e0 x6 s0) (law17_RingPlays_L4_h0_e2 x6 s0) (law17_RingPlays_L4_h0_e1 x6 s0) ((gt x6 s0.c3).c0) ((gt x6 s0.c3).c1) ((gt x6 s0.c3).c2) ((gt x6 s0.c3).c3) ((gt x6 s0.c3).c4) false false false x5 x6 s0.c3 (law17_RingPlays_L4_h0_e3 x6 s0) (law17_RingPlays_L4_h0_e4 x6 s0) (law17_RingPlays_L4_h0_e5 x6 s0) (tbE h7)), .b (tbE h8)] (by kernel_rfl)
                · intro g0
                  exact absurd g0 ft
def law17_RingPlays_L4_c0 (x6 : List R_i64_i64_i64_i64_i64) (s0 : law17_RingPlays_L4_s0) : Bool := (bif tb (law17_RingPlays_S1_c0 x6 s0.c3) then (bif tb (inb x6.length s0.c3) then (bif tb (ring_Ring_Add_pai5_Fi161_c0 s0.c5 ((gt x6 s0.c3).c0) ((gt x6 s0.c3).c1) ((gt x6 s0.c3).c2) ((gt x6 s0.c3).c3) ((gt x6 s0.c3).c4)) then (bif tb (ref17_Right_ai5_S0_r0_0 ((gt x6 s0.c3).c0) ((gt x6 s0.c3).c1) ((gt x6 s0.c3).c2) ((gt x6 s0.c3).c3) ((gt x6 s0.c3).c4)) then (bif tb (decide ((s0.c7.length + ([⟨((gt x6 s0.c3).c0), ((gt x6 s0.c3).c1), ((gt x6 s0.c3).c2), ((gt x6 s0.c3).c3), ((gt x6 s0.c3).c4)⟩] : List R_i64_i64_i64_i64_i64).length) * 40 ≤ 140737488355328)) then (bif tb (law17_RingPlays_S2_c0 (law17_RingPlays_L4_h0_e0 x6 s0) (law17_RingPlays_L4_h0_e2 x6 s0) (law17_RingPlays_L4_h0_e1 x6 s0)) then (bif tb (law17_RingPlays_S3_c0 (law17_RingPlays_L4_h0_e2 x6 s0) (law17_RingPlays_L4_h0_e1 x6 s0) x6 s0.c3 (law17_RingPlays_L4_h0_e3 x6 s0) (law17_RingPlays_L4_h0_e4 x6 s0) (law17_RingPlays_L4_h0_e5 x6 s0)) then true else false) else false) else false) else (bif tb (law17_RingPlays_S2_1_c0 (law17_RingPlays_L4_h0_e0 x6 s0) (law17_RingPlays_L4_h0_e2 x6 s0) s0.c7 s0.c2) then (bif tb (law17_RingPlays_S3_1_c0 (law17_RingPlays_L4_h0_e2 x6 s0) s0.c7 x6 s0.c3 (law17_RingPlays_L4_h0_e3 x6 s0) (law17_RingPlays_L4_h0_e4 x6 s0) (law17_RingPlays_L4_h0_e6 x6 s0)) then true else false) else false)) else false) else false) else false)
def law17_RingPlays_L4_r0_4 (x6 : List R_i64_i64_i64_i64_i64) (s0 : law17_RingPlays_L4_s0) : List R_i64_i64_i64_i64_i64 := (bif tb (ref17_Right_ai5_S0_r0_0 ((gt x6 s0.c3).c0) ((gt x6 s0.c3).c1) ((gt x6 s0.c3).c2) ((gt x6 s0.c3).c3) ((gt x6 s0.c3).c4)) then (law17_RingPlays_L4_h0_e1 x6 s0) else s0.c7)
def law17_RingPlays_L4_c1 (x6 : List R_i64_i64_i64_i64_i64) (s0 : law17_RingPlays_L4_s0) : Bool := (bif tb (law17_RingPlays_S1_c0 x6 s0.c3) then false else true)
theorem law17_RingPlays_L4_x0 (x0 : List R_i64_i64_i64_i64_i64) (x1 : Int) (x2 : List R_i64_i64_i64_i64_i64) (x3 : Bool) (x4 : Bool) (x5 : Bool) (x6 : List R_i64_i64_i64_i64_i64) (x7 : Bool) (x8 : Int) (s0 : law17_RingPlays_L4_s0) : law17_RingPlays_L4_sel x6 s0 = false → law17_RingPlays_L4_c0 x6 s0 = true → (roundG (runC E0 (cl E0) L8_4) [0, 3, 4, 5] [2] 2) (law17_RingPlays_L4_enc x0 x1 x2 x3 x4 x5 x6 x7 x8 s0) = some (.ret, ([(V.d (.bool false))], [(Blk.flat 86 161 [(arrE enc_R_i64_i64_i64_i64_i64 (law17_RingPlays_L4_h0_e0 x6 s0) 32 ++ [(.int .i64 (law17_RingPlays_L4_h0_e2 x6 s0))])] false), (Blk.flat 58 5 (List.map enc_R_i64_i64_i64_i64_i64 (law17_RingPlays_L4_r0_4 x6 s0)) false)])) := by
  unfold law17_RingPlays_L4_sel law17_RingPlays_L4_c0 law17_RingPlays_L4_r0_4
  cases h1 : tb (law17_RingPlays_S1_c0 x6 s0.c3)
  · intro g0 g1
    exact absurd g1 ft
  · cases h2 : tb (inb x6.length s0.c3)
    · intro g0 g1
      exact absurd g1 ft
    · cases h3 : tb (ring_Ring_Add_pai5_Fi161_c0 s0.c5 ((gt x6 s0.c3).c0) ((gt x6 s0.c3).c1) ((gt x6 s0.c3).c2) ((gt x6 s0.c3).c3) ((gt x6 s0.c3).c4))
      · intro g0 g1
        exact absurd g1 ft
      · cases h4 : tb (ref17_Right_ai5_S0_r0_0 ((gt x6 s0.c3).c0) ((gt x6 s0.c3).c1) ((gt x6 s0.c3).c2) ((gt x6 s0.c3).c3) ((gt x6 s0.c3).c4))
        · cases h5 : tb (law17_RingPlays_S2_1_c0 (law17_RingPlays_L4_h0_e0 x6 s0) (law17_RingPlays_L4_h0_e2 x6 s0) s0.c7 s0.c2)
          · intro g0 g1
            exact absurd g1 ft
          · cases h6 : tb (law17_RingPlays_S3_1_c0 (law17_RingPlays_L4_h0_e2 x6 s0) s0.c7 x6 s0.c3 (law17_RingPlays_L4_h0_e3 x6 s0) (law17_RingPlays_L4_h0_e4 x6 s0) (law17_RingPlays_L4_h0_e6 x6 s0))
            · intro g0 g1
              exact absurd g1 ft
            · cases h7 : tb (law17_RingPlays_S3_1_r0_4 (law17_RingPlays_L4_h0_e2 x6 s0) s0.c7 x6 s0.c3 (law17_RingPlays_L4_h0_e3 x6 s0) (law17_RingPlays_L4_h0_e4 x6 s0) (law17_RingPlays_L4_h0_e6 x6 s0))
              · intro g0 g1
                exact absurd g0 tf
              · intro g0 g1
                exact round_walk [.s (law17_RingPlays_S1_t0 s0.c4 s0.c5 s0.c7 false false x5 x6 s0.c2 s0.c3 (tbE h1)), .o 24 (fun _ => o_idx_os (enc := enc_R_i64_i64_i64_i64_i64) (l := x6) (fl := true) (n := x5) (s := 5) (k := .i64) (tbE h2)), .c (ring_Ring_Add_pai5_Fi161_t0 s0.c4 s0.c5 ((gt x6 s0.c3).c0) ((gt x6 s0.c3).c1) ((gt x6 s0.c3).c2) ((gt x6 s0.c3).c3) ((gt x6 s0.c3).c4) (tbE h3)), .o 29 (fun _ => o_idx_os (enc := enc_R_i64_i64_i64_i64_i64) (l := x6) (fl := true) (n := x5) (s := 5) (k := .i64) (tbE h2)), .c (ref17_Right_ai5_t0 ((gt x6 s0.c3).c0) ((gt x6 s0.c3).c1) ((gt x6 s0.c3).c2) ((gt x6 s0.c3).c3) ((gt x6 s0.c3).c4)), .b (tbE h4), .s (law17_RingPlays_S2_1_t0 (law17_RingPlays_L4_h0_e0 x6 s0) (law17_RingPlays_L4_h0_e2 x6 s0) s0.c7 false false x5 x6 s0.c2 s0.c3 (law17_RingPlays_L4_h0_e3 x6 s0) (law17_RingPlays_L4_h0_e4 x6 s0) (tbE h5)), .s (law17_RingPlays_S3_1_t0 (law17_RingPlays_L4_h0_e0 x6 s0) (law17_RingPlays_L4_h0_e2 x6 s0) s0.c7 false false x5 x6 s0.c2 s0.c3 (law17_RingPlays_L4_h0_e3 x6 s0) (law17_RingPlays_L4_h0_e4 x6 s0) (law17_RingPlays_L4_h0_e6 x6 s0) (tbE h6)), .b (tbE h7)] (by kernel_rfl)
        · cases h5 : tb (decide ((s0.c7.length + ([⟨((gt x6 s0.c3).c0), ((gt x6 s0.c3).c1), ((gt x6 s0.c3).c2), ((gt x6 s0.c3).c3), ((gt x6 s0.c3).c4)⟩] : List R_i64_i64_i64_i64_i64).length) * 40 ≤ 140737488355328))
          · intro g0 g1
            exact absurd g1 ft
          · cases h6 : tb (law17_RingPlays_S2_c0 (law17_RingPlays_L4_h0_e0 x6 s0) (law17_RingPlays_L4_h0_e2 x6 s0) (law17_RingPlays_L4_h0_e1 x6 s0))
            · intro g0 g1
              exact absurd g1 ft
            · cases h7 : tb (law17_RingPlays_S3_c0 (law17_RingPlays_L4_h0_e2 x6 s0) (law17_RingPlays_L4_h0_e1 x6 s0) x6 s0.c3 (law17_RingPlays_L4_h0_e3 x6 s0) (law17_RingPlays_L4_h0_e4 x6 s0) (law17_RingPlays_L4_h0_e5 x6 s0))
              · intro g0 g1
                exact absurd g1 ft
              · cases h8 : tb (law17_RingPlays_S3_r0_4 (law17_RingPlays_L4_h0_e2 x6 s0) (law17_RingPlays_L4_h0_e1 x6 s0) x6 s0.c3 (law17_RingPlays_L4_h0_e3 x6 s0) (law17_RingPlays_L4_h0_e4 x6 s0) (law17_RingPlays_L4_h0_e5 x6 s0))
                · intro g0 g1
                  exact absurd g0 tf
                · intro g0 g1
                  exact round_walk [.s (law17_RingPlays_S1_t0 s0.c4 s0.c5 s0.c7 false false x5 x6 s0.c2 s0.c3 (tbE h1)), .o 24 (fun _ => o_idx_os (enc := enc_R_i64_i64_i64_i64_i64) (l := x6) (fl := true) (n := x5) (s := 5) (k := .i64) (tbE h2)), .c (ring_Ring_Add_pai5_Fi161_t0 s0.c4 s0.c5 ((gt x6 s0.c3).c0) ((gt x6 s0.c3).c1) ((gt x6 s0.c3).c2) ((gt x6 s0.c3).c3) ((gt x6 s0.c3).c4) (tbE h3)), .o 29 (fun _ => o_idx_os (enc := enc_R_i64_i64_i64_i64_i64) (l := x6) (fl := true) (n := x5) (s := 5) (k := .i64) (tbE h2)), .c (ref17_Right_ai5_t0 ((gt x6 s0.c3).c0) ((gt x6 s0.c3).c1) ((gt x6 s0.c3).c2) ((gt x6 s0.c3).c3) ((gt x6 s0.c3).c4)), .b (tbE h4), .o 36 (fun _ => o_idx_os (enc := enc_R_i64_i64_i64_i64_i64) (l := x6) (fl := true) (n := x5) (s := 5) (k := .i64) (tbE h2)), .m 39 (o_app_so (nl := s0.c2) (m := [(Blk.flat 86 161 [(arrE enc_R_i64_i64_i64_i64_i64 (law17_RingPlays_L4_h0_e0 x6 s0) 32 ++ [(.int .i64 (ring_Ring_Add_pai5_Fi161_r0_2 s0.c5 ((gt x6 s0.c3).c0) ((gt x6 s0.c3).c1) ((gt x6 s0.c3).c2) ((gt x6 s0.c3).c3) ((gt x6 s0.c3).c4)))])] false), (Blk.flat 58 5 (List.map enc_R_i64_i64_i64_i64_i64 s0.c7) false), (Blk.flat 58 5 [[(.int .i64 ((gt x6 s0.c3).c0)), (.int .i64 ((gt x6 s0.c3).c1)), (.int .i64 ((gt x6 s0.c3).c2)), (.int .i64 ((gt x6 s0.c3).c3)), (.int .i64 ((gt x6 s0.c3).c4))]] false)]) (enc := enc_R_i64_i64_i64_i64_i64) (l0 := s0.c7) (l1 := ([⟨((gt x6 s0.c3).c0), ((gt x6 s0.c3).c1), ((gt x6 s0.c3).c2), ((gt x6 s0.c3).c3), ((gt x6 s0.c3).c4)⟩] : List R_i64_i64_i64_i64_i64)) (id := 1) (e := 58) (s := 5) (bytes := 40) (x := (V.so false 2 1)) (n := s0.c7.length) (Nat.beq_refl _) (by kernel_rfl) (by kernel_rfl) (by kernel_rfl) (tbE h5)), .s (law17_RingPlays_S2_t0 (law17_RingPlays_L4_h0_e0 x6 s0) (law17_RingPlays_L4_h0_e2 x6 s0) (law17_RingPlays_L4_h0_e1 x6 s0) ((gt x6 s0.c3).c0) ((gt x6 s0.c3).c1) ((gt x6 s0.c3).c2) ((gt x6 s0.c3).c3) ((gt x6 s0.c3).c4) false false false x5 x6 s0.c3 (law17_RingPlays_L4_h0_e3 x6 s0) (law17_RingPlays_L4_h0_e4 x6 s0) (tbE h6)), .s (law17_RingPlays_S3_t0 (law17_RingPlays_L4_h0_e0 x6 s0) (law17_RingPlays_L4_h0_e2 x6 s0) (law17_RingPlays_L4_h0_e1 x6 s0) ((gt x6 s0.c3).c0) ((gt x6 s0.c3).c1) ((gt x6 s0.c3).c2) ((gt x6 s0.c3).c3) ((gt x6 s0.c3).c4) false false false x5 x6 s0.c3 (law17_RingPlays_L4_h0_e3 x6 s0) (law17_RingPlays_L4_h0_e4 x6 s0) (law17_RingPlays_L4_h0_e5 x6 s0) (tbE h7)), .b (tbE h8)] (by kernel_rfl)
theorem law17_RingPlays_L4_x1 (x0 : List R_i64_i64_i64_i64_i64) (x1 : Int) (x2 : List R_i64_i64_i64_i64_i64) (x3 : Bool) (x4 : Bool) (x5 : Bool) (x6 : List R_i64_i64_i64_i64_i64) (x7 : Bool) (x8 : Int) (s0 : law17_RingPlays_L4_s0) : law17_RingPlays_L4_sel x6 s0 = false → law17_RingPlays_L4_c0 x6 s0 = false → law17_RingPlays_L4_c1 x6 s0 = true → (roundG (runC E0 (cl E0) L8_4) [0, 3, 4, 5] [2] 2) (law17_RingPlays_L4_enc x0 x1 x2 x3 x4 x5 x6 x7 x8 s0) = some ((.exit 0), ([V.un], [(Blk.flat 86 161 [(arrE enc_R_i64_i64_i64_i64_i64 s0.c4 32 ++ [(.int .i64 s0.c5)])] false), (Blk.flat 58 5 (List.map enc_R_i64_i64_i64_i64_i64 s0.c7) false)])) := by
  unfold law17_RingPlays_L4_sel law17_RingPlays_L4_c0 law17_RingPlays_L4_c1
  cases h1 : tb (law17_RingPlays_S1_c0 x6 s0.c3)
  · intro g0 g1 g2
    exact round_walk [.s (law17_RingPlays_S1_t1 s0.c4 s0.c5 s0.c7 false false x5 x6 s0.c2 s0.c3 (tbE h1))] (by kernel_rfl)
  · cases h2 : tb (inb x6.length s0.c3)
    · intro g0 g1 g2
      exact absurd g2 ft
    · cases h3 : tb (ring_Ring_Add_pai5_Fi161_c0 s0.c5 ((gt x6 s0.c3).c0) ((gt x6 s0.c3).c1) ((gt x6 s0.c3).c2) ((gt x6 s0.c3).c3) ((gt x6 s0.c3).c4))
      · intro g0 g1 g2
        exact absurd g2 ft
      · cases h4 : tb (ref17_Right_ai5_S0_r0_0 ((gt x6 s0.c3).c0) ((gt x6 s0.c3).c1) ((gt x6 s0.c3).c2) ((gt x6 s0.c3).c3) ((gt x6 s0.c3).c4))
        · cases h5 : tb (law17_RingPlays_S2_1_c0 (law17_RingPlays_L4_h0_e0 x6 s0) (law17_RingPlays_L4_h0_e2 x6 s0) s0.c7 s0.c2)
          · intro g0 g1 g2
            exact absurd g2 ft
          · cases h6 : tb (law17_RingPlays_S3_1_c0 (law17_RingPlays_L4_h0_e2 x6 s0) s0.c7 x6 s0.c3 (law17_RingPlays_L4_h0_e3 x6 s0) (law17_RingPlays_L4_h0_e4 x6 s0) (law17_RingPlays_L4_h0_e6 x6 s0))
            · intro g0 g1 g2
              exact absurd g2 ft
            · cases h7 : tb (law17_RingPlays_S3_1_r0_4 (law17_RingPlays_L4_h0_e2 x6 s0) s0.c7 x6 s0.c3 (law17_RingPlays_L4_h0_e3 x6 s0) (law17_RingPlays_L4_h0_e4 x6 s0) (law17_RingPlays_L4_h0_e6 x6 s0))
              · intro g0 g1 g2
                exact absurd g0 tf
              · intro g0 g1 g2
                exact absurd g1 tf
        · cases h5 : tb (decide ((s0.c7.length + ([⟨((gt x6 s0.c3).c0), ((gt x6 s0.c3).c1), ((gt x6 s0.c3).c2), ((gt x6 s0.c3).c3), ((gt x6 s0.c3).c4)⟩] : List R_i64_i64_i64_i64_i64).length) * 40 ≤ 140737488355328))
          · intro g0 g1 g2
            exact absurd g2 ft
          · cases h6 : tb (law17_RingPlays_S2_c0 (law17_RingPlays_L4_h0_e0 x6 s0) (law17_RingPlays_L4_h0_e2 x6 s0) (law17_RingPlays_L4_h0_e1 x6 s0))
            · intro g0 g1 g2
              exact absurd g2 ft
            · cases h7 : tb (law17_RingPlays_S3_c0 (law17_RingPlays_L4_h0_e2 x6 s0) (law17_RingPlays_L4_h0_e1 x6 s0) x6 s0.c3 (law17_RingPlays_L4_h0_e3 x6 s0) (law17_RingPlays_L4_h0_e4 x6 s0) (law17_RingPlays_L4_h0_e5 x6 s0))
              · intro g0 g1 g2
                exact absurd g2 ft
              · cases h8 : tb (law17_RingPlays_S3_r0_4 (law17_RingPlays_L4_h0_e2 x6 s0) (law17_RingPlays_L4_h0_e1 x6 s0) x6 s0.c3 (law17_RingPlays_L4_h0_e3 x6 s0) (law17_RingPlays_L4_h0_e4 x6 s0) (law17_RingPlays_L4_h0_e5 x6 s0))
                · intro g0 g1 g2
                  exact absurd g0 tf
                · intro g0 g1 g2
                  exact absurd g1 tf
theorem law17_RingPlays_L4_f0_0 (x0 : List R_i64_i64_i64_i64_i64) (x1 : Int) (x2 : List R_i64_i64_i64_i64_i64) (x3 : Bool) (x4 : Bool) (x5 : Bool) (x6 : List R_i64_i64_i64_i64_i64) (x7 : Bool) (x8 : Int) (s : law17_RingPlays_L4_s0) (hok : law17_RingPlays_L4_ok x6 s = true) (c0 : law17_RingPlays_L4_c0 x6 (law17_RingPlays_L4_end x6 s) = true) : loopG (roundG (runC E0 (cl E0) L8_4) [0, 3, 4, 5] [2] 2) bound (law17_RingPlays_L4_enc x0 x1 x2 x3 x4 x5 x6 x7 x8 s) = some (.ret, ([(V.d (.bool false))], [(Blk.flat 86 161 [(arrE enc_R_i64_i64_i64_i64_i64 (law17_RingPlays_L4_h0_e0 x6 (law17_RingPlays_L4_end x6 s)) 32 ++ [(.int .i64 (law17_RingPlays_L4_h0_e2 x6 (law17_RingPlays_L4_end x6 s)))])] false), (Blk.flat 58 5 (List.map enc_R_i64_i64_i64_i64_i64 (law17_RingPlays_L4_r0_4 x6 (law17_RingPlays_L4_end x6 s))) false)])) := by
  have e : itS (law17_RingPlays_L4_sel x6) (law17_RingPlays_L4_nx x6) bound s = some (law17_RingPlays_L4_end x6 s) := itS_get hok
  have f := itS_false e
  exact loop_it (law17_RingPlays_L4_go x0 x1 x2 x3 x4 x5 x6 x7 x8) bound s _ _ _ e (fun h => by cases h) (law17_RingPlays_L4_x0 x0 x1 x2 x3 x4 x5 x6 x7 x8 (law17_RingPlays_L4_end x6 s) f c0)
theorem law17_RingPlays_L4_f0_1 (x0 : List R_i64_i64_i64_i64_i64) (x1 : Int) (x2 : List R_i64_i64_i64_i64_i64) (x3 : Bool) (x4 : Bool) (x5 : Bool) (x6 : List R_i64_i64_i64_i64_i64) (x7 : Bool) (x8 : Int) (s : law17_RingPlays_L4_s0) (hok : law17_RingPlays_L4_ok x6 s = true) (c0 : law17_RingPlays_L4_c0 x6 (law17_RingPlays_L4_end x6 s) = false) (c1 : law17_RingPlays_L4_c1 x6 (law17_RingPlays_L4_end x6 s) = true) : loopG (roundG (runC E0 (cl E0) L8_4) [0, 3, 4, 5] [2] 2) bound (law17_RingPlays_L4_enc x0 x1 x2 x3 x4 x5 x6 x7 x8 s) = some ((.exit 0), ([V.un], [(Blk.flat 86 161 [(arrE enc_R_i64_i64_i64_i64_i64 ((law17_RingPlays_L4_end x6 s).c4) 32 ++ [(.int .i64 ((law17_RingPlays_L4_end x6 s).c5))])] false), (Blk.flat 58 5 (List.map enc_R_i64_i64_i64_i64_i64 ((law17_RingPlays_L4_end x6 s).c7)) false)])) := by
  have e : itS (law17_RingPlays_L4_sel x6) (law17_RingPlays_L4_nx x6) bound s = some (law17_RingPlays_L4_end x6 s) := itS_get hok
  have f := itS_false e
  exact loop_it (law17_RingPlays_L4_go x0 x1 x2 x3 x4 x5 x6 x7 x8) bound s _ _ _ e (fun h => by cases h) (law17_RingPlays_L4_x1 x0 x1 x2 x3 x4 x5 x6 x7 x8 (law17_RingPlays_L4_end x6 s) f c0 c1)
def law17_RingPlays_S5_e0  : List R_i64_i64_i64_i64_i64 := ([⟨0, 0, 0, 0, 0⟩, ⟨0, 0, 0, 0, 0⟩, ⟨0, 0, 0, 0, 0⟩, ⟨0, 0, 0, 0, 0⟩, ⟨0, 0, 0, 0, 0⟩, ⟨0, 0, 0, 0, 0⟩, ⟨0, 0, 0, 0, 0⟩, ⟨0, 0, 0, 0, 0⟩, ⟨0, 0, 0, 0, 0⟩, ⟨0, 0, 0, 0, 0⟩, ⟨0, 0, 0, 0, 0⟩, ⟨0, 0, 0, 0, 0⟩, ⟨0, 0, 0, 0, 0⟩, ⟨0, 0, 0, 0, 0⟩, ⟨0, 0, 0, 0, 0⟩, ⟨0, 0, 0, 0, 0⟩, ⟨0, 0, 0, 0, 0⟩, ⟨0, 0, 0, 0, 0⟩, ⟨0, 0, 0, 0, 0⟩, ⟨0, 0, 0, 0, 0⟩, ⟨0, 0, 0, 0, 0⟩, ⟨0, 0, 0, 0, 0⟩, ⟨0, 0, 0, 0, 0⟩, ⟨0, 0, 0, 0, 0⟩, ⟨0, 0, 0, 0, 0⟩, ⟨0, 0, 0, 0, 0⟩, ⟨0, 0, 0, 0, 0⟩, ⟨0, 0, 0, 0, 0⟩, ⟨0, 0, 0, 0, 0⟩, ⟨0, 0, 0, 0, 0⟩, ⟨0, 0, 0, 0, 0⟩, ⟨0, 0, 0, 0, 0⟩] : List R_i64_i64_i64_i64_i64)
def law17_RingPlays_S5_e1 (x1 : List R_i64_i64_i64_i64_i64) : law17_RingPlays_L4_s0 := law17_RingPlays_L4_end x1 (⟨true, 0, law17_RingPlays_S5_e0, 0, ([] : List R_i64_i64_i64_i64_i64)⟩ : law17_RingPlays_L4_s0)
def law17_RingPlays_S5_c0 (x1 : List R_i64_i64_i64_i64_i64) : Bool := (bif tb (law17_RingPlays_L4_ok x1 (⟨true, 0, law17_RingPlays_S5_e0, 0, ([] : List R_i64_i64_i64_i64_i64)⟩ : law17_RingPlays_L4_s0)) then (bif tb (law17_RingPlays_L4_c0 x1 (law17_RingPlays_S5_e1 x1)) then true else false) else false)
def law17_RingPlays_S5_c1 (x1 : List R_i64_i64_i64_i64_i64) : Bool := (bif tb (law17_RingPlays_L4_ok x1 (⟨true, 0, law17_RingPlays_S5_e0, 0, ([] : List R_i64_i64_i64_i64_i64)⟩ : law17_RingPlays_L4_s0)) then (bif tb (law17_RingPlays_L4_c0 x1 (law17_RingPlays_S5_e1 x1)) then false else (bif tb (law17_RingPlays_L4_c1 x1 (law17_RingPlays_S5_e1 x1)) then true else false)) else false)
theorem law17_RingPlays_S5_t0 (x0 : Bool) (x1 : List R_i64_i64_i64_i64_i64) : law17_RingPlays_S5_c0 x1 = true → segG (runC E0 (cl E0) S8_5) [0] [2] [] 0 ([(V.d (slD enc_R_i64_i64_i64_i64_i64 true 5 x0 x1))], []) = some (.ret, ([(V.d (.bool false))], [])) := by
  unfold law17_RingPlays_S5_c0
  cases h1 : tb (law17_RingPlays_L4_ok x1 (⟨true, 0, law17_RingPlays_S5_e0, 0, ([] : List R_i64_i64_i64_i64_i64)⟩ : law17_RingPlays_L4_s0))
  · intro g0
    exact absurd g0 ft
  · cases h2 : tb (law17_RingPlays_L4_c0 x1 (law17_RingPlays_S5_e1 x1))
    · cases h3 : tb (law17_RingPlays_L4_c1 x1 (law17_RingPlays_S5_e1 x1))
      · intro g0
        exact absurd g0 ft
      · intro g0
        exact absurd g0 ft
    · intro g0
      exact seg_walk [.c (ring_New_t0), .l (law17_RingPlays_L4_f0_0 law17_RingPlays_S5_e0 0 ([] : List R_i64_i64_i64_i64_i64) false false x0 x1 true 0 (⟨true, 0, law17_RingPlays_S5_e0, 0, ([] : List R_i64_i64_i64_i64_i64)⟩ : law17_RingPlays_L4_s0) (tbE h1) (tbE h2))] (by kernel_rfl)
theorem law17_RingPlays_S5_t1 (x0 : Bool) (x1 : List R_i64_i64_i64_i64_i64) : law17_RingPlays_S5_c0 x1 = false → law17_RingPlays_S5_c1 x1 = true → segG (runC E0 (cl E0) S8_5) [0] [2] [] 0 ([(V.d (slD enc_R_i64_i64_i64_i64_i64 true 5 x0 x1))], []) = some (.normal, ([], [])) := by
  unfold law17_RingPlays_S5_c0 law17_RingPlays_S5_c1
  cases h1 : tb (law17_RingPlays_L4_ok x1 (⟨true, 0, law17_RingPlays_S5_e0, 0, ([] : List R_i64_i64_i64_i64_i64)⟩ : law17_RingPlays_L4_s0))
  · intro g0 g1
    exact absurd g1 ft
  · cases h2 : tb (law17_RingPlays_L4_c0 x1 (law17_RingPlays_S5_e1 x1))
    · cases h3 : tb (law17_RingPlays_L4_c1 x1 (law17_RingPlays_S5_e1 x1))
      · intro g0 g1
        exact absurd g1 ft
      · intro g0 g1
        exact seg_walk [.c (ring_New_t0), .l (law17_RingPlays_L4_f0_1 law17_RingPlays_S5_e0 0 ([] : List R_i64_i64_i64_i64_i64) false false x0 x1 true 0 (⟨true, 0, law17_RingPlays_S5_e0, 0, ([] : List R_i64_i64_i64_i64_i64)⟩ : law17_RingPlays_L4_s0) (tbE h1) (tbE h2) (tbE h3))] (by kernel_rfl)
    · intro g0 g1
      exact absurd g0 tf
theorem law17_RingPlays_S6_t0  : segG (runC E0 (cl E0) S8_6) [9] [] [2] 0 ([(V.d .nilp)], []) = some (.normal, ([(V.d (.bool true))], [])) := by
  exact seg_walk [.c (law17_alive_t0), .k true, .c (ring_Ring_Add_nai5_t0 0 0 0 0 0), .k true, .c (ring_Ring_All_n_t0), .c (ring_Ring_Lost_n_t0)] (by kernel_rfl)
def law17_RingPlays_c0 (x1 : List R_i64_i64_i64_i64_i64) : Bool := (bif tb (law17_RingPlays_S0_c0 x1) then true else (bif tb (law17_RingPlays_S5_c0 x1) then true else (bif tb (law17_RingPlays_S5_c1 x1) then true else false)))
def law17_RingPlays_r0_0 (x1 : List R_i64_i64_i64_i64_i64) : Bool := (bif tb (law17_RingPlays_S0_c0 x1) then true else (bif tb (law17_RingPlays_S5_c0 x1) then false else true))
theorem law17_RingPlays_t0 (x0 : Bool) (x1 : List R_i64_i64_i64_i64_i64) : law17_RingPlays_c0 x1 = true → cl E0 8 [(V.d (slD enc_R_i64_i64_i64_i64_i64 true 5 x0 x1))] [] = some ([(V.d (.bool (law17_RingPlays_r0_0 x1)))], []) := by
  unfold law17_RingPlays_c0 law17_RingPlays_r0_0
  cases h1 : tb (law17_RingPlays_S0_c0 x1)
  · cases h2 : tb (law17_RingPlays_S5_c0 x1)
    · cases h3 : tb (law17_RingPlays_S5_c1 x1)
      · intro g0
        exact absurd g0 ft
      · intro g0
        exact w8 [.s (law17_RingPlays_S0_t1 x0 x1 (tbE h1)), .s (law17_RingPlays_S5_t1 x0 x1 (tbE h2) (tbE h3)), .s (law17_RingPlays_S6_t0)] (by kernel_rfl)
    · intro g0
      exact w8 [.s (law17_RingPlays_S0_t1 x0 x1 (tbE h1)), .s (law17_RingPlays_S5_t0 x0 x1 (tbE h2))] (by kernel_rfl)
  · intro g0
    exact w8 [.s (law17_RingPlays_S0_t0 x0 x1 (tbE h1))] (by kernel_rfl)
end Go.Proofs.YtkipngagfiaddaaDoor.Den

namespace Go.Proofs.YtkipngagfiaddaaDoor.Den
open Go Go.Proofs
set_option linter.unusedVariables false
set_option linter.unusedSimpArgs false
set_option maxRecDepth 100000
def good (l : List N5) (k : Nat) : List N5 := (l.take k).filter rN
theorem good_succ {l : List N5} {k : Nat} (h : k < l.length) : good l (k + 1) = good l k ++ (if rN (gt l (k : Int)) = true then [gt l (k : Int)] else []) := by
  unfold good
  rw [take_succ_gt h, List.filter_append]
  cases hr : rN (gt l (k : Int)) <;> simp [hr]
theorem good_le (l : List N5) (k : Nat) : (good l k).length ≤ k := Nat.le_trans (List.length_filter_le _ _) (by rw [List.length_take]; omega)
theorem same_self {a : List N5} (ha : a.length ≤ 1000) : ref17_Same_oo_c0 a a = true ∧ ref17_Same_oo_r0_0 a a = true := by
  have run := loop_seq (sel := ref17_Same_oo_L0_sel a a) (nx := ref17_Same_oo_L0_nx a a) (fun k => (⟨(k : Int)⟩ : ref17_Same_oo_L0_s0)) a.length (by omega) (fun k hk => by
    have i1 : inb a.length (k : Int) = true := inb_of (by omega) (by omega)
    have hw : wi ((k : Int) + 1) = ((k + 1 : Nat) : Int) := by rw [wi_eq (by omega) (by omega)]; omega
    have e0 : ref17_Same_oo_L0_h0_e0 a a ⟨(k : Int)⟩ = false := by simp only [ref17_Same_oo_L0_h0_e0, beq_self_eq_true, Bool.and_self]; rfl
    constructor
    · simp only [ref17_Same_oo_L0_sel, i1, e0, tb_eq]
      rw [decide_eq_true (by omega)]; rfl
    · simp only [ref17_Same_oo_L0_nx, hw]) (by simp [ref17_Same_oo_L0_sel, tb_eq])
  rw [show ((0 : Nat) : Int) = 0 from rfl] at run
  have hn : ((((a.length : Nat) : Int) : Int) != ((a.length : Nat) : Int)) = false := by simp
  have hd : decide (((a.length : Nat) : Int) < ((a.length : Nat) : Int)) = false := decide_eq_false (by omega)
  have e0 : ref17_Same_oo_L0_end a a ⟨0⟩ = ⟨((a.length : Nat) : Int)⟩ := by simp only [ref17_Same_oo_L0_end, run, Option.getD_some]
  have c0 : ref17_Same_oo_L0_c0 a a ⟨((a.length : Nat) : Int)⟩ = false := by simp only [ref17_Same_oo_L0_c0, hd, tb_eq]; rfl
  have c1 : ref17_Same_oo_L0_c1 a ⟨((a.length : Nat) : Int)⟩ = true := by simp only [ref17_Same_oo_L0_c1, hd, tb_eq]; rfl
  simp only [ref17_Same_oo_c0, ref17_Same_oo_r0_0, hn, e0, c0, c1, ref17_Same_oo_L0_ok, run, Option.isSome_some, tb_eq, cond_true, cond_false, and_self]
theorem drop_sub (m : List N5) (hm : m.length ≤ 100000) : sub m (mxI 0 (wi (((m.length : Nat) : Int) - 32))) ((m.length : Nat) : Int) = m.drop (m.length - 32) := by
  rw [lost_eq hm, sub_nat, List.take_of_length_le (by rw [List.length_drop]; omega)]
theorem same_all {T m : List N5} (h : RingOK T m) (hm : m.length ≤ 1000) (nl : Bool) (hn : nl = true → m = []) : law17_RingPlays_S2_1_c0 T ((m.length : Nat) : Int) m nl = true ∧ law17_RingPlays_S2_1_r0_6 T ((m.length : Nat) : Int) m nl = true := by
  obtain ⟨a1, a2⟩ := all_eq h (by omega)
  have hl := lost_eq (m := m) (by omega)
  have hs := drop_sub m (by omega)
  have hal : (m.drop (m.length - 32)).length ≤ 1000 := by rw [List.length_drop]; omega
  obtain ⟨q1, q2⟩ := same_self hal
  cases nl with
  | true =>
    have := hn rfl
    subst this
    obtain ⟨p1, p2⟩ := same_self (a := []) (by simp)
    have c0 : ref17_All_v_L_c0 [] true = true := rfl
    have e : (ring_Ring_All_p_Fi161_e0 T ((([] : List N5).length : Nat) : Int)).c7 = [] := a2
    simp only [law17_RingPlays_S2_1_c0, law17_RingPlays_S2_1_r0_6, a1, c0, e, p1, p2, tb_eq, cond_true, and_self]
  | false =>
    have c0 : ref17_All_v_L_c0 m false = false := rfl
    have hins : ins m.length (mxI 0 (wi (((m.length : Nat) : Int) - 32))) ((m.length : Nat) : Int) = true := by
      rw [hl]; simp only [ins, Bool.and_eq_true, decide_eq_true_eq]; omega
    by_cases h0 : m.length = 0
    · have : m = [] := List.length_eq_zero_iff.1 h0
      subst this
      have c1 : ref17_All_v_L_c1 [] false = false := rfl
      have c2 : ref17_All_v_L_c2 [] false = true := rfl
      have e : (ring_Ring_All_p_Fi161_e0 T ((([] : List N5).length : Nat) : Int)).c7 = [] := a2
      have z1 : ref17_Same_oz_c0 [] = true := rfl
      have z2 : ref17_Same_oz_r0_0 [] = true := rfl
      simp only [law17_RingPlays_S2_1_c0, law17_RingPlays_S2_1_r0_6, a1, c0, c1, c2, e, z1, z2, tb_eq, cond_true, cond_false, and_self]
    · have c1 : ref17_All_v_L_c1 m false = true := by
        rw [hl] at hins
        simp only [ref17_All_v_L_c1, hins, hl, tb_eq]
        rw [decide_eq_true (by omega)]; rfl
      simp only [law17_RingPlays_S2_1_c0, law17_RingPlays_S2_1_r0_6, law17_RingPlays_S2_1_e0, a1, a2, c0, c1, hins, hs, q1, q2, tb_eq, cond_true, cond_false, and_self]
theorem S2_eq (T : List N5) (x : Int) (m : List N5) : law17_RingPlays_S2_c0 T x m = law17_RingPlays_S2_1_c0 T x m false ∧ law17_RingPlays_S2_r0_6 T x m = law17_RingPlays_S2_1_r0_6 T x m false := ⟨rfl, rfl⟩
theorem asked {l m : List N5} {k : Nat} (hk : k < l.length) (hm : m.length ≤ 1000) (hw : (gt l (k : Int)).c0 ≤ 9223372036854775807) :
    law17_RingPlays_S3_1_c0 ((m.length : Nat) : Int) m l (k : Int) (if rN (gt l (k : Int)) = true then 0 else 1) (rN (gt l (k : Int))) true = true ∧
    law17_RingPlays_S3_1_r0_4 ((m.length : Nat) : Int) m l (k : Int) (if rN (gt l (k : Int)) = true then 0 else 1) (rN (gt l (k : Int))) true = false := by
  have i1 : inb l.length (k : Int) = true := inb_of (by omega) (by omega)
  have hr' : ring_Right_ai5_r0_0 (gt l (k : Int)).c0 (gt l (k : Int)).c1 (gt l (k : Int)).c2 (gt l (k : Int)).c3 (gt l (k : Int)).c4 = rN (gt l (k : Int)) := rfl
  have hl : ((mxI 0 (wi (((m.length : Nat) : Int) - 32)) : Int) != mxI 0 (wi (((m.length : Nat) : Int) - 32))) = false := by simp
  cases hr : rN (gt l (k : Int)) with
  | true =>
    rw [hr] at hr'
    obtain ⟨t1, t2, t3⟩ := text_eq hr hw
    have z : (true != (((0 : Int) == 0) == true)) = false := rfl
    have z2 : ((0 : Int) != 0) = false := rfl
    have z3 : (true != (true == true)) = false := rfl
    simp only [law17_RingPlays_S3_1_c0, law17_RingPlays_S3_1_r0_4, if_true, z, z2, z3, hl, i1, rN_c, hr', t1, t2, t3, beq_self_eq_true, Bool.not_true, tb_eq, cond_true, cond_false, and_self]
    exact ⟨rfl, rfl⟩
  | false =>
    rw [hr] at hr'
    have hrr := rright_N (gt l (k : Int))
    rw [hr] at hrr
    have t1 : ring_Text_ai5_c0 (gt l (k : Int)).c0 (gt l (k : Int)).c1 (gt l (k : Int)).c2 (gt l (k : Int)).c3 (gt l (k : Int)).c4 = true := by simp only [ring_Text_ai5_c0, rN_c, hr', tb_eq]; rfl
    have t2 : ref17_Text_ai5_c0 (gt l (k : Int)).c0 (gt l (k : Int)).c1 (gt l (k : Int)).c2 (gt l (k : Int)).c3 (gt l (k : Int)).c4 = true := by simp only [ref17_Text_ai5_c0, hrr, tb_eq, cond_false]
    have t3 : ring_Text_ai5_r0_0 (gt l (k : Int)).c0 (gt l (k : Int)).c1 (gt l (k : Int)).c2 (gt l (k : Int)).c3 (gt l (k : Int)).c4 = ref17_Text_ai5_r0_0 (gt l (k : Int)).c0 (gt l (k : Int)).c1 (gt l (k : Int)).c2 (gt l (k : Int)).c3 (gt l (k : Int)).c4 := by
      simp only [ring_Text_ai5_r0_0, ref17_Text_ai5_r0_0, hr', hrr, tb_eq, cond_false]
    have z : (true != (((1 : Int) == 0) == false)) = false := rfl
    have z2 : ((1 : Int) != 0) = true := rfl
    have z3 : ((1 : Int) != 1) = false := rfl
    have z4 : (true != (false == false)) = false := rfl
    simp only [law17_RingPlays_S3_1_c0, law17_RingPlays_S3_1_r0_4, Bool.false_eq_true, if_false, z, z2, z3, z4, hl, i1, rN_c, hr', t1, t2, t3, beq_self_eq_true, Bool.not_true, tb_eq, cond_true, cond_false, and_self]
    exact ⟨rfl, rfl⟩
theorem S3_eq (a : Int) (b c : List N5) (d e : Int) (f g : Bool) : law17_RingPlays_S3_c0 a b c d e f g = law17_RingPlays_S3_1_c0 a b c d e f g ∧ law17_RingPlays_S3_r0_4 a b c d e f g = law17_RingPlays_S3_1_r0_4 a b c d e f g := ⟨rfl, rfl⟩
theorem pure_RingPlays (x0 : Bool) (x1 : List R_i64_i64_i64_i64_i64) (wx1 : (x1.length ≤ maxLen ∧ x1.length * 40 ≤ 140737488351232 ∧ ∀ z ∈ x1, WfI .i64 z.c0 ∧ WfI .i64 z.c1 ∧ WfI .i64 z.c2 ∧ WfI .i64 z.c3 ∧ WfI .i64 z.c4 ∧ True)) : law17_RingPlays_c0 x1 = true ∧ (law17_RingPlays_r0_0 x1) = true := by
  obtain ⟨_, _, hwf⟩ := wx1
  by_cases hl : x1.length ≤ 200
  · have s0 : law17_RingPlays_S0_c0 x1 = false := by simp only [law17_RingPlays_S0_c0, tb_eq]; rw [decide_eq_false (by omega)]; rfl
    obtain ⟨s1, e1, ⟨j1, j2, j3, j5⟩, j4⟩ := idx_loop (sel := law17_RingPlays_L4_sel x1) (nx := law17_RingPlays_L4_nx x1) (s0 := ⟨true, 0, law17_RingPlays_S5_e0, 0, []⟩) ((x1.length : Nat) : Int) (fun s => s.c3)
      (fun s => s.c7 = good x1 s.c3.toNat ∧ s.c5 = (((good x1 s.c3.toNat).length : Nat) : Int) ∧ RingOK s.c4 (good x1 s.c3.toNat) ∧ (s.c2 = true → s.c7 = [])) (by omega)
      ⟨rfl, rfl, ⟨rfl, fun j hj _ => by simp [good] at hj⟩, fun _ => rfl⟩ (by decide) (by show (0 : Int) ≤ _; omega)
      (fun s ⟨k1, k2, k3, k5⟩ b1 b2 => by
        obtain ⟨c2, c3, c4, c5, c7⟩ := s
        simp only at k1 k2 k3 k5 b1 b2
        obtain ⟨k, rfl⟩ : ∃ k : Nat, c3 = k := ⟨c3.toNat, by omega⟩
        simp only [Int.toNat_natCast] at k1 k2 k3
        subst k1; subst k2
        have hk : k < x1.length := by omega
        have hgl := good_le x1 k
        obtain ⟨a1, a2, a3, a4⟩ := add_eq (T := c4) (m := good x1 k) (gt x1 (k : Int)) (by omega)
        have i1 : inb x1.length (k : Int) = true := inb_of (by omega) (by omega)
        have hw : wi ((k : Int) + 1) = ((k + 1 : Nat) : Int) := by rw [wi_eq (by omega) (by omega)]; omega
        have hc0 : (gt x1 (k : Int)).c0 ≤ 9223372036854775807 := (wfI_i64 (hwf _ (gt_mem (by omega) (by omega))).1).2
        have hrr := rright_N (gt x1 (k : Int))
        have d1 : law17_RingPlays_S1_c0 x1 (k : Int) = true := by simp only [law17_RingPlays_S1_c0, tb_eq]; rw [decide_eq_true (by omega)]; rfl
        cases hr : rN (gt x1 (k : Int)) with
        | true =>
          rw [hr] at hrr
          have hg : good x1 (k + 1) = good x1 k ++ [gt x1 (k : Int)] := by rw [good_succ hk, if_pos hr]
          have hgl1 := good_le x1 (k + 1)
          have hro : RingOK (staE c4 32 (((good x1 k).length % 32 : Nat) : Int) (gt x1 (k : Int))) (good x1 (k + 1)) := by rw [hg]; exact ring_add k3 _
          have e0 : law17_RingPlays_L4_h0_e0 x1 ⟨c2, (k : Int), c4, (((good x1 k).length : Nat) : Int), good x1 k⟩ = staE c4 32 (((good x1 k).length % 32 : Nat) : Int) (gt x1 (k : Int)) := by simp only [law17_RingPlays_L4_h0_e0, a3, hr, if_true]
          have e1 : law17_RingPlays_L4_h0_e1 x1 ⟨c2, (k : Int), c4, (((good x1 k).length : Nat) : Int), good x1 k⟩ = good x1 (k + 1) := by rw [hg]; rfl
          have e2 : law17_RingPlays_L4_h0_e2 x1 ⟨c2, (k : Int), c4, (((good x1 k).length : Nat) : Int), good x1 k⟩ = (((good x1 (k + 1)).length : Nat) : Int) := by
            simp only [law17_RingPlays_L4_h0_e2, a4, hr, if_true]; rw [hg, List.length_append, List.length_singleton]
          have e3 : law17_RingPlays_L4_h0_e3 x1 ⟨c2, (k : Int), c4, (((good x1 k).length : Nat) : Int), good x1 k⟩ = 0 := by simp only [law17_RingPlays_L4_h0_e3, a2, hr, if_true]
          have e4 : law17_RingPlays_L4_h0_e4 x1 ⟨c2, (k : Int), c4, (((good x1 k).length : Nat) : Int), good x1 k⟩ = true := hrr
          obtain ⟨p1, p2⟩ := same_all hro (by omega) false (fun h => by cases h)
          have e5 : law17_RingPlays_L4_h0_e5 x1 ⟨c2, (k : Int), c4, (((good x1 k).length : Nat) : Int), good x1 k⟩ = true := by
            simp only [law17_RingPlays_L4_h0_e5, e0, e1, e2, (S2_eq _ _ _).2]; exact p2
          obtain ⟨q1, q2⟩ := asked (m := good x1 (k + 1)) hk (by omega) hc0
          rw [hr] at q1 q2
          simp only [if_true] at q1 q2
          refine ⟨?_, ?_, ?_⟩
          · have dz : decide (((good x1 k).length + ([⟨(gt x1 (k : Int)).c0, (gt x1 (k : Int)).c1, (gt x1 (k : Int)).c2, (gt x1 (k : Int)).c3, (gt x1 (k : Int)).c4⟩] : List N5).length) * 40 ≤ 140737488355328) = true := decide_eq_true (by show ((good x1 k).length + 1) * 40 ≤ _; omega)
            simp only [law17_RingPlays_L4_sel, d1, i1, a1, hrr, dz, e0, e1, e2, e3, e4, e5, (S2_eq _ _ _).1, p1, (S3_eq _ _ _ _ _ _ _).1, (S3_eq _ _ _ _ _ _ _).2, q1, q2, tb_eq, cond_true, cond_false]
          · simp only [law17_RingPlays_L4_nx, hrr, e0, e1, e2, hw, tb_eq, cond_true, Int.toNat_natCast]
            exact ⟨trivial, trivial, hro, fun h => by cases h⟩
          · simp only [law17_RingPlays_L4_nx, hrr, hw, tb_eq, cond_true]; omega
        | false =>
          rw [hr] at hrr
          have hg : good x1 (k + 1) = good x1 k := by rw [good_succ hk, if_neg (by rw [hr]; simp), List.append_nil]
          have e0 : law17_RingPlays_L4_h0_e0 x1 ⟨c2, (k : Int), c4, (((good x1 k).length : Nat) : Int), good x1 k⟩ = c4 := by simp only [law17_RingPlays_L4_h0_e0, a3, hr, Bool.false_eq_true, if_false]
          have e2 : law17_RingPlays_L4_h0_e2 x1 ⟨c2, (k : Int), c4, (((good x1 k).length : Nat) : Int), good x1 k⟩ = (((good x1 k).length : Nat) : Int) := by
            simp only [law17_RingPlays_L4_h0_e2, a4, hr, Bool.false_eq_true, if_false]
          have e3 : law17_RingPlays_L4_h0_e3 x1 ⟨c2, (k : Int), c4, (((good x1 k).length : Nat) : Int), good x1 k⟩ = 1 := by simp only [law17_RingPlays_L4_h0_e3, a2, hr, Bool.false_eq_true, if_false]
          have e4 : law17_RingPlays_L4_h0_e4 x1 ⟨c2, (k : Int), c4, (((good x1 k).length : Nat) : Int), good x1 k⟩ = false := hrr
          obtain ⟨p1, p2⟩ := same_all k3 (by omega) c2 k5
          have e6 : law17_RingPlays_L4_h0_e6 x1 ⟨c2, (k : Int), c4, (((good x1 k).length : Nat) : Int), good x1 k⟩ = true := by
            simp only [law17_RingPlays_L4_h0_e6, e0, e2]; exact p2
          obtain ⟨q1, q2⟩ := asked (m := good x1 k) hk (by omega) hc0
          rw [hr] at q1 q2
          simp only [Bool.false_eq_true, if_false] at q1 q2
          refine ⟨?_, ?_, ?_⟩
          · simp only [law17_RingPlays_L4_sel, d1, i1, a1, hrr, e0, e2, e3, e4, e6, p1, q1, q2, tb_eq, cond_true, cond_false]
          · simp only [law17_RingPlays_L4_nx, hrr, e0, e2, hw, tb_eq, cond_false, Int.toNat_natCast, hg]
            exact ⟨trivial, trivial, k3, k5⟩
          · simp only [law17_RingPlays_L4_nx, hrr, hw, tb_eq, cond_false]; omega)
      (fun s _ b => by
        have : law17_RingPlays_S1_c0 x1 s.c3 = false := by simp only [law17_RingPlays_S1_c0, b, tb_eq]; rw [decide_eq_false (by omega)]; rfl
        simp only [law17_RingPlays_L4_sel, this, tb_eq, cond_false])
    have d1 : law17_RingPlays_S1_c0 x1 s1.c3 = false := by simp only [law17_RingPlays_S1_c0, j4, tb_eq]; rw [decide_eq_false (by omega)]; rfl
    have eE : law17_RingPlays_S5_e1 x1 = s1 := by simp only [law17_RingPlays_S5_e1, law17_RingPlays_L4_end, e1, Option.getD_some]
    have ok : law17_RingPlays_L4_ok x1 ⟨true, 0, law17_RingPlays_S5_e0, 0, []⟩ = true := by simp only [law17_RingPlays_L4_ok, e1]; rfl
    have c0 : law17_RingPlays_L4_c0 x1 s1 = false := by simp only [law17_RingPlays_L4_c0, d1, tb_eq, cond_false]
    have c1 : law17_RingPlays_L4_c1 x1 s1 = true := by simp only [law17_RingPlays_L4_c1, d1, tb_eq, cond_false]
    have f0 : law17_RingPlays_S5_c0 x1 = false := by simp only [law17_RingPlays_S5_c0, ok, eE, c0, tb_eq, cond_true, cond_false]
    have f1 : law17_RingPlays_S5_c1 x1 = true := by simp only [law17_RingPlays_S5_c1, ok, eE, c0, c1, tb_eq, cond_true, cond_false]
    simp only [law17_RingPlays_c0, law17_RingPlays_r0_0, s0, f0, f1, tb_eq, cond_true, cond_false, and_self]
  · have s0 : law17_RingPlays_S0_c0 x1 = true := by simp only [law17_RingPlays_S0_c0, tb_eq]; rw [decide_eq_true (by omega)]; rfl
    simp only [law17_RingPlays_c0, law17_RingPlays_r0_0, s0, tb_eq, cond_true, and_self]
end Go.Proofs.YtkipngagfiaddaaDoor.Den

namespace Go.Proofs.YtkipngagfiaddaaDoor.Den
open Go Go.ChangeShapes Go.WideShapes Go.ChangeAt Go.RowKit
set_option linter.unusedVariables false
set_option linter.unusedSimpArgs false
theorem law_laid {C : Checked} (hm : C.prog.follows .mixedOrders = true) {E : Env} (hE : EnvOK C.prog E) {laid : List (String × DataW Unit)} (hgl : ∀ w, laidMetH C.prog laid w → GlOK E (cx0 w)) {os : Os} {f : FuncId} {fn : Func} {s : ChangeSpec} {H : Type} {enc : TypeId × Value → H}
    (own : ownKnob C.prog.godebug = none) (started : os.Started) (noInit : C.prog.inits.idxOf? f = none) (hfn : C.prog.funcs[f]? = some fn) (hl : laidOutB C.prog = true)
    (witness : ∃ (w : World) (tape : Tape) (i : Input), w.os = os ∧ (w.forCall tape i).Shaped C.prog ∧ i.vars = [] ∧ Input.okWide C.prog (w.forCall tape i) .any w.heap.size f i ∧
      ((s.pre enc C.prog fn [] false (w.forCall tape i).memory i.args ∧ laidMetH C.prog laid (w.forCall tape i).memory) ∧ sizedMet enc C.prog fn (OpenSpec.ofChange s) false (w.forCall tape i).memory i.args) ∧
        Assume.holds {} C.prog (lone (Frame.enter C.prog f i.args .normal) [] (w.forCall tape i)))
    (hgood : (fn.params.toList.all fun t => goodT C.prog 20 t && C.prog.readableRec t && decide (t < C.prog.types.size)) = true) {rt : TypeId} (hres : fn.resultTypes = #[rt]) (hrt : C.prog.underlying rt = some .bool)
    (hvars : s.vars = []) (hspec : ∀ ds : List (DataW H), ds.length = fn.params.toList.length → s.fn H ds = { results := [.lit (.bool true)], args := ds })
    (hlaw : ∀ rs, TyAll C.prog 20 fn.params.toList rs → ∃ k m', callD E k f (argsV C.prog fn.params.toList rs) [] = some ([.d (.bool true)], m')) :
    ReturnsInHanded {} C os f .any (fun w args => (s.pre enc C.prog fn [] false w args ∧ laidMetH C.prog laid w) ∧ sizedMet enc C.prog fn (OpenSpec.ofChange s) false w args) (s.post enc C.prog fn false true false false) := by
  refine returnsInHanded_of_change_and (X := fun w _ => laidMetH C.prog laid w) (fun _ _ _ hh h => h.of_heap hh) own started noInit hfn witness ?_
  intro W base args ds gs before hval hW _ hsz hL _
  have hW' := hW
  obtain ⟨p, q, hA, hV, rfl, hfz, hnd⟩ := hW
  rw [hvars] at hV
  obtain ⟨rfl, rfl⟩ := trodVars_none hV
  have hgd : ∀ t, t ∈ fn.params.toList → goodT C.prog 20 t = true ∧ C.prog.readableRec t = true ∧ t < C.prog.types.size := fun t ht => by
    have := List.all_eq_true.1 hgood t ht
    simpa [Bool.and_eq_true, and_assoc] using this
  obtain ⟨rs, h1, h2⟩ := open_args (n := 20) fn.params.toList args.toList ds p (List.all_eq_true.2 fun t ht => (hgd t ht).1) (fun j t v ht hv => hval j t v (by simpa using ht) (by simpa using hv)) (fun m hm => of_decide_eq_true (List.all_eq_true.1 hsz m (weightsEach_app hm))) hA
  obtain ⟨k, m', hk⟩ := hlaw rs h1
  refine (calls_law hm hE (hgl W hL) h2 hk).mono fun e W' ⟨he, bel⟩ => ?_
  subst he
  have hlen : ds.length = fn.params.toList.length := by
    have : ∀ (ts : List TypeId) (vs : List Value) (ds : List (DataW H)) (ps : List MemPlace), DataW.TrodAll enc C.prog W 0 (fun _ => true) true ts vs ds ps → ds.length = ts.length := by
      intro ts
      induction ts with
      | nil => intro vs ds ps h; obtain ⟨_, rfl, _⟩ := trodAll_nil h; rfl
      | cons t ts ih => intro vs ds ps h; obtain ⟨v, vs', d, ds', p, q, rfl, rfl, rfl, _, h2⟩ := trodAll_cons h; simp [ih _ _ _ h2]
    exact this _ _ _ _ hA
  have hs := hspec ds hlen
  refine ⟨_, rfl, ds, [], _, [], p, [], hW', ?_, ?_, ?_, bel.frame _, fun h => by cases h⟩
  · rw [List.append_nil, hs, hres]
    exact trodAll_mk1 (shut_bool hrt _)
  · rw [List.append_nil, hs]
    exact args_back hl bel _ _ _ _ (fun t ht => (hgd t ht).2) (fun x hx => by simpa using hW'.lt x (by simpa using hx)) hA
  · rw [hvars, List.append_nil, hs]; rfl
theorem held_texts {P : Program} {W : World} {name : String} {g t n e : Nat} {ss : List ByteArray} {rest : List (String × DataW Unit)} (hg : P.globalNamed name = some g) (ht : (P.globals[g]?).map (·.type) = some t) (hu : P.underlying t = some (.array n e))
    (he : P.underlying e = some .string) (hce : P.cellsOf e = 1) (hct : P.cellsOf t = n) (hn : ss.length = n) (h : laidMet P ((name, .agg (ss.map fun s => .lit (.string s.data.toList))) :: rest) W) : Held (immAll W) W g 0 (ss.map D.str) := by
  obtain ⟨ps, hlv, _, _⟩ := h
  obtain ⟨g', t', cs, fuel, p, q, hg', ht', hv, hd, _, _⟩ := hlv
  obtain rfl := Option.some.inj (hg.symm.trans hg')
  obtain rfl := Option.some.inj (ht.symm.trans ht')
  obtain ⟨xs, m, _, ex, hlen, hl, hel⟩ := DataW.trod_array hu hd
  have e1 := (DataW.agg.inj (Prod.mk.inj ex).1)
  have hsz : g < W.heap.size := by
    simp only [World.var?, hg, Option.bind_some] at hv
    rcases Nat.lt_or_ge g W.heap.size with h | h
    · exact h
    · have : W.heap[g]? = none := by simp [h]
      rw [this] at hv; simp at hv
  have hcell : ∀ i (hi : i < ss.length), W.cell? ⟨g, i, none⟩ = some (.string ss[i]) := fun i hi => by
    have hx := hel i (by omega)
    have hi' : i < xs.length := by omega
    rw [List.getElem?_eq_getElem hi', hce, Nat.mul_one] at hx
    obtain ⟨s, h1, h2, _⟩ := DataW.trod_string he hx
    have h3 : (xs.map (·.1))[i]? = (ss.map fun s => (DataW.lit (.string s.data.toList) : DataW Unit))[i]? := by rw [e1]
    rw [List.getElem?_map, List.getElem?_map, List.getElem?_eq_getElem hi', List.getElem?_eq_getElem hi, h2] at h3
    simp only [Option.map_some, Option.some.injEq, DataW.lit.injEq, Lit.string.injEq] at h3
    have hs : s = ss[i] := by
      have : s.data = ss[i].data := Array.ext' h3
      cases s; cases hh : ss[i]; rw [hh] at this; cases this; rfl
    rw [World.var?_cell hg hv i, ← hs]
    have h4 : (cs.toList.drop i)[0]? = some (.string s) := by
      have : ((cs.toList.drop i).take 1)[0]? = some (Value.string s) := by rw [h1]; rfl
      simpa [List.getElem?_take] using this
    simpa using h4
  have key : ∀ (l : List ByteArray) (o : Nat), (∀ i (hi : i < l.length), W.cell? ⟨g, o + i, none⟩ = some (.string l[i])) → Held (immAll W) W g o (l.map D.str) := by
    intro l
    induction l with
    | nil => intro o _; simp [Held]
    | cons s r ih =>
      intro o hc
      simp only [List.map_cons, Held]
      refine ⟨⟨.string s, hc 0 (by simp), hsz, trivial, by simp [RelD]⟩, ih (o + 1) fun i hi => ?_⟩
      have := hc (i + 1) (by simp; omega)
      rw [show o + 1 + i = o + (i + 1) by omega]; simpa using this
  exact key ss 0 fun i hi => by simpa using hcell i hi
theorem laidMet_tail {P : Program} {W : World} {x : String × DataW Unit} {rest : List (String × DataW Unit)} (h : laidMet P (x :: rest) W) : laidMet P rest W := by
  obtain ⟨ps, ⟨g, t, cs, fuel, p, q, _, _, _, _, hr, rfl⟩, hn, hh⟩ := h
  exact ⟨q, hr, (List.nodup_append.1 hn).2.1, fun b off hm => hh b off (List.mem_append_right _ hm)⟩
theorem held_ints {P : Program} {W : World} {name : String} {g t n e : Nat} {k : IntKind} {zs : List Int} {rest : List (String × DataW Unit)} (hg : P.globalNamed name = some g) (ht : (P.globals[g]?).map (·.type) = some t) (hu : P.underlying t = some (.array n e))
    (he : P.underlying e = some (.int k)) (hce : P.cellsOf e = 1) (hct : P.cellsOf t = n) (hn : zs.length = n) (h : laidMet P ((name, .agg (zs.map fun z => .lit (.int k z))) :: rest) W) : ∃ vs e' fr, W.heap[g]? = some (.cells vs e' fr) ∧ vs = (zs.map (Value.int k)).toArray := by
  obtain ⟨ps, hlv, _, _⟩ := h
  obtain ⟨g', t', cs, fuel, p, q, hg', ht', hv, hd, _, _⟩ := hlv
  obtain rfl := Option.some.inj (hg.symm.trans hg')
  obtain rfl := Option.some.inj (ht.symm.trans ht')
  obtain ⟨xs, m, _, ex, hlen, hl, hel⟩ := DataW.trod_array hu hd
  have e1 := (DataW.agg.inj (Prod.mk.inj ex).1)
  have hcs : cs = (zs.map (Value.int k)).toArray := by
    apply Array.ext'
    rw [List.toList_toArray]
    apply List.ext_getElem
    · rw [hlen, hct, List.length_map, hn]
    · intro i h1 h2
      have hi : i < n := by rw [hlen, hct] at h1; exact h1
      have hx := hel i hi
      have hi' : i < xs.length := by omega
      rw [List.getElem?_eq_getElem hi', hce, Nat.mul_one] at hx
      obtain ⟨z, h3, h4, _⟩ := DataW.trod_int he hx
      have h5 : (xs.map (·.1))[i]? = (zs.map fun z => (DataW.lit (.int k z) : DataW Unit))[i]? := by rw [e1]
      rw [List.getElem?_map, List.getElem?_map, List.getElem?_eq_getElem hi', List.getElem?_eq_getElem (show i < zs.length by omega), h4] at h5
      simp only [Option.map_some, Option.some.injEq, DataW.lit.injEq, Lit.int.injEq, true_and] at h5
      have h6 : (cs.toList.drop i)[0]? = some (.int k z) := by
        have : ((cs.toList.drop i).take 1)[0]? = some (Value.int k z) := by rw [h3]; rfl
        simpa [List.getElem?_take] using this
      have h7 : cs.toList[i]? = some (.int k z) := by simpa using h6
      rw [List.getElem?_eq_getElem h1] at h7
      rw [Option.some.inj h7, h5, List.getElem_map]
  refine ?_
  simp only [World.var?, hg, Option.bind_some] at hv
  split at hv
  · rename_i cs' e' fr hh
    cases hv
    exact ⟨_, e', fr, hh, hcs⟩
  · cases hv
end Go.Proofs.YtkipngagfiaddaaDoor.Den

namespace Go.Proofs.YtkipngagfiaddaaDoor.Den
open Go Go.Proofs
open Go.Proofs.YtkipngagfiaddaaDoor (Rows.laid_math_bits_deBruijn32tab Rows.laid_math_bits_deBruijn64tab Rows.laid_internal_strconv_uint64pow10 Rows.laid_rudder_trip_names Rows.laid_rudder_ring_kinds)
set_option maxRecDepth 100000
set_option linter.unusedVariables false
theorem own : ownKnob Tryd.prog.godebug = none := by kernel_rfl
theorem laidOut : laidOutB Tryd.prog = true := by kernel_rfl
theorem mixed : Tryd.prog.follows .mixedOrders = true := by kernel_rfl
theorem envOK : EnvOK Tryd.prog E0 := ⟨e0_cf, ext_ok rfl e0_x e0_w, e0_del⟩
theorem gl_only {g : Nat} {cs : List D} (h : E0.gl g = some cs) : (g = 1 ∧ cs = gls1.map D.str) ∨ (g = 2 ∧ cs = gls2.map D.str) := by
  have e : E0.gl g = (match Nat.beq g 1 with | true => some (gls1.map D.str) | false => match Nat.beq g 2 with | true => some (gls2.map D.str) | false => none) := rfl
  rw [e] at h
  split at h
  · rename_i hb
    exact .inl ⟨Nat.eq_of_beq_eq_true hb, (Option.some.inj h).symm⟩
  · split at h
    · rename_i hb
      exact .inr ⟨Nat.eq_of_beq_eq_true hb, (Option.some.inj h).symm⟩
    · cases h
theorem pow_eq : (Rows.laid_internal_strconv_uint64pow10 : DataW Unit) = .agg (((List.range 20).map fun i => ((10 ^ i : Nat) : Int)).map fun z => .lit (.int .u64 z)) := by kernel_rfl
theorem glOK (w : World) (h : laidMetH Tryd.prog [("math/bits.deBruijn32tab", Rows.laid_math_bits_deBruijn32tab), ("math/bits.deBruijn64tab", Rows.laid_math_bits_deBruijn64tab), ("internal/strconv.uint64pow10", Rows.laid_internal_strconv_uint64pow10), ("rudder/trip.names", Rows.laid_rudder_trip_names), ("rudder/ring.kinds", Rows.laid_rudder_ring_kinds)] w) : GlOK E0 (cx0 w) := by
  rw [MakeChecks.laidMetH_plain _ _ _ (by kernel_rfl)] at h
  have h3 := laidMet_tail (laidMet_tail h)
  have h4 := laidMet_tail h3
  refine ⟨fun g cs hg => ?_, fun p hp => ?_⟩
  · rcases gl_only hg with ⟨rfl, rfl⟩ | ⟨rfl, rfl⟩
    · have h' : laidMet Tryd.prog (("rudder/ring.kinds", .agg (gls1.map fun s => .lit (.string s.data.toList))) :: []) w := laidMet_tail h4
      have hh := held_texts (g := 1) (t := 88) (n := 3) (e := 9) (by kernel_rfl) (by kernel_rfl) Tryd.underlying88 Tryd.underlying9 (by kernel_rfl) (by kernel_rfl) rfl h'
      simp only [RelD]
      exact ⟨1, 0, rfl, hh⟩
    · have h' : laidMet Tryd.prog (("rudder/trip.names", .agg (gls2.map fun s => .lit (.string s.data.toList))) :: [("rudder/ring.kinds", Rows.laid_rudder_ring_kinds)]) w := h4
      have hh := held_texts (g := 2) (t := 100) (n := 6) (e := 9) (by kernel_rfl) (by kernel_rfl) Tryd.underlying100 Tryd.underlying9 (by kernel_rfl) (by kernel_rfl) rfl h'
      simp only [RelD]
      exact ⟨2, 0, rfl, hh⟩
  · have hp' : p = (3, isPow) := by
      have : p ∈ [((3 : Nat), isPow)] := hp
      simpa using this
    subst hp'
    rw [pow_eq] at h3
    obtain ⟨vs, e, fr, h5, h6⟩ := held_ints (g := 3) (t := 123) (n := 20) (e := 99) (k := .u64) (by kernel_rfl) (by kernel_rfl) Tryd.underlying123 Tryd.underlying99 (by kernel_rfl) (by kernel_rfl) (by simp) h3
    refine ⟨⟨vs, e, fr, h5, ?_⟩, fun id h => by cases h⟩
    show isPow vs
    unfold isPow
    rw [h6, List.map_map]; rfl
end Go.Proofs.YtkipngagfiaddaaDoor.Den

namespace Go.Proofs.YtkipngagfiaddaaDoor.Den
open Go Go.Proofs Go.ChangeShapes Go.WideShapes Go.ChangeAt Go.RowKit
open Go.Proofs.YtkipngagfiaddaaDoor (Rows.ringPlaysSpec Rows.ringPlaysRow Rows.RingPlaysSaid Rows.RingPlaysCardSaid Rows.ringPlaysCard ringPlays_row_tie Rows.laid_math_bits_deBruijn32tab Rows.laid_math_bits_deBruijn64tab Rows.laid_internal_strconv_uint64pow10 Rows.laid_rudder_trip_names Rows.laid_rudder_ring_kinds)
set_option maxRecDepth 100000
set_option linter.unusedSimpArgs false
set_option linter.unusedVariables false
theorem row8 (rs : List (List D)) (h : TyAll Tryd.prog 20 Tryd.f8.params.toList rs) : ∃ k m', callD E0 k 8 (argsV Tryd.prog Tryd.f8.params.toList rs) [] = some ([.d (.bool true)], m') := by
  rw [Tryd.params8] at h ⊢
  simp only [TyAll] at h
  obtain ⟨_, _, rfl, q0, rfl⟩ := h
  have k0 := flatK_ok 20 _ _ _ (show flatK Tryd.prog 20 53 = some [.l 58] by kernel_rfl) q0
  simp only [CellsK, CellK] at k0
  obtain ⟨d0_0, _, rfl, y0_0, rfl⟩ := k0
  obtain ⟨n0_0, a0_0, rfl, v0_0⟩ : ∃ n l, d0_0 = slD enc_R_i64_i64_i64_i64_i64 true 5 n l ∧ (l.length ≤ maxLen ∧ l.length * 40 ≤ 140737488351232 ∧ ∀ z ∈ l, WfI .i64 z.c0 ∧ WfI .i64 z.c1 ∧ WfI .i64 z.c2 ∧ WfI .i64 z.c3 ∧ WfI .i64 z.c4 ∧ True) := by
    rcases y0_0 with rfl | ⟨rows1, rfl, hl1, hb1, m1, hr1⟩
    · exact ⟨true, [], rfl, by simp [maxLen], by simp, fun z hz => by simp at hz⟩
    · obtain ⟨l2, rfl, hw2⟩ : ∃ l : List R_i64_i64_i64_i64_i64, rows1 = l.map enc_R_i64_i64_i64_i64_i64 ∧ ∀ z ∈ l, WfI .i64 z.c0 ∧ WfI .i64 z.c1 ∧ WfI .i64 z.c2 ∧ WfI .i64 z.c3 ∧ WfI .i64 z.c4 ∧ True := rows_of (T := Ty Tryd.prog m1 58) (fun r hr => by
          have q := flatK_any (show flatK Tryd.prog 20 58 = some [.i .i64, .i .i64, .i .i64, .i .i64, .i .i64] by kernel_rfl) hr
          simp only [CellsK, CellK] at q
          obtain ⟨_, _, rfl, ⟨b0, rfl, w0⟩, _, _, rfl, ⟨b1, rfl, w1⟩, _, _, rfl, ⟨b2, rfl, w2⟩, _, _, rfl, ⟨b3, rfl, w3⟩, _, _, rfl, ⟨b4, rfl, w4⟩, rfl⟩ := q
          exact ⟨⟨b0, b1, b2, b3, b4⟩, rfl, ⟨w0, w1, w2, w3, w4, trivial⟩⟩) rows1 hr1
      rw [List.length_map, show Tryd.prog.bytesOf 58 = 40 by kernel_rfl] at hb1
      rw [show isFlat Tryd.prog 58 = true by kernel_rfl, show Tryd.prog.cellsOf 58 = 5 by kernel_rfl]
      exact ⟨false, l2, slD_rs _ _ _ _, by simpa using hl1, hb1, hw2⟩
  simp only [argsV, argV, Tryd.underlying53, List.map_cons, List.map_nil]
  obtain ⟨g1, g2⟩ := pure_RingPlays n0_0 a0_0 v0_0
  have hc := law17_RingPlays_t0 n0_0 a0_0 g1
  rw [g2] at hc
  obtain ⟨k, hk⟩ := of_cl hc
  exact ⟨k, _, hk⟩
theorem ringPlays_lifted (os : Os) (started : os.Started) (H : Type) (enc : TypeId × Value → H) :
    ReturnsInHanded {} Tryd.checked os 8 .any (fun w args => (Rows.ringPlaysSpec.pre enc Tryd.prog Tryd.f8 [] false w args ∧ laidMetH Tryd.prog [("math/bits.deBruijn32tab", Rows.laid_math_bits_deBruijn32tab), ("math/bits.deBruijn64tab", Rows.laid_math_bits_deBruijn64tab), ("internal/strconv.uint64pow10", Rows.laid_internal_strconv_uint64pow10), ("rudder/trip.names", Rows.laid_rudder_trip_names), ("rudder/ring.kinds", Rows.laid_rudder_ring_kinds)] w) ∧ sizedMet enc Tryd.prog Tryd.f8 (OpenSpec.ofChange Rows.ringPlaysSpec) false w args) (Rows.ringPlaysSpec.post enc Tryd.prog Tryd.f8 false true false false) :=
  law_laid (C := Tryd.checked) (fn := Tryd.f8) mixed envOK glOK own started (by kernel_rfl) Tryd.func8 laidOut
    (ChangeSpec.witness_at (enc := enc) (C := Tryd.checked) (os := os) (X := fun w _ => laidMetH Tryd.prog [("math/bits.deBruijn32tab", Rows.laid_math_bits_deBruijn32tab), ("math/bits.deBruijn64tab", Rows.laid_math_bits_deBruijn64tab), ("internal/strconv.uint64pow10", Rows.laid_internal_strconv_uint64pow10), ("rudder/trip.names", Rows.laid_rudder_trip_names), ("rudder/ring.kinds", Rows.laid_rudder_ring_kinds)] w) false (World.laidAll Tryd.prog os [("math/bits.deBruijn32tab", Rows.laid_math_bits_deBruijn32tab), ("math/bits.deBruijn64tab", Rows.laid_math_bits_deBruijn64tab), ("internal/strconv.uint64pow10", Rows.laid_internal_strconv_uint64pow10), ("rudder/trip.names", Rows.laid_rudder_trip_names), ("rudder/ring.kinds", Rows.laid_rudder_ring_kinds)]) #[.slice none 0 0] 8 (World.laidAll_os _ _ _) (by kernel_rfl) (by kernel_rfl) (by kernel_rfl) (by kernel_rfl) (by kernel_rfl)
      (by rw [MakeChecks.laidMetH_plain _ _ _ (by kernel_rfl)]; exact laidMet_laidAll _ (by kernel_rfl) (by kernel_rfl)))
    (by kernel_rfl) (rt := 4) rfl Tryd.underlying4 rfl
    (fun ds h => by
      match ds, h with
      | [_], _ => rfl)
    row8
theorem ringPlays_row : Rows.RingPlaysSaid :=
  OpenClaim.holds_of_wide 8 Tryd.f8 rfl rfl rfl rfl rfl rfl rfl ⟨rfl, rfl, rfl, rfl, rfl⟩ rfl rfl rfl rfl rfl (by kernel_rfl) Tryd.func8 (by kernel_rfl)
    (of_decide_eq_true (by kernel_rfl)) (by unfold Func.isWrapper; first | (rw [if_pos (by decide +kernel)]; kernel_rfl) | (rw [if_neg (by decide +kernel)]; exact ⟨rfl, rfl⟩))
    (fun os started H enc _ => ringPlays_lifted os started H enc)
theorem ringPlays_holds : Rows.RingPlaysCardSaid :=
  Claim7.holds_tied_plain_at .later [] [.data, .data, .data, .data, .data] true (true, "de0f8e2e583c2ca3011efa0872d658fafa250bb71daf0ce9d9802f694a3174c7") false ringPlays_row (fun _ h => by cases h) (by kernel_rfl) (fun _ h => by cases h) ringPlays_row_tie rfl ⟨rfl, rfl⟩ (by kernel_rfl) rfl
    (fun f fn hf hfn => by
      obtain rfl : f = 8 := Option.some.inj ((show Tryd.prog.funcNamed "rudder/rudderlaw17.RingPlays" = some 8 by kernel_rfl).symm.trans hf) |>.symm
      obtain rfl : fn = Tryd.f8 := (Option.some.inj (Tryd.func8.symm.trans hfn)).symm
      exact ⟨by kernel_rfl, fun j t ht => by
        rw [Tryd.params8] at ht
        have hm : t ∈ [53] := by simpa using Array.mem_of_getElem? ht
        have hall : ([53].all fun u => !Tryd.prog.wantsStandIn u) = true := by kernel_rfl
        exact (show Tryd.prog.wantsStandIn t = false by simpa using List.all_eq_true.1 hall t hm)⟩)
    (by kernel_rfl)
end Go.Proofs.YtkipngagfiaddaaDoor.Den
