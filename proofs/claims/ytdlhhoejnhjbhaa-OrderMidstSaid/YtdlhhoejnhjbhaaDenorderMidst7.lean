/- OrderMidst: part 7 of what its proof rests on: an evaluator of the program's code, proved sound; plain functions printed from the code by a program of this session, with proofs; plain laws. No condition. -/
import Derived.Test.YtdlhhoejnhjbhaaDenorderMidst6
import Derived.Test.YtdlhhoejnhjbhaaRows

namespace Go.Proofs.Ytdlhhoejnhjbhaa.Den
open Go Go.Proofs
set_option maxRecDepth 100000
set_option maxHeartbeats 4000000
set_option linter.unusedVariables false
set_option linter.unusedSimpArgs false

def law02_OrderMidst_S0_c0 (x1 : List Int) (x2 : Int) : Bool := (bif tb (decide ((([] : List Int).length + x1.length) * 8 ≤ 140737488355328)) then (bif tb (decide ((x1.length + [x2].length) * 8 ≤ 140737488355328)) then (bif tb (ref02_Right_o_c0 (x1 ++ [x2])) then true else false) else false) else false)

theorem law02_OrderMidst_S0_t0 (x0 : Bool) (x1 : List Int) (x2 : Int) (x3 : Int) : law02_OrderMidst_S0_c0 x1 x2 = true → segG (runC E0 (cl E0) S5_0) [0, 1, 2] [] [0, 1, 2, 7] 0 ([(V.d (slD (encI .i64) true 1 x0 x1)), (V.d (.int .i64 x2)), (V.d (.int .u8 x3))], []) = some (.normal, ([(V.d (slD (encI .i64) true 1 x0 x1)), (V.d (.int .i64 x2)), (V.d (.int .u8 x3)), (V.d (.bool (ref02_Right_o_r0_0 (x1 ++ [x2]))))], [])) := by
  unfold law02_OrderMidst_S0_c0
  cases h1 : tb (decide ((([] : List Int).length + x1.length) * 8 ≤ 140737488355328))
  · intro g0
    exact absurd g0 ft
  · cases h2 : tb (decide ((x1.length + [x2].length) * 8 ≤ 140737488355328))
    · intro g0
      exact absurd g0 ft
    · cases h3 : tb (ref02_Right_o_c0 (x1 ++ [x2]))
      · intro g0
        exact absurd g0 ft
      · intro g0
        exact seg_walk [.m 23 (o_app_sf (m := [(Blk.flat 3 1 [] false)]) (enc := (encI .i64)) (l0 := ([] : List Int)) (l1 := x1) (id := 0) (e := 3) (s := 1) (bytes := 8) (x := (V.d (slD (encI .i64) true 1 x0 x1))) (n := 0) (by kernel_rfl) (by kernel_rfl) flatRowsOf_os sizeOk_os (tbE h1)), .m 26 (o_app_sf (m := [(Blk.flat 3 1 (List.map (encI .i64) x1) false), (Blk.flat 3 1 [[(.int .i64 x2)]] false)]) (enc := (encI .i64)) (l0 := x1) (l1 := [x2]) (id := 0) (e := 3) (s := 1) (bytes := 8) (x := (V.so false 1 1)) (n := x1.length) (Nat.beq_refl _) (by kernel_rfl) (by kernel_rfl) (by kernel_rfl) (tbE h2)), .y (mm := [(Blk.flat 3 1 (List.map (encI .i64) (x1 ++ [x2])) false), (Blk.flat 3 1 [[(.int .i64 x2)]] false)]) (args := [(V.so false 0 ((x1 ++ [x2]).length))]) (args1 := [(V.d (.rs true 1 (List.map (encI .i64) (x1 ++ [x2])) false))]) (byvals_cons (byval_so (enc := (encI .i64)) (l := (x1 ++ [x2])) (b := false) (e := 3) (s := 1) (p := false) (n := ((x1 ++ [x2]).length)) (Nat.beq_refl _) (by kernel_rfl)) (by kernel_rfl)), .c (ref02_Right_o_t0 false (x1 ++ [x2]) (tbE h3))] (by kernel_rfl)

def law02_OrderMidst_S1_c0 (x1 : List Int) (x4 : Bool) : Bool := (bif tb (x4) then (bif tb (decide (((x1.length : Nat) : Int) < 1)) then true else (bif tb (decide (4 < ((x1.length : Nat) : Int))) then true else false)) else true)

theorem law02_OrderMidst_S1_t0 (x0 : Bool) (x1 : List Int) (x2 : Int) (x3 : Int) (x4 : Bool) : law02_OrderMidst_S1_c0 x1 x4 = true → segG (runC E0 (cl E0) S5_1) [0, 1, 2, 7] [6] [0, 1, 2] 0 ([(V.d (slD (encI .i64) true 1 x0 x1)), (V.d (.int .i64 x2)), (V.d (.int .u8 x3)), (V.d (.bool x4))], []) = some (.ret, ([(V.d (.bool true))], [])) := by
  unfold law02_OrderMidst_S1_c0
  cases h1 : tb (x4)
  · intro g0
    exact seg_walk [.b (notF (tbE h1)), .c (law02_alive_t0)] (by kernel_rfl)
  · cases h2 : tb (decide (((x1.length : Nat) : Int) < 1))
    · cases h3 : tb (decide (4 < ((x1.length : Nat) : Int)))
      · intro g0
        exact absurd g0 ft
      · intro g0
        exact seg_walk [.b (notT (tbE h1)), .o 32 (fun _ => o_len_os (enc := (encI .i64)) (l := x1) (fl := true) (n := x0) (s := 1)), .b (tbE h2), .o 37 (fun _ => o_len_os (enc := (encI .i64)) (l := x1) (fl := true) (n := x0) (s := 1)), .b (tbE h3), .c (law02_alive_t0)] (by kernel_rfl)
    · intro g0
      exact seg_walk [.b (notT (tbE h1)), .o 32 (fun _ => o_len_os (enc := (encI .i64)) (l := x1) (fl := true) (n := x0) (s := 1)), .b (tbE h2), .c (law02_alive_t0)] (by kernel_rfl)

theorem law02_OrderMidst_S1_t1 (x0 : Bool) (x1 : List Int) (x2 : Int) (x3 : Int) (x4 : Bool) : law02_OrderMidst_S1_c0 x1 x4 = false → segG (runC E0 (cl E0) S5_1) [0, 1, 2, 7] [6] [0, 1, 2] 0 ([(V.d (slD (encI .i64) true 1 x0 x1)), (V.d (.int .i64 x2)), (V.d (.int .u8 x3)), (V.d (.bool x4))], []) = some (.normal, ([(V.d (slD (encI .i64) true 1 x0 x1)), (V.d (.int .i64 x2)), (V.d (.int .u8 x3))], [])) := by
  unfold law02_OrderMidst_S1_c0
  cases h1 : tb (x4)
  · intro g0
    exact absurd g0 tf
  · cases h2 : tb (decide (((x1.length : Nat) : Int) < 1))
    · cases h3 : tb (decide (4 < ((x1.length : Nat) : Int)))
      · intro g0
        exact seg_walk [.b (notT (tbE h1)), .o 32 (fun _ => o_len_os (enc := (encI .i64)) (l := x1) (fl := true) (n := x0) (s := 1)), .b (tbE h2), .o 37 (fun _ => o_len_os (enc := (encI .i64)) (l := x1) (fl := true) (n := x0) (s := 1)), .b (tbE h3)] (by kernel_rfl)
      · intro g0
        exact absurd g0 tf
    · intro g0
      exact absurd g0 tf

def law02_OrderMidst_S2_r0_5 (x5 : List Int) : Bool := (bif tb ((((x5.length : Nat) : Int) : Int) == 2) then true else ((((x5.length : Nat) : Int) : Int) == 3))

theorem law02_OrderMidst_S2_t0 (x0 : List Int) (x1 : List Int) (x2 : Bool) (x3 : Bool) (x4 : Bool) (x5 : List Int) (x6 : Int) (x7 : Nat) : segG (runC E0 (cl E0) S5_2) [0, 1, 8] [] [0, 1, 8, 121] 2 ([(V.d (slD (encI .i64) true 1 x4 x5)), (V.d (.int .i64 x6)), (V.so false 0 x7)], [(Blk.flat 3 1 (List.map (encI .i64) x0) x2), (Blk.flat 3 1 (List.map (encI .i64) x1) x3)]) = some (.normal, ([(V.d (slD (encI .i64) true 1 x4 x5)), (V.d (.int .i64 x6)), (V.so false 0 x7), (V.d (.bool (law02_OrderMidst_S2_r0_5 x5)))], [(Blk.flat 3 1 (List.map (encI .i64) x0) x2), (Blk.flat 3 1 (List.map (encI .i64) x1) x3)])) := by
  unfold law02_OrderMidst_S2_r0_5
  cases h1 : tb ((((x5.length : Nat) : Int) : Int) == 2)
  · exact seg_walk [.o 115 (fun _ => o_len_os (enc := (encI .i64)) (l := x5) (fl := true) (n := x4) (s := 1)), .b (tbE h1), .o 119 (fun _ => o_len_os (enc := (encI .i64)) (l := x5) (fl := true) (n := x4) (s := 1))] (by kernel_rfl)
  · exact seg_walk [.o 115 (fun _ => o_len_os (enc := (encI .i64)) (l := x5) (fl := true) (n := x4) (s := 1)), .b (tbE h1)] (by kernel_rfl)

def law02_OrderMidst_S3_c0 (x5 : List Int) (x6 : Int) : Bool := (bif tb (decide ((([] : List Int).length + x5.length) * 8 ≤ 140737488355328)) then (bif tb (decide ((x5.length + [x6].length) * 8 ≤ 140737488355328)) then (bif tb (order_Mid_o_c0 (x5 ++ [x6])) then true else false) else false) else false)

theorem law02_OrderMidst_S3_t0 (x0 : List Int) (x1 : List Int) (x2 : Bool) (x3 : Bool) (x4 : Bool) (x5 : List Int) (x6 : Int) (x7 : Nat) : law02_OrderMidst_S3_c0 x5 x6 = true → segG (runC E0 (cl E0) S5_3) [0, 1, 8] [] [0, 1, 8, 17, 18] 2 ([(V.d (slD (encI .i64) true 1 x4 x5)), (V.d (.int .i64 x6)), (V.so false 0 x7)], [(Blk.flat 3 1 (List.map (encI .i64) x0) x2), (Blk.flat 3 1 (List.map (encI .i64) x1) x3)]) = some (.normal, ([(V.d (slD (encI .i64) true 1 x4 x5)), (V.d (.int .i64 x6)), (V.so false 0 x7), (V.d (.int .i64 (order_Mid_o_r0_0 (x5 ++ [x6])))), (V.d (.bool (order_Mid_o_r0_1 (x5 ++ [x6]))))], [(Blk.flat 3 1 (List.map (encI .i64) x0) x2), (Blk.flat 3 1 (List.map (encI .i64) x1) x3)])) := by
  unfold law02_OrderMidst_S3_c0
  cases h1 : tb (decide ((([] : List Int).length + x5.length) * 8 ≤ 140737488355328))
  · intro g0
    exact absurd g0 ft
  · cases h2 : tb (decide ((x5.length + [x6].length) * 8 ≤ 140737488355328))
    · intro g0
      exact absurd g0 ft
    · cases h3 : tb (order_Mid_o_c0 (x5 ++ [x6]))
      · intro g0
        exact absurd g0 ft
      · intro g0
        exact seg_walk [.m 125 (o_app_sf (m := [(Blk.flat 3 1 (List.map (encI .i64) x0) x2), (Blk.flat 3 1 (List.map (encI .i64) x1) x3), (Blk.flat 3 1 [] false)]) (enc := (encI .i64)) (l0 := ([] : List Int)) (l1 := x5) (id := 2) (e := 3) (s := 1) (bytes := 8) (x := (V.d (slD (encI .i64) true 1 x4 x5))) (n := 0) (by kernel_rfl) (by kernel_rfl) flatRowsOf_os sizeOk_os (tbE h1)), .m 128 (o_app_sf (m := [(Blk.flat 3 1 (List.map (encI .i64) x0) x2), (Blk.flat 3 1 (List.map (encI .i64) x1) x3), (Blk.flat 3 1 (List.map (encI .i64) x5) false), (Blk.flat 3 1 [[(.int .i64 x6)]] false)]) (enc := (encI .i64)) (l0 := x5) (l1 := [x6]) (id := 2) (e := 3) (s := 1) (bytes := 8) (x := (V.so false 3 1)) (n := x5.length) (Nat.beq_refl _) (by kernel_rfl) (by kernel_rfl) (by kernel_rfl) (tbE h2)), .y (mm := [(Blk.flat 3 1 (List.map (encI .i64) x0) x2), (Blk.flat 3 1 (List.map (encI .i64) x1) x3), (Blk.flat 3 1 (List.map (encI .i64) (x5 ++ [x6])) false), (Blk.flat 3 1 [[(.int .i64 x6)]] false)]) (args := [(V.so false 2 ((x5 ++ [x6]).length))]) (args1 := [(V.d (.rs true 1 (List.map (encI .i64) (x5 ++ [x6])) false))]) (byvals_cons (byval_so (enc := (encI .i64)) (l := (x5 ++ [x6])) (b := false) (e := 3) (s := 1) (p := false) (n := ((x5 ++ [x6]).length)) (Nat.beq_refl _) (by kernel_rfl)) (by kernel_rfl)), .c (order_Mid_o_t0 false (x5 ++ [x6]) (tbE h3))] (by kernel_rfl)

def law02_OrderMidst_S4_c0 (x0 : List Int) (x7 : Nat) (x8 : Int) (x9 : Bool) : Bool := (bif tb (x9) then (bif tb (inb x7 0) then (bif tb (Nat.beq x7 x0.length) then (bif tb (decide (x8 < (gt x0 0))) then true else (bif tb (inb x7 (wi (((x7 : Nat) : Int) - 1))) then true else false)) else false) else false) else true)

def law02_OrderMidst_S4_r0_3 (x0 : List Int) (x7 : Nat) (x8 : Int) (x9 : Bool) : Bool := (bif tb (x9) then (bif tb (decide (x8 < (gt x0 0))) then true else (decide ((gt x0 (wi (((x7 : Nat) : Int) - 1))) < x8))) else true)

theorem law02_OrderMidst_S4_t0 (x0 : List Int) (x1 : List Int) (x2 : Bool) (x3 : Bool) (x4 : Bool) (x5 : List Int) (x6 : Int) (x7 : Nat) (x8 : Int) (x9 : Bool) : law02_OrderMidst_S4_c0 x0 x7 x8 x9 = true → segG (runC E0 (cl E0) S5_4) [0, 1, 8, 17, 18] [] [0, 1, 150] 2 ([(V.d (slD (encI .i64) true 1 x4 x5)), (V.d (.int .i64 x6)), (V.so false 0 x7), (V.d (.int .i64 x8)), (V.d (.bool x9))], [(Blk.flat 3 1 (List.map (encI .i64) x0) x2), (Blk.flat 3 1 (List.map (encI .i64) x1) x3)]) = some (.normal, ([(V.d (slD (encI .i64) true 1 x4 x5)), (V.d (.int .i64 x6)), (V.d (.bool (law02_OrderMidst_S4_r0_3 x0 x7 x8 x9)))], [(Blk.flat 3 1 (List.map (encI .i64) x0) x2), (Blk.flat 3 1 (List.map (encI .i64) x1) x3)])) := by
  unfold law02_OrderMidst_S4_c0 law02_OrderMidst_S4_r0_3
  cases h1 : tb (x9)
  · intro g0
    exact seg_walk [.b (notF (tbE h1))] (by kernel_rfl)
  · cases h2 : tb (inb x7 0)
    · intro g0
      exact absurd g0 ft
    · cases h3 : tb (Nat.beq x7 x0.length)
      · intro g0
        exact absurd g0 ft
      · cases h4 : tb (decide (x8 < (gt x0 0)))
        · cases h5 : tb (inb x7 (wi (((x7 : Nat) : Int) - 1)))
          · intro g0
            exact absurd g0 ft
          · intro g0
            exact seg_walk [.b (notT (tbE h1)), .m 137 (o_idx_so (m := [(Blk.flat 3 1 (List.map (encI .i64) x0) x2), (Blk.flat 3 1 (List.map (encI .i64) x1) x3)]) (b := false) (id := 0) (n := x7) (s := 1) (k := .i64) (by kernel_rfl) (tbE h2)), .m 138 (o_load_L (m := [(Blk.flat 3 1 (List.map (encI .i64) x0) x2), (Blk.flat 3 1 (List.map (encI .i64) x1) x3)]) (enc := (encI .i64)) (l := x0) (id := 0) (e := 3) (s := 1) (off := 0) (size := 1) (p := x2) (agg := false) (i := 0) (v := (V.d (.int .i64 (gt x0 0)))) (n := x7) (tbE h3) (by kernel_rfl) (tbE h2) (by kernel_rfl)), .b (tbE h4), .m 147 (o_idx_so (m := [(Blk.flat 3 1 (List.map (encI .i64) x0) x2), (Blk.flat 3 1 (List.map (encI .i64) x1) x3)]) (b := false) (id := 0) (n := x7) (s := 1) (k := .i64) (by kernel_rfl) (tbE h5)), .m 148 (o_load_L (m := [(Blk.flat 3 1 (List.map (encI .i64) x0) x2), (Blk.flat 3 1 (List.map (encI .i64) x1) x3)]) (enc := (encI .i64)) (l := x0) (id := 0) (e := 3) (s := 1) (off := 0) (size := 1) (p := x2) (agg := false) (i := (wi (((x7 : Nat) : Int) - 1))) (v := (V.d (.int .i64 (gt x0 (wi (((x7 : Nat) : Int) - 1)))))) (n := x7) (tbE h3) (by kernel_rfl) (tbE h5) (by kernel_rfl))] (by kernel_rfl)
        · intro g0
          exact seg_walk [.b (notT (tbE h1)), .m 137 (o_idx_so (m := [(Blk.flat 3 1 (List.map (encI .i64) x0) x2), (Blk.flat 3 1 (List.map (encI .i64) x1) x3)]) (b := false) (id := 0) (n := x7) (s := 1) (k := .i64) (by kernel_rfl) (tbE h2)), .m 138 (o_load_L (m := [(Blk.flat 3 1 (List.map (encI .i64) x0) x2), (Blk.flat 3 1 (List.map (encI .i64) x1) x3)]) (enc := (encI .i64)) (l := x0) (id := 0) (e := 3) (s := 1) (off := 0) (size := 1) (p := x2) (agg := false) (i := 0) (v := (V.d (.int .i64 (gt x0 0)))) (n := x7) (tbE h3) (by kernel_rfl) (tbE h2) (by kernel_rfl)), .b (tbE h4)] (by kernel_rfl)

def law02_OrderMidst_S5_e0 (x1 : List Int) : Int := gt (order_Sort_o_L2_r0_3 (order_Sort_o_e2 x1) (((order_Sort_o_e2 x1) : Nat) : Int) (order_Sort_o_S3_e0 (order_Sort_o_e0 x1) (order_Sort_o_e2 x1))) 0

def law02_OrderMidst_S5_e1 (x1 : List Int) : Int := gt (order_Sort_o_L2_r0_3 (order_Sort_o_e2 x1) (((order_Sort_o_e2 x1) : Nat) : Int) (order_Sort_o_S3_e0 (order_Sort_o_e0 x1) (order_Sort_o_e2 x1))) (wi ((((order_Sort_o_e2 x1) : Nat) : Int) - 1))

def law02_OrderMidst_S5_e2 (x1 : List Int) (x3 : Int) : List Int := sub x1 (remI .i64 (wi (x3)) ((x1.length : Nat) : Int)) ((x1.length : Nat) : Int)

def law02_OrderMidst_S5_e3 (x1 : List Int) (x3 : Int) : List Int := ((law02_OrderMidst_S5_e2 x1 x3) ++ (sub x1 0 (remI .i64 (wi (x3)) ((x1.length : Nat) : Int))))

def law02_OrderMidst_S5_e4 (x1 : List Int) : List Int := (order_Sort_o_L2_r0_3 (order_Sort_o_e2 x1) (((order_Sort_o_e2 x1) : Nat) : Int) (order_Sort_o_S3_e0 (order_Sort_o_e0 x1) (order_Sort_o_e2 x1)))

def law02_OrderMidst_S5_c0 (x1 : List Int) (x2 : Int) (x3 : Int) : Bool := (bif tb (order_Sort_o_c0 x1) then (bif tb (order_Mid_o_c0 x1) then (bif tb (((((order_Sort_o_e2 x1) : Nat) : Int) : Int) != ((x1.length : Nat) : Int)) then true else (bif tb (order_Mid_o_r0_1 x1) then (bif tb (inb (order_Sort_o_e2 x1) 0) then (bif tb (Nat.beq (order_Sort_o_e2 x1) (order_Sort_o_L2_r0_3 (order_Sort_o_e2 x1) (((order_Sort_o_e2 x1) : Nat) : Int) (order_Sort_o_S3_e0 (order_Sort_o_e0 x1) (order_Sort_o_e2 x1))).length) then (bif tb (decide ((order_Mid_o_r0_0 x1) < (law02_OrderMidst_S5_e0 x1))) then true else (bif tb (inb (order_Sort_o_e2 x1) (wi ((((order_Sort_o_e2 x1) : Nat) : Int) - 1))) then (bif tb (decide ((law02_OrderMidst_S5_e1 x1) < (order_Mid_o_r0_0 x1))) then true else (bif tb ((((x1.length : Nat) : Int) : Int) == 0) then false else (bif tb (ins x1.length (remI .i64 (wi (x3)) ((x1.length : Nat) : Int)) ((x1.length : Nat) : Int)) then (bif tb (decide ((([] : List Int).length + (law02_OrderMidst_S5_e2 x1 x3).length) * 8 ≤ 140737488355328)) then (bif tb (ins x1.length 0 (remI .i64 (wi (x3)) ((x1.length : Nat) : Int))) then (bif tb (decide (((law02_OrderMidst_S5_e2 x1 x3).length + (sub x1 0 (remI .i64 (wi (x3)) ((x1.length : Nat) : Int))).length) * 8 ≤ 140737488355328)) then (bif tb (order_Mid_o_c0 (law02_OrderMidst_S5_e3 x1 x3)) then (bif tb (order_Mid_o_c0 (law02_OrderMidst_S5_e4 x1)) then (bif tb (order_Mid_o_r0_1 (law02_OrderMidst_S5_e3 x1 x3)) then (bif tb (order_Mid_o_r0_1 (law02_OrderMidst_S5_e4 x1)) then (bif tb (((order_Mid_o_r0_0 (law02_OrderMidst_S5_e3 x1 x3)) : Int) != (order_Mid_o_r0_0 x1)) then true else (bif tb (((order_Mid_o_r0_0 (law02_OrderMidst_S5_e4 x1)) : Int) != (order_Mid_o_r0_0 x1)) then true else (bif tb (law02_OrderMidst_S2_r0_5 x1) then (bif tb (law02_OrderMidst_S3_c0 x1 x2) then (bif tb (law02_OrderMidst_S4_c0 (law02_OrderMidst_S5_e4 x1) (order_Sort_o_e2 x1) (order_Mid_o_r0_0 (x1 ++ [x2])) (order_Mid_o_r0_1 (x1 ++ [x2]))) then (bif tb (law02_OrderMidst_S4_r0_3 (law02_OrderMidst_S5_e4 x1) (order_Sort_o_e2 x1) (order_Mid_o_r0_0 (x1 ++ [x2])) (order_Mid_o_r0_1 (x1 ++ [x2]))) then true else false) else false) else false) else false))) else true) else true) else false) else false) else false) else false) else false) else false))) else false)) else false) else false) else true)) else false) else (bif tb (order_Sort_o_c1 x1) then (bif tb (order_Mid_o_c0 x1) then (bif tb ((0 : Int) != ((x1.length : Nat) : Int)) then true else (bif tb (order_Mid_o_r0_1 x1) then false else true)) else false) else false))

def law02_OrderMidst_S5_c1 (x1 : List Int) (x2 : Int) (x3 : Int) : Bool := (bif tb (order_Sort_o_c0 x1) then (bif tb (order_Mid_o_c0 x1) then (bif tb (((((order_Sort_o_e2 x1) : Nat) : Int) : Int) != ((x1.length : Nat) : Int)) then false else (bif tb (order_Mid_o_r0_1 x1) then (bif tb (inb (order_Sort_o_e2 x1) 0) then (bif tb (Nat.beq (order_Sort_o_e2 x1) (order_Sort_o_L2_r0_3 (order_Sort_o_e2 x1) (((order_Sort_o_e2 x1) : Nat) : Int) (order_Sort_o_S3_e0 (order_Sort_o_e0 x1) (order_Sort_o_e2 x1))).length) then (bif tb (decide ((order_Mid_o_r0_0 x1) < (law02_OrderMidst_S5_e0 x1))) then false else (bif tb (inb (order_Sort_o_e2 x1) (wi ((((order_Sort_o_e2 x1) : Nat) : Int) - 1))) then (bif tb (decide ((law02_OrderMidst_S5_e1 x1) < (order_Mid_o_r0_0 x1))) then false else (bif tb ((((x1.length : Nat) : Int) : Int) == 0) then false else (bif tb (ins x1.length (remI .i64 (wi (x3)) ((x1.length : Nat) : Int)) ((x1.length : Nat) : Int)) then (bif tb (decide ((([] : List Int).length + (law02_OrderMidst_S5_e2 x1 x3).length) * 8 ≤ 140737488355328)) then (bif tb (ins x1.length 0 (remI .i64 (wi (x3)) ((x1.length : Nat) : Int))) then (bif tb (decide (((law02_OrderMidst_S5_e2 x1 x3).length + (sub x1 0 (remI .i64 (wi (x3)) ((x1.length : Nat) : Int))).length) * 8 ≤ 140737488355328)) then (bif tb (order_Mid_o_c0 (law02_OrderMidst_S5_e3 x1 x3)) then (bif tb (order_Mid_o_c0 (law02_OrderMidst_S5_e4 x1)) then (bif tb (order_Mid_o_r0_1 (law02_OrderMidst_S5_e3 x1 x3)) then (bif tb (order_Mid_o_r0_1 (law02_OrderMidst_S5_e4 x1)) then (bif tb (((order_Mid_o_r0_0 (law02_OrderMidst_S5_e3 x1 x3)) : Int) != (order_Mid_o_r0_0 x1)) then false else (bif tb (((order_Mid_o_r0_0 (law02_OrderMidst_S5_e4 x1)) : Int) != (order_Mid_o_r0_0 x1)) then false else (bif tb (law02_OrderMidst_S2_r0_5 x1) then (bif tb (law02_OrderMidst_S3_c0 x1 x2) then (bif tb (law02_OrderMidst_S4_c0 (law02_OrderMidst_S5_e4 x1) (order_Sort_o_e2 x1) (order_Mid_o_r0_0 (x1 ++ [x2])) (order_Mid_o_r0_1 (x1 ++ [x2]))) then (bif tb (law02_OrderMidst_S4_r0_3 (law02_OrderMidst_S5_e4 x1) (order_Sort_o_e2 x1) (order_Mid_o_r0_0 (x1 ++ [x2])) (order_Mid_o_r0_1 (x1 ++ [x2]))) then false else true) else false) else false) else true))) else false) else false) else false) else false) else false) else false) else false) else false))) else false)) else false) else false) else false)) else false) else false)

theorem law02_OrderMidst_S5_t0 (x0 : Bool) (x1 : List Int) (x2 : Int) (x3 : Int) : law02_OrderMidst_S5_c0 x1 x2 x3 = true → segG (runC E0 (cl E0) S5_5) [0, 1, 2] [6] [0, 1] 0 ([(V.d (slD (encI .i64) true 1 x0 x1)), (V.d (.int .i64 x2)), (V.d (.int .u8 x3))], []) = some (.ret, ([(V.d (.bool false))], [])) := by
  unfold law02_OrderMidst_S5_c0
  cases h1 : tb (order_Sort_o_c0 x1)
  · cases h2 : tb (order_Sort_o_c1 x1)
    · intro g0
      exact absurd g0 ft
    · cases h3 : tb (order_Mid_o_c0 x1)
      · intro g0
        exact absurd g0 ft
      · cases h4 : tb ((0 : Int) != ((x1.length : Nat) : Int))
        · cases h5 : tb (order_Mid_o_r0_1 x1)
          · intro g0
            exact seg_walk [.c (order_Sort_o_t1 x0 x1 (tbE h1) (tbE h2)), .c (order_Mid_o_t0 x0 x1 (tbE h3)), .o 51 (fun _ => o_len_os (enc := (encI .i64)) (l := x1) (fl := true) (n := x0) (s := 1)), .b (tbE h4), .b (notF (tbE h5))] (by kernel_rfl)
          · intro g0
            exact absurd g0 ft
        · intro g0
          exact seg_walk [.c (order_Sort_o_t1 x0 x1 (tbE h1) (tbE h2)), .c (order_Mid_o_t0 x0 x1 (tbE h3)), .o 51 (fun _ => o_len_os (enc := (encI .i64)) (l := x1) (fl := true) (n := x0) (s := 1)), .b (tbE h4)] (by kernel_rfl)
  · cases h2 : tb (order_Mid_o_c0 x1)
    · intro g0
      exact absurd g0 ft
    · cases h3 : tb (((((order_Sort_o_e2 x1) : Nat) : Int) : Int) != ((x1.length : Nat) : Int))
      · cases h4 : tb (order_Mid_o_r0_1 x1)
        · intro g0
          exact seg_walk [.c (order_Sort_o_t0 x0 x1 (tbE h1)), .c (order_Mid_o_t0 x0 x1 (tbE h2)), .o 51 (fun _ => o_len_os (enc := (encI .i64)) (l := x1) (fl := true) (n := x0) (s := 1)), .b (tbE h3), .b (notF (tbE h4))] (by kernel_rfl)
        · cases h5 : tb (inb (order_Sort_o_e2 x1) 0)
          · intro g0
            exact absurd g0 ft
          · cases h6 : tb (Nat.beq (order_Sort_o_e2 x1) (order_Sort_o_L2_r0_3 (order_Sort_o_e2 x1) (((order_Sort_o_e2 x1) : Nat) : Int) (order_Sort_o_S3_e0 (order_Sort_o_e0 x1) (order_Sort_o_e2 x1))).length)
            · intro g0
              exact absurd g0 ft
            · cases h7 : tb (decide ((order_Mid_o_r0_0 x1) < (law02_OrderMidst_S5_e0 x1)))
              · cases h8 : tb (inb (order_Sort_o_e2 x1) (wi ((((order_Sort_o_e2 x1) : Nat) : Int) - 1)))
                · intro g0
                  exact absurd g0 ft
                · cases h9 : tb (decide ((law02_OrderMidst_S5_e1 x1) < (order_Mid_o_r0_0 x1)))
                  · cases h10 : tb ((((x1.length : Nat) : Int) : Int) == 0)
                    · cases h11 : tb (ins x1.length (remI .i64 (wi (x3)) ((x1.length : Nat) : Int)) ((x1.length : Nat) : Int))
                      · intro g0
                        exact absurd g0 ft
                      · cases h12 : tb (decide ((([] : List Int).length + (law02_OrderMidst_S5_e2 x1 x3).length) * 8 ≤ 140737488355328))
                        · intro g0
                          exact absurd g0 ft
                        · cases h13 : tb (ins x1.length 0 (remI .i64 (wi (x3)) ((x1.length : Nat) : Int)))
                          · intro g0
                            exact absurd g0 ft
                          · cases h14 : tb (decide (((law02_OrderMidst_S5_e2 x1 x3).length + (sub x1 0 (remI .i64 (wi (x3)) ((x1.length : Nat) : Int))).length) * 8 ≤ 140737488355328))
                            · intro g0
                              exact absurd g0 ft
                            · cases h15 : tb (order_Mid_o_c0 (law02_OrderMidst_S5_e3 x1 x3))
                              · intro g0
                                exact absurd g0 ft
                              · cases h16 : tb (order_Mid_o_c0 (law02_OrderMidst_S5_e4 x1))
                                · intro g0
                                  exact absurd g0 ft
                                · cases h17 : tb (order_Mid_o_r0_1 (law02_OrderMidst_S5_e3 x1 x3))
                                  · intro g0
                                    exact seg_walk [.c (order_Sort_o_t0 x0 x1 (tbE h1)), .c (order_Mid_o_t0 x0 x1 (tbE h2)), .o 51 (fun _ => o_len_os (enc := (encI .i64)) (l := x1) (fl := true) (n := x0) (s := 1)), .b (tbE h3), .b (notT (tbE h4)), .m 60 (o_idx_so (m := [(Blk.flat 3 1 (List.map (encI .i64) (order_Sort_o_L2_r0_3 (order_Sort_o_e2 x1) (((order_Sort_o_e2 x1) : Nat) : Int) (order_Sort_o_S3_e0 (order_Sort_o_e0 x1) (order_Sort_o_e2 x1)))) false)]) (b := false) (id := 0) (n := (order_Sort_o_e2 x1)) (s := 1) (k := .i64) (by kernel_rfl) (tbE h5)), .m 61 (o_load_L (m := [(Blk.flat 3 1 (List.map (encI .i64) (order_Sort_o_L2_r0_3 (order_Sort_o_e2 x1) (((order_Sort_o_e2 x1) : Nat) : Int) (order_Sort_o_S3_e0 (order_Sort_o_e0 x1) (order_Sort_o_e2 x1)))) false)]) (enc := (encI .i64)) (l := (order_Sort_o_L2_r0_3 (order_Sort_o_e2 x1) (((order_Sort_o_e2 x1) : Nat) : Int) (order_Sort_o_S3_e0 (order_Sort_o_e0 x1) (order_Sort_o_e2 x1)))) (id := 0) (e := 3) (s := 1) (off := 0) (size := 1) (p := false) (agg := false) (i := 0) (v := (V.d (.int .i64 (law02_OrderMidst_S5_e0 x1)))) (n := (order_Sort_o_e2 x1)) (tbE h6) (by kernel_rfl) (tbE h5) (by kernel_rfl)), .b (tbE h7), .m 70 (o_idx_so (m := [(Blk.flat 3 1 (List.map (encI .i64) (order_Sort_o_L2_r0_3 (order_Sort_o_e2 x1) (((order_Sort_o_e2 x1) : Nat) : Int) (order_Sort_o_S3_e0 (order_Sort_o_e0 x1) (order_Sort_o_e2 x1)))) false)]) (b := false) (id := 0) (n := (order_Sort_o_e2 x1)) (s := 1) (k := .i64) (by kernel_rfl) (tbE h8)), .m 71 (o_load_L (m := [(Blk.flat 3 1 (List.map (encI .i64) (order_Sort_o_L2_r0_3 (order_Sort_o_e2 x1) (((order_Sort_o_e2 x1) : Nat) : Int) (order_Sort_o_S3_e0 (order_Sort_o_e0 x1) (order_Sort_o_e2 x1)))) false)]) (enc := (encI .i64)) (l := (order_Sort_o_L2_r0_3 (order_Sort_o_e2 x1) (((order_Sort_o_e2 x1) : Nat) : Int) (order_Sort_o_S3_e0 (order_Sort_o_e0 x1) (order_Sort_o_e2 x1)))) (id := 0) (e := 3) (s := 1) (off := 0) (size := 1) (p := false) (agg := false) (i := (wi ((((order_Sort_o_e2 x1) : Nat) : Int) - 1))) (v := (V.d (.int .i64 (law02_OrderMidst_S5_e1 x1)))) (n := (order_Sort_o_e2 x1)) (tbE h6) (by kernel_rfl) (tbE h8) (by kernel_rfl)), .b (tbE h9), .o 77 (fun _ => o_len_os (enc := (encI .i64)) (l := x1) (fl := true) (n := x0) (s := 1)), .o 78 (fun _ => o_rem (k := .i64) (x := (wi (x3))) (y := ((x1.length : Nat) : Int)) (tbE h10)), .o 82 (fun _ => o_slice_os (enc := (encI .i64)) (l := x1) (fl := true) (n := x0) (s := 1) (some (.i64, (remI .i64 (wi (x3)) ((x1.length : Nat) : Int)))) none (tbE h11)), .m 83 (o_app_sf (m := [(Blk.flat 3 1 (List.map (encI .i64) (order_Sort_o_L2_r0_3 (order_Sort_o_e2 x1) (((order_Sort_o_e2 x1) : Nat) : Int) (order_Sort_o_S3_e0 (order_Sort_o_e0 x1) (order_Sort_o_e2 x1)))) false), (Blk.flat 3 1 [] false)]) (enc := (encI .i64)) (l0 := ([] : List Int)) (l1 := (law02_OrderMidst_S5_e2 x1 x3)) (id := 1) (e := 3) (s := 1) (bytes := 8) (x := (V.d (slD (encI .i64) true 1 (x0 && x1.isEmpty) (law02_OrderMidst_S5_e2 x1 x3)))) (n := 0) (by kernel_rfl) (by kernel_rfl) flatRowsOf_os sizeOk_os (tbE h12)), .o 86 (fun _ => o_slice_os (enc := (encI .i64)) (l := x1) (fl := true) (n := x0) (s := 1) none (some (.i64, (remI .i64 (wi (x3)) ((x1.length : Nat) : Int)))) (tbE h13)), .m 87 (o_app_sf (m := [(Blk.flat 3 1 (List.map (encI .i64) (order_Sort_o_L2_r0_3 (order_Sort_o_e2 x1) (((order_Sort_o_e2 x1) : Nat) : Int) (order_Sort_o_S3_e0 (order_Sort_o_e0 x1) (order_Sort_o_e2 x1)))) false), (Blk.flat 3 1 (List.map (encI .i64) (law02_OrderMidst_S5_e2 x1 x3)) false)]) (enc := (encI .i64)) (l0 := (law02_OrderMidst_S5_e2 x1 x3)) (l1 := (sub x1 0 (remI .i64 (wi (x3)) ((x1.length : Nat) : Int)))) (id := 1) (e := 3) (s := 1) (bytes := 8) (x := (V.d (slD (encI .i64) true 1 (x0 && x1.isEmpty) (sub x1 0 (remI .i64 (wi (x3)) ((x1.length : Nat) : Int)))))) (n := ((law02_OrderMidst_S5_e2 x1 x3).length)) (Nat.beq_refl _) (by kernel_rfl) flatRowsOf_os sizeOk_os (tbE h14)), .y (mm := [(Blk.flat 3 1 (List.map (encI .i64) (order_Sort_o_L2_r0_3 (order_Sort_o_e2 x1) (((order_Sort_o_e2 x1) : Nat) : Int) (order_Sort_o_S3_e0 (order_Sort_o_e0 x1) (order_Sort_o_e2 x1)))) false), (Blk.flat 3 1 (List.map (encI .i64) (law02_OrderMidst_S5_e3 x1 x3)) false)]) (args := [(V.so false 1 ((law02_OrderMidst_S5_e3 x1 x3).length))]) (args1 := [(V.d (.rs true 1 (List.map (encI .i64) (law02_OrderMidst_S5_e3 x1 x3)) false))]) (byvals_cons (byval_so (enc := (encI .i64)) (l := (law02_OrderMidst_S5_e3 x1 x3)) (b := false) (e := 3) (s := 1) (p := false) (n := ((law02_OrderMidst_S5_e3 x1 x3).length)) (Nat.beq_refl _) (by kernel_rfl)) (by kernel_rfl)), .c (order_Mid_o_t0 false (law02_OrderMidst_S5_e3 x1 x3) (tbE h15)), .y (mm := [(Blk.flat 3 1 (List.map (encI .i64) (order_Sort_o_L2_r0_3 (order_Sort_o_e2 x1) (((order_Sort_o_e2 x1) : Nat) : Int) (order_Sort_o_S3_e0 (order_Sort_o_e0 x1) (order_Sort_o_e2 x1)))) false), (Blk.flat 3 1 (List.map (encI .i64) (law02_OrderMidst_S5_e3 x1 x3)) false)]) (args := [(V.so false 0 (order_Sort_o_e2 x1))]) (args1 := [(V.d (.rs true 1 (List.map (encI .i64) (order_Sort_o_L2_r0_3 (order_Sort_o_e2 x1) (((order_Sort_o_e2 x1) : Nat) : Int) (order_Sort_o_S3_e0 (order_Sort_o_e0 x1) (order_Sort_o_e2 x1)))) false))]) (byvals_cons (byval_so (enc := (encI .i64)) (l := (order_Sort_o_L2_r0_3 (order_Sort_o_e2 x1) (((order_Sort_o_e2 x1) : Nat) : Int) (order_Sort_o_S3_e0 (order_Sort_o_e0 x1) (order_Sort_o_e2 x1)))) (b := false) (e := 3) (s := 1) (p := false) (n := (order_Sort_o_e2 x1)) (tbE h6) (by kernel_rfl)) (by kernel_rfl)), .c (order_Mid_o_t0 false (law02_OrderMidst_S5_e4 x1) (tbE h16)), .b (notF (tbE h17))] (by kernel_rfl)
                                  · cases h18 : tb (order_Mid_o_r0_1 (law02_OrderMidst_S5_e4 x1))
                                    · intro g0
                                      exact seg_walk [.c (order_Sort_o_t0 x0 x1 (tbE h1)), .c (order_Mid_o_t0 x0 x1 (tbE h2)), .o 51 (fun _ => o_len_os (enc := (encI .i64)) (l := x1) (fl := true) (n := x0) (s := 1)), .b (tbE h3), .b (notT (tbE h4)), .m 60 (o_idx_so (m := [(Blk.flat 3 1 (List.map (encI .i64) (order_Sort_o_L2_r0_3 (order_Sort_o_e2 x1) (((order_Sort_o_e2 x1) : Nat) : Int) (order_Sort_o_S3_e0 (order_Sort_o_e0 x1) (order_Sort_o_e2 x1)))) false)]) (b := false) (id := 0) (n := (order_Sort_o_e2 x1)) (s := 1) (k := .i64) (by kernel_rfl) (tbE h5)), .m 61 (o_load_L (m := [(Blk.flat 3 1 (List.map (encI .i64) (order_Sort_o_L2_r0_3 (order_Sort_o_e2 x1) (((order_Sort_o_e2 x1) : Nat) : Int) (order_Sort_o_S3_e0 (order_Sort_o_e0 x1) (order_Sort_o_e2 x1)))) false)]) (enc := (encI .i64)) (l := (order_Sort_o_L2_r0_3 (order_Sort_o_e2 x1) (((order_Sort_o_e2 x1) : Nat) : Int) (order_Sort_o_S3_e0 (order_Sort_o_e0 x1) (order_Sort_o_e2 x1)))) (id := 0) (e := 3) (s := 1) (off := 0) (size := 1) (p := false) (agg := false) (i := 0) (v := (V.d (.int .i64 (law02_OrderMidst_S5_e0 x1)))) (n := (order_Sort_o_e2 x1)) (tbE h6) (by kernel_rfl) (tbE h5) (by kernel_rfl)), .b (tbE h7), .m 70 (o_idx_so (m := [(Blk.flat 3 1 (List.map (encI .i64) (order_Sort_o_L2_r0_3 (order_Sort_o_e2 x1) (((order_Sort_o_e2 x1) : Nat) : Int) (order_Sort_o_S3_e0 (order_Sort_o_e0 x1) (order_Sort_o_e2 x1)))) false)]) (b := false) (id := 0) (n := (order_Sort_o_e2 x1)) (s := 1) (k := .i64) (by kernel_rfl) (tbE h8)), .m 71 (o_load_L (m := [(Blk.flat 3 1 (List.map (encI .i64) (order_Sort_o_L2_r0_3 (order_Sort_o_e2 x1) (((order_Sort_o_e2 x1) : Nat) : Int) (order_Sort_o_S3_e0 (order_Sort_o_e0 x1) (order_Sort_o_e2 x1)))) false)]) (enc := (encI .i64)) (l := (order_Sort_o_L2_r0_3 (order_Sort_o_e2 x1) (((order_Sort_o_e2 x1) : Nat) : Int) (order_Sort_o_S3_e0 (order_Sort_o_e0 x1) (order_Sort_o_e2 x1)))) (id := 0) (e := 3) (s := 1) (off := 0) (size := 1) (p := false) (agg := false) (i := (wi ((((order_Sort_o_e2 x1) : Nat) : Int) - 1))) (v := (V.d (.int .i64 (law02_OrderMidst_S5_e1 x1)))) (n := (order_Sort_o_e2 x1)) (tbE h6) (by kernel_rfl) (tbE h8) (by kernel_rfl)), .b (tbE h9), .o 77 (fun _ => o_len_os (enc := (encI .i64)) (l := x1) (fl := true) (n := x0) (s := 1)), .o 78 (fun _ => o_rem (k := .i64) (x := (wi (x3))) (y := ((x1.length : Nat) : Int)) (tbE h10)), .o 82 (fun _ => o_slice_os (enc := (encI .i64)) (l := x1) (fl := true) (n := x0) (s := 1) (some (.i64, (remI .i64 (wi (x3)) ((x1.length : Nat) : Int)))) none (tbE h11)), .m 83 (o_app_sf (m := [(Blk.flat 3 1 (List.map (encI .i64) (order_Sort_o_L2_r0_3 (order_Sort_o_e2 x1) (((order_Sort_o_e2 x1) : Nat) : Int) (order_Sort_o_S3_e0 (order_Sort_o_e0 x1) (order_Sort_o_e2 x1)))) false), (Blk.flat 3 1 [] false)]) (enc := (encI .i64)) (l0 := ([] : List Int)) (l1 := (law02_OrderMidst_S5_e2 x1 x3)) (id := 1) (e := 3) (s := 1) (bytes := 8) (x := (V.d (slD (encI .i64) true 1 (x0 && x1.isEmpty) (law02_OrderMidst_S5_e2 x1 x3)))) (n := 0) (by kernel_rfl) (by kernel_rfl) flatRowsOf_os sizeOk_os (tbE h12)), .o 86 (fun _ => o_slice_os (enc := (encI .i64)) (l := x1) (fl := true) (n := x0) (s := 1) none (some (.i64, (remI .i64 (wi (x3)) ((x1.length : Nat) : Int)))) (tbE h13)), .m 87 (o_app_sf (m := [(Blk.flat 3 1 (List.map (encI .i64) (order_Sort_o_L2_r0_3 (order_Sort_o_e2 x1) (((order_Sort_o_e2 x1) : Nat) : Int) (order_Sort_o_S3_e0 (order_Sort_o_e0 x1) (order_Sort_o_e2 x1)))) false), (Blk.flat 3 1 (List.map (encI .i64) (law02_OrderMidst_S5_e2 x1 x3)) false)]) (enc := (encI .i64)) (l0 := (law02_OrderMidst_S5_e2 x1 x3)) (l1 := (sub x1 0 (remI .i64 (wi (x3)) ((x1.length : Nat) : Int)))) (id := 1) (e := 3) (s := 1) (bytes := 8) (x := (V.d (slD (encI .i64) true 1 (x0 && x1.isEmpty) (sub x1 0 (remI .i64 (wi (x3)) ((x1.length : Nat) : Int)))))) (n := ((law02_OrderMidst_S5_e2 x1 x3).length)) (Nat.beq_refl _) (by kernel_rfl) flatRowsOf_os sizeOk_os (tbE h14)), .y (mm := [(Blk.flat 3 1 (List.map (encI .i64) (order_Sort_o_L2_r0_3 (order_Sort_o_e2 x1) (((order_Sort_o_e2 x1) : Nat) : Int) (order_Sort_o_S3_e0 (order_Sort_o_e0 x1) (order_Sort_o_e2 x1)))) false), (Blk.flat 3 1 (List.map (encI .i64) (law02_OrderMidst_S5_e3 x1 x3)) false)]) (args := [(V.so false 1 ((law02_OrderMidst_S5_e3 x1 x3).length))]) (args1 := [(V.d (.rs true 1 (List.map (encI .i64) (law02_OrderMidst_S5_e3 x1 x3)) false))]) (byvals_cons (byval_so (enc := (encI .i64)) (l := (law02_OrderMidst_S5_e3 x1 x3)) (b := false) (e := 3) (s := 1) (p := false) (n := ((law02_OrderMidst_S5_e3 x1 x3).length)) (Nat.beq_refl _) (by kernel_rfl)) (by kernel_rfl)), .c (order_Mid_o_t0 false (law02_OrderMidst_S5_e3 x1 x3) (tbE h15)), .y (mm := [(Blk.flat 3 1 (List.map (encI .i64) (order_Sort_o_L2_r0_3 (order_Sort_o_e2 x1) (((order_Sort_o_e2 x1) : Nat) : Int) (order_Sort_o_S3_e0 (order_Sort_o_e0 x1) (order_Sort_o_e2 x1)))) false), (Blk.flat 3 1 (List.map (encI .i64) (law02_OrderMidst_S5_e3 x1 x3)) false)]) (args := [(V.so false 0 (order_Sort_o_e2 x1))]) (args1 := [(V.d (.rs true 1 (List.map (encI .i64) (order_Sort_o_L2_r0_3 (order_Sort_o_e2 x1) (((order_Sort_o_e2 x1) : Nat) : Int) (order_Sort_o_S3_e0 (order_Sort_o_e0 x1) (order_Sort_o_e2 x1)))) false))]) (byvals_cons (byval_so (enc := (encI .i64)) (l := (order_Sort_o_L2_r0_3 (order_Sort_o_e2 x1) (((order_Sort_o_e2 x1) : Nat) : Int) (order_Sort_o_S3_e0 (order_Sort_o_e0 x1) (order_Sort_o_e2 x1)))) (b := false) (e := 3) (s := 1) (p := false) (n := (order_Sort_o_e2 x1)) (tbE h6) (by kernel_rfl)) (by kernel_rfl)), .c (order_Mid_o_t0 false (law02_OrderMidst_S5_e4 x1) (tbE h16)), .b (notT (tbE h17)), .b (notF (tbE h18))] (by kernel_rfl)
                                    · cases h19 : tb (((order_Mid_o_r0_0 (law02_OrderMidst_S5_e3 x1 x3)) : Int) != (order_Mid_o_r0_0 x1))
                                      · cases h20 : tb (((order_Mid_o_r0_0 (law02_OrderMidst_S5_e4 x1)) : Int) != (order_Mid_o_r0_0 x1))
                                        · cases h21 : tb (law02_OrderMidst_S2_r0_5 x1)
                                          · intro g0
                                            exact absurd g0 ft
                                          · cases h22 : tb (law02_OrderMidst_S3_c0 x1 x2)
                                            · intro g0
                                              exact absurd g0 ft
                                            · cases h23 : tb (law02_OrderMidst_S4_c0 (law02_OrderMidst_S5_e4 x1) (order_Sort_o_e2 x1) (order_Mid_o_r0_0 (x1 ++ [x2])) (order_Mid_o_r0_1 (x1 ++ [x2])))
                                              · intro g0
                                                exact absurd g0 ft
                                              · cases h24 : tb (law02_OrderMidst_S4_r0_3 (law02_OrderMidst_S5_e4 x1) (order_Sort_o_e2 x1) (order_Mid_o_r0_0 (x1 ++ [x2])) (order_Mid_o_r0_1 (x1 ++ [x2])))
                                                · intro g0
                                                  exact absurd g0 ft
                                                · intro g0
                                                  exact seg_walk [.c (order_Sort_o_t0 x0 x1 (tbE h1)), .c (order_Mid_o_t0 x0 x1 (tbE h2)), .o 51 (fun _ => o_len_os (enc := (encI .i64)) (l := x1) (fl := true) (n := x0) (s := 1)), .b (tbE h3), .b (notT (tbE h4)), .m 60 (o_idx_so (m := [(Blk.flat 3 1 (List.map (encI .i64) (order_Sort_o_L2_r0_3 (order_Sort_o_e2 x1) (((order_Sort_o_e2 x1) : Nat) : Int) (order_Sort_o_S3_e0 (order_Sort_o_e0 x1) (order_Sort_o_e2 x1)))) false)]) (b := false) (id := 0) (n := (order_Sort_o_e2 x1)) (s := 1) (k := .i64) (by kernel_rfl) (tbE h5)), .m 61 (o_load_L (m := [(Blk.flat 3 1 (List.map (encI .i64) (order_Sort_o_L2_r0_3 (order_Sort_o_e2 x1) (((order_Sort_o_e2 x1) : Nat) : Int) (order_Sort_o_S3_e0 (order_Sort_o_e0 x1) (order_Sort_o_e2 x1)))) false)]) (enc := (encI .i64)) (l := (order_Sort_o_L2_r0_3 (order_Sort_o_e2 x1) (((order_Sort_o_e2 x1) : Nat) : Int) (order_Sort_o_S3_e0 (order_Sort_o_e0 x1) (order_Sort_o_e2 x1)))) (id := 0) (e := 3) (s := 1) (off := 0) (size := 1) (p := false) (agg := false) (i := 0) (v := (V.d (.int .i64 (law02_OrderMidst_S5_e0 x1)))) (n := (order_Sort_o_e2 x1)) (tbE h6) (by kernel_rfl) (tbE h5) (by kernel_rfl)), .b (tbE h7), .m 70 (o_idx_so (m := [(Blk.flat 3 1 (List.map (encI .i64) (order_Sort_o_L2_r0_3 (order_Sort_o_e2 x1) (((order_Sort_o_e2 x1) : Nat) : Int) (order_Sort_o_S3_e0 (order_Sort_o_e0 x1) (order_Sort_o_e2 x1)))) false)]) (b := false) (id := 0) (n := (order_Sort_o_e2 x1)) (s := 1) (k := .i64) (by kernel_rfl) (tbE h8)), .m 71 (o_load_L (m := [(Blk.flat 3 1 (List.map (encI .i64) (order_Sort_o_L2_r0_3 (order_Sort_o_e2 x1) (((order_Sort_o_e2 x1) : Nat) : Int) (order_Sort_o_S3_e0 (order_Sort_o_e0 x1) (order_Sort_o_e2 x1)))) false)]) (enc := (encI .i64)) (l := (order_Sort_o_L2_r0_3 (order_Sort_o_e2 x1) (((order_Sort_o_e2 x1) : Nat) : Int) (order_Sort_o_S3_e0 (order_Sort_o_e0 x1) (order_Sort_o_e2 x1)))) (id := 0) (e := 3) (s := 1) (off := 0) (size := 1) (p := false) (agg := false) (i := (wi ((((order_Sort_o_e2 x1) : Nat) : Int) - 1))) (v := (V.d (.int .i64 (law02_OrderMidst_S5_e1 x1)))) (n := (order_Sort_o_e2 x1)) (tbE h6) (by kernel_rfl) (tbE h8) (by kernel_rfl)), .b (tbE h9), .o 77 (fun _ => o_len_os (enc := (encI .i64)) (l := x1) (fl := true) (n := x0) (s := 1)), .o 78 (fun _ => o_rem (k := .i64) (x := (wi (x3))) (y := ((x1.length : Nat) : Int)) (tbE h10)), .o 82 (fun _ => o_slice_os (enc := (encI .i64)) (l := x1) (fl := true) (n := x0) (s := 1) (some (.i64, (remI .i64 (wi (x3)) ((x1.length : Nat) : Int)))) none (tbE h11)), .m 83 (o_app_sf (m := [(Blk.flat 3 1 (List.map (encI .i64) (order_Sort_o_L2_r0_3 (order_Sort_o_e2 x1) (((order_Sort_o_e2 x1) : Nat) : Int) (order_Sort_o_S3_e0 (order_Sort_o_e0 x1) (order_Sort_o_e2 x1)))) false), (Blk.flat 3 1 [] false)]) (enc := (encI .i64)) (l0 := ([] : List Int)) (l1 := (law02_OrderMidst_S5_e2 x1 x3)) (id := 1) (e := 3) (s := 1) (bytes := 8) (x := (V.d (slD (encI .i64) true 1 (x0 && x1.isEmpty) (law02_OrderMidst_S5_e2 x1 x3)))) (n := 0) (by kernel_rfl) (by kernel_rfl) flatRowsOf_os sizeOk_os (tbE h12)), .o 86 (fun _ => o_slice_os (enc := (encI .i64)) (l := x1) (fl := true) (n := x0) (s := 1) none (some (.i64, (remI .i64 (wi (x3)) ((x1.length : Nat) : Int)))) (tbE h13)), .m 87 (o_app_sf (m := [(Blk.flat 3 1 (List.map (encI .i64) (order_Sort_o_L2_r0_3 (order_Sort_o_e2 x1) (((order_Sort_o_e2 x1) : Nat) : Int) (order_Sort_o_S3_e0 (order_Sort_o_e0 x1) (order_Sort_o_e2 x1)))) false), (Blk.flat 3 1 (List.map (encI .i64) (law02_OrderMidst_S5_e2 x1 x3)) false)]) (enc := (encI .i64)) (l0 := (law02_OrderMidst_S5_e2 x1 x3)) (l1 := (sub x1 0 (remI .i64 (wi (x3)) ((x1.length : Nat) : Int)))) (id := 1) (e := 3) (s := 1) (bytes := 8) (x := (V.d (slD (encI .i64) true 1 (x0 && x1.isEmpty) (sub x1 0 (remI .i64 (wi (x3)) ((x1.length : Nat) : Int)))))) (n := ((law02_OrderMidst_S5_e2 x1 x3).length)) (Nat.beq_refl _) (by kernel_rfl) flatRowsOf_os sizeOk_os (tbE h14)), .y (mm := [(Blk.flat 3 1 (List.map (encI .i64) (order_Sort_o_L2_r0_3 (order_Sort_o_e2 x1) (((order_Sort_o_e2 x1) : Nat) : Int) (order_Sort_o_S3_e0 (order_Sort_o_e0 x1) (order_Sort_o_e2 x1)))) false), (Blk.flat 3 1 (List.map (encI .i64) (law02_OrderMidst_S5_e3 x1 x3)) false)]) (args := [(V.so false 1 ((law02_OrderMidst_S5_e3 x1 x3).length))]) (args1 := [(V.d (.rs true 1 (List.map (encI .i64) (law02_OrderMidst_S5_e3 x1 x3)) false))]) (byvals_cons (byval_so (enc := (encI .i64)) (l := (law02_OrderMidst_S5_e3 x1 x3)) (b := false) (e := 3) (s := 1) (p := false) (n := ((law02_OrderMidst_S5_e3 x1 x3).length)) (Nat.beq_refl _) (by kernel_rfl)) (by kernel_rfl)), .c (order_Mid_o_t0 false (law02_OrderMidst_S5_e3 x1 x3) (tbE h15)), .y (mm := [(Blk.flat 3 1 (List.map (encI .i64) (order_Sort_o_L2_r0_3 (order_Sort_o_e2 x1) (((order_Sort_o_e2 x1) : Nat) : Int) (order_Sort_o_S3_e0 (order_Sort_o_e0 x1) (order_Sort_o_e2 x1)))) false), (Blk.flat 3 1 (List.map (encI .i64) (law02_OrderMidst_S5_e3 x1 x3)) false)]) (args := [(V.so false 0 (order_Sort_o_e2 x1))]) (args1 := [(V.d (.rs true 1 (List.map (encI .i64) (order_Sort_o_L2_r0_3 (order_Sort_o_e2 x1) (((order_Sort_o_e2 x1) : Nat) : Int) (order_Sort_o_S3_e0 (order_Sort_o_e0 x1) (order_Sort_o_e2 x1)))) false))]) (byvals_cons (byval_so (enc := (encI .i64)) (l := (order_Sort_o_L2_r0_3 (order_Sort_o_e2 x1) (((order_Sort_o_e2 x1) : Nat) : Int) (order_Sort_o_S3_e0 (order_Sort_o_e0 x1) (order_Sort_o_e2 x1)))) (b := false) (e := 3) (s := 1) (p := false) (n := (order_Sort_o_e2 x1)) (tbE h6) (by kernel_rfl)) (by kernel_rfl)), .c (order_Mid_o_t0 false (law02_OrderMidst_S5_e4 x1) (tbE h16)), .b (notT (tbE h17)), .b (notT (tbE h18)), .b (tbE h19), .b (tbE h20), .s (law02_OrderMidst_S2_t0 (law02_OrderMidst_S5_e4 x1) (law02_OrderMidst_S5_e3 x1 x3) false false x0 x1 x2 (order_Sort_o_e2 x1)), .b (tbE h21), .s (law02_OrderMidst_S3_t0 (law02_OrderMidst_S5_e4 x1) (law02_OrderMidst_S5_e3 x1 x3) false false x0 x1 x2 (order_Sort_o_e2 x1) (tbE h22)), .s (law02_OrderMidst_S4_t0 (law02_OrderMidst_S5_e4 x1) (law02_OrderMidst_S5_e3 x1 x3) false false x0 x1 x2 (order_Sort_o_e2 x1) (order_Mid_o_r0_0 (x1 ++ [x2])) (order_Mid_o_r0_1 (x1 ++ [x2])) (tbE h23)), .b (tbE h24)] (by kernel_rfl)
                                        · intro g0
                                          exact seg_walk [.c (order_Sort_o_t0 x0 x1 (tbE h1)), .c (order_Mid_o_t0 x0 x1 (tbE h2)), .o 51 (fun _ => o_len_os (enc := (encI .i64)) (l := x1) (fl := true) (n := x0) (s := 1)), .b (tbE h3), .b (notT (tbE h4)), .m 60 (o_idx_so (m := [(Blk.flat 3 1 (List.map (encI .i64) (order_Sort_o_L2_r0_3 (order_Sort_o_e2 x1) (((order_Sort_o_e2 x1) : Nat) : Int) (order_Sort_o_S3_e0 (order_Sort_o_e0 x1) (order_Sort_o_e2 x1)))) false)]) (b := false) (id := 0) (n := (order_Sort_o_e2 x1)) (s := 1) (k := .i64) (by kernel_rfl) (tbE h5)), .m 61 (o_load_L (m := [(Blk.flat 3 1 (List.map (encI .i64) (order_Sort_o_L2_r0_3 (order_Sort_o_e2 x1) (((order_Sort_o_e2 x1) : Nat) : Int) (order_Sort_o_S3_e0 (order_Sort_o_e0 x1) (order_Sort_o_e2 x1)))) false)]) (enc := (encI .i64)) (l := (order_Sort_o_L2_r0_3 (order_Sort_o_e2 x1) (((order_Sort_o_e2 x1) : Nat) : Int) (order_Sort_o_S3_e0 (order_Sort_o_e0 x1) (order_Sort_o_e2 x1)))) (id := 0) (e := 3) (s := 1) (off := 0) (size := 1) (p := false) (agg := false) (i := 0) (v := (V.d (.int .i64 (law02_OrderMidst_S5_e0 x1)))) (n := (order_Sort_o_e2 x1)) (tbE h6) (by kernel_rfl) (tbE h5) (by kernel_rfl)), .b (tbE h7), .m 70 (o_idx_so (m := [(Blk.flat 3 1 (List.map (encI .i64) (order_Sort_o_L2_r0_3 (order_Sort_o_e2 x1) (((order_Sort_o_e2 x1) : Nat) : Int) (order_Sort_o_S3_e0 (order_Sort_o_e0 x1) (order_Sort_o_e2 x1)))) false)]) (b := false) (id := 0) (n := (order_Sort_o_e2 x1)) (s := 1) (k := .i64) (by kernel_rfl) (tbE h8)), .m 71 (o_load_L (m := [(Blk.flat 3 1 (List.map (encI .i64) (order_Sort_o_L2_r0_3 (order_Sort_o_e2 x1) (((order_Sort_o_e2 x1) : Nat) : Int) (order_Sort_o_S3_e0 (order_Sort_o_e0 x1) (order_Sort_o_e2 x1)))) false)]) (enc := (encI .i64)) (l := (order_Sort_o_L2_r0_3 (order_Sort_o_e2 x1) (((order_Sort_o_e2 x1) : Nat) : Int) (order_Sort_o_S3_e0 (order_Sort_o_e0 x1) (order_Sort_o_e2 x1)))) (id := 0) (e := 3) (s := 1) (off := 0) (size := 1) (p := false) (agg := false) (i := (wi ((((order_Sort_o_e2 x1) : Nat) : Int) - 1))) (v := (V.d (.int .i64 (law02_OrderMidst_S5_e1 x1)))) (n := (order_Sort_o_e2 x1)) (tbE h6) (by kernel_rfl) (tbE h8) (by kernel_rfl)), .b (tbE h9), .o 77 (fun _ => o_len_os (enc := (encI .i64)) (l := x1) (fl := true) (n := x0) (s := 1)), .o 78 (fun _ => o_rem (k := .i64) (x := (wi (x3))) (y := ((x1.length : Nat) : Int)) (tbE h10)), .o 82 (fun _ => o_slice_os (enc := (encI .i64)) (l := x1) (fl := true) (n := x0) (s := 1) (some (.i64, (remI .i64 (wi (x3)) ((x1.length : Nat) : Int)))) none (tbE h11)), .m 83 (o_app_sf (m := [(Blk.flat 3 1 (List.map (encI .i64) (order_Sort_o_L2_r0_3 (order_Sort_o_e2 x1) (((order_Sort_o_e2 x1) : Nat) : Int) (order_Sort_o_S3_e0 (order_Sort_o_e0 x1) (order_Sort_o_e2 x1)))) false), (Blk.flat 3 1 [] false)]) (enc := (encI .i64)) (l0 := ([] : List Int)) (l1 := (law02_OrderMidst_S5_e2 x1 x3)) (id := 1) (e := 3) (s := 1) (bytes := 8) (x := (V.d (slD (encI .i64) true 1 (x0 && x1.isEmpty) (law02_OrderMidst_S5_e2 x1 x3)))) (n := 0) (by kernel_rfl) (by kernel_rfl) flatRowsOf_os sizeOk_os (tbE h12)), .o 86 (fun _ => o_slice_os (enc := (encI .i64)) (l := x1) (fl := true) (n := x0) (s := 1) none (some (.i64, (remI .i64 (wi (x3)) ((x1.length : Nat) : Int)))) (tbE h13)), .m 87 (o_app_sf (m := [(Blk.flat 3 1 (List.map (encI .i64) (order_Sort_o_L2_r0_3 (order_Sort_o_e2 x1) (((order_Sort_o_e2 x1) : Nat) : Int) (order_Sort_o_S3_e0 (order_Sort_o_e0 x1) (order_Sort_o_e2 x1)))) false), (Blk.flat 3 1 (List.map (encI .i64) (law02_OrderMidst_S5_e2 x1 x3)) false)]) (enc := (encI .i64)) (l0 := (law02_OrderMidst_S5_e2 x1 x3)) (l1 := (sub x1 0 (remI .i64 (wi (x3)) ((x1.length : Nat) : Int)))) (id := 1) (e := 3) (s := 1) (bytes := 8) (x := (V.d (slD (encI .i64) true 1 (x0 && x1.isEmpty) (sub x1 0 (remI .i64 (wi (x3)) ((x1.length : Nat) : Int)))))) (n := ((law02_OrderMidst_S5_e2 x1 x3).length)) (Nat.beq_refl _) (by kernel_rfl) flatRowsOf_os sizeOk_os (tbE h14)), .y (mm := [(Blk.flat 3 1 (List.map (encI .i64) (order_Sort_o_L2_r0_3 (order_Sort_o_e2 x1) (((order_Sort_o_e2 x1) : Nat) : Int) (order_Sort_o_S3_e0 (order_Sort_o_e0 x1) (order_Sort_o_e2 x1)))) false), (Blk.flat 3 1 (List.map (encI .i64) (law02_OrderMidst_S5_e3 x1 x3)) false)]) (args := [(V.so false 1 ((law02_OrderMidst_S5_e3 x1 x3).length))]) (args1 := [(V.d (.rs true 1 (List.map (encI .i64) (law02_OrderMidst_S5_e3 x1 x3)) false))]) (byvals_cons (byval_so (enc := (encI .i64)) (l := (law02_OrderMidst_S5_e3 x1 x3)) (b := false) (e := 3) (s := 1) (p := false) (n := ((law02_OrderMidst_S5_e3 x1 x3).length)) (Nat.beq_refl _) (by kernel_rfl)) (by kernel_rfl)), .c (order_Mid_o_t0 false (law02_OrderMidst_S5_e3 x1 x3) (tbE h15)), .y (mm := [(Blk.flat 3 1 (List.map (encI .i64) (order_Sort_o_L2_r0_3 (order_Sort_o_e2 x1) (((order_Sort_o_e2 x1) : Nat) : Int) (order_Sort_o_S3_e0 (order_Sort_o_e0 x1) (order_Sort_o_e2 x1)))) false), (Blk.flat 3 1 (List.map (encI .i64) (law02_OrderMidst_S5_e3 x1 x3)) false)]) (args := [(V.so false 0 (order_Sort_o_e2 x1))]) (args1 := [(V.d (.rs true 1 (List.map (encI .i64) (order_Sort_o_L2_r0_3 (order_Sort_o_e2 x1) (((order_Sort_o_e2 x1) : Nat) : Int) (order_Sort_o_S3_e0 (order_Sort_o_e0 x1) (order_Sort_o_e2 x1)))) false))]) (byvals_cons (byval_so (enc := (encI .i64)) (l := (order_Sort_o_L2_r0_3 (order_Sort_o_e2 x1) (((order_Sort_o_e2 x1) : Nat) : Int) (order_Sort_o_S3_e0 (order_Sort_o_e0 x1) (order_Sort_o_e2 x1)))) (b := false) (e := 3) (s := 1) (p := false) (n := (order_Sort_o_e2 x1)) (tbE h6) (by kernel_rfl)) (by kernel_rfl)), .c (order_Mid_o_t0 false (law02_OrderMidst_S5_e4 x1) (tbE h16)), .b (notT (tbE h17)), .b (notT (tbE h18)), .b (tbE h19), .b (tbE h20)] (by kernel_rfl)
                                      · intro g0
                                        exact seg_walk [.c (order_Sort_o_t0 x0 x1 (tbE h1)), .c (order_Mid_o_t0 x0 x1 (tbE h2)), .o 51 (fun _ => o_len_os (enc := (encI .i64)) (l := x1) (fl := true) (n := x0) (s := 1)), .b (tbE h3), .b (notT (tbE h4)), .m 60 (o_idx_so (m := [(Blk.flat 3 1 (List.map (encI .i64) (order_Sort_o_L2_r0_3 (order_Sort_o_e2 x1) (((order_Sort_o_e2 x1) : Nat) : Int) (order_Sort_o_S3_e0 (order_Sort_o_e0 x1) (order_Sort_o_e2 x1)))) false)]) (b := false) (id := 0) (n := (order_Sort_o_e2 x1)) (s := 1) (k := .i64) (by kernel_rfl) (tbE h5)), .m 61 (o_load_L (m := [(Blk.flat 3 1 (List.map (encI .i64) (order_Sort_o_L2_r0_3 (order_Sort_o_e2 x1) (((order_Sort_o_e2 x1) : Nat) : Int) (order_Sort_o_S3_e0 (order_Sort_o_e0 x1) (order_Sort_o_e2 x1)))) false)]) (enc := (encI .i64)) (l := (order_Sort_o_L2_r0_3 (order_Sort_o_e2 x1) (((order_Sort_o_e2 x1) : Nat) : Int) (order_Sort_o_S3_e0 (order_Sort_o_e0 x1) (order_Sort_o_e2 x1)))) (id := 0) (e := 3) (s := 1) (off := 0) (size := 1) (p := false) (agg := false) (i := 0) (v := (V.d (.int .i64 (law02_OrderMidst_S5_e0 x1)))) (n := (order_Sort_o_e2 x1)) (tbE h6) (by kernel_rfl) (tbE h5) (by kernel_rfl)), .b (tbE h7), .m 70 (o_idx_so (m := [(Blk.flat 3 1 (List.map (encI .i64) (order_Sort_o_L2_r0_3 (order_Sort_o_e2 x1) (((order_Sort_o_e2 x1) : Nat) : Int) (order_Sort_o_S3_e0 (order_Sort_o_e0 x1) (order_Sort_o_e2 x1)))) false)]) (b := false) (id := 0) (n := (order_Sort_o_e2 x1)) (s := 1) (k := .i64) (by kernel_rfl) (tbE h8)), .m 71 (o_load_L (m := [(Blk.flat 3 1 (List.map (encI .i64) (order_Sort_o_L2_r0_3 (order_Sort_o_e2 x1) (((order_Sort_o_e2 x1) : Nat) : Int) (order_Sort_o_S3_e0 (order_Sort_o_e0 x1) (order_Sort_o_e2 x1)))) false)]) (enc := (encI .i64)) (l := (order_Sort_o_L2_r0_3 (order_Sort_o_e2 x1) (((order_Sort_o_e2 x1) : Nat) : Int) (order_Sort_o_S3_e0 (order_Sort_o_e0 x1) (order_Sort_o_e2 x1)))) (id := 0) (e := 3) (s := 1) (off := 0) (size := 1) (p := false) (agg := false) (i := (wi ((((order_Sort_o_e2 x1) : Nat) : Int) - 1))) (v := (V.d (.int .i64 (law02_OrderMidst_S5_e1 x1)))) (n := (order_Sort_o_e2 x1)) (tbE h6) (by kernel_rfl) (tbE h8) (by kernel_rfl)), .b (tbE h9), .o 77 (fun _ => o_len_os (enc := (encI .i64)) (l := x1) (fl := true) (n := x0) (s := 1)), .o 78 (fun _ => o_rem (k := .i64) (x := (wi (x3))) (y := ((x1.length : Nat) : Int)) (tbE h10)), .o 82 (fun _ => o_slice_os (enc := (encI .i64)) (l := x1) (fl := true) (n := x0) (s := 1) (some (.i64, (remI .i64 (wi (x3)) ((x1.length : Nat) : Int)))) none (tbE h11)), .m 83 (o_app_sf (m := [(Blk.flat 3 1 (List.map (encI .i64) (order_Sort_o_L2_r0_3 (order_Sort_o_e2 x1) (((order_Sort_o_e2 x1) : Nat) : Int) (order_Sort_o_S3_e0 (order_Sort_o_e0 x1) (order_Sort_o_e2 x1)))) false), (Blk.flat 3 1 [] false)]) (enc := (encI .i64)) (l0 := ([] : List Int)) (l1 := (law02_OrderMidst_S5_e2 x1 x3)) (id := 1) (e := 3) (s := 1) (bytes := 8) (x := (V.d (slD (encI .i64) true 1 (x0 && x1.isEmpty) (law02_OrderMidst_S5_e2 x1 x3)))) (n := 0) (by kernel_rfl) (by kernel_rfl) flatRowsOf_os sizeOk_os (tbE h12)), .o 86 (fun _ => o_slice_os (enc := (encI .i64)) (l := x1) (fl := true) (n := x0) (s := 1) none (some (.i64, (remI .i64 (wi (x3)) ((x1.length : Nat) : Int)))) (tbE h13)), .m 87 (o_app_sf (m := [(Blk.flat 3 1 (List.map (encI .i64) (order_Sort_o_L2_r0_3 (order_Sort_o_e2 x1) (((order_Sort_o_e2 x1) : Nat) : Int) (order_Sort_o_S3_e0 (order_Sort_o_e0 x1) (order_Sort_o_e2 x1)))) false), (Blk.flat 3 1 (List.map (encI .i64) (law02_OrderMidst_S5_e2 x1 x3)) false)]) (enc := (encI .i64)) (l0 := (law02_OrderMidst_S5_e2 x1 x3)) (l1 := (sub x1 0 (remI .i64 (wi (x3)) ((x1.length : Nat) : Int)))) (id := 1) (e := 3) (s := 1) (bytes := 8) (x := (V.d (slD (encI .i64) true 1 (x0 && x1.isEmpty) (sub x1 0 (remI .i64 (wi (x3)) ((x1.length : Nat) : Int)))))) (n := ((law02_OrderMidst_S5_e2 x1 x3).length)) (Nat.beq_refl _) (by kernel_rfl) flatRowsOf_os sizeOk_os (tbE h14)), .y (mm := [(Blk.flat 3 1 (List.map (encI .i64) (order_Sort_o_L2_r0_3 (order_Sort_o_e2 x1) (((order_Sort_o_e2 x1) : Nat) : Int) (order_Sort_o_S3_e0 (order_Sort_o_e0 x1) (order_Sort_o_e2 x1)))) false), (Blk.flat 3 1 (List.map (encI .i64) (law02_OrderMidst_S5_e3 x1 x3)) false)]) (args := [(V.so false 1 ((law02_OrderMidst_S5_e3 x1 x3).length))]) (args1 := [(V.d (.rs true 1 (List.map (encI .i64) (law02_OrderMidst_S5_e3 x1 x3)) false))]) (byvals_cons (byval_so (enc := (encI .i64)) (l := (law02_OrderMidst_S5_e3 x1 x3)) (b := false) (e := 3) (s := 1) (p := false) (n := ((law02_OrderMidst_S5_e3 x1 x3).length)) (Nat.beq_refl _) (by kernel_rfl)) (by kernel_rfl)), .c (order_Mid_o_t0 false (law02_OrderMidst_S5_e3 x1 x3) (tbE h15)), .y (mm := [(Blk.flat 3 1 (List.map (encI .i64) (order_Sort_o_L2_r0_3 (order_Sort_o_e2 x1) (((order_Sort_o_e2 x1) : Nat) : Int) (order_Sort_o_S3_e0 (order_Sort_o_e0 x1) (order_Sort_o_e2 x1)))) false), (Blk.flat 3 1 (List.map (encI .i64) (law02_OrderMidst_S5_e3 x1 x3)) false)]) (args := [(V.so false 0 (order_Sort_o_e2 x1))]) (args1 := [(V.d (.rs true 1 (List.map (encI .i64) (order_Sort_o_L2_r0_3 (order_Sort_o_e2 x1) (((order_Sort_o_e2 x1) : Nat) : Int) (order_Sort_o_S3_e0 (order_Sort_o_e0 x1) (order_Sort_o_e2 x1)))) false))]) (byvals_cons (byval_so (enc := (encI .i64)) (l := (order_Sort_o_L2_r0_3 (order_Sort_o_e2 x1) (((order_Sort_o_e2 x1) : Nat) : Int) (order_Sort_o_S3_e0 (order_Sort_o_e0 x1) (order_Sort_o_e2 x1)))) (b := false) (e := 3) (s := 1) (p := false) (n := (order_Sort_o_e2 x1)) (tbE h6) (by kernel_rfl)) (by kernel_rfl)), .c (order_Mid_o_t0 false (law02_OrderMidst_S5_e4 x1) (tbE h16)), .b (notT (tbE h17)), .b (notT (tbE h18)), .b (tbE h19)] (by kernel_rfl)
                    · intro g0
                      exact absurd g0 ft
                  · intro g0
                    exact seg_walk [.c (order_Sort_o_t0 x0 x1 (tbE h1)), .c (order_Mid_o_t0 x0 x1 (tbE h2)), .o 51 (fun _ => o_len_os (enc := (encI .i64)) (l := x1) (fl := true) (n := x0) (s := 1)), .b (tbE h3), .b (notT (tbE h4)), .m 60 (o_idx_so (m := [(Blk.flat 3 1 (List.map (encI .i64) (order_Sort_o_L2_r0_3 (order_Sort_o_e2 x1) (((order_Sort_o_e2 x1) : Nat) : Int) (order_Sort_o_S3_e0 (order_Sort_o_e0 x1) (order_Sort_o_e2 x1)))) false)]) (b := false) (id := 0) (n := (order_Sort_o_e2 x1)) (s := 1) (k := .i64) (by kernel_rfl) (tbE h5)), .m 61 (o_load_L (m := [(Blk.flat 3 1 (List.map (encI .i64) (order_Sort_o_L2_r0_3 (order_Sort_o_e2 x1) (((order_Sort_o_e2 x1) : Nat) : Int) (order_Sort_o_S3_e0 (order_Sort_o_e0 x1) (order_Sort_o_e2 x1)))) false)]) (enc := (encI .i64)) (l := (order_Sort_o_L2_r0_3 (order_Sort_o_e2 x1) (((order_Sort_o_e2 x1) : Nat) : Int) (order_Sort_o_S3_e0 (order_Sort_o_e0 x1) (order_Sort_o_e2 x1)))) (id := 0) (e := 3) (s := 1) (off := 0) (size := 1) (p := false) (agg := false) (i := 0) (v := (V.d (.int .i64 (law02_OrderMidst_S5_e0 x1)))) (n := (order_Sort_o_e2 x1)) (tbE h6) (by kernel_rfl) (tbE h5) (by kernel_rfl)), .b (tbE h7), .m 70 (o_idx_so (m := [(Blk.flat 3 1 (List.map (encI .i64) (order_Sort_o_L2_r0_3 (order_Sort_o_e2 x1) (((order_Sort_o_e2 x1) : Nat) : Int) (order_Sort_o_S3_e0 (order_Sort_o_e0 x1) (order_Sort_o_e2 x1)))) false)]) (b := false) (id := 0) (n := (order_Sort_o_e2 x1)) (s := 1) (k := .i64) (by kernel_rfl) (tbE h8)), .m 71 (o_load_L (m := [(Blk.flat 3 1 (List.map (encI .i64) (order_Sort_o_L2_r0_3 (order_Sort_o_e2 x1) (((order_Sort_o_e2 x1) : Nat) : Int) (order_Sort_o_S3_e0 (order_Sort_o_e0 x1) (order_Sort_o_e2 x1)))) false)]) (enc := (encI .i64)) (l := (order_Sort_o_L2_r0_3 (order_Sort_o_e2 x1) (((order_Sort_o_e2 x1) : Nat) : Int) (order_Sort_o_S3_e0 (order_Sort_o_e0 x1) (order_Sort_o_e2 x1)))) (id := 0) (e := 3) (s := 1) (off := 0) (size := 1) (p := false) (agg := false) (i := (wi ((((order_Sort_o_e2 x1) : Nat) : Int) - 1))) (v := (V.d (.int .i64 (law02_OrderMidst_S5_e1 x1)))) (n := (order_Sort_o_e2 x1)) (tbE h6) (by kernel_rfl) (tbE h8) (by kernel_rfl)), .b (tbE h9)] (by kernel_rfl)
              · intro g0
                exact seg_walk [.c (order_Sort_o_t0 x0 x1 (tbE h1)), .c (order_Mid_o_t0 x0 x1 (tbE h2)), .o 51 (fun _ => o_len_os (enc := (encI .i64)) (l := x1) (fl := true) (n := x0) (s := 1)), .b (tbE h3), .b (notT (tbE h4)), .m 60 (o_idx_so (m := [(Blk.flat 3 1 (List.map (encI .i64) (order_Sort_o_L2_r0_3 (order_Sort_o_e2 x1) (((order_Sort_o_e2 x1) : Nat) : Int) (order_Sort_o_S3_e0 (order_Sort_o_e0 x1) (order_Sort_o_e2 x1)))) false)]) (b := false) (id := 0) (n := (order_Sort_o_e2 x1)) (s := 1) (k := .i64) (by kernel_rfl) (tbE h5)), .m 61 (o_load_L (m := [(Blk.flat 3 1 (List.map (encI .i64) (order_Sort_o_L2_r0_3 (order_Sort_o_e2 x1) (((order_Sort_o_e2 x1) : Nat) : Int) (order_Sort_o_S3_e0 (order_Sort_o_e0 x1) (order_Sort_o_e2 x1)))) false)]) (enc := (encI .i64)) (l := (order_Sort_o_L2_r0_3 (order_Sort_o_e2 x1) (((order_Sort_o_e2 x1) : Nat) : Int) (order_Sort_o_S3_e0 (order_Sort_o_e0 x1) (order_Sort_o_e2 x1)))) (id := 0) (e := 3) (s := 1) (off := 0) (size := 1) (p := false) (agg := false) (i := 0) (v := (V.d (.int .i64 (law02_OrderMidst_S5_e0 x1)))) (n := (order_Sort_o_e2 x1)) (tbE h6) (by kernel_rfl) (tbE h5) (by kernel_rfl)), .b (tbE h7)] (by kernel_rfl)
      · intro g0
        exact seg_walk [.c (order_Sort_o_t0 x0 x1 (tbE h1)), .c (order_Mid_o_t0 x0 x1 (tbE h2)), .o 51 (fun _ => o_len_os (enc := (encI .i64)) (l := x1) (fl := true) (n := x0) (s := 1)), .b (tbE h3)] (by kernel_rfl)

theorem law02_OrderMidst_S5_t1 (x0 : Bool) (x1 : List Int) (x2 : Int) (x3 : Int) : law02_OrderMidst_S5_c0 x1 x2 x3 = false → law02_OrderMidst_S5_c1 x1 x2 x3 = true → segG (runC E0 (cl E0) S5_5) [0, 1, 2] [6] [0, 1] 0 ([(V.d (slD (encI .i64) true 1 x0 x1)), (V.d (.int .i64 x2)), (V.d (.int .u8 x3))], []) = some (.normal, ([(V.d (slD (encI .i64) true 1 x0 x1)), (V.d (.int .i64 x2))], [])) := by
  unfold law02_OrderMidst_S5_c0 law02_OrderMidst_S5_c1
  cases h1 : tb (order_Sort_o_c0 x1)
  · cases h2 : tb (order_Sort_o_c1 x1)
    · intro g0 g1
      exact absurd g1 ft
    · cases h3 : tb (order_Mid_o_c0 x1)
      · intro g0 g1
        exact absurd g1 ft
      · cases h4 : tb ((0 : Int) != ((x1.length : Nat) : Int))
        · cases h5 : tb (order_Mid_o_r0_1 x1)
          · intro g0 g1
            exact absurd g0 tf
          · intro g0 g1
            exact absurd g1 ft
        · intro g0 g1
          exact absurd g0 tf
  · cases h2 : tb (order_Mid_o_c0 x1)
    · intro g0 g1
      exact absurd g1 ft
    · cases h3 : tb (((((order_Sort_o_e2 x1) : Nat) : Int) : Int) != ((x1.length : Nat) : Int))
      · cases h4 : tb (order_Mid_o_r0_1 x1)
        · intro g0 g1
          exact absurd g0 tf
        · cases h5 : tb (inb (order_Sort_o_e2 x1) 0)
          · intro g0 g1
            exact absurd g1 ft
          · cases h6 : tb (Nat.beq (order_Sort_o_e2 x1) (order_Sort_o_L2_r0_3 (order_Sort_o_e2 x1) (((order_Sort_o_e2 x1) : Nat) : Int) (order_Sort_o_S3_e0 (order_Sort_o_e0 x1) (order_Sort_o_e2 x1))).length)
            · intro g0 g1
              exact absurd g1 ft
            · cases h7 : tb (decide ((order_Mid_o_r0_0 x1) < (law02_OrderMidst_S5_e0 x1)))
              · cases h8 : tb (inb (order_Sort_o_e2 x1) (wi ((((order_Sort_o_e2 x1) : Nat) : Int) - 1)))
                · intro g0 g1
                  exact absurd g1 ft
                · cases h9 : tb (decide ((law02_OrderMidst_S5_e1 x1) < (order_Mid_o_r0_0 x1)))
                  · cases h10 : tb ((((x1.length : Nat) : Int) : Int) == 0)
                    · cases h11 : tb (ins x1.length (remI .i64 (wi (x3)) ((x1.length : Nat) : Int)) ((x1.length : Nat) : Int))
                      · intro g0 g1
                        exact absurd g1 ft
                      · cases h12 : tb (decide ((([] : List Int).length + (law02_OrderMidst_S5_e2 x1 x3).length) * 8 ≤ 140737488355328))
                        · intro g0 g1
                          exact absurd g1 ft
                        · cases h13 : tb (ins x1.length 0 (remI .i64 (wi (x3)) ((x1.length : Nat) : Int)))
                          · intro g0 g1
                            exact absurd g1 ft
                          · cases h14 : tb (decide (((law02_OrderMidst_S5_e2 x1 x3).length + (sub x1 0 (remI .i64 (wi (x3)) ((x1.length : Nat) : Int))).length) * 8 ≤ 140737488355328))
                            · intro g0 g1
                              exact absurd g1 ft
                            · cases h15 : tb (order_Mid_o_c0 (law02_OrderMidst_S5_e3 x1 x3))
                              · intro g0 g1
                                exact absurd g1 ft
                              · cases h16 : tb (order_Mid_o_c0 (law02_OrderMidst_S5_e4 x1))
                                · intro g0 g1
                                  exact absurd g1 ft
                                · cases h17 : tb (order_Mid_o_r0_1 (law02_OrderMidst_S5_e3 x1 x3))
                                  · intro g0 g1
                                    exact absurd g0 tf
                                  · cases h18 : tb (order_Mid_o_r0_1 (law02_OrderMidst_S5_e4 x1))
                                    · intro g0 g1
                                      exact absurd g0 tf
                                    · cases h19 : tb (((order_Mid_o_r0_0 (law02_OrderMidst_S5_e3 x1 x3)) : Int) != (order_Mid_o_r0_0 x1))
                                      · cases h20 : tb (((order_Mid_o_r0_0 (law02_OrderMidst_S5_e4 x1)) : Int) != (order_Mid_o_r0_0 x1))
                                        · cases h21 : tb (law02_OrderMidst_S2_r0_5 x1)
                                          · intro g0 g1
                                            exact seg_walk [.c (order_Sort_o_t0 x0 x1 (tbE h1)), .c (order_Mid_o_t0 x0 x1 (tbE h2)), .o 51 (fun _ => o_len_os (enc := (encI .i64)) (l := x1) (fl := true) (n := x0) (s := 1)), .b (tbE h3), .b (notT (tbE h4)), .m 60 (o_idx_so (m := [(Blk.flat 3 1 (List.map (encI .i64) (order_Sort_o_L2_r0_3 (order_Sort_o_e2 x1) (((order_Sort_o_e2 x1) : Nat) : Int) (order_Sort_o_S3_e0 (order_Sort_o_e0 x1) (order_Sort_o_e2 x1)))) false)]) (b := false) (id := 0) (n := (order_Sort_o_e2 x1)) (s := 1) (k := .i64) (by kernel_rfl) (tbE h5)), .m 61 (o_load_L (m := [(Blk.flat 3 1 (List.map (encI .i64) (order_Sort_o_L2_r0_3 (order_Sort_o_e2 x1) (((order_Sort_o_e2 x1) : Nat) : Int) (order_Sort_o_S3_e0 (order_Sort_o_e0 x1) (order_Sort_o_e2 x1)))) false)]) (enc := (encI .i64)) (l := (order_Sort_o_L2_r0_3 (order_Sort_o_e2 x1) (((order_Sort_o_e2 x1) : Nat) : Int) (order_Sort_o_S3_e0 (order_Sort_o_e0 x1) (order_Sort_o_e2 x1)))) (id := 0) (e := 3) (s := 1) (off := 0) (size := 1) (p := false) (agg := false) (i := 0) (v := (V.d (.int .i64 (law02_OrderMidst_S5_e0 x1)))) (n := (order_Sort_o_e2 x1)) (tbE h6) (by kernel_rfl) (tbE h5) (by kernel_rfl)), .b (tbE h7), .m 70 (o_idx_so (m := [(Blk.flat 3 1 (List.map (encI .i64) (order_Sort_o_L2_r0_3 (order_Sort_o_e2 x1) (((order_Sort_o_e2 x1) : Nat) : Int) (order_Sort_o_S3_e0 (order_Sort_o_e0 x1) (order_Sort_o_e2 x1)))) false)]) (b := false) (id := 0) (n := (order_Sort_o_e2 x1)) (s := 1) (k := .i64) (by kernel_rfl) (tbE h8)), .m 71 (o_load_L (m := [(Blk.flat 3 1 (List.map (encI .i64) (order_Sort_o_L2_r0_3 (order_Sort_o_e2 x1) (((order_Sort_o_e2 x1) : Nat) : Int) (order_Sort_o_S3_e0 (order_Sort_o_e0 x1) (order_Sort_o_e2 x1)))) false)]) (enc := (encI .i64)) (l := (order_Sort_o_L2_r0_3 (order_Sort_o_e2 x1) (((order_Sort_o_e2 x1) : Nat) : Int) (order_Sort_o_S3_e0 (order_Sort_o_e0 x1) (order_Sort_o_e2 x1)))) (id := 0) (e := 3) (s := 1) (off := 0) (size := 1) (p := false) (agg := false) (i := (wi ((((order_Sort_o_e2 x1) : Nat) : Int) - 1))) (v := (V.d (.int .i64 (law02_OrderMidst_S5_e1 x1)))) (n := (order_Sort_o_e2 x1)) (tbE h6) (by kernel_rfl) (tbE h8) (by kernel_rfl)), .b (tbE h9), .o 77 (fun _ => o_len_os (enc := (encI .i64)) (l := x1) (fl := true) (n := x0) (s := 1)), .o 78 (fun _ => o_rem (k := .i64) (x := (wi (x3))) (y := ((x1.length : Nat) : Int)) (tbE h10)), .o 82 (fun _ => o_slice_os (enc := (encI .i64)) (l := x1) (fl := true) (n := x0) (s := 1) (some (.i64, (remI .i64 (wi (x3)) ((x1.length : Nat) : Int)))) none (tbE h11)), .m 83 (o_app_sf (m := [(Blk.flat 3 1 (List.map (encI .i64) (order_Sort_o_L2_r0_3 (order_Sort_o_e2 x1) (((order_Sort_o_e2 x1) : Nat) : Int) (order_Sort_o_S3_e0 (order_Sort_o_e0 x1) (order_Sort_o_e2 x1)))) false), (Blk.flat 3 1 [] false)]) (enc := (encI .i64)) (l0 := ([] : List Int)) (l1 := (law02_OrderMidst_S5_e2 x1 x3)) (id := 1) (e := 3) (s := 1) (bytes := 8) (x := (V.d (slD (encI .i64) true 1 (x0 && x1.isEmpty) (law02_OrderMidst_S5_e2 x1 x3)))) (n := 0) (by kernel_rfl) (by kernel_rfl) flatRowsOf_os sizeOk_os (tbE h12)), .o 86 (fun _ => o_slice_os (enc := (encI .i64)) (l := x1) (fl := true) (n := x0) (s := 1) none (some (.i64, (remI .i64 (wi (x3)) ((x1.length : Nat) : Int)))) (tbE h13)), .m 87 (o_app_sf (m := [(Blk.flat 3 1 (List.map (encI .i64) (order_Sort_o_L2_r0_3 (order_Sort_o_e2 x1) (((order_Sort_o_e2 x1) : Nat) : Int) (order_Sort_o_S3_e0 (order_Sort_o_e0 x1) (order_Sort_o_e2 x1)))) false), (Blk.flat 3 1 (List.map (encI .i64) (law02_OrderMidst_S5_e2 x1 x3)) false)]) (enc := (encI .i64)) (l0 := (law02_OrderMidst_S5_e2 x1 x3)) (l1 := (sub x1 0 (remI .i64 (wi (x3)) ((x1.length : Nat) : Int)))) (id := 1) (e := 3) (s := 1) (bytes := 8) (x := (V.d (slD (encI .i64) true 1 (x0 && x1.isEmpty) (sub x1 0 (remI .i64 (wi (x3)) ((x1.length : Nat) : Int)))))) (n := ((law02_OrderMidst_S5_e2 x1 x3).length)) (Nat.beq_refl _) (by kernel_rfl) flatRowsOf_os sizeOk_os (tbE h14)), .y (mm := [(Blk.flat 3 1 (List.map (encI .i64) (order_Sort_o_L2_r0_3 (order_Sort_o_e2 x1) (((order_Sort_o_e2 x1) : Nat) : Int) (order_Sort_o_S3_e0 (order_Sort_o_e0 x1) (order_Sort_o_e2 x1)))) false), (Blk.flat 3 1 (List.map (encI .i64) (law02_OrderMidst_S5_e3 x1 x3)) false)]) (args := [(V.so false 1 ((law02_OrderMidst_S5_e3 x1 x3).length))]) (args1 := [(V.d (.rs true 1 (List.map (encI .i64) (law02_OrderMidst_S5_e3 x1 x3)) false))]) (byvals_cons (byval_so (enc := (encI .i64)) (l := (law02_OrderMidst_S5_e3 x1 x3)) (b := false) (e := 3) (s := 1) (p := false) (n := ((law02_OrderMidst_S5_e3 x1 x3).length)) (Nat.beq_refl _) (by kernel_rfl)) (by kernel_rfl)), .c (order_Mid_o_t0 false (law02_OrderMidst_S5_e3 x1 x3) (tbE h15)), .y (mm := [(Blk.flat 3 1 (List.map (encI .i64) (order_Sort_o_L2_r0_3 (order_Sort_o_e2 x1) (((order_Sort_o_e2 x1) : Nat) : Int) (order_Sort_o_S3_e0 (order_Sort_o_e0 x1) (order_Sort_o_e2 x1)))) false), (Blk.flat 3 1 (List.map (encI .i64) (law02_OrderMidst_S5_e3 x1 x3)) false)]) (args := [(V.so false 0 (order_Sort_o_e2 x1))]) (args1 := [(V.d (.rs true 1 (List.map (encI .i64) (order_Sort_o_L2_r0_3 (order_Sort_o_e2 x1) (((order_Sort_o_e2 x1) : Nat) : Int) (order_Sort_o_S3_e0 (order_Sort_o_e0 x1) (order_Sort_o_e2 x1)))) false))]) (byvals_cons (byval_so (enc := (encI .i64)) (l := (order_Sort_o_L2_r0_3 (order_Sort_o_e2 x1) (((order_Sort_o_e2 x1) : Nat) : Int) (order_Sort_o_S3_e0 (order_Sort_o_e0 x1) (order_Sort_o_e2 x1)))) (b := false) (e := 3) (s := 1) (p := false) (n := (order_Sort_o_e2 x1)) (tbE h6) (by kernel_rfl)) (by kernel_rfl)), .c (order_Mid_o_t0 false (law02_OrderMidst_S5_e4 x1) (tbE h16)), .b (notT (tbE h17)), .b (notT (tbE h18)), .b (tbE h19), .b (tbE h20), .s (law02_OrderMidst_S2_t0 (law02_OrderMidst_S5_e4 x1) (law02_OrderMidst_S5_e3 x1 x3) false false x0 x1 x2 (order_Sort_o_e2 x1)), .b (tbE h21)] (by kernel_rfl)
                                          · cases h22 : tb (law02_OrderMidst_S3_c0 x1 x2)
                                            · intro g0 g1
                                              exact absurd g1 ft
                                            · cases h23 : tb (law02_OrderMidst_S4_c0 (law02_OrderMidst_S5_e4 x1) (order_Sort_o_e2 x1) (order_Mid_o_r0_0 (x1 ++ [x2])) (order_Mid_o_r0_1 (x1 ++ [x2])))
                                              · intro g0 g1
                                                exact absurd g1 ft
                                              · cases h24 : tb (law02_OrderMidst_S4_r0_3 (law02_OrderMidst_S5_e4 x1) (order_Sort_o_e2 x1) (order_Mid_o_r0_0 (x1 ++ [x2])) (order_Mid_o_r0_1 (x1 ++ [x2])))
                                                · intro g0 g1
                                                  exact seg_walk [.c (order_Sort_o_t0 x0 x1 (tbE h1)), .c (order_Mid_o_t0 x0 x1 (tbE h2)), .o 51 (fun _ => o_len_os (enc := (encI .i64)) (l := x1) (fl := true) (n := x0) (s := 1)), .b (tbE h3), .b (notT (tbE h4)), .m 60 (o_idx_so (m := [(Blk.flat 3 1 (List.map (encI .i64) (order_Sort_o_L2_r0_3 (order_Sort_o_e2 x1) (((order_Sort_o_e2 x1) : Nat) : Int) (order_Sort_o_S3_e0 (order_Sort_o_e0 x1) (order_Sort_o_e2 x1)))) false)]) (b := false) (id := 0) (n := (order_Sort_o_e2 x1)) (s := 1) (k := .i64) (by kernel_rfl) (tbE h5)), .m 61 (o_load_L (m := [(Blk.flat 3 1 (List.map (encI .i64) (order_Sort_o_L2_r0_3 (order_Sort_o_e2 x1) (((order_Sort_o_e2 x1) : Nat) : Int) (order_Sort_o_S3_e0 (order_Sort_o_e0 x1) (order_Sort_o_e2 x1)))) false)]) (enc := (encI .i64)) (l := (order_Sort_o_L2_r0_3 (order_Sort_o_e2 x1) (((order_Sort_o_e2 x1) : Nat) : Int) (order_Sort_o_S3_e0 (order_Sort_o_e0 x1) (order_Sort_o_e2 x1)))) (id := 0) (e := 3) (s := 1) (off := 0) (size := 1) (p := false) (agg := false) (i := 0) (v := (V.d (.int .i64 (law02_OrderMidst_S5_e0 x1)))) (n := (order_Sort_o_e2 x1)) (tbE h6) (by kernel_rfl) (tbE h5) (by kernel_rfl)), .b (tbE h7), .m 70 (o_idx_so (m := [(Blk.flat 3 1 (List.map (encI .i64) (order_Sort_o_L2_r0_3 (order_Sort_o_e2 x1) (((order_Sort_o_e2 x1) : Nat) : Int) (order_Sort_o_S3_e0 (order_Sort_o_e0 x1) (order_Sort_o_e2 x1)))) false)]) (b := false) (id := 0) (n := (order_Sort_o_e2 x1)) (s := 1) (k := .i64) (by kernel_rfl) (tbE h8)), .m 71 (o_load_L (m := [(Blk.flat 3 1 (List.map (encI .i64) (order_Sort_o_L2_r0_3 (order_Sort_o_e2 x1) (((order_Sort_o_e2 x1) : Nat) : Int) (order_Sort_o_S3_e0 (order_Sort_o_e0 x1) (order_Sort_o_e2 x1)))) false)]) (enc := (encI .i64)) (l := (order_Sort_o_L2_r0_3 (order_Sort_o_e2 x1) (((order_Sort_o_e2 x1) : Nat) : Int) (order_Sort_o_S3_e0 (order_Sort_o_e0 x1) (order_Sort_o_e2 x1)))) (id := 0) (e := 3) (s := 1) (off := 0) (size := 1) (p := false) (agg := false) (i := (wi ((((order_Sort_o_e2 x1) : Nat) : Int) - 1))) (v := (V.d (.int .i64 (law02_OrderMidst_S5_e1 x1)))) (n := (order_Sort_o_e2 x1)) (tbE h6) (by kernel_rfl) (tbE h8) (by kernel_rfl)), .b (tbE h9), .o 77 (fun _ => o_len_os (enc := (encI .i64)) (l := x1) (fl := true) (n := x0) (s := 1)), .o 78 (fun _ => o_rem (k := .i64) (x := (wi (x3))) (y := ((x1.length : Nat) : Int)) (tbE h10)), .o 82 (fun _ => o_slice_os (enc := (encI .i64)) (l := x1) (fl := true) (n := x0) (s := 1) (some (.i64, (remI .i64 (wi (x3)) ((x1.length : Nat) : Int)))) none (tbE h11)), .m 83 (o_app_sf (m := [(Blk.flat 3 1 (List.map (encI .i64) (order_Sort_o_L2_r0_3 (order_Sort_o_e2 x1) (((order_Sort_o_e2 x1) : Nat) : Int) (order_Sort_o_S3_e0 (order_Sort_o_e0 x1) (order_Sort_o_e2 x1)))) false), (Blk.flat 3 1 [] false)]) (enc := (encI .i64)) (l0 := ([] : List Int)) (l1 := (law02_OrderMidst_S5_e2 x1 x3)) (id := 1) (e := 3) (s := 1) (bytes := 8) (x := (V.d (slD (encI .i64) true 1 (x0 && x1.isEmpty) (law02_OrderMidst_S5_e2 x1 x3)))) (n := 0) (by kernel_rfl) (by kernel_rfl) flatRowsOf_os sizeOk_os (tbE h12)), .o 86 (fun _ => o_slice_os (enc := (encI .i64)) (l := x1) (fl := true) (n := x0) (s := 1) none (some (.i64, (remI .i64 (wi (x3)) ((x1.length : Nat) : Int)))) (tbE h13)), .m 87 (o_app_sf (m := [(Blk.flat 3 1 (List.map (encI .i64) (order_Sort_o_L2_r0_3 (order_Sort_o_e2 x1) (((order_Sort_o_e2 x1) : Nat) : Int) (order_Sort_o_S3_e0 (order_Sort_o_e0 x1) (order_Sort_o_e2 x1)))) false), (Blk.flat 3 1 (List.map (encI .i64) (law02_OrderMidst_S5_e2 x1 x3)) false)]) (enc := (encI .i64)) (l0 := (law02_OrderMidst_S5_e2 x1 x3)) (l1 := (sub x1 0 (remI .i64 (wi (x3)) ((x1.length : Nat) : Int)))) (id := 1) (e := 3) (s := 1) (bytes := 8) (x := (V.d (slD (encI .i64) true 1 (x0 && x1.isEmpty) (sub x1 0 (remI .i64 (wi (x3)) ((x1.length : Nat) : Int)))))) (n := ((law02_OrderMidst_S5_e2 x1 x3).length)) (Nat.beq_refl _) (by kernel_rfl) flatRowsOf_os sizeOk_os (tbE h14)), .y (mm := [(Blk.flat 3 1 (List.map (encI .i64) (order_Sort_o_L2_r0_3 (order_Sort_o_e2 x1) (((order_Sort_o_e2 x1) : Nat) : Int) (order_Sort_o_S3_e0 (order_Sort_o_e0 x1) (order_Sort_o_e2 x1)))) false), (Blk.flat 3 1 (List.map (encI .i64) (law02_OrderMidst_S5_e3 x1 x3)) false)]) (args := [(V.so false 1 ((law02_OrderMidst_S5_e3 x1 x3).length))]) (args1 := [(V.d (.rs true 1 (List.map (encI .i64) (law02_OrderMidst_S5_e3 x1 x3)) false))]) (byvals_cons (byval_so (enc := (encI .i64)) (l := (law02_OrderMidst_S5_e3 x1 x3)) (b := false) (e := 3) (s := 1) (p := false) (n := ((law02_OrderMidst_S5_e3 x1 x3).length)) (Nat.beq_refl _) (by kernel_rfl)) (by kernel_rfl)), .c (order_Mid_o_t0 false (law02_OrderMidst_S5_e3 x1 x3) (tbE h15)), .y (mm := [(Blk.flat 3 1 (List.map (encI .i64) (order_Sort_o_L2_r0_3 (order_Sort_o_e2 x1) (((order_Sort_o_e2 x1) : Nat) : Int) (order_Sort_o_S3_e0 (order_Sort_o_e0 x1) (order_Sort_o_e2 x1)))) false), (Blk.flat 3 1 (List.map (encI .i64) (law02_OrderMidst_S5_e3 x1 x3)) false)]) (args := [(V.so false 0 (order_Sort_o_e2 x1))]) (args1 := [(V.d (.rs true 1 (List.map (encI .i64) (order_Sort_o_L2_r0_3 (order_Sort_o_e2 x1) (((order_Sort_o_e2 x1) : Nat) : Int) (order_Sort_o_S3_e0 (order_Sort_o_e0 x1) (order_Sort_o_e2 x1)))) false))]) (byvals_cons (byval_so (enc := (encI .i64)) (l := (order_Sort_o_L2_r0_3 (order_Sort_o_e2 x1) (((order_Sort_o_e2 x1) : Nat) : Int) (order_Sort_o_S3_e0 (order_Sort_o_e0 x1) (order_Sort_o_e2 x1)))) (b := false) (e := 3) (s := 1) (p := false) (n := (order_Sort_o_e2 x1)) (tbE h6) (by kernel_rfl)) (by kernel_rfl)), .c (order_Mid_o_t0 false (law02_OrderMidst_S5_e4 x1) (tbE h16)), .b (notT (tbE h17)), .b (notT (tbE h18)), .b (tbE h19), .b (tbE h20), .s (law02_OrderMidst_S2_t0 (law02_OrderMidst_S5_e4 x1) (law02_OrderMidst_S5_e3 x1 x3) false false x0 x1 x2 (order_Sort_o_e2 x1)), .b (tbE h21), .s (law02_OrderMidst_S3_t0 (law02_OrderMidst_S5_e4 x1) (law02_OrderMidst_S5_e3 x1 x3) false false x0 x1 x2 (order_Sort_o_e2 x1) (tbE h22)), .s (law02_OrderMidst_S4_t0 (law02_OrderMidst_S5_e4 x1) (law02_OrderMidst_S5_e3 x1 x3) false false x0 x1 x2 (order_Sort_o_e2 x1) (order_Mid_o_r0_0 (x1 ++ [x2])) (order_Mid_o_r0_1 (x1 ++ [x2])) (tbE h23)), .b (tbE h24)] (by kernel_rfl)
                                                · intro g0 g1
                                                  exact absurd g0 tf
                                        · intro g0 g1
                                          exact absurd g0 tf
                                      · intro g0 g1
                                        exact absurd g0 tf
                    · intro g0 g1
                      exact absurd g1 ft
                  · intro g0 g1
                    exact absurd g0 tf
              · intro g0 g1
                exact absurd g0 tf
      · intro g0 g1
        exact absurd g0 tf

def law02_OrderMidst_S6_e0 (x1 : List Int) (x2 : Int) : List Int := (List.take (((dlL (slices_Clone_int_o_r0_1 false (x1 ++ [x2])) ((x1.length : Nat) : Int) (wi (((x1.length : Nat) : Int) + 1))).length) - ((wi (((x1.length : Nat) : Int) + 1)).toNat - ((x1.length : Nat) : Int).toNat)) (dlL (slices_Clone_int_o_r0_1 false (x1 ++ [x2])) ((x1.length : Nat) : Int) (wi (((x1.length : Nat) : Int) + 1))))

def law02_OrderMidst_S6_c0 (x1 : List Int) (x2 : Int) : Bool := (bif tb (decide ((([] : List Int).length + x1.length) * 8 ≤ 140737488355328)) then (bif tb (decide ((x1.length + [x2].length) * 8 ≤ 140737488355328)) then (bif tb (order_Without_oi_c0 false (x1 ++ [x2]) ((x1.length : Nat) : Int)) then (bif tb (ref02_Ints_oo_c0 (order_Without_oi_r0_1 false (x1 ++ [x2])) x1) then true else false) else (bif tb (order_Without_oi_c1 false (x1 ++ [x2]) ((x1.length : Nat) : Int)) then (bif tb (ref02_Ints_oo_c0 (law02_OrderMidst_S6_e0 x1 x2) x1) then true else false) else false)) else false) else false)

def law02_OrderMidst_S6_r0_0 (x1 : List Int) (x2 : Int) : Bool := (bif tb (order_Without_oi_c0 false (x1 ++ [x2]) ((x1.length : Nat) : Int)) then (ref02_Ints_oo_r0_0 (order_Without_oi_r0_1 false (x1 ++ [x2])) x1) else (ref02_Ints_oo_r0_0 (law02_OrderMidst_S6_e0 x1 x2) x1))

theorem law02_OrderMidst_S6_t0 (x0 : Bool) (x1 : List Int) (x2 : Int) : law02_OrderMidst_S6_c0 x1 x2 = true → segG (runC E0 (cl E0) S5_6) [0, 1] [] [20] 0 ([(V.d (slD (encI .i64) true 1 x0 x1)), (V.d (.int .i64 x2))], []) = some (.normal, ([(V.d (.bool (law02_OrderMidst_S6_r0_0 x1 x2)))], [])) := by
  unfold law02_OrderMidst_S6_c0 law02_OrderMidst_S6_r0_0
  cases h1 : tb (decide ((([] : List Int).length + x1.length) * 8 ≤ 140737488355328))
  · intro g0
    exact absurd g0 ft
  · cases h2 : tb (decide ((x1.length + [x2].length) * 8 ≤ 140737488355328))
    · intro g0
      exact absurd g0 ft
    · cases h3 : tb (order_Without_oi_c0 false (x1 ++ [x2]) ((x1.length : Nat) : Int))
      · cases h4 : tb (order_Without_oi_c1 false (x1 ++ [x2]) ((x1.length : Nat) : Int))
        · intro g0
          exact absurd g0 ft
        · cases h5 : tb (ref02_Ints_oo_c0 (law02_OrderMidst_S6_e0 x1 x2) x1)
          · intro g0
            exact absurd g0 ft
          · intro g0
            exact seg_walk [.m 153 (o_app_sf (m := [(Blk.flat 3 1 [] false)]) (enc := (encI .i64)) (l0 := ([] : List Int)) (l1 := x1) (id := 0) (e := 3) (s := 1) (bytes := 8) (x := (V.d (slD (encI .i64) true 1 x0 x1))) (n := 0) (by kernel_rfl) (by kernel_rfl) flatRowsOf_os sizeOk_os (tbE h1)), .m 156 (o_app_sf (m := [(Blk.flat 3 1 (List.map (encI .i64) x1) false), (Blk.flat 3 1 [[(.int .i64 x2)]] false)]) (enc := (encI .i64)) (l0 := x1) (l1 := [x2]) (id := 0) (e := 3) (s := 1) (bytes := 8) (x := (V.so false 1 1)) (n := x1.length) (Nat.beq_refl _) (by kernel_rfl) (by kernel_rfl) (by kernel_rfl) (tbE h2)), .o 158 (fun _ => o_len_os (enc := (encI .i64)) (l := x1) (fl := true) (n := x0) (s := 1)), .y (mm := [(Blk.flat 3 1 (List.map (encI .i64) (x1 ++ [x2])) false), (Blk.flat 3 1 [[(.int .i64 x2)]] false)]) (args := [(V.so false 0 ((x1 ++ [x2]).length)), (V.d (.int .i64 ((x1.length : Nat) : Int)))]) (args1 := [(V.d (.rs true 1 (List.map (encI .i64) (x1 ++ [x2])) false)), (V.d (.int .i64 ((x1.length : Nat) : Int)))]) (byvals_cons (byval_so (enc := (encI .i64)) (l := (x1 ++ [x2])) (b := false) (e := 3) (s := 1) (p := false) (n := ((x1 ++ [x2]).length)) (Nat.beq_refl _) (by kernel_rfl)) (by kernel_rfl)), .c (order_Without_oi_t1 false (x1 ++ [x2]) ((x1.length : Nat) : Int) (tbE h3) (tbE h4)), .y (mm := [(Blk.flat 3 1 (List.map (encI .i64) (x1 ++ [x2])) false), (Blk.flat 3 1 [[(.int .i64 x2)]] false), (Blk.flat 3 1 (List.map (encI .i64) (dlL (slices_Clone_int_o_r0_1 false (x1 ++ [x2])) ((x1.length : Nat) : Int) (wi (((x1.length : Nat) : Int) + 1)))) false)]) (args := [(V.sl 2 ((dlL (slices_Clone_int_o_r0_1 false (x1 ++ [x2])) ((x1.length : Nat) : Int) (wi (((x1.length : Nat) : Int) + 1))).length) 0 (((dlL (slices_Clone_int_o_r0_1 false (x1 ++ [x2])) ((x1.length : Nat) : Int) (wi (((x1.length : Nat) : Int) + 1))).length) - ((wi (((x1.length : Nat) : Int) + 1)).toNat - ((x1.length : Nat) : Int).toNat))), (V.d (slD (encI .i64) true 1 x0 x1))]) (args1 := [(V.d (.rs true 1 (List.map (encI .i64) (List.take (((dlL (slices_Clone_int_o_r0_1 false (x1 ++ [x2])) ((x1.length : Nat) : Int) (wi (((x1.length : Nat) : Int) + 1))).length) - ((wi (((x1.length : Nat) : Int) + 1)).toNat - ((x1.length : Nat) : Int).toNat)) (dlL (slices_Clone_int_o_r0_1 false (x1 ++ [x2])) ((x1.length : Nat) : Int) (wi (((x1.length : Nat) : Int) + 1))))) false)), (V.d (slD (encI .i64) true 1 x0 x1))]) (byvals_cons (byval_sv (enc := (encI .i64)) (l := (dlL (slices_Clone_int_o_r0_1 false (x1 ++ [x2])) ((x1.length : Nat) : Int) (wi (((x1.length : Nat) : Int) + 1)))) (e := 3) (s := 1) (p := false) (n := ((dlL (slices_Clone_int_o_r0_1 false (x1 ++ [x2])) ((x1.length : Nat) : Int) (wi (((x1.length : Nat) : Int) + 1))).length)) (d := ((wi (((x1.length : Nat) : Int) + 1)).toNat - ((x1.length : Nat) : Int).toNat)) (Nat.beq_refl _) (by kernel_rfl)) (by kernel_rfl)), .c (ref02_Ints_oo_t0 false (law02_OrderMidst_S6_e0 x1 x2) x0 x1 (tbE h5))] (by kernel_rfl)
      · cases h4 : tb (ref02_Ints_oo_c0 (order_Without_oi_r0_1 false (x1 ++ [x2])) x1)
        · intro g0
          exact absurd g0 ft
        · intro g0
          exact seg_walk [.m 153 (o_app_sf (m := [(Blk.flat 3 1 [] false)]) (enc := (encI .i64)) (l0 := ([] : List Int)) (l1 := x1) (id := 0) (e := 3) (s := 1) (bytes := 8) (x := (V.d (slD (encI .i64) true 1 x0 x1))) (n := 0) (by kernel_rfl) (by kernel_rfl) flatRowsOf_os sizeOk_os (tbE h1)), .m 156 (o_app_sf (m := [(Blk.flat 3 1 (List.map (encI .i64) x1) false), (Blk.flat 3 1 [[(.int .i64 x2)]] false)]) (enc := (encI .i64)) (l0 := x1) (l1 := [x2]) (id := 0) (e := 3) (s := 1) (bytes := 8) (x := (V.so false 1 1)) (n := x1.length) (Nat.beq_refl _) (by kernel_rfl) (by kernel_rfl) (by kernel_rfl) (tbE h2)), .o 158 (fun _ => o_len_os (enc := (encI .i64)) (l := x1) (fl := true) (n := x0) (s := 1)), .y (mm := [(Blk.flat 3 1 (List.map (encI .i64) (x1 ++ [x2])) false), (Blk.flat 3 1 [[(.int .i64 x2)]] false)]) (args := [(V.so false 0 ((x1 ++ [x2]).length)), (V.d (.int .i64 ((x1.length : Nat) : Int)))]) (args1 := [(V.d (.rs true 1 (List.map (encI .i64) (x1 ++ [x2])) false)), (V.d (.int .i64 ((x1.length : Nat) : Int)))]) (byvals_cons (byval_so (enc := (encI .i64)) (l := (x1 ++ [x2])) (b := false) (e := 3) (s := 1) (p := false) (n := ((x1 ++ [x2]).length)) (Nat.beq_refl _) (by kernel_rfl)) (by kernel_rfl)), .c (order_Without_oi_t0 false (x1 ++ [x2]) ((x1.length : Nat) : Int) (tbE h3)), .y (mm := [(Blk.flat 3 1 (List.map (encI .i64) (x1 ++ [x2])) false), (Blk.flat 3 1 [[(.int .i64 x2)]] false), (Blk.flat 3 1 (List.map (encI .i64) (order_Without_oi_r0_1 false (x1 ++ [x2]))) false)]) (args := [(V.so (order_Without_oi_r0_0 false (x1 ++ [x2])) 2 ((order_Without_oi_r0_1 false (x1 ++ [x2])).length)), (V.d (slD (encI .i64) true 1 x0 x1))]) (args1 := [(V.d (slD (encI .i64) true 1 (order_Without_oi_r0_0 false (x1 ++ [x2])) (order_Without_oi_r0_1 false (x1 ++ [x2])))), (V.d (slD (encI .i64) true 1 x0 x1))]) (byvals_cons (byval_so (enc := (encI .i64)) (l := (order_Without_oi_r0_1 false (x1 ++ [x2]))) (b := (order_Without_oi_r0_0 false (x1 ++ [x2]))) (e := 3) (s := 1) (p := false) (n := ((order_Without_oi_r0_1 false (x1 ++ [x2])).length)) (Nat.beq_refl _) (by kernel_rfl)) (by kernel_rfl)), .c (ref02_Ints_oo_t0 (order_Without_oi_r0_0 false (x1 ++ [x2])) (order_Without_oi_r0_1 false (x1 ++ [x2])) x0 x1 (tbE h4))] (by kernel_rfl)

def law02_OrderMidst_c0 (x1 : List Int) (x2 : Int) (x3 : Int) : Bool := (bif tb (law02_OrderMidst_S0_c0 x1 x2) then (bif tb (law02_OrderMidst_S1_c0 x1 (ref02_Right_o_r0_0 (x1 ++ [x2]))) then true else (bif tb (law02_OrderMidst_S5_c0 x1 x2 x3) then true else (bif tb (law02_OrderMidst_S5_c1 x1 x2 x3) then (bif tb (law02_OrderMidst_S6_c0 x1 x2) then true else false) else false))) else false)

def law02_OrderMidst_r0_0 (x1 : List Int) (x2 : Int) (x3 : Int) : Bool := (bif tb (law02_OrderMidst_S1_c0 x1 (ref02_Right_o_r0_0 (x1 ++ [x2]))) then true else (bif tb (law02_OrderMidst_S5_c0 x1 x2 x3) then false else (law02_OrderMidst_S6_r0_0 x1 x2)))

theorem law02_OrderMidst_t0 (x0 : Bool) (x1 : List Int) (x2 : Int) (x3 : Int) : law02_OrderMidst_c0 x1 x2 x3 = true → cl E0 5 [(V.d (slD (encI .i64) true 1 x0 x1)), (V.d (.int .i64 x2)), (V.d (.int .u8 x3))] [] = some ([(V.d (.bool (law02_OrderMidst_r0_0 x1 x2 x3)))], []) := by
  unfold law02_OrderMidst_c0 law02_OrderMidst_r0_0
  cases h1 : tb (law02_OrderMidst_S0_c0 x1 x2)
  · intro g0
    exact absurd g0 ft
  · cases h2 : tb (law02_OrderMidst_S1_c0 x1 (ref02_Right_o_r0_0 (x1 ++ [x2])))
    · cases h3 : tb (law02_OrderMidst_S5_c0 x1 x2 x3)
      · cases h4 : tb (law02_OrderMidst_S5_c1 x1 x2 x3)
        · intro g0
          exact absurd g0 ft
        · cases h5 : tb (law02_OrderMidst_S6_c0 x1 x2)
          · intro g0
            exact absurd g0 ft
          · intro g0
            exact w5 [.s (law02_OrderMidst_S0_t0 x0 x1 x2 x3 (tbE h1)), .s (law02_OrderMidst_S1_t1 x0 x1 x2 x3 (ref02_Right_o_r0_0 (x1 ++ [x2])) (tbE h2)), .s (law02_OrderMidst_S5_t1 x0 x1 x2 x3 (tbE h3) (tbE h4)), .s (law02_OrderMidst_S6_t0 x0 x1 x2 (tbE h5)), .c (law02_alive_t0), .k true] (by kernel_rfl)
      · intro g0
        exact w5 [.s (law02_OrderMidst_S0_t0 x0 x1 x2 x3 (tbE h1)), .s (law02_OrderMidst_S1_t1 x0 x1 x2 x3 (ref02_Right_o_r0_0 (x1 ++ [x2])) (tbE h2)), .s (law02_OrderMidst_S5_t0 x0 x1 x2 x3 (tbE h3))] (by kernel_rfl)
    · intro g0
      exact w5 [.s (law02_OrderMidst_S0_t0 x0 x1 x2 x3 (tbE h1)), .s (law02_OrderMidst_S1_t0 x0 x1 x2 x3 (ref02_Right_o_r0_0 (x1 ++ [x2])) (tbE h2))] (by kernel_rfl)

end Go.Proofs.Ytdlhhoejnhjbhaa.Den

/- A type's data, opened cell by cell. -/
namespace Go.Proofs.Ytdlhhoejnhjbhaa.Den
open Go
set_option linter.unusedVariables false
set_option linter.unusedSimpArgs false

inductive CK where
  | b
  | i (k : IntKind)
  | s
  | l (e : TypeId)

def flatK (P : Program) : Nat → TypeId → Option (List CK)
  | 0, _ => none
  | n + 1, t => match P.underlying t with
    | some .bool => some [.b]
    | some (.int k) => some [.i k]
    | some .string => some [.s]
    | some (.slice e) => some [.l e]
    | some (.struct fs) => (fs.toList.mapM fun f => flatK P n f.type).map List.flatten
    | some (.array m e) => (flatK P n e).map fun l => (List.replicate m l).flatten
    | _ => none

def WfI (k : IntKind) (z : Int) : Prop := (Lit.int k z).wf = true

def CellK (P : Program) : CK → D → Prop
  | .b, d => ∃ b, d = .bool b
  | .i k, d => ∃ z, d = .int k z ∧ WfI k z
  | .s, d => ∃ s, d = .str s ∧ s.size ≤ 140737488351232
  | .l e, d => d = .nils ∨ ∃ rows, d = .rs (isFlat P e) (P.cellsOf e) rows false ∧ rows.length ≤ maxLen ∧ rows.length * P.bytesOf e ≤ 140737488351232 ∧ ∃ n, ∀ r, r ∈ rows → Ty P n e r

def CellsK (P : Program) : List CK → List D → Prop
  | [], ds => ds = []
  | k :: ks, ds => ∃ d r, ds = d :: r ∧ CellK P k d ∧ CellsK P ks r

theorem CellsK.append {P : Program} : ∀ {a b : List CK} {x y : List D}, CellsK P a x → CellsK P b y → CellsK P (a ++ b) (x ++ y)
  | [], _, _, _, h, h' => by simp only [CellsK] at h; subst h; simpa using h'
  | k :: a, b, x, y, h, h' => by
    simp only [CellsK] at h
    obtain ⟨d, r, rfl, h1, h2⟩ := h
    simp only [List.cons_append, CellsK]
    exact ⟨d, _, rfl, h1, CellsK.append h2 h'⟩

theorem flatK_fs {P : Program} {n : Nat} (ih : ∀ t ks ds, flatK P n t = some ks → Ty P n t ds → CellsK P ks ds) : ∀ (fs : List Field) (l : List (List CK)) (ds : List D), fs.mapM (fun f => flatK P n f.type) = some l → TyFs (Ty P n) fs ds → CellsK P l.flatten ds
  | [], l, ds, h, ht => by
    simp at h; subst h
    obtain rfl := tyfs_nil ht
    simp [CellsK]
  | f :: fs, l, ds, h, ht => by
    rw [List.mapM_cons] at h
    simp only [Option.bind_eq_bind, Option.bind_eq_some_iff, Option.pure_def, Option.some.injEq] at h
    obtain ⟨a, h1, b, h2, rfl⟩ := h
    obtain ⟨x, y, rfl, g1, g2⟩ := tyfs_cons ht
    simp only [List.flatten_cons]
    exact (ih _ _ _ h1 g1).append (flatK_fs ih fs b y h2 g2)

theorem flatK_ok {P : Program} : ∀ (n : Nat) (t : TypeId) (ks : List CK) (ds : List D), flatK P n t = some ks → Ty P n t ds → CellsK P ks ds
  | 0, _, _, _, h, _ => by simp [flatK] at h
  | n + 1, t, ks, ds, h, ht => by
    simp only [flatK] at h
    cases hu : P.underlying t with
    | none => simp [hu] at h
    | some u =>
      rw [hu] at h
      cases u with
      | bool => cases h; obtain ⟨b, rfl⟩ := ty_bool ht hu; exact ⟨_, [], rfl, ⟨b, rfl⟩, rfl⟩
      | int k => cases h; obtain ⟨z, rfl, hz⟩ := ty_int ht hu; exact ⟨_, [], rfl, ⟨z, rfl, hz⟩, rfl⟩
      | string => cases h; obtain ⟨z, rfl, hz⟩ := ty_str ht hu; exact ⟨_, [], rfl, ⟨z, rfl, hz⟩, rfl⟩
      | slice e =>
        cases h
        rcases ty_slice ht hu with rfl | ⟨rows, rfl, h1, h1b, h2⟩
        · exact ⟨_, [], rfl, .inl rfl, rfl⟩
        · exact ⟨_, [], rfl, .inr ⟨rows, rfl, h1, h1b, n, h2⟩, rfl⟩
      | struct fs =>
        obtain ⟨l, hl, rfl⟩ := Option.map_eq_some_iff.1 h
        exact flatK_fs (fun t ks ds => flatK_ok n t ks ds) fs.toList l ds hl (ty_struct ht hu)
      | array m e =>
        obtain ⟨l, hl, rfl⟩ := Option.map_eq_some_iff.1 h
        obtain ⟨rows, hr, rfl, hall⟩ := ty_arr ht hu
        have key : ∀ (rows : List (List D)), (∀ r, r ∈ rows → Ty P n e r) → CellsK P (List.replicate rows.length l).flatten rows.flatten := by
          intro rows
          induction rows with
          | nil => intro _; simp [CellsK]
          | cons r rows ih =>
            intro hall
            simp only [List.length_cons, List.replicate_succ, List.flatten_cons]
            exact (flatK_ok n e l r hl (hall r (by simp))).append (ih fun x hx => hall x (by simp [hx]))
        rw [← hr]; exact key rows hall
      | _ => simp at h

/-- The rows of a list, told by an encoding. -/
theorem rows_of {α : Type} {enc : α → List D} {wf : α → Prop} {T : List D → Prop} (h : ∀ r, T r → ∃ x, r = enc x ∧ wf x) : ∀ rows : List (List D), (∀ r, r ∈ rows → T r) → ∃ l : List α, rows = l.map enc ∧ ∀ x, x ∈ l → wf x
  | [], _ => ⟨[], rfl, fun _ h => by simp at h⟩
  | r :: rows, hr => by
    obtain ⟨x, rfl, hx⟩ := h r (hr r (by simp))
    obtain ⟨l, rfl, hl⟩ := rows_of h rows fun y hy => hr y (by simp [hy])
    refine ⟨x :: l, rfl, fun y hy => ?_⟩
    rcases List.mem_cons.1 hy with rfl | hy
    · exact hx
    · exact hl y hy

theorem ints_of {P : Program} {n : Nat} {e : TypeId} {k : IntKind} (hu : P.underlying e = some (.int k)) {rows : List (List D)} (h : ∀ r, r ∈ rows → Ty P n e r) : ∃ l : List Int, rows = l.map (encI k) ∧ ∀ z, z ∈ l → WfI k z :=
  rows_of (T := Ty P n e) (fun r hr => by
    cases n with
    | zero => simp [Ty] at hr
    | succ n => obtain ⟨z, rfl, hz⟩ := ty_int hr hu; exact ⟨z, rfl, hz⟩) rows h

theorem bools_of {P : Program} {n : Nat} {e : TypeId} (hu : P.underlying e = some .bool) {rows : List (List D)} (h : ∀ r, r ∈ rows → Ty P n e r) : ∃ l : List Bool, rows = l.map encB ∧ ∀ z, z ∈ l → True :=
  rows_of (T := Ty P n e) (fun r hr => by
    cases n with
    | zero => simp [Ty] at hr
    | succ n => obtain ⟨z, rfl⟩ := ty_bool hr hu; exact ⟨z, rfl, trivial⟩) rows h

theorem tyFs_mono {T T' : TypeId → List D → Prop} (h : ∀ t ds, T t ds → T' t ds) : ∀ (fs : List Field) (ds : List D), TyFs T fs ds → TyFs T' fs ds
  | [], ds, ht => ht
  | f :: fs, ds, ht => by
    obtain ⟨x, y, rfl, g1, g2⟩ := tyfs_cons ht
    simp only [TyFs]
    exact ⟨x, y, rfl, h _ _ g1, tyFs_mono h fs y g2⟩

theorem ty_mono {P : Program} : ∀ (n : Nat) (t : TypeId) (ds : List D), Ty P n t ds → Ty P (n + 1) t ds
  | 0, _, _, h => by simp [Ty] at h
  | n + 1, t, ds, h => by
    rw [Ty] at h ⊢
    cases hu : P.underlying t with
    | none => simp [hu] at h
    | some u =>
      rw [hu] at h
      cases u with
      | slice e =>
        rcases h with rfl | ⟨rows, rfl, h1, h1b, h2⟩
        · exact .inl rfl
        · exact .inr ⟨rows, rfl, h1, h1b, fun r hr => ty_mono n _ _ (h2 r hr)⟩
      | struct fs => exact tyFs_mono (fun t ds => ty_mono n t ds) _ _ h
      | array m e =>
        obtain ⟨rows, h1, rfl, h2⟩ := h
        exact ⟨rows, h1, rfl, fun r hr => ty_mono n _ _ (h2 r hr)⟩
      | _ => exact h

theorem mapM_mono {α β : Type} {f g : α → Option β} (h : ∀ a b, f a = some b → g a = some b) : ∀ (l : List α) (r : List β), l.mapM f = some r → l.mapM g = some r
  | [], r, hr => by simpa using hr
  | a :: l, r, hr => by
    rw [List.mapM_cons] at hr ⊢
    simp only [Option.bind_eq_bind, Option.bind_eq_some_iff, Option.pure_def, Option.some.injEq] at hr ⊢
    obtain ⟨x, h1, y, h2, rfl⟩ := hr
    exact ⟨x, h a x h1, y, mapM_mono h l y h2, rfl⟩

theorem flatK_mono {P : Program} : ∀ (n : Nat) (t : TypeId) (ks : List CK), flatK P n t = some ks → flatK P (n + 1) t = some ks
  | 0, _, _, h => by simp [flatK] at h
  | n + 1, t, ks, h => by
    rw [flatK] at h ⊢
    cases hu : P.underlying t with
    | none => simp [hu] at h
    | some u =>
      rw [hu] at h
      cases u with
      | struct fs =>
        obtain ⟨l, hl, rfl⟩ := Option.map_eq_some_iff.1 h
        simp only [mapM_mono (fun f b hb => flatK_mono n _ _ hb) _ _ hl, Option.map_some]
      | array m e =>
        obtain ⟨l, hl, rfl⟩ := Option.map_eq_some_iff.1 h
        simp only [flatK_mono n _ _ hl, Option.map_some]
      | _ => exact h

/-- The cells of an element's type, at any depth. -/
theorem flatK_any {P : Program} {k : Nat} {t : TypeId} {ks : List CK} {ds : List D} (h : flatK P k t = some ks) {n : Nat} (ht : Ty P n t ds) : CellsK P ks ds := by
  have h1 : ∀ j, flatK P (k + j) t = some ks := fun j => by
    induction j with
    | zero => exact h
    | succ j ih => exact flatK_mono _ _ _ ih
  have h2 : ∀ j, Ty P (n + j) t ds := fun j => by
    induction j with
    | zero => exact ht
    | succ j ih => exact ty_mono _ _ _ ih
  refine flatK_ok (k + n) t ks ds (h1 n) ?_
  rw [Nat.add_comm]; exact h2 k

theorem wfI_i64 {z : Int} (h : WfI .i64 z) : -9223372036854775808 ≤ z ∧ z ≤ 9223372036854775807 := by
  simp [WfI, Lit.wf, IntKind.min, IntKind.max, IntKind.signed, IntKind.bits] at h
  omega
end Go.Proofs.Ytdlhhoejnhjbhaa.Den

/- Plain laws on the words of the printed texts. -/
namespace Go.Proofs.Ytdlhhoejnhjbhaa.Den
open Go
set_option linter.unusedVariables false
set_option linter.unusedSimpArgs false

@[simp] theorem tb_eq (b : Bool) : tb b = b := rfl

theorem wrap64 {x : Int} (h1 : -9223372036854775808 ≤ x) (h2 : x ≤ 9223372036854775807) : IntKind.i64.wrap x = x := by
  unfold IntKind.wrap
  simp [IntKind.bits, IntKind.signed]
  omega

theorem wi_eq {x : Int} (h1 : -9223372036854775808 ≤ x) (h2 : x ≤ 9223372036854775807) : wi x = x := wrap64 h1 h2

theorem wfI_i32 {z : Int} (h : WfI .i32 z) : -2147483648 ≤ z ∧ z ≤ 2147483647 := by
  simp [WfI, Lit.wf, IntKind.min, IntKind.max, IntKind.signed, IntKind.bits] at h
  omega
theorem wfI_i16 {z : Int} (h : WfI .i16 z) : -32768 ≤ z ∧ z ≤ 32767 := by
  simp [WfI, Lit.wf, IntKind.min, IntKind.max, IntKind.signed, IntKind.bits] at h
  omega
theorem wfI_u8 {z : Int} (h : WfI .u8 z) : 0 ≤ z ∧ z ≤ 255 := by
  simp [WfI, Lit.wf, IntKind.min, IntKind.max, IntKind.signed, IntKind.bits] at h
  omega
theorem wfI_u16 {z : Int} (h : WfI .u16 z) : 0 ≤ z ∧ z ≤ 65535 := by
  simp [WfI, Lit.wf, IntKind.min, IntKind.max, IntKind.signed, IntKind.bits] at h
  omega
theorem wfI_u32 {z : Int} (h : WfI .u32 z) : 0 ≤ z ∧ z ≤ 4294967295 := by
  simp [WfI, Lit.wf, IntKind.min, IntKind.max, IntKind.signed, IntKind.bits] at h
  omega

theorem mxI_eq (a b : Int) : mxI a b = max a b := by unfold mxI; split <;> omega
theorem mnI_eq (a b : Int) : mnI a b = min a b := by unfold mnI; split <;> omega

theorem inb_iff {n : Nat} {i : Int} : inb n i = true ↔ 0 ≤ i ∧ i < n := by simp [inb]
theorem inb_of {n : Nat} {i : Int} (h1 : 0 ≤ i) (h2 : i < n) : inb n i = true := inb_iff.2 ⟨h1, h2⟩

theorem loop_inv {S : Type} {sel : S → Bool} {nx : S → S} (J : S → Prop) (μ : S → Nat) {s0 : S} (h0 : J s0) (hb : μ s0 < 1152921504606846976) (hn : ∀ s, J s → sel s = true → J (nx s) ∧ μ (nx s) < μ s) :
    ∃ s1, itS sel nx bound s0 = some s1 ∧ J s1 ∧ sel s1 = false := itS_inv J μ hn bound s0 h0 hb

/-- A loop told by a function of its states. -/
theorem loop_fun {S : Type} {sel : S → Bool} {nx : S → S} (J : S → Prop) (μ : S → Nat) (g : S → S) {s0 : S} (h0 : J s0) (hb : μ s0 < 1152921504606846976) (hs : ∀ s, J s → sel s = false → g s = s) (hn : ∀ s, J s → sel s = true → J (nx s) ∧ μ (nx s) < μ s ∧ g (nx s) = g s) :
    itS sel nx bound s0 = some (g s0) := itS_eq J μ g hs hn bound s0 h0 hb

theorem gt_mem {α : Type} [Inhabited α] {l : List α} {i : Int} (h1 : 0 ≤ i) (h2 : i < l.length) : gt l i ∈ l := by
  have h : i.toNat < l.length := by omega
  have : gt l i = l[i.toNat] := by simp [gt, List.getD, h]
  rw [this]; exact List.getElem_mem h

theorem gt_nat {α : Type} [Inhabited α] {l : List α} {k : Nat} (h : k < l.length) : gt l (k : Int) = l[k] := by simp [gt, List.getD, h]

theorem gt_getElem {α : Type} [Inhabited α] {l : List α} {i : Int} (h1 : 0 ≤ i) (h2 : i.toNat < l.length) : gt l i = l[i.toNat] := by simp [gt, List.getD, h2]

/-- A loop over a list by an index, that stops where a test fails. -/
theorem all_loop {S α : Type} [Inhabited α] {sel : S → Bool} {nx : S → S} {s0 : S} (l : List α) (ix : S → Int) (p : α → Bool) (J : S → Prop) (hl : l.length < 1152921504606846976) (h0 : ix s0 = 0) (hJ0 : J s0)
    (hnx : ∀ s, J s → 0 ≤ ix s → ix s < l.length → sel s = true → ix (nx s) = ix s + 1 ∧ J (nx s)) (hsel : ∀ s, J s → 0 ≤ ix s → ix s ≤ l.length → sel s = (decide (ix s < l.length) && p (gt l (ix s)))) :
    ∃ s1, itS sel nx bound s0 = some s1 ∧ J s1 ∧ 0 ≤ ix s1 ∧ ((ix s1 = l.length ∧ l.all p = true) ∨ (ix s1 < l.length ∧ p (gt l (ix s1)) = false ∧ l.all p = false)) := by
  obtain ⟨s1, e, ⟨hJ, a1, a2, a3⟩, hs⟩ := loop_inv (sel := sel) (nx := nx) (fun s => J s ∧ 0 ≤ ix s ∧ ix s ≤ l.length ∧ ∀ j : Nat, (j : Int) < ix s → p (gt l j) = true) (fun s => (l.length - ix s).toNat) (s0 := s0)
    ⟨hJ0, by omega, by omega, fun j hj => by omega⟩ (by omega) (fun s ⟨hJ, b1, b2, b3⟩ hs => by
      have h1 := hsel s hJ b1 b2
      rw [hs] at h1
      have h2 := (Bool.and_eq_true _ _).mp h1.symm
      have h3 : ix s < l.length := by simpa using h2.1
      obtain ⟨h4, h5⟩ := hnx s hJ b1 h3 hs
      refine ⟨⟨h5, by omega, by omega, fun j hj => ?_⟩, by omega⟩
      by_cases hjj : (j : Int) < ix s
      · exact b3 j hjj
      · have : (j : Int) = ix s := by omega
        rw [this]; exact h2.2)
  refine ⟨s1, e, hJ, a1, ?_⟩
  rcases Int.lt_or_eq_of_le a2 with h | h
  · have h1 := hsel s1 hJ a1 a2
    rw [hs] at h1
    have hp : p (gt l (ix s1)) = false := by simpa [h] using h1.symm
    refine .inr ⟨h, hp, ?_⟩
    rw [List.all_eq_false]
    exact ⟨_, gt_mem a1 h, by simp [hp]⟩
  · refine .inl ⟨h, ?_⟩
    rw [List.all_eq_true]
    intro x hx
    obtain ⟨j, hj, rfl⟩ := List.getElem_of_mem hx
    have := a3 j (by omega)
    rwa [gt_nat hj] at this

/-- A loop by an index that goes to its end. -/
theorem idx_loop {S : Type} {sel : S → Bool} {nx : S → S} {s0 : S} (n : Int) (ix : S → Int) (J : S → Prop) (hn : n < 1152921504606846976) (h0 : J s0) (h1 : 0 ≤ ix s0) (h2 : ix s0 ≤ n)
    (hr : ∀ s, J s → 0 ≤ ix s → ix s < n → sel s = true ∧ J (nx s) ∧ ix (nx s) = ix s + 1) (he : ∀ s, J s → ix s = n → sel s = false) : ∃ s1, itS sel nx bound s0 = some s1 ∧ J s1 ∧ ix s1 = n := by
  obtain ⟨s1, e, ⟨hJ, a1, a2⟩, hs⟩ := loop_inv (sel := sel) (nx := nx) (fun s => J s ∧ 0 ≤ ix s ∧ ix s ≤ n) (fun s => (n - ix s).toNat) (s0 := s0) ⟨h0, h1, h2⟩ (by omega) (fun s ⟨hJ, b1, b2⟩ hs => by
    by_cases h : ix s = n
    · rw [he s hJ h] at hs; cases hs
    · obtain ⟨_, g1, g2⟩ := hr s hJ b1 (by omega)
      exact ⟨⟨g1, by omega, by omega⟩, by omega⟩)
  refine ⟨s1, e, hJ, ?_⟩
  by_cases h : ix s1 = n
  · exact h
  · rw [(hr s1 hJ a1 (by omega)).1] at hs; cases hs

end Go.Proofs.Ytdlhhoejnhjbhaa.Den

/- Plain laws on lists and loops, for all seats. -/
namespace Go.Proofs.Ytdlhhoejnhjbhaa.Den
open Go
set_option linter.unusedVariables false
set_option linter.unusedSimpArgs false

/-- A loop whose states are known one by one. -/
theorem loop_seq {S : Type} {sel : S → Bool} {nx : S → S} (st : Nat → S) (n : Nat) (hb : n < 1152921504606846976) (hn : ∀ k, k < n → sel (st k) = true ∧ nx (st k) = st (k + 1)) (he : sel (st n) = false) : itS sel nx bound (st 0) = some (st n) := by
  have key : ∀ (d N : Nat), d ≤ n → d < N → itS sel nx N (st (n - d)) = some (st n) := by
    intro d
    induction d with
    | zero =>
      intro N _ hN
      obtain ⟨N, rfl⟩ : ∃ M, N = M + 1 := ⟨N - 1, by omega⟩
      simp only [Nat.sub_zero, itS, he]
    | succ d ih =>
      intro N h1 hN
      obtain ⟨N, rfl⟩ : ∃ M, N = M + 1 := ⟨N - 1, by omega⟩
      obtain ⟨g1, g2⟩ := hn (n - (d + 1)) (by omega)
      simp only [itS, g1, g2]
      rw [show n - (d + 1) + 1 = n - d by omega]
      exact ih N (by omega) (by omega)
  have := key n bound (Nat.le_refl _) (by unfold bound; omega)
  rwa [Nat.sub_self] at this

theorem gt_zip {l k : List Int} (h : l.length = k.length) {i : Int} (h1 : 0 ≤ i) (h2 : i < l.length) : gt (l.zip k) i = (gt l i, gt k i) := by
  rw [gt_getElem h1 (by rw [List.length_zip]; omega), gt_getElem h1 (by omega), gt_getElem h1 (by omega), List.getElem_zip]

theorem zip_all : ∀ {l k : List Int}, l.length = k.length → ((l.zip k).all fun p => p.1 == p.2) = decide (l = k)
  | [], [], _ => by simp
  | x :: l, y :: k, h => by
    rw [List.zip_cons_cons, List.all_cons, zip_all (by simpa using h), Bool.eq_iff_iff]
    simp
  | [], _ :: _, h => by simp at h
  | _ :: _, [], h => by simp at h

/-- A loop that goes on while two lists are alike. -/
theorem eq_loop {S : Type} {sel : S → Bool} {nx : S → S} {s0 : S} {l k : List Int} (hlk : l.length = k.length) (ix : S → Int) (hl : l.length < 1152921504606846976) (h0 : ix s0 = 0)
    (hnx : ∀ s, 0 ≤ ix s → ix s < l.length → ix (nx s) = ix s + 1) (hsel : ∀ s, 0 ≤ ix s → ix s ≤ l.length → sel s = (decide (ix s < l.length) && (gt l (ix s) == gt k (ix s)))) :
    ∃ s1, itS sel nx bound s0 = some s1 ∧ 0 ≤ ix s1 ∧ ((ix s1 = l.length ∧ l = k) ∨ (ix s1 < l.length ∧ (gt l (ix s1) == gt k (ix s1)) = false ∧ l ≠ k)) := by
  have hz : (l.zip k).length = l.length := by rw [List.length_zip]; omega
  obtain ⟨s1, e, -, g0, g⟩ := all_loop (sel := sel) (nx := nx) (s0 := s0) (l.zip k) ix (fun p => p.1 == p.2) (fun _ => True) (by omega) h0 trivial
    (fun s _ a1 a2 _ => ⟨hnx s a1 (by omega), trivial⟩)
    (fun s _ a1 a2 => by
      rw [hsel s a1 (by omega), hz]
      by_cases h : ix s < l.length
      · rw [gt_zip hlk a1 h]
      · simp [h])
  rw [zip_all hlk, hz] at g
  refine ⟨s1, e, g0, ?_⟩
  rcases g with ⟨a, b⟩ | ⟨a, b, c⟩
  · exact .inl ⟨a, by simpa using b⟩
  · rw [gt_zip hlk g0 a] at b
    exact .inr ⟨a, b, by simpa using c⟩

theorem sub_nat {α : Type} (l : List α) (a b : Nat) : sub l (a : Int) (b : Int) = (l.drop a).take (b - a) := by
  unfold sub; congr 1; omega

theorem gt_append_left {α : Type} [Inhabited α] {l k : List α} {i : Int} (h : 0 ≤ i) (h2 : i < l.length) : gt (l ++ k) i = gt l i := by
  rw [gt_getElem h (by rw [List.length_append]; omega), gt_getElem h (by omega), List.getElem_append_left]

theorem take_succ_gt {α : Type} [Inhabited α] {l : List α} {k : Nat} (h : k < l.length) : l.take (k + 1) = l.take k ++ [gt l (k : Int)] := by
  rw [gt_nat h, List.take_succ_eq_append_getElem h]

/-! ### numbers -/

theorem u8w (x : Int) : IntKind.u8.wrap x = x % 256 := by simp [IntKind.wrap, IntKind.bits, IntKind.signed]
theorem u16w (x : Int) : IntKind.u16.wrap x = x % 65536 := by simp [IntKind.wrap, IntKind.bits, IntKind.signed]
theorem u32w (x : Int) : IntKind.u32.wrap x = x % 4294967296 := by simp [IntKind.wrap, IntKind.bits, IntKind.signed]
theorem i32w (x : Int) : IntKind.i32.wrap x = if 2147483648 ≤ x % 4294967296 then x % 4294967296 - 4294967296 else x % 4294967296 := by
  simp [IntKind.wrap, IntKind.bits, IntKind.signed]

theorem shr_i64 (x : Int) (k : Nat) (hk : k ≤ 64) : shrI .i64 x (k : Int) = x / (2 ^ k : Int) := by
  unfold shrI
  have : min (k : Int).toNat IntKind.i64.bits = k := by simp [IntKind.bits]; omega
  rw [this]
  exact Int.fdiv_eq_ediv_of_nonneg _ (by exact_mod_cast Nat.zero_le _)

theorem quo_i64 {x y : Int} (h1 : 0 ≤ x) (h2 : 0 ≤ y) (h3 : x ≤ 9223372036854775807) : quoI .i64 x y = x / y := by
  unfold quoI
  rw [Int.tdiv_eq_ediv_of_nonneg h1]
  have a := Int.ediv_nonneg h1 h2
  have b := Int.ediv_le_self y h1
  exact wrap64 (by omega) (by omega)

theorem rem_i64 {x y : Int} (h1 : 0 ≤ x) : remI .i64 x y = x % y := by
  unfold remI; exact Int.tmod_eq_emod_of_nonneg h1

theorem bvOf {n : Nat} {a : Nat} (h : a < 2 ^ n) : (BitVec.ofInt n (a : Int)) = BitVec.ofNat n a := by
  simp

theorem or_nat {k : IntKind} {a b : Nat} (ha : a < 2 ^ k.bits) (hb : b < 2 ^ k.bits) : orI k (a : Int) (b : Int) = k.wrap ((a ||| b : Nat) : Int) := by
  unfold orI
  rw [bvOf ha, bvOf hb, BitVec.toNat_or, BitVec.toNat_ofNat, BitVec.toNat_ofNat, Nat.mod_eq_of_lt ha, Nat.mod_eq_of_lt hb]

theorem or_add {a b i : Nat} (hb : b < 2 ^ i) : (2 ^ i * a) ||| b = 2 ^ i * a + b := by
  exact (Nat.two_pow_add_eq_or_of_lt hb a).symm

end Go.Proofs.Ytdlhhoejnhjbhaa.Den

/- Sorting, plainly: bubbles and insertion give one list. -/
namespace Go.Proofs.Ytdlhhoejnhjbhaa.Den
open Go
set_option linter.unusedVariables false
set_option linter.unusedSimpArgs false

def Srt (l : List Int) : Prop := l.Pairwise (· ≤ ·)

theorem srt_unique : ∀ {a b : List Int}, Srt a → Srt b → a.Perm b → a = b
  | [], b, _, _, h => by simpa using h.symm
  | x :: a, [], _, _, h => by simp at h
  | x :: a, y :: b, ha, hb, h => by
    obtain ⟨a1, a2⟩ := List.pairwise_cons.1 ha
    obtain ⟨b1, b2⟩ := List.pairwise_cons.1 hb
    have hx : x ∈ y :: b := h.mem_iff.1 (by simp)
    have hy : y ∈ x :: a := h.mem_iff.2 (by simp)
    have e : x = y := by
      rcases List.mem_cons.1 hx with h1 | h1
      · exact h1
      · rcases List.mem_cons.1 hy with h2 | h2
        · exact h2.symm
        · have := a1 y h2; have := b1 x h1; omega
    subst e
    rw [srt_unique a2 b2 (List.Perm.cons_inv h)]

/-! ### bubbles -/

def bubc : Int → List Int → List Int
  | m, [] => [m]
  | m, x :: r => if x < m then x :: bubc m r else m :: bubc x r

def bub : List Int → List Int
  | [] => []
  | a :: r => bubc a r

theorem bubc_perm : ∀ (r : List Int) (m : Int), (bubc m r).Perm (m :: r)
  | [], m => List.Perm.refl _
  | x :: r, m => by
    simp only [bubc]
    split
    · exact ((bubc_perm r m).cons x).trans (List.Perm.swap _ _ _)
    · exact (bubc_perm r x).cons m

theorem bub_perm : ∀ (l : List Int), (bub l).Perm l
  | [] => List.Perm.refl _
  | a :: r => bubc_perm r a

theorem bub_len (l : List Int) : (bub l).length = l.length := (bub_perm l).length_eq

theorem bubc_snoc : ∀ (r : List Int) (m : Int), ∃ q M, bubc m r = q ++ [M] ∧ q.length = r.length ∧ (∀ z, z ∈ m :: r → z ≤ M) ∧ ∀ x, bubc m (r ++ [x]) = if x < M then q ++ [x, M] else q ++ [M, x]
  | [], m => ⟨[], m, rfl, rfl, by simp, fun x => by simp only [List.nil_append, bubc]⟩
  | y :: r, m => by
    by_cases h : y < m
    · obtain ⟨q, M, h1, h2, h3, h4⟩ := bubc_snoc r m
      refine ⟨y :: q, M, by simp only [bubc, h, if_true, h1]; rfl, by simp [h2], fun z hz => ?_, fun x => ?_⟩
      · have hm := h3 m (by simp)
        simp only [List.mem_cons] at hz
        rcases hz with rfl | rfl | hz
        · exact hm
        · omega
        · exact h3 z (by simp [hz])
      · simp only [List.cons_append, bubc, h, if_true, h4 x]
        split <;> rfl
    · obtain ⟨q, M, h1, h2, h3, h4⟩ := bubc_snoc r y
      refine ⟨m :: q, M, by simp only [bubc, h, if_false, h1]; rfl, by simp [h2], fun z hz => ?_, fun x => ?_⟩
      · have hy := h3 y (by simp)
        simp only [List.mem_cons] at hz
        rcases hz with rfl | rfl | hz
        · omega
        · exact hy
        · exact h3 z (by simp [hz])
      · simp only [List.cons_append, bubc, h, if_false, h4 x]
        split <;> rfl

theorem bub_snoc {l : List Int} (h : l ≠ []) : ∃ q M, bub l = q ++ [M] ∧ q.length + 1 = l.length ∧ (∀ z, z ∈ l → z ≤ M) ∧ ∀ x, bub (l ++ [x]) = if x < M then q ++ [x, M] else q ++ [M, x] := by
  cases l with
  | nil => exact absurd rfl h
  | cons a r =>
    obtain ⟨q, M, h1, h2, h3, h4⟩ := bubc_snoc r a
    exact ⟨q, M, h1, by simp [h2], h3, fun x => h4 x⟩

theorem bubc_app : ∀ (r : List Int) (m : Int) (s : List Int), (∀ x, x ∈ m :: r → ∀ y, y ∈ s → x ≤ y) → Srt s → bubc m (r ++ s) = bubc m r ++ s
  | [], m, [], _, _ => rfl
  | [], m, y :: s, h, hs => by
    obtain ⟨s1, s2⟩ := List.pairwise_cons.1 hs
    have hy := h m (by simp) y (by simp)
    have ih := bubc_app [] y s (fun x hx z hz => by simp at hx; subst hx; exact s1 z hz) s2
    simp only [List.nil_append, bubc] at ih ⊢
    rw [if_neg (by omega), ih]
    rfl
  | x :: r, m, s, h, hs => by
    simp only [List.cons_append, bubc]
    split
    · rw [bubc_app r m s (fun z hz => h z (by simp only [List.mem_cons] at hz ⊢; rcases hz with h | h; exact .inl h; exact .inr (.inr h))) hs]; rfl
    · rw [bubc_app r x s (fun z hz => h z (by simp only [List.mem_cons] at hz ⊢; exact .inr hz)) hs]; rfl

/-- The last 'k' are in their places. -/
def Top (k : Nat) (l : List Int) : Prop := ∃ a s, l = a ++ s ∧ s.length = k ∧ Srt s ∧ ∀ x, x ∈ a → ∀ y, y ∈ s → x ≤ y

theorem top_zero (l : List Int) : Top 0 l := ⟨l, [], by simp, rfl, List.Pairwise.nil, by simp⟩

theorem bub_top {k : Nat} {l : List Int} (h : Top k l) (hk : k < l.length) : Top (k + 1) (bub l) := by
  obtain ⟨a, s, rfl, hs, hsrt, hle⟩ := h
  cases a with
  | nil => simp at hk; omega
  | cons m r =>
    obtain ⟨q, M, h1, h2, h3, _⟩ := bubc_snoc r m
    have e : bub (m :: r ++ s) = q ++ (M :: s) := by
      show bubc m (r ++ s) = _
      rw [bubc_app r m s hle hsrt, h1]; simp
    have hp := bubc_perm r m
    rw [h1] at hp
    refine ⟨q, M :: s, e, by simp [hs], List.pairwise_cons.2 ⟨fun y hy => ?_, hsrt⟩, fun x hx y hy => ?_⟩
    · exact hle M (hp.mem_iff.1 (by simp)) y hy
    · have hx' : x ∈ m :: r := hp.mem_iff.1 (by simp [hx])
      rcases List.mem_cons.1 hy with rfl | hy
      · exact h3 x hx'
      · exact hle x hx' y hy

theorem top_all {l : List Int} (h : Top l.length l) : Srt l := by
  obtain ⟨a, s, e, hs, hsrt, _⟩ := h
  have : a = [] := by
    have := congrArg List.length e
    simp at this
    exact List.length_eq_zero_iff.1 (by omega)
  subst this
  rw [e]; simpa using hsrt

def bubn (l : List Int) : Nat → List Int
  | 0 => l
  | k + 1 => bub (bubn l k)

theorem bubn_perm (l : List Int) : ∀ k, (bubn l k).Perm l
  | 0 => List.Perm.refl _
  | k + 1 => (bub_perm _).trans (bubn_perm l k)

theorem bubn_len (l : List Int) (k : Nat) : (bubn l k).length = l.length := (bubn_perm l k).length_eq

theorem bubn_top (l : List Int) : ∀ k, k ≤ l.length → Top k (bubn l k)
  | 0, _ => top_zero l
  | k + 1, h => bub_top (bubn_top l k (by omega)) (by rw [bubn_len]; omega)

theorem bubn_srt (l : List Int) : Srt (bubn l l.length) := top_all (by rw [bubn_len]; exact bubn_top l l.length (Nat.le_refl _))

theorem bubc_fix : ∀ (r : List Int) (m : Int), bubc m r = m :: r → Srt (m :: r)
  | [], m, _ => List.pairwise_singleton _ _
  | x :: r, m, h => by
    simp only [bubc] at h
    split at h
    · rename_i hlt; simp at h; omega
    · rename_i hlt
      have h' := (List.cons.inj h).2
      have ih := bubc_fix r x h'
      refine List.pairwise_cons.2 ⟨fun y hy => ?_, ih⟩
      rcases List.mem_cons.1 hy with rfl | hy
      · omega
      · have := (List.pairwise_cons.1 ih).1 y hy; omega

theorem bub_fix {l : List Int} (h : bub l = l) : Srt l := by
  cases l with
  | nil => exact List.Pairwise.nil
  | cons a r => exact bubc_fix r a h

/-- Where the bubbles end. -/
theorem bubn_stop (l : List Int) : ∃ k, k ≤ l.length ∧ (∀ j, j < k → bub (bubn l j) ≠ bubn l j) ∧ (k = l.length ∨ bub (bubn l k) = bubn l k) ∧ Srt (bubn l k) := by
  have : ∀ n, n ≤ l.length → (∀ j, j < n → bub (bubn l j) ≠ bubn l j) ∨ ∃ k, k < n ∧ (∀ j, j < k → bub (bubn l j) ≠ bubn l j) ∧ bub (bubn l k) = bubn l k := by
    intro n
    induction n with
    | zero => intro _; left; intro j hj; omega
    | succ n ih =>
      intro hn
      rcases ih (by omega) with h | ⟨k, h1, h2, h3⟩
      · by_cases e : bub (bubn l n) = bubn l n
        · exact .inr ⟨n, by omega, h, e⟩
        · left
          intro j hj
          by_cases e' : j = n
          · subst e'; exact e
          · exact h j (by omega)
      · exact .inr ⟨k, by omega, h2, h3⟩
  rcases this l.length (Nat.le_refl _) with h | ⟨k, h1, h2, h3⟩
  · exact ⟨l.length, Nat.le_refl _, h, .inl rfl, bubn_srt l⟩
  · exact ⟨k, by omega, h2, .inr h3, bub_fix h3⟩

/-! ### insertion -/

def insI (x : Int) (l : List Int) : List Int := l.takeWhile (fun y => decide (y ≤ x)) ++ x :: l.dropWhile (fun y => decide (y ≤ x))

theorem insI_perm (x : Int) (l : List Int) : (insI x l).Perm (x :: l) := by
  unfold insI
  refine List.perm_middle.trans ?_
  rw [List.takeWhile_append_dropWhile]

theorem insI_cons (x y : Int) (l : List Int) : insI x (y :: l) = if y ≤ x then y :: insI x l else x :: y :: l := by
  unfold insI
  by_cases h : y ≤ x <;> simp [h]

theorem insI_srt (x : Int) : ∀ {l : List Int}, Srt l → Srt (insI x l)
  | [], _ => by simp [insI, Srt]
  | y :: l, h => by
    obtain ⟨h1, h2⟩ := List.pairwise_cons.1 h
    rw [insI_cons]
    split
    · rename_i hle
      refine List.pairwise_cons.2 ⟨fun z hz => ?_, insI_srt x h2⟩
      have := (insI_perm x l).mem_iff.1 hz
      rcases List.mem_cons.1 this with rfl | hz'
      · exact hle
      · exact h1 z hz'
    · rename_i hle
      refine List.pairwise_cons.2 ⟨fun z hz => ?_, h⟩
      rcases List.mem_cons.1 hz with rfl | hz'
      · omega
      · have := h1 z hz'; omega

def isort (l : List Int) : List Int := l.foldl (fun out x => insI x out) []

theorem isort_snoc (l : List Int) (x : Int) : isort (l ++ [x]) = insI x (isort l) := by simp [isort]

theorem foldl_ins : ∀ (l acc : List Int), Srt acc → Srt (l.foldl (fun out x => insI x out) acc) ∧ (l.foldl (fun out x => insI x out) acc).Perm (acc ++ l)
  | [], acc, h => ⟨h, by simp⟩
  | x :: l, acc, h => by
    obtain ⟨h1, h2⟩ := foldl_ins l (insI x acc) (insI_srt x h)
    refine ⟨h1, h2.trans ?_⟩
    exact ((insI_perm x acc).append_right l).trans (List.perm_middle.symm)

theorem isort_srt (l : List Int) : Srt (isort l) := (foldl_ins l [] List.Pairwise.nil).1
theorem isort_perm (l : List Int) : (isort l).Perm l := by unfold isort; simpa using (foldl_ins l [] List.Pairwise.nil).2
theorem isort_len (l : List Int) : (isort l).length = l.length := (isort_perm l).length_eq

theorem srt_isort {l k : List Int} (h : Srt k) (hp : k.Perm l) : k = isort l := srt_unique h (isort_srt l) (hp.trans (isort_perm l).symm)

theorem isort_fix {l : List Int} (h : Srt l) : isort l = l := (srt_isort h (List.Perm.refl l)).symm
theorem isort_congr {l k : List Int} (h : l.Perm k) : isort l = isort k := srt_isort (isort_srt l) ((isort_perm l).trans h)

/-- Insertion, one by one. -/
theorem insI_snoc (x y : Int) (p : List Int) : insI x (p ++ [y]) = if p.any (fun z => decide (x < z)) then insI x p ++ [y] else if x < y then p ++ [x, y] else p ++ [y, x] := by
  induction p with
  | nil =>
    by_cases h : x < y
    · have : ¬ y ≤ x := by omega
      simp [insI, h, this]
    · have : y ≤ x := by omega
      simp [insI, h, this]
  | cons a p ih =>
    rw [List.cons_append, insI_cons, ih, insI_cons]
    by_cases h : a ≤ x
    · have : ¬ x < a := by omega
      simp only [h, if_true, List.any_cons, this, decide_false, Bool.false_or]
      split
      · rfl
      · split <;> rfl
    · have : x < a := by omega
      simp [h, this]

theorem insI_none (x : Int) : ∀ {p : List Int}, p.any (fun z => decide (x < z)) = false → insI x p = p ++ [x]
  | [], _ => rfl
  | a :: p, h => by
    simp only [List.any_cons, Bool.or_eq_false_iff, decide_eq_false_iff_not] at h
    rw [insI_cons, if_pos (by omega), insI_none x h.2]; rfl

end Go.Proofs.Ytdlhhoejnhjbhaa.Den

namespace Go.Proofs.Ytdlhhoejnhjbhaa.Den
open Go Go.Proofs
set_option maxRecDepth 100000
set_option maxHeartbeats 4000000
set_option linter.unusedVariables false
set_option linter.unusedSimpArgs false

structure fix_small_o_L0_s0 where
  c3 : Int
  deriving Inhabited

def fix_small_o_L0_enc (x0 : Bool) (x1 : List Int) (x2 : Int) (x3 : Int) (s0 : fix_small_o_L0_s0) : List V × Mem := ([(V.d (slD (encI .i64) true 1 x0 x1)), (V.d (.int .i64 x2)), (V.d (.int .i64 s0.c3))], [])

def fix_small_o_L0_sel (x1 : List Int) (x2 : Int) (s0 : fix_small_o_L0_s0) : Bool := (bif tb (decide (s0.c3 < x2)) then (bif tb (inb x1.length s0.c3) then (bif tb (decide ((gt x1 s0.c3) < (-1099511627776))) then false else (bif tb (decide (1099511627776 < (gt x1 s0.c3))) then false else true)) else false) else false)

def fix_small_o_L0_nx (x1 : List Int) (x2 : Int) (s0 : fix_small_o_L0_s0) : fix_small_o_L0_s0 := ⟨(wi (s0.c3 + 1))⟩

def fix_small_o_L0_ok (x1 : List Int) (x2 : Int) (s0 : fix_small_o_L0_s0) : Bool := (itS (fix_small_o_L0_sel x1 x2) (fix_small_o_L0_nx x1 x2) bound s0).isSome
def fix_small_o_L0_end (x1 : List Int) (x2 : Int) (s0 : fix_small_o_L0_s0) : fix_small_o_L0_s0 := (itS (fix_small_o_L0_sel x1 x2) (fix_small_o_L0_nx x1 x2) bound s0).getD default

theorem fix_small_o_L0_go (x0 : Bool) (x1 : List Int) (x2 : Int) (x3 : Int) (s0 : fix_small_o_L0_s0) : fix_small_o_L0_sel x1 x2 s0 = true → (roundG (runC E0 (cl E0) L69_0) [5, 6, 7] [2] 0) (fix_small_o_L0_enc x0 x1 x2 x3 s0) = some (.normal, fix_small_o_L0_enc x0 x1 x2 x3 (fix_small_o_L0_nx x1 x2 s0)) := by
  unfold fix_small_o_L0_sel fix_small_o_L0_nx
  cases h1 : tb (decide (s0.c3 < x2))
  · intro g0
    exact absurd g0 ft
  · cases h2 : tb (inb x1.length s0.c3)
    · intro g0
      exact absurd g0 ft
    · cases h3 : tb (decide ((gt x1 s0.c3) < (-1099511627776)))
      · cases h4 : tb (decide (1099511627776 < (gt x1 s0.c3)))
        · intro _
          exact round_walk [.b (tbE h1), .o 9 (fun _ => o_idx_os (enc := (encI .i64)) (l := x1) (fl := true) (n := x0) (s := 1) (k := .i64) (tbE h2)), .b (tbE h3), .b (tbE h4)] (by kernel_rfl)
        · intro g0
          exact absurd g0 ft
      · intro g0
        exact absurd g0 ft

def fix_small_o_L0_c0 (x1 : List Int) (x2 : Int) (s0 : fix_small_o_L0_s0) : Bool := (bif tb (decide (s0.c3 < x2)) then (bif tb (inb x1.length s0.c3) then true else false) else false)

def fix_small_o_L0_c1 (x2 : Int) (s0 : fix_small_o_L0_s0) : Bool := (bif tb (decide (s0.c3 < x2)) then false else true)

theorem fix_small_o_L0_x0 (x0 : Bool) (x1 : List Int) (x2 : Int) (x3 : Int) (s0 : fix_small_o_L0_s0) : fix_small_o_L0_sel x1 x2 s0 = false → fix_small_o_L0_c0 x1 x2 s0 = true → (roundG (runC E0 (cl E0) L69_0) [5, 6, 7] [2] 0) (fix_small_o_L0_enc x0 x1 x2 x3 s0) = some (.ret, ([(V.d (.bool false))], [])) := by
  unfold fix_small_o_L0_sel fix_small_o_L0_c0
  cases h1 : tb (decide (s0.c3 < x2))
  · intro g0 g1
    exact absurd g1 ft
  · cases h2 : tb (inb x1.length s0.c3)
    · intro g0 g1
      exact absurd g1 ft
    · cases h3 : tb (decide ((gt x1 s0.c3) < (-1099511627776)))
      · cases h4 : tb (decide (1099511627776 < (gt x1 s0.c3)))
        · intro g0 g1
          exact absurd g0 tf
        · intro g0 g1
          exact round_walk [.b (tbE h1), .o 9 (fun _ => o_idx_os (enc := (encI .i64)) (l := x1) (fl := true) (n := x0) (s := 1) (k := .i64) (tbE h2)), .b (tbE h3), .b (tbE h4)] (by kernel_rfl)
      · intro g0 g1
        exact round_walk [.b (tbE h1), .o 9 (fun _ => o_idx_os (enc := (encI .i64)) (l := x1) (fl := true) (n := x0) (s := 1) (k := .i64) (tbE h2)), .b (tbE h3)] (by kernel_rfl)

theorem fix_small_o_L0_x1 (x0 : Bool) (x1 : List Int) (x2 : Int) (x3 : Int) (s0 : fix_small_o_L0_s0) : fix_small_o_L0_sel x1 x2 s0 = false → fix_small_o_L0_c0 x1 x2 s0 = false → fix_small_o_L0_c1 x2 s0 = true → (roundG (runC E0 (cl E0) L69_0) [5, 6, 7] [2] 0) (fix_small_o_L0_enc x0 x1 x2 x3 s0) = some ((.exit 0), ([V.un], [])) := by
  unfold fix_small_o_L0_sel fix_small_o_L0_c0 fix_small_o_L0_c1
  cases h1 : tb (decide (s0.c3 < x2))
  · intro g0 g1 g2
    exact round_walk [.b (tbE h1)] (by kernel_rfl)
  · cases h2 : tb (inb x1.length s0.c3)
    · intro g0 g1 g2
      exact absurd g2 ft
    · cases h3 : tb (decide ((gt x1 s0.c3) < (-1099511627776)))
      · cases h4 : tb (decide (1099511627776 < (gt x1 s0.c3)))
        · intro g0 g1 g2
          exact absurd g0 tf
        · intro g0 g1 g2
          exact absurd g1 tf
      · intro g0 g1 g2
        exact absurd g1 tf

theorem fix_small_o_L0_f0_0 (x0 : Bool) (x1 : List Int) (x2 : Int) (x3 : Int) (s : fix_small_o_L0_s0) (hok : fix_small_o_L0_ok x1 x2 s = true) (c0 : fix_small_o_L0_c0 x1 x2 (fix_small_o_L0_end x1 x2 s) = true) : loopG (roundG (runC E0 (cl E0) L69_0) [5, 6, 7] [2] 0) bound (fix_small_o_L0_enc x0 x1 x2 x3 s) = some (.ret, ([(V.d (.bool false))], [])) := by
  have e : itS (fix_small_o_L0_sel x1 x2) (fix_small_o_L0_nx x1 x2) bound s = some (fix_small_o_L0_end x1 x2 s) := itS_get hok
  have f := itS_false e
  exact loop_it (fix_small_o_L0_go x0 x1 x2 x3) bound s _ _ _ e (fun h => by cases h) (fix_small_o_L0_x0 x0 x1 x2 x3 (fix_small_o_L0_end x1 x2 s) f c0)

theorem fix_small_o_L0_f0_1 (x0 : Bool) (x1 : List Int) (x2 : Int) (x3 : Int) (s : fix_small_o_L0_s0) (hok : fix_small_o_L0_ok x1 x2 s = true) (c0 : fix_small_o_L0_c0 x1 x2 (fix_small_o_L0_end x1 x2 s) = false) (c1 : fix_small_o_L0_c1 x2 (fix_small_o_L0_end x1 x2 s) = true) : loopG (roundG (runC E0 (cl E0) L69_0) [5, 6, 7] [2] 0) bound (fix_small_o_L0_enc x0 x1 x2 x3 s) = some ((.exit 0), ([V.un], [])) := by
  have e : itS (fix_small_o_L0_sel x1 x2) (fix_small_o_L0_nx x1 x2) bound s = some (fix_small_o_L0_end x1 x2 s) := itS_get hok
  have f := itS_false e
  exact loop_it (fix_small_o_L0_go x0 x1 x2 x3) bound s _ _ _ e (fun h => by cases h) (fix_small_o_L0_x1 x0 x1 x2 x3 (fix_small_o_L0_end x1 x2 s) f c0 c1)

def fix_small_o_e0 (x1 : List Int) : fix_small_o_L0_s0 := fix_small_o_L0_end x1 ((x1.length : Nat) : Int) (⟨0⟩ : fix_small_o_L0_s0)

def fix_small_o_c0 (x1 : List Int) : Bool := (bif tb (fix_small_o_L0_ok x1 ((x1.length : Nat) : Int) (⟨0⟩ : fix_small_o_L0_s0)) then (bif tb (fix_small_o_L0_c0 x1 ((x1.length : Nat) : Int) (fix_small_o_e0 x1)) then true else (bif tb (fix_small_o_L0_c1 ((x1.length : Nat) : Int) (fix_small_o_e0 x1)) then true else false)) else false)

def fix_small_o_r0_0 (x1 : List Int) : Bool := (bif tb (fix_small_o_L0_c0 x1 ((x1.length : Nat) : Int) (fix_small_o_e0 x1)) then false else true)

theorem fix_small_o_t0 (x0 : Bool) (x1 : List Int) : fix_small_o_c0 x1 = true → cl E0 69 [(V.d (slD (encI .i64) true 1 x0 x1))] [] = some ([(V.d (.bool (fix_small_o_r0_0 x1)))], []) := by
  unfold fix_small_o_c0 fix_small_o_r0_0
  cases h1 : tb (fix_small_o_L0_ok x1 ((x1.length : Nat) : Int) (⟨0⟩ : fix_small_o_L0_s0))
  · intro g0
    exact absurd g0 ft
  · cases h2 : tb (fix_small_o_L0_c0 x1 ((x1.length : Nat) : Int) (fix_small_o_e0 x1))
    · cases h3 : tb (fix_small_o_L0_c1 ((x1.length : Nat) : Int) (fix_small_o_e0 x1))
      · intro g0
        exact absurd g0 ft
      · intro g0
        exact w69 [.o 6 (fun _ => o_len_os (enc := (encI .i64)) (l := x1) (fl := true) (n := x0) (s := 1)), .l (fix_small_o_L0_f0_1 x0 x1 ((x1.length : Nat) : Int) 0 (⟨0⟩ : fix_small_o_L0_s0) (tbE h1) (tbE h2) (tbE h3))] (by kernel_rfl)
    · intro g0
      exact w69 [.o 6 (fun _ => o_len_os (enc := (encI .i64)) (l := x1) (fl := true) (n := x0) (s := 1)), .l (fix_small_o_L0_f0_0 x0 x1 ((x1.length : Nat) : Int) 0 (⟨0⟩ : fix_small_o_L0_s0) (tbE h1) (tbE h2))] (by kernel_rfl)

def fix_Clamp_iii_c0 (x0 : Int) (x1 : Int) (x2 : Int) : Bool := (bif tb (fix_small_o_c0 [x0, x1, x2]) then true else false)

def fix_Clamp_iii_r0_0 (x0 : Int) (x1 : Int) (x2 : Int) : Int := (bif tb (fix_small_o_r0_0 [x0, x1, x2]) then (mxI x1 (mnI x0 x2)) else 0)

theorem fix_Clamp_iii_t0 (x0 : Int) (x1 : Int) (x2 : Int) : fix_Clamp_iii_c0 x0 x1 x2 = true → cl E0 25 [(V.d (.int .i64 x0)), (V.d (.int .i64 x1)), (V.d (.int .i64 x2))] [] = some ([(V.d (.int .i64 (fix_Clamp_iii_r0_0 x0 x1 x2)))], []) := by
  unfold fix_Clamp_iii_c0 fix_Clamp_iii_r0_0
  cases h1 : tb (fix_small_o_c0 [x0, x1, x2])
  · intro g0
    exact absurd g0 ft
  · cases h2 : tb (fix_small_o_r0_0 [x0, x1, x2])
    · intro g0
      exact w25 [.c (fix_small_o_t0 false [x0, x1, x2] (tbE h1)), .b (notF (tbE h2))] (by kernel_rfl)
    · intro g0
      exact w25 [.c (fix_small_o_t0 false [x0, x1, x2] (tbE h1)), .b (notT (tbE h2))] (by kernel_rfl)

def fix_Near_iii_c0 (x0 : Int) (x1 : Int) (x2 : Int) : Bool := (bif tb (fix_small_o_c0 [x0, x1, x2]) then true else false)

def fix_Near_iii_r0_0 (x0 : Int) (x1 : Int) (x2 : Int) : Int := (bif tb (fix_small_o_r0_0 [x0, x1, x2]) then (bif tb (decide (x2 < 0)) then x0 else (mxI (wi (x0 - x2)) (mnI x1 (wi (x0 + x2))))) else 0)

theorem fix_Near_iii_t0 (x0 : Int) (x1 : Int) (x2 : Int) : fix_Near_iii_c0 x0 x1 x2 = true → cl E0 27 [(V.d (.int .i64 x0)), (V.d (.int .i64 x1)), (V.d (.int .i64 x2))] [] = some ([(V.d (.int .i64 (fix_Near_iii_r0_0 x0 x1 x2)))], []) := by
  unfold fix_Near_iii_c0 fix_Near_iii_r0_0
  cases h1 : tb (fix_small_o_c0 [x0, x1, x2])
  · intro g0
    exact absurd g0 ft
  · cases h2 : tb (fix_small_o_r0_0 [x0, x1, x2])
    · intro g0
      exact w27 [.c (fix_small_o_t0 false [x0, x1, x2] (tbE h1)), .b (notF (tbE h2))] (by kernel_rfl)
    · cases h3 : tb (decide (x2 < 0))
      · intro g0
        exact w27 [.c (fix_small_o_t0 false [x0, x1, x2] (tbE h1)), .b (notT (tbE h2)), .b (tbE h3)] (by kernel_rfl)
      · intro g0
        exact w27 [.c (fix_small_o_t0 false [x0, x1, x2] (tbE h1)), .b (notT (tbE h2)), .b (tbE h3)] (by kernel_rfl)

def fix_Floor_ii_c0 (x0 : Int) (x1 : Int) : Bool := (bif tb (fix_small_o_c0 [x0, x1]) then (bif tb (fix_small_o_r0_0 [x0, x1]) then (bif tb (decide (x1 < 1)) then true else (bif tb ((x1 : Int) == 0) then false else true)) else true) else false)

def fix_Floor_ii_r0_0 (x0 : Int) (x1 : Int) : Int := (bif tb (fix_small_o_r0_0 [x0, x1]) then (bif tb (decide (x1 < 1)) then 0 else (bif tb (decide ((remI .i64 x0 x1) < 0)) then (wi ((quoI .i64 x0 x1) - 1)) else (quoI .i64 x0 x1))) else 0)

theorem fix_Floor_ii_t0 (x0 : Int) (x1 : Int) : fix_Floor_ii_c0 x0 x1 = true → cl E0 29 [(V.d (.int .i64 x0)), (V.d (.int .i64 x1))] [] = some ([(V.d (.int .i64 (fix_Floor_ii_r0_0 x0 x1)))], []) := by
  unfold fix_Floor_ii_c0 fix_Floor_ii_r0_0
  cases h1 : tb (fix_small_o_c0 [x0, x1])
  · intro g0
    exact absurd g0 ft
  · cases h2 : tb (fix_small_o_r0_0 [x0, x1])
    · intro g0
      exact w29 [.c (fix_small_o_t0 false [x0, x1] (tbE h1)), .b (notF (tbE h2))] (by kernel_rfl)
    · cases h3 : tb (decide (x1 < 1))
      · cases h4 : tb ((x1 : Int) == 0)
        · cases h5 : tb (decide ((remI .i64 x0 x1) < 0))
          · intro g0
            exact w29 [.c (fix_small_o_t0 false [x0, x1] (tbE h1)), .b (notT (tbE h2)), .b (tbE h3), .o 17 (fun _ => o_quo (k := .i64) (x := x0) (y := x1) (tbE h4)), .o 20 (fun _ => o_rem (k := .i64) (x := x0) (y := x1) (tbE h4)), .b (tbE h5)] (by kernel_rfl)
          · intro g0
            exact w29 [.c (fix_small_o_t0 false [x0, x1] (tbE h1)), .b (notT (tbE h2)), .b (tbE h3), .o 17 (fun _ => o_quo (k := .i64) (x := x0) (y := x1) (tbE h4)), .o 20 (fun _ => o_rem (k := .i64) (x := x0) (y := x1) (tbE h4)), .b (tbE h5)] (by kernel_rfl)
        · intro g0
          exact absurd g0 ft
      · intro g0
        exact w29 [.c (fix_small_o_t0 false [x0, x1] (tbE h1)), .b (notT (tbE h2)), .b (tbE h3)] (by kernel_rfl)

def fix_Shift_ii_c0 (x0 : Int) (x1 : Int) : Bool := (bif tb (fix_small_o_c0 [x0]) then (bif tb (fix_small_o_r0_0 [x0]) then (bif tb (decide (x1 < 0)) then true else (bif tb (decide (40 < x1)) then true else (bif tb (decide (0 ≤ x1)) then true else false))) else true) else false)

def fix_Shift_ii_r0_0 (x0 : Int) (x1 : Int) : Int := (bif tb (fix_small_o_r0_0 [x0]) then (bif tb (decide (x1 < 0)) then 0 else (bif tb (decide (40 < x1)) then 0 else (shrI .i64 x0 x1))) else 0)

theorem fix_Shift_ii_t0 (x0 : Int) (x1 : Int) : fix_Shift_ii_c0 x0 x1 = true → cl E0 31 [(V.d (.int .i64 x0)), (V.d (.int .i64 x1))] [] = some ([(V.d (.int .i64 (fix_Shift_ii_r0_0 x0 x1)))], []) := by
  unfold fix_Shift_ii_c0 fix_Shift_ii_r0_0
  cases h1 : tb (fix_small_o_c0 [x0])
  · intro g0
    exact absurd g0 ft
  · cases h2 : tb (fix_small_o_r0_0 [x0])
    · intro g0
      exact w31 [.c (fix_small_o_t0 false [x0] (tbE h1)), .b (notF (tbE h2))] (by kernel_rfl)
    · cases h3 : tb (decide (x1 < 0))
      · cases h4 : tb (decide (40 < x1))
        · cases h5 : tb (decide (0 ≤ x1))
          · intro g0
            exact absurd g0 ft
          · intro g0
            exact w31 [.c (fix_small_o_t0 false [x0] (tbE h1)), .b (notT (tbE h2)), .b (tbE h3), .b (tbE h4), .o 19 (fun _ => o_shr (k := .i64) (k2 := .i64) (x := x0) (y := x1) (tbE h5))] (by kernel_rfl)
        · intro g0
          exact w31 [.c (fix_small_o_t0 false [x0] (tbE h1)), .b (notT (tbE h2)), .b (tbE h3), .b (tbE h4)] (by kernel_rfl)
      · intro g0
        exact w31 [.c (fix_small_o_t0 false [x0] (tbE h1)), .b (notT (tbE h2)), .b (tbE h3)] (by kernel_rfl)

def fix_Apart_ii_c0 (x0 : Int) (x1 : Int) : Bool := (bif tb (fix_small_o_c0 [x0, x1]) then true else false)

def fix_Apart_ii_r0_0 (x0 : Int) (x1 : Int) : Int := (bif tb (fix_small_o_r0_0 [x0, x1]) then (mxI (wi (x0 - x1)) (wi (x1 - x0))) else 0)

theorem fix_Apart_ii_t0 (x0 : Int) (x1 : Int) : fix_Apart_ii_c0 x0 x1 = true → cl E0 34 [(V.d (.int .i64 x0)), (V.d (.int .i64 x1))] [] = some ([(V.d (.int .i64 (fix_Apart_ii_r0_0 x0 x1)))], []) := by
  unfold fix_Apart_ii_c0 fix_Apart_ii_r0_0
  cases h1 : tb (fix_small_o_c0 [x0, x1])
  · intro g0
    exact absurd g0 ft
  · cases h2 : tb (fix_small_o_r0_0 [x0, x1])
    · intro g0
      exact w34 [.c (fix_small_o_t0 false [x0, x1] (tbE h1)), .b (notF (tbE h2))] (by kernel_rfl)
    · intro g0
      exact w34 [.c (fix_small_o_t0 false [x0, x1] (tbE h1)), .b (notT (tbE h2))] (by kernel_rfl)

structure fix_Bits_o_L0_s0 where
  c2 : Int
  c4 : Int
  deriving Inhabited

def fix_Bits_o_L0_enc (x0 : Bool) (x1 : List Bool) (x2 : Int) (x3 : Int) (x4 : Int) (s0 : fix_Bits_o_L0_s0) : List V × Mem := ([(V.d (slD encB true 1 x0 x1)), (V.d (.int .i64 s0.c2)), (V.d (.int .i64 x3)), (V.d (.int .i64 s0.c4))], [])

def fix_Bits_o_L0_sel (x1 : List Bool) (x3 : Int) (s0 : fix_Bits_o_L0_s0) : Bool := (bif tb (decide (s0.c4 < x3)) then (bif tb (inb x1.length s0.c4) then (bif tb (gt x1 s0.c4) then (bif tb (decide (0 ≤ s0.c4)) then true else false) else true) else false) else false)

def fix_Bits_o_L0_nx (x1 : List Bool) (x3 : Int) (s0 : fix_Bits_o_L0_s0) : fix_Bits_o_L0_s0 := (bif tb (gt x1 s0.c4) then ⟨(orI .i64 s0.c2 (shlI .i64 1 s0.c4)), (wi (s0.c4 + 1))⟩ else ⟨s0.c2, (wi (s0.c4 + 1))⟩)

def fix_Bits_o_L0_ok (x1 : List Bool) (x3 : Int) (s0 : fix_Bits_o_L0_s0) : Bool := (itS (fix_Bits_o_L0_sel x1 x3) (fix_Bits_o_L0_nx x1 x3) bound s0).isSome
def fix_Bits_o_L0_end (x1 : List Bool) (x3 : Int) (s0 : fix_Bits_o_L0_s0) : fix_Bits_o_L0_s0 := (itS (fix_Bits_o_L0_sel x1 x3) (fix_Bits_o_L0_nx x1 x3) bound s0).getD default

theorem fix_Bits_o_L0_go (x0 : Bool) (x1 : List Bool) (x2 : Int) (x3 : Int) (x4 : Int) (s0 : fix_Bits_o_L0_s0) : fix_Bits_o_L0_sel x1 x3 s0 = true → (roundG (runC E0 (cl E0) L36_0) [0, 3, 9, 10] [3] 0) (fix_Bits_o_L0_enc x0 x1 x2 x3 x4 s0) = some (.normal, fix_Bits_o_L0_enc x0 x1 x2 x3 x4 (fix_Bits_o_L0_nx x1 x3 s0)) := by
  unfold fix_Bits_o_L0_sel fix_Bits_o_L0_nx
  cases h1 : tb (decide (s0.c4 < x3))
  · intro g0
    exact absurd g0 ft
  · cases h2 : tb (inb x1.length s0.c4)
    · intro g0
      exact absurd g0 ft
    · cases h3 : tb (gt x1 s0.c4)
      · intro _
        exact round_walk [.b (tbE h1), .o 15 (fun _ => o_idx_os (enc := encB) (l := x1) (fl := true) (n := x0) (s := 1) (k := .i64) (tbE h2)), .b (tbE h3)] (by kernel_rfl)
      · cases h4 : tb (decide (0 ≤ s0.c4))
        · intro g0
          exact absurd g0 ft
        · intro _
          exact round_walk [.b (tbE h1), .o 15 (fun _ => o_idx_os (enc := encB) (l := x1) (fl := true) (n := x0) (s := 1) (k := .i64) (tbE h2)), .b (tbE h3), .o 19 (fun _ => o_shl (k := .i64) (k2 := .i64) (x := 1) (y := s0.c4) (tbE h4))] (by kernel_rfl)

def fix_Bits_o_L0_c0 (x3 : Int) (s0 : fix_Bits_o_L0_s0) : Bool := (bif tb (decide (s0.c4 < x3)) then false else true)

theorem fix_Bits_o_L0_x0 (x0 : Bool) (x1 : List Bool) (x2 : Int) (x3 : Int) (x4 : Int) (s0 : fix_Bits_o_L0_s0) : fix_Bits_o_L0_sel x1 x3 s0 = false → fix_Bits_o_L0_c0 x3 s0 = true → (roundG (runC E0 (cl E0) L36_0) [0, 3, 9, 10] [3] 0) (fix_Bits_o_L0_enc x0 x1 x2 x3 x4 s0) = some ((.exit 0), ([(V.d (.int .i64 s0.c2))], [])) := by
  unfold fix_Bits_o_L0_sel fix_Bits_o_L0_c0
  cases h1 : tb (decide (s0.c4 < x3))
  · intro g0 g1
    exact round_walk [.b (tbE h1)] (by kernel_rfl)
  · cases h2 : tb (inb x1.length s0.c4)
    · intro g0 g1
      exact absurd g1 ft
    · cases h3 : tb (gt x1 s0.c4)
      · intro g0 g1
        exact absurd g0 tf
      · cases h4 : tb (decide (0 ≤ s0.c4))
        · intro g0 g1
          exact absurd g1 ft
        · intro g0 g1
          exact absurd g0 tf

theorem fix_Bits_o_L0_f0_0 (x0 : Bool) (x1 : List Bool) (x2 : Int) (x3 : Int) (x4 : Int) (s : fix_Bits_o_L0_s0) (hok : fix_Bits_o_L0_ok x1 x3 s = true) (c0 : fix_Bits_o_L0_c0 x3 (fix_Bits_o_L0_end x1 x3 s) = true) : loopG (roundG (runC E0 (cl E0) L36_0) [0, 3, 9, 10] [3] 0) bound (fix_Bits_o_L0_enc x0 x1 x2 x3 x4 s) = some ((.exit 0), ([(V.d (.int .i64 ((fix_Bits_o_L0_end x1 x3 s).c2)))], [])) := by
  have e : itS (fix_Bits_o_L0_sel x1 x3) (fix_Bits_o_L0_nx x1 x3) bound s = some (fix_Bits_o_L0_end x1 x3 s) := itS_get hok
  have f := itS_false e
  exact loop_it (fix_Bits_o_L0_go x0 x1 x2 x3 x4) bound s _ _ _ e (fun h => by cases h) (fix_Bits_o_L0_x0 x0 x1 x2 x3 x4 (fix_Bits_o_L0_end x1 x3 s) f c0)

def fix_Bits_o_e0 (x1 : List Bool) : fix_Bits_o_L0_s0 := fix_Bits_o_L0_end x1 ((x1.length : Nat) : Int) (⟨0, 0⟩ : fix_Bits_o_L0_s0)

def fix_Bits_o_c0 (x1 : List Bool) : Bool := (bif tb (decide (16 < ((x1.length : Nat) : Int))) then true else (bif tb (fix_Bits_o_L0_ok x1 ((x1.length : Nat) : Int) (⟨0, 0⟩ : fix_Bits_o_L0_s0)) then (bif tb (fix_Bits_o_L0_c0 ((x1.length : Nat) : Int) (fix_Bits_o_e0 x1)) then true else false) else false))

def fix_Bits_o_r0_0 (x1 : List Bool) : Int := (bif tb (decide (16 < ((x1.length : Nat) : Int))) then 0 else ((fix_Bits_o_e0 x1).c2))

theorem fix_Bits_o_t0 (x0 : Bool) (x1 : List Bool) : fix_Bits_o_c0 x1 = true → cl E0 36 [(V.d (slD encB true 1 x0 x1))] [] = some ([(V.d (.int .i64 (fix_Bits_o_r0_0 x1)))], []) := by
  unfold fix_Bits_o_c0 fix_Bits_o_r0_0
  cases h1 : tb (decide (16 < ((x1.length : Nat) : Int)))
  · cases h2 : tb (fix_Bits_o_L0_ok x1 ((x1.length : Nat) : Int) (⟨0, 0⟩ : fix_Bits_o_L0_s0))
    · intro g0
      exact absurd g0 ft
    · cases h3 : tb (fix_Bits_o_L0_c0 ((x1.length : Nat) : Int) (fix_Bits_o_e0 x1))
      · intro g0
        exact absurd g0 ft
      · intro g0
        exact w36 [.o 6 (fun _ => o_len_os (enc := encB) (l := x1) (fl := true) (n := x0) (s := 1)), .b (tbE h1), .o 9 (fun _ => o_len_os (enc := encB) (l := x1) (fl := true) (n := x0) (s := 1)), .l (fix_Bits_o_L0_f0_0 x0 x1 0 ((x1.length : Nat) : Int) 0 (⟨0, 0⟩ : fix_Bits_o_L0_s0) (tbE h2) (tbE h3))] (by kernel_rfl)
  · intro g0
    exact w36 [.o 6 (fun _ => o_len_os (enc := encB) (l := x1) (fl := true) (n := x0) (s := 1)), .b (tbE h1)] (by kernel_rfl)

def fix_right_i_r0_0 (x0 : Int) : Bool := (bif tb (decide (0 ≤ x0)) then (decide (x0 < 65536)) else false)

theorem fix_right_i_t0 (x0 : Int) : cl E0 71 [(V.d (.int .i64 x0))] [] = some ([(V.d (.bool (fix_right_i_r0_0 x0)))], []) := by
  unfold fix_right_i_r0_0
  cases h1 : tb (decide (0 ≤ x0))
  · exact w71 [.b (tbE h1)] (by kernel_rfl)
  · exact w71 [.b (tbE h1)] (by kernel_rfl)

def fix_Has_ii_r0_0 (x0 : Int) (x1 : Int) : Bool := (bif tb (fix_right_i_r0_0 x0) then (bif tb (decide (0 ≤ x1)) then (bif tb (decide (x1 < 16)) then (((andI .i64 (shrI .i64 x0 x1) 1) : Int) == 1) else false) else false) else false)

theorem fix_Has_ii_t0 (x0 : Int) (x1 : Int) : cl E0 38 [(V.d (.int .i64 x0)), (V.d (.int .i64 x1))] [] = some ([(V.d (.bool (fix_Has_ii_r0_0 x0 x1)))], []) := by
  unfold fix_Has_ii_r0_0
  cases h1 : tb (fix_right_i_r0_0 x0)
  · exact w38 [.c (fix_right_i_t0 x0), .b (tbE h1)] (by kernel_rfl)
  · cases h2 : tb (decide (0 ≤ x1))
    · exact w38 [.c (fix_right_i_t0 x0), .b (tbE h1), .b (tbE h2)] (by kernel_rfl)
    · cases h3 : tb (decide (x1 < 16))
      · exact w38 [.c (fix_right_i_t0 x0), .b (tbE h1), .b (tbE h2), .b (tbE h3)] (by kernel_rfl)
      · exact w38 [.c (fix_right_i_t0 x0), .b (tbE h1), .b (tbE h2), .b (tbE h3), .o 18 (fun _ => o_shr (k := .i64) (k2 := .i64) (x := x0) (y := x1) (tbE h2))] (by kernel_rfl)

def fix_Count_i_r0_0 (x0 : Int) : Int := (bif tb (fix_right_i_r0_0 x0) then (andI .i64 (wi ((math_bits_OnesCount64_i_e8 (IntKind.u64.wrap (x0))))) 127) else 0)

theorem fix_Count_i_t0 (x0 : Int) : cl E0 40 [(V.d (.int .i64 x0))] [] = some ([(V.d (.int .i64 (fix_Count_i_r0_0 x0)))], []) := by
  unfold fix_Count_i_r0_0
  cases h1 : tb (fix_right_i_r0_0 x0)
  · exact w40 [.c (fix_right_i_t0 x0), .b (notF (tbE h1))] (by kernel_rfl)
  · exact w40 [.c (fix_right_i_t0 x0), .b (notT (tbE h1)), .c (math_bits_OnesCount_i_t0 (IntKind.u64.wrap (x0)))] (by kernel_rfl)

end Go.Proofs.Ytdlhhoejnhjbhaa.Den

/- Layer 1 (fix): small, Clamp, told plainly. -/
namespace Go.Proofs.Ytdlhhoejnhjbhaa.Den
open Go
set_option linter.unusedVariables false
set_option linter.unusedSimpArgs false

def sm (z : Int) : Bool := decide (-1099511627776 ≤ z) && decide (z ≤ 1099511627776)
theorem sm_iff {z : Int} : sm z = true ↔ -1099511627776 ≤ z ∧ z ≤ 1099511627776 := by simp [sm]

theorem small_eq (l : List Int) (hl : l.length < 1152921504606846976) : fix_small_o_c0 l = true ∧ fix_small_o_r0_0 l = l.all sm := by
  obtain ⟨s1, e, -, h0, h⟩ := all_loop (sel := fix_small_o_L0_sel l l.length) (nx := fix_small_o_L0_nx l l.length) (s0 := ⟨0⟩) l (fun s => s.c3) sm (fun _ => True) hl rfl trivial
    (fun s _ h1 h2 _ => ⟨by show wi _ = _; exact wi_eq (by omega) (by omega), trivial⟩)
    (fun s _ h1 h2 => by
      by_cases h : s.c3 < l.length
      · have hi := inb_of h1 h
        by_cases g1 : gt l s.c3 < -1099511627776
        · have : sm (gt l s.c3) = false := by simp [sm]; omega
          simp [fix_small_o_L0_sel, h, hi, g1, this]
        · by_cases g2 : 1099511627776 < gt l s.c3
          · have : sm (gt l s.c3) = false := by simp [sm]; omega
            simp [fix_small_o_L0_sel, h, hi, g1, g2, this]
          · have : sm (gt l s.c3) = true := by simp [sm]; omega
            simp [fix_small_o_L0_sel, h, hi, g1, g2, this]
      · simp [fix_small_o_L0_sel, h])
  have hok : fix_small_o_L0_ok l l.length ⟨0⟩ = true := by simp [fix_small_o_L0_ok, e]
  have hend : fix_small_o_e0 l = s1 := by simp [fix_small_o_e0, fix_small_o_L0_end, e]
  simp only [fix_small_o_c0, fix_small_o_r0_0, hok, hend, tb_eq, cond_true]
  rcases h with ⟨h1, h2⟩ | ⟨h1, h2, h3⟩
  · simp [fix_small_o_L0_c0, fix_small_o_L0_c1, h1, h2]
  · simp [fix_small_o_L0_c0, fix_small_o_L0_c1, h1, h3, inb_of h0 h1]

theorem small1 (a : Int) : fix_small_o_c0 [a] = true ∧ fix_small_o_r0_0 [a] = sm a := by simpa using small_eq [a] (by simp)
theorem small2 (a b : Int) : fix_small_o_c0 [a, b] = true ∧ fix_small_o_r0_0 [a, b] = (sm a && sm b) := by simpa using small_eq [a, b] (by simp)
theorem small3 (a b c : Int) : fix_small_o_c0 [a, b, c] = true ∧ fix_small_o_r0_0 [a, b, c] = (sm a && sm b && sm c) := by simpa [Bool.and_assoc] using small_eq [a, b, c] (by simp)

theorem Clamp_c (a b c : Int) : fix_Clamp_iii_c0 a b c = true := by simp [fix_Clamp_iii_c0, (small3 a b c).1]
theorem Clamp_r (a b c : Int) : fix_Clamp_iii_r0_0 a b c = if sm a = true ∧ sm b = true ∧ sm c = true then max b (min a c) else 0 := by
  simp only [fix_Clamp_iii_r0_0, (small3 a b c).2, tb_eq, mxI_eq, mnI_eq]
  cases sm a <;> cases sm b <;> cases sm c <;> simp

end Go.Proofs.Ytdlhhoejnhjbhaa.Den

/- Layer 2 (order): sorting, told plainly. -/
namespace Go.Proofs.Ytdlhhoejnhjbhaa.Den
open Go
set_option linter.unusedVariables false
set_option linter.unusedSimpArgs false

theorem bigr (z : Int) : order_right_c1_i_r0_0 z = !sm z := by
  simp only [order_right_c1_i_r0_0, tb_eq, sm]
  by_cases h1 : z < -1099511627776
  · have : ¬ (-1099511627776 ≤ z) := by omega
    simp [h1, this]
  · have h2 : -1099511627776 ≤ z := by omega
    by_cases h3 : 1099511627776 < z
    · have : ¬ (z ≤ 1099511627776) := by omega
      simp [h1, h2, h3, this]
    · have : z ≤ 1099511627776 := by omega
      simp [h1, h2, h3, this]

theorem idx_big (l : List Int) (hl : l.length < 1152921504606846976) : slices_IndexFunc_int_o_order_right_c1_c0 l = true ∧ (decide (0 ≤ slices_IndexFunc_int_o_order_right_c1_r0_0 l)) = !(l.all sm) := by
  obtain ⟨s1, e, -, h0, h⟩ := all_loop (sel := slices_IndexFunc_int_o_order_right_c1_L0_sel l l.length) (nx := slices_IndexFunc_int_o_order_right_c1_L0_nx l l.length) (s0 := ⟨0⟩) l (fun s => s.c3) sm (fun _ => True) hl rfl trivial
    (fun s _ h1 h2 _ => ⟨by show wi _ = _; exact wi_eq (by omega) (by omega), trivial⟩)
    (fun s _ h1 h2 => by
      by_cases h : s.c3 < l.length
      · have hi := inb_of h1 h
        simp only [slices_IndexFunc_int_o_order_right_c1_L0_sel, h, hi, bigr, tb_eq, decide_true, cond_true, Bool.true_and]
        cases sm (gt l s.c3) <;> rfl
      · simp [slices_IndexFunc_int_o_order_right_c1_L0_sel, h])
  have hok : slices_IndexFunc_int_o_order_right_c1_L0_ok l l.length ⟨0⟩ = true := by simp [slices_IndexFunc_int_o_order_right_c1_L0_ok, e]
  have hend : slices_IndexFunc_int_o_order_right_c1_e0 l = s1 := by simp [slices_IndexFunc_int_o_order_right_c1_e0, slices_IndexFunc_int_o_order_right_c1_L0_end, e]
  simp only [slices_IndexFunc_int_o_order_right_c1_c0, slices_IndexFunc_int_o_order_right_c1_r0_0, hok, hend, tb_eq, cond_true]
  rcases h with ⟨h1, h2⟩ | ⟨h1, h2, h3⟩
  · simp [slices_IndexFunc_int_o_order_right_c1_L0_c0, slices_IndexFunc_int_o_order_right_c1_L0_c1, h1, h2]
  · have hi := inb_of h0 h1
    simp [slices_IndexFunc_int_o_order_right_c1_L0_c0, slices_IndexFunc_int_o_order_right_c1_L0_c1, h1, h3, hi, h0]

/-- May a list be? -/
def lst16 (l : List Int) : Bool := decide (l.length ≤ 16) && l.all sm

theorem right_o (l : List Int) (hl : l.length < 1152921504606846976) : order_right_o_c0 l = true ∧ order_right_o_r0_0 l = lst16 l := by
  obtain ⟨h1, h2⟩ := idx_big l hl
  simp only [order_right_o_c0, order_right_o_r0_0, slices_ContainsFunc_int_o_order_right_c1_c0, h1, h2, tb_eq, lst16]
  by_cases h : l.length ≤ 16
  · have : ((l.length : Int) ≤ 16) := by omega
    simp [h, this]
  · have : ¬ ((l.length : Int) ≤ 16) := by omega
    simp [h, this]

/-! ### a pass -/

theorem set_mid {q r : List Int} {a b : Int} : (q ++ a :: r).set q.length b = q ++ b :: r := by
  rw [List.set_append_right _ _ (Nat.le_refl _)]; simp

theorem gt_mid {q r : List Int} {a : Int} : gt (q ++ a :: r) (q.length : Int) = a := by
  rw [gt_nat (by simp)]; simp

theorem gt_mid1 {q r : List Int} {a b : Int} : gt (q ++ a :: b :: r) ((q.length : Int) + 1) = b := by
  have : ((q.length : Int) + 1) = ((q.length + 1 : Nat) : Int) := by omega
  rw [this, gt_nat (by simp)]
  rw [List.getElem_append_right (by omega)]; simp

theorem st_mid {q r : List Int} {a b : Int} : st (q ++ a :: r) (q.length : Int) b = q ++ b :: r := by
  unfold st; rw [Int.toNat_natCast]; exact set_mid

theorem st_mid1 {q r : List Int} {a b c : Int} : st (q ++ a :: b :: r) ((q.length : Int) + 1) c = q ++ a :: c :: r := by
  unfold st
  have : ((q.length : Int) + 1).toNat = (q ++ [a]).length := by simp
  rw [this]
  have e : q ++ a :: b :: r = (q ++ [a]) ++ b :: r := by simp
  rw [e, set_mid]; simp

def passSt (l : List Int) (i : Nat) : order_Sort_o_L1_s0 := ⟨!(bub (l.take i) == l.take i), i, bub (l.take i) ++ l.drop i⟩

theorem pass_run {l : List Int} (hl : 1 ≤ l.length) (hb : l.length ≤ 1000) : itS (order_Sort_o_L1_sel l.length) (order_Sort_o_L1_nx l.length) bound ⟨false, 1, l⟩ = some ⟨!(bub l == l), l.length, bub l⟩ := by
  have := loop_seq (sel := order_Sort_o_L1_sel l.length) (nx := order_Sort_o_L1_nx l.length) (fun k => passSt l (k + 1)) (l.length - 1) (by omega) (fun k hk => ?_) ?_
  · have e0 : passSt l (0 + 1) = ⟨false, 1, l⟩ := by
      cases l with
      | nil => simp at hl
      | cons a r => simp [passSt, bub, bubc]
    have e1 : passSt l (l.length - 1 + 1) = ⟨!(bub l == l), l.length, bub l⟩ := by
      rw [show l.length - 1 + 1 = l.length by omega]; simp [passSt]
    rw [e0, e1] at this; exact this
  · have hne : l.take (k + 1) ≠ [] := by
      intro h
      rw [List.take_eq_nil_iff] at h
      rcases h with h | h
      · omega
      · subst h; simp at hl
    obtain ⟨q, M, h1, h2, h3, h4⟩ := bub_snoc hne
    have hlk : (l.take (k + 1)).length = k + 1 := by simp; omega
    have hq : q.length = k := by omega
    have hdrop : l.drop (k + 1) = gt l ((k + 1 : Nat) : Int) :: l.drop (k + 2) := by
      rw [gt_nat (show k + 1 < l.length by omega)]; exact List.drop_eq_getElem_cons (by omega)
    have htake : l.take (k + 2) = l.take (k + 1) ++ [gt l ((k + 1 : Nat) : Int)] := take_succ_gt (by omega)
    generalize hx : gt l ((k + 1 : Nat) : Int) = x at *
    have h4x := h4 x
    have elist : bub (l.take (k + 1)) ++ l.drop (k + 1) = q ++ M :: x :: l.drop (k + 2) := by rw [h1, hdrop]; simp
    have w1 : wi (((k + 1 : Nat) : Int) - 1) = (q.length : Int) := by rw [wi_eq (by omega) (by omega)]; omega
    have ek : ((k + 1 : Nat) : Int) = (q.length : Int) + 1 := by omega
    have len : (q ++ M :: x :: l.drop (k + 2)).length = l.length := by simp; omega
    have b1 : inb l.length (q.length : Int) = true := inb_of (by omega) (by omega)
    have b2 : inb l.length ((q.length : Int) + 1) = true := inb_of (by omega) (by omega)
    have lt : ((q.length : Int) + 1) < (l.length : Int) := by omega
    have w2 : wi (((q.length : Int) + 1) - 1) = (q.length : Int) := by rw [wi_eq (by omega) (by omega)]; omega
    have w3 : wi (((q.length : Int) + 1) + 1) = ((k + 2 : Nat) : Int) := by rw [wi_eq (by omega) (by omega)]; omega
    have len1 : (q ++ x :: x :: l.drop (k + 2)).length = l.length := by simp; omega
    constructor
    · simp only [passSt, order_Sort_o_L1_sel, elist, ek, w2, gt_mid, gt_mid1, st_mid, b1, b2, lt, len, len1, Nat.beq_refl, tb_eq, decide_true, cond_true]
      cases decide (x < M) <;> rfl
    · simp only [passSt, order_Sort_o_L1_nx, order_Sort_o_L1_h0_e0, elist, ek, w2, w3, gt_mid, gt_mid1, st_mid, st_mid1, tb_eq]
      by_cases hlt : x < M
      · have hne2 : (bub (l.take (k + 2)) == l.take (k + 2)) = false := by
          rw [htake, h4x, if_pos hlt]
          rw [beq_eq_false_iff_ne]
          intro he
          have := congrArg List.getLast? he
          simp at this; omega
        simp only [hlt, decide_true, cond_true, hne2]
        rw [htake, h4x, if_pos hlt]; simp; omega
      · have heq : (bub (l.take (k + 2)) == l.take (k + 2)) = (bub (l.take (k + 1)) == l.take (k + 1)) := by
          rw [htake, h4x, if_neg hlt]
          have : q ++ [M, x] = bub (l.take (k + 1)) ++ [x] := by rw [h1]; simp
          rw [this, Bool.eq_iff_iff]; simp
        simp only [hlt, decide_false, cond_false]
        rw [heq, htake, h4x, if_neg hlt]; simp; omega
  · have : ¬ (((l.length - 1 + 1 : Nat) : Int) < (l.length : Int)) := by omega
    show (bif decide (((l.length - 1 + 1 : Nat) : Int) < (l.length : Int)) then _ else false) = false
    rw [decide_eq_false this]; rfl

theorem pass_all {l : List Int} (hl : 1 ≤ l.length) (hb : l.length ≤ 1000) : order_Sort_o_L1_ok l.length ⟨false, 1, l⟩ = true ∧ order_Sort_o_L1_end l.length ⟨false, 1, l⟩ = ⟨!(bub l == l), l.length, bub l⟩ ∧ order_Sort_o_L1_c0 l.length ⟨!(bub l == l), l.length, bub l⟩ = true := by
  have h := pass_run hl hb
  refine ⟨by simp only [order_Sort_o_L1_ok, h]; rfl, by simp only [order_Sort_o_L1_end, h]; rfl, by simp [order_Sort_o_L1_c0, tb_eq]⟩

/-- All passes. -/
theorem passes {l : List Int} (hb : l.length ≤ 1000) : order_Sort_o_S3_c0 l l.length = true ∧ order_Sort_o_L2_r0_3 l.length (l.length : Int) (order_Sort_o_S3_e0 l l.length) = isort l := by
  obtain ⟨n, hn, h1, h2, h3⟩ := bubn_stop l
  have hs : bubn l n = isort l := srt_isort h3 (bubn_perm l n)
  have hrun : itS (order_Sort_o_L2_sel l.length (l.length : Int)) (order_Sort_o_L2_nx l.length (l.length : Int)) bound ⟨0, l⟩ = some ⟨n, bubn l n⟩ := by
    have := loop_seq (sel := order_Sort_o_L2_sel l.length (l.length : Int)) (nx := order_Sort_o_L2_nx l.length (l.length : Int)) (fun k => ⟨(k : Int), bubn l k⟩) n (by omega) (fun k hk => ?_) ?_
    · exact this
    · have hlen := bubn_len l k
      obtain ⟨a1, a2, a3⟩ := pass_all (l := bubn l k) (by omega) (by omega)
      rw [hlen] at a1 a2 a3
      have hne : (bub (bubn l k) == bubn l k) = false := by rw [beq_eq_false_iff_ne]; exact h1 k hk
      have hlt : (k : Int) < (l.length : Int) := by omega
      rw [hne] at a2 a3
      constructor
      · simp only [order_Sort_o_L2_sel, order_Sort_o_L2_h0_e0, a1, a2, a3, hlt, tb_eq]; simp
      · simp only [order_Sort_o_L2_nx, order_Sort_o_L2_h0_e0, a2]
        rw [wi_eq (by omega) (by omega)]
        simp [bubn]
    · by_cases hlt : n < l.length
      · have hfix : bub (bubn l n) = bubn l n := by rcases h2 with h | h; omega; exact h
        have hlen := bubn_len l n
        obtain ⟨a1, a2, a3⟩ := pass_all (l := bubn l n) (by omega) (by omega)
        rw [hlen] at a1 a2 a3
        rw [hfix] at a2 a3
        have hlt' : (n : Int) < (l.length : Int) := by omega
        simp only [order_Sort_o_L2_sel, order_Sort_o_L2_h0_e0, a1, a2, a3, hlt', tb_eq]
        simp
      · have hlt' : ¬ (n : Int) < (l.length : Int) := by omega
        simp only [order_Sort_o_L2_sel, tb_eq]
        rw [decide_eq_false hlt']; rfl
  have he : order_Sort_o_S3_e0 l l.length = ⟨n, bubn l n⟩ := by simp only [order_Sort_o_S3_e0, order_Sort_o_L2_end, hrun]; rfl
  have hok : order_Sort_o_L2_ok l.length (l.length : Int) ⟨0, l⟩ = true := by simp only [order_Sort_o_L2_ok, hrun]; rfl
  by_cases hlt : n < l.length
  · have hfix : bub (bubn l n) = bubn l n := by rcases h2 with h | h; omega; exact h
    have hlen := bubn_len l n
    obtain ⟨a1, a2, a3⟩ := pass_all (l := bubn l n) (by omega) (by omega)
    rw [hlen] at a1 a2 a3
    rw [hfix] at a2 a3
    have hlt' : (n : Int) < (l.length : Int) := by omega
    constructor
    · simp only [order_Sort_o_S3_c0, hok, he, order_Sort_o_L2_c0, order_Sort_o_L2_h0_e0, a1, a2, a3, hlt', tb_eq]; simp
    · simp only [he, order_Sort_o_L2_r0_3, order_Sort_o_L2_h0_e0, a2, hlt', tb_eq, decide_true, cond_true]; exact hs
  · have hlt' : ¬ (n : Int) < (l.length : Int) := by omega
    constructor
    · simp only [order_Sort_o_S3_c0, hok, he, order_Sort_o_L2_c0, hlt', tb_eq]; simp
    · simp only [he, order_Sort_o_L2_r0_3, hlt', tb_eq, decide_false, cond_false]; exact hs

theorem cpL_rep (l : List Int) (z : Int) : cpL (List.replicate l.length z) l = l := by
  simp [cpL]

/-- Sort: of a list that may be. -/
theorem Sort_r {l : List Int} (h : lst16 l = true) : order_Sort_o_c0 l = true := by
  have hl : l.length ≤ 16 := by simp [lst16] at h; exact h.1
  obtain ⟨a1, a2⟩ := right_o l (by omega)
  obtain ⟨b1, b2⟩ := passes (l := l) (by omega)
  have e1 : ((l.length : Nat) : Int).toNat = l.length := by omega
  have h0 : (0 : Int) ≤ (l.length : Int) := by omega
  have h1 : (l.length : Int) * 8 ≤ 140737488355328 := by omega
  simp only [order_Sort_o_c0, order_Sort_o_S0_c0, order_Sort_o_e0, order_Sort_o_e2, a1, a2, h, e1, List.length_replicate, cpL_rep, b1, h0, h1, tb_eq]; simp

/-- The middle of one to four, sorted. -/
def midI (l : List Int) : Int := (gt (isort l) (((l.length : Int) - 1) / 2) + gt (isort l) ((l.length : Int) / 2)) / 2

def mid4 (l : List Int) : Bool := lst16 l && (decide (1 ≤ l.length) && decide (l.length ≤ 4))

theorem isort_sm {l : List Int} (h : lst16 l = true) {i : Int} (h1 : 0 ≤ i) (h2 : i < l.length) : -1099511627776 ≤ gt (isort l) i ∧ gt (isort l) i ≤ 1099511627776 := by
  have hm := gt_mem (l := isort l) h1 (by rw [isort_len]; exact h2)
  have := (isort_perm l).mem_iff.1 hm
  simp only [lst16, Bool.and_eq_true, List.all_eq_true] at h
  exact sm_iff.1 (h.2 _ this)

theorem Mid_r (l : List Int) (hl : l.length < 1152921504606846976) : order_Mid_o_c0 l = true ∧ order_Mid_o_r0_1 l = mid4 l ∧ (mid4 l = true → order_Mid_o_r0_0 l = midI l) ∧ (mid4 l = false → order_Mid_o_r0_0 l = 0) := by
  obtain ⟨a1, a2⟩ := right_o l hl
  cases h : lst16 l with
  | false =>
    have hm : mid4 l = false := by simp [mid4, h]
    refine ⟨by simp [order_Mid_o_c0, a1, a2, h, tb_eq], by simp [order_Mid_o_r0_1, a2, h, tb_eq, hm], (fun e => by rw [hm] at e; cases e), fun _ => by simp [order_Mid_o_r0_0, a2, h, tb_eq]⟩
  | true =>
    by_cases h1 : l.length < 1
    · have hm : mid4 l = false := by simp [mid4]; omega
      have h1' : (l.length : Int) < 1 := by omega
      refine ⟨by simp only [order_Mid_o_c0, a1, a2, h, tb_eq, h1', decide_true, cond_true], by simp only [order_Mid_o_r0_1, a2, h, tb_eq, hm, h1', decide_true, cond_true], (fun e => by rw [hm] at e; cases e), fun _ => by simp only [order_Mid_o_r0_0, a2, h, tb_eq, h1', decide_true, cond_true]⟩
    · have h1' : ¬ (l.length : Int) < 1 := by omega
      by_cases h2 : 4 < l.length
      · have hm : mid4 l = false := by simp [mid4]; omega
        have h2' : (4 : Int) < (l.length : Int) := by omega
        refine ⟨by simp only [order_Mid_o_c0, a1, a2, h, tb_eq, h1', h2', decide_true, decide_false, cond_true, cond_false], by simp only [order_Mid_o_r0_1, a2, h, tb_eq, hm, h1', h2', decide_true, decide_false, cond_true, cond_false], (fun e => by rw [hm] at e; cases e), fun _ => by simp only [order_Mid_o_r0_0, a2, h, tb_eq, h1', h2', decide_true, decide_false, cond_true, cond_false]⟩
      · have hm : mid4 l = true := by simp [mid4, h]; omega
        have h2' : ¬ (4 : Int) < (l.length : Int) := by omega
        obtain ⟨b1, b2⟩ := passes (l := l) (by omega)
        have e1 : ((l.length : Nat) : Int).toNat = l.length := by omega
        have e0 : order_Sort_o_e0 l = l := by simp only [order_Sort_o_e0, e1, cpL_rep]
        have e2 : order_Sort_o_e2 l = l.length := by simp only [order_Sort_o_e2, e1, List.length_replicate]
        have w1 : wi (((l.length : Nat) : Int) - 1) = (l.length : Int) - 1 := wi_eq (by omega) (by omega)
        have q1 : quoI .i64 ((l.length : Int) - 1) 2 = ((l.length : Int) - 1) / 2 := quo_i64 (by omega) (by omega) (by omega)
        have q2 : quoI .i64 (l.length : Int) 2 = (l.length : Int) / 2 := quo_i64 (by omega) (by omega) (by omega)
        have i1 : inb l.length (((l.length : Int) - 1) / 2) = true := inb_of (by omega) (by omega)
        have i2 : inb l.length ((l.length : Int) / 2) = true := inb_of (by omega) (by omega)
        have m1 := isort_sm h (i := ((l.length : Int) - 1) / 2) (by omega) (by omega)
        have m2 := isort_sm h (i := (l.length : Int) / 2) (by omega) (by omega)
        refine ⟨?_, by simp only [order_Mid_o_r0_1, a2, h, tb_eq, hm, h1', h2', decide_false, cond_true, cond_false], fun _ => ?_, fun e => by rw [hm] at e; cases e⟩
        · simp only [order_Mid_o_c0, a1, a2, h, tb_eq, h1', h2', Sort_r h, e0, e2, w1, q1, q2, i1, i2, b2, isort_len, Nat.beq_refl, decide_false, cond_true, cond_false]
        · simp only [order_Mid_o_r0_0, order_Mid_o_e2, order_Mid_o_e0, order_Mid_o_e1, a2, h, tb_eq, h1', h2', e0, e2, w1, q1, q2, b2, decide_false, cond_true, cond_false, midI]
          rw [wi_eq (by omega) (by omega)]
          exact shr_i64 _ 1 (by omega)

end Go.Proofs.Ytdlhhoejnhjbhaa.Den

/- The reference's functions of layer 1, told plainly: All, Floor. -/
namespace Go.Proofs.Ytdlhhoejnhjbhaa.Den
open Go
set_option linter.unusedVariables false
set_option linter.unusedSimpArgs false

theorem Small_r (z : Int) : ref01_Small_i_r0_0 z = sm z := by
  simp only [ref01_Small_i_r0_0, tb_eq, sm]; cases decide (-1099511627776 ≤ z) <;> rfl

theorem All_eq (l : List Int) (hl : l.length < 1152921504606846976) : ref01_All_o_c0 l = true ∧ ref01_All_o_r0_0 l = l.all sm := by
  obtain ⟨s1, e, -, h0, h⟩ := all_loop (sel := ref01_All_o_L0_sel l) (nx := ref01_All_o_L0_nx l) (s0 := ⟨0⟩) l (fun s => s.c2) sm (fun _ => True) hl rfl trivial
    (fun s _ h1 h2 _ => ⟨by show wi _ = _; exact wi_eq (by omega) (by omega), trivial⟩)
    (fun s _ h1 h2 => by
      by_cases h : s.c2 < l.length
      · have hi := inb_of h1 h
        simp only [ref01_All_o_L0_sel, h, hi, Small_r, tb_eq, decide_true, cond_true, Bool.true_and]
        cases sm (gt l s.c2) <;> rfl
      · simp [ref01_All_o_L0_sel, h])
  have hok : ref01_All_o_L0_ok l ⟨0⟩ = true := by simp [ref01_All_o_L0_ok, e]
  have hend : ref01_All_o_L0_end l ⟨0⟩ = s1 := by simp [ref01_All_o_L0_end, e]
  simp only [ref01_All_o_c0, ref01_All_o_r0_0, hok, hend, tb_eq, cond_true]
  rcases h with ⟨h1, h2⟩ | ⟨h1, h2, h3⟩
  · simp [ref01_All_o_L0_c0, ref01_All_o_L0_c1, h1, h2]
  · simp [ref01_All_o_L0_c0, ref01_All_o_L0_c1, h1, h3, inb_of h0 h1]

theorem all1 (a : Int) : ref01_All_o_c0 [a] = true ∧ ref01_All_o_r0_0 [a] = sm a := by simpa using All_eq [a] (by simp)
theorem all2 (a b : Int) : ref01_All_o_c0 [a, b] = true ∧ ref01_All_o_r0_0 [a, b] = (sm a && sm b) := by simpa using All_eq [a, b] (by simp)
theorem all3 (a b c : Int) : ref01_All_o_c0 [a, b, c] = true ∧ ref01_All_o_r0_0 [a, b, c] = (sm a && sm b && sm c) := by simpa [Bool.and_assoc] using All_eq [a, b, c] (by simp)

/-- Divided, floored. -/
def flo (a b : Int) : Int := if sm a = true ∧ sm b = true ∧ 1 ≤ b then a.fdiv b else 0

theorem floor_neg {n p : Int} (hp : 1 ≤ p) (hn : n < 0) : n / p = -((p - 1 - n) / p) := by
  have hp0 : 0 < p := by omega
  obtain ⟨q, hq⟩ : ∃ q, (p - 1 - n) / p = q := ⟨_, rfl⟩
  have h1 : q * p ≤ p - 1 - n := by rw [← hq]; exact Int.ediv_mul_le _ (by omega)
  have h2 : p - 1 - n < (q + 1) * p := by rw [← hq]; exact Int.lt_ediv_add_one_mul_self _ hp0
  rw [hq]
  have e1 : (q + 1) * p = q * p + p := by rw [Int.add_mul, Int.one_mul]
  have e2 : (-q) * p = -(q * p) := Int.neg_mul _ _
  have e3 : (-q + 1) * p = -(q * p) + p := by rw [Int.add_mul, Int.one_mul, e2]
  apply Int.le_antisymm
  · have : n / p < -q + 1 := by rw [Int.ediv_lt_iff_lt_mul hp0, e3]; omega
    omega
  · rw [Int.le_ediv_iff_mul_le hp0, e2]; omega

theorem Floor_c (a b : Int) : ref01_Floor_ii_c0 a b = true := by
  simp only [ref01_Floor_ii_c0, (all2 a b).1, (all2 a b).2, tb_eq, cond_true]
  cases sm a && sm b
  · rfl
  · by_cases h : b < 1
    · simp [h]
    · have : ((b : Int) == 0) = false := by simp; omega
      simp [h, this]

theorem Floor_r (a b : Int) : ref01_Floor_ii_r0_0 a b = flo a b := by
  simp only [ref01_Floor_ii_r0_0, (all2 a b).2, tb_eq, flo]
  cases h1 : sm a <;> cases h2 : sm b <;> simp
  rw [sm_iff] at h1 h2
  by_cases hb : b < 1
  · have : ¬ (1 ≤ b) := by omega
    simp [hb, this]
  · have hb1 : 1 ≤ b := by omega
    have hf : a.fdiv b = a / b := Int.fdiv_eq_ediv_of_nonneg _ (by omega)
    by_cases ha : 0 ≤ a
    · have e : quoI .i64 a b = a / b := by
        unfold quoI
        rw [Int.tdiv_eq_ediv_of_nonneg ha]
        have := Int.ediv_nonneg ha (show 0 ≤ b by omega)
        have := Int.ediv_le_self b ha
        exact wrap64 (by omega) (by omega)
      simp [hb, hb1, ha, hf, e]
    · have w1 : wi (b - 1) = b - 1 := wi_eq (by omega) (by omega)
      have w2 : wi (b - 1 - a) = b - 1 - a := wi_eq (by omega) (by omega)
      have n1 := Int.ediv_nonneg (show 0 ≤ b - 1 - a by omega) (show 0 ≤ b by omega)
      have n2 := Int.ediv_le_self b (show 0 ≤ b - 1 - a by omega)
      have e : quoI .i64 (b - 1 - a) b = (b - 1 - a) / b := by
        unfold quoI
        rw [Int.tdiv_eq_ediv_of_nonneg (show 0 ≤ b - 1 - a by omega)]
        exact wrap64 (by omega) (by omega)
      have w3 : wi (-((b - 1 - a) / b)) = -((b - 1 - a) / b) := wi_eq (by omega) (by omega)
      have fn := floor_neg (n := a) hb1 (by omega)
      simp [hb, hb1, ha, hf, w1, w2, e, w3, fn]

end Go.Proofs.Ytdlhhoejnhjbhaa.Den

/- The reference's functions of layer 2 (order), told plainly. -/
namespace Go.Proofs.Ytdlhhoejnhjbhaa.Den
open Go
set_option linter.unusedVariables false
set_option linter.unusedSimpArgs false

def lst16r (l : List Int) : Bool := l.all sm && decide (l.length ≤ 16)

theorem rright_o (l : List Int) (hl : l.length < 1152921504606846976) : ref02_Right_o_c0 l = true ∧ ref02_Right_o_r0_0 l = lst16r l := by
  obtain ⟨h1, h2⟩ := All_eq l hl
  simp only [ref02_Right_o_c0, ref02_Right_o_r0_0, h1, h2, tb_eq, lst16r]
  by_cases h : l.length ≤ 16
  · have : ((l.length : Int) ≤ 16) := by omega
    simp [h, this]
  · have : ¬ ((l.length : Int) ≤ 16) := by omega
    simp [h, this]

/-- What is built in the midst of one insertion. -/
def insK (x : Int) (p : List Int) : List Int := if p.any (fun z => decide (x < z)) then insI x p else p

theorem insK_len (x : Int) (p : List Int) : (insK x p).length ≤ p.length + 1 := by
  unfold insK
  split
  · rw [(insI_perm x p).length_eq]; simp
  · omega

theorem insK_snoc (x y : Int) (p : List Int) : insK x (p ++ [y]) = if p.any (fun z => decide (x < z)) then insK x p ++ [y] else if x < y then (insK x p ++ [x]) ++ [y] else insK x p ++ [y] := by
  unfold insK
  rw [insI_snoc]
  simp only [List.any_append, List.any_cons, List.any_nil, Bool.or_false]
  cases h : p.any (fun z => decide (x < z)) with
  | true => simp
  | false =>
    by_cases hxy : x < y
    · simp [hxy]
    · simp [hxy]

theorem ins_run {out l : List Int} {i : Nat} (ho : out.length ≤ 1000) (hl : l.length ≤ 1000) (hi : i < l.length) :
    itS (ref02_Sort_o_L2_1_sel out l (i : Int)) (ref02_Sort_o_L2_1_nx out l (i : Int)) bound ⟨true, false, 0, []⟩ = some ⟨out.length == 0, out.any (fun z => decide (gt l (i : Int) < z)), out.length, insK (gt l (i : Int)) out⟩ := by
  generalize hx : gt l (i : Int) = x
  have := loop_seq (sel := ref02_Sort_o_L2_1_sel out l (i : Int)) (nx := ref02_Sort_o_L2_1_nx out l (i : Int)) (fun k => ⟨k == 0, (out.take k).any (fun z => decide (x < z)), (k : Int), insK x (out.take k)⟩) out.length (by omega) (fun k hk => ?_) ?_
  · simpa [insK] using this
  · have b1 : inb out.length (k : Int) = true := inb_of (by omega) (by omega)
    have b2 : inb l.length (i : Int) = true := inb_of (by omega) (by omega)
    have hlt : (k : Int) < (out.length : Int) := by omega
    have hlen := insK_len x (out.take k)
    have htk : (out.take k).length = k := by simp; omega
    rw [htk] at hlen
    have s1 : ((insK x (out.take k)).length + 1) * 8 ≤ 140737488355328 := by omega
    have s2 : ((insK x (out.take k)).length + 1 + 1) * 8 ≤ 140737488355328 := by omega
    have htake := take_succ_gt hk
    constructor
    · simp only [ref02_Sort_o_L2_1_sel, b1, b2, hlt, hx, List.length_append, List.length_singleton, s1, s2, tb_eq, decide_true, cond_true]
      cases (out.take k).any (fun z => decide (x < z)) <;> cases decide (x < gt out (k : Int)) <;> rfl
    · simp only [ref02_Sort_o_L2_1_nx, hx, htake, insK_snoc, tb_eq, List.any_append, List.any_cons, List.any_nil, Bool.or_false]
      rw [wi_eq (by omega) (by omega)]
      cases h : (out.take k).any (fun z => decide (x < z)) with
      | true => simp
      | false =>
        by_cases hxy : x < gt out (k : Int)
        · simp [hxy]
        · simp [hxy]
  · have : ¬ ((out.length : Int) < (out.length : Int)) := by omega
    simp [ref02_Sort_o_L2_1_sel, tb_eq]

theorem ins0_run {l : List Int} {i : Int} : itS (ref02_Sort_o_L2_sel [] l i) (ref02_Sort_o_L2_nx [] l i) bound ⟨true, false, 0, []⟩ = some ⟨true, false, 0, []⟩ := by
  have := loop_seq (sel := ref02_Sort_o_L2_sel [] l i) (nx := ref02_Sort_o_L2_nx [] l i) (fun _ => ⟨true, false, 0, []⟩) 0 (by omega) (fun k hk => by omega) (by simp [ref02_Sort_o_L2_sel, tb_eq])
  exact this

def rSt (l : List Int) : Nat → ref02_Sort_o_L3_S
  | 0 => .h0 ⟨⟩
  | k + 1 => .h1 ⟨false, ((k + 1 : Nat) : Int), isort (l.take (k + 1))⟩

theorem rsort_run {l : List Int} (hl : l.length ≤ 900) : itS (ref02_Sort_o_L3_sel [] l 0) (ref02_Sort_o_L3_nx [] l 0) bound (.h0 ⟨⟩) = some (rSt l l.length) := by
  have := loop_seq (sel := ref02_Sort_o_L3_sel [] l 0) (nx := ref02_Sort_o_L3_nx [] l 0) (rSt l) l.length (by omega) (fun k hk => ?_) ?_
  · exact this
  · cases k with
    | zero =>
      have h0 := ins0_run (l := l) (i := 0)
      have a1 : ref02_Sort_o_L2_ok [] l 0 ⟨true, false, 0, []⟩ = true := by simp only [ref02_Sort_o_L2_ok, h0]; rfl
      have a2 : ref02_Sort_o_L2_end [] l 0 ⟨true, false, 0, []⟩ = ⟨true, false, 0, []⟩ := by simp only [ref02_Sort_o_L2_end, h0]; rfl
      have hp : (0 : Int) < (l.length : Int) := by omega
      have b1 : inb l.length 0 = true := inb_of (by omega) (by omega)
      constructor
      · simp only [rSt, ref02_Sort_o_L3_sel, ref02_Sort_o_L3_h0_sel, ref02_Sort_o_L3_h0_e0, ref02_Sort_o_S1_c0, a1, a2, hp, b1, ref02_Sort_o_L2_c0, tb_eq]; simp
      · simp only [rSt, ref02_Sort_o_L3_nx, ref02_Sort_o_L3_h0_nx, ref02_Sort_o_L3_h0_e0, a2, tb_eq, cond_false]
        have e : isort (l.take (0 + 1)) = [gt l 0] := by
          have := take_succ_gt (l := l) (k := 0) hk
          rw [this]; simp [isort, insI]
        rw [e, wi_eq (by omega) (by omega)]; simp
    | succ k =>
      have hlen : (isort (l.take (k + 1))).length = k + 1 := by rw [isort_len]; simp; omega
      have h0 := ins_run (out := isort (l.take (k + 1))) (l := l) (i := k + 1) (by omega) (by omega) hk
      rw [hlen] at h0
      have a1 : ref02_Sort_o_L2_1_ok (isort (l.take (k + 1))) l ((k + 1 : Nat) : Int) ⟨true, false, 0, []⟩ = true := by simp only [ref02_Sort_o_L2_1_ok, h0]; rfl
      have a2 := congrArg (fun o => Option.getD o default) h0
      have a3 : ref02_Sort_o_L2_1_end (isort (l.take (k + 1))) l ((k + 1 : Nat) : Int) ⟨true, false, 0, []⟩ = ⟨k + 1 == 0, (isort (l.take (k + 1))).any (fun z => decide (gt l ((k + 1 : Nat) : Int) < z)), ((k + 1 : Nat) : Int), insK (gt l ((k + 1 : Nat) : Int)) (isort (l.take (k + 1)))⟩ := by
        simp only [ref02_Sort_o_L2_1_end, h0]; rfl
      have hp : ((k + 1 : Nat) : Int) < (l.length : Int) := by omega
      have b1 : inb l.length ((k + 1 : Nat) : Int) = true := inb_of (by omega) (by omega)
      have c1 : ref02_Sort_o_L2_1_c0 (isort (l.take (k + 1))) ⟨k + 1 == 0, (isort (l.take (k + 1))).any (fun z => decide (gt l ((k + 1 : Nat) : Int) < z)), ((k + 1 : Nat) : Int), insK (gt l ((k + 1 : Nat) : Int)) (isort (l.take (k + 1)))⟩ = true := by
        simp [ref02_Sort_o_L2_1_c0, hlen, tb_eq]
      have hil := insK_len (gt l ((k + 1 : Nat) : Int)) (isort (l.take (k + 1)))
      rw [hlen] at hil
      have s1 : ((insK (gt l ((k + 1 : Nat) : Int)) (isort (l.take (k + 1)))).length + 1) * 8 ≤ 140737488355328 := by omega
      have hsn : isort (l.take (k + 1 + 1)) = insI (gt l ((k + 1 : Nat) : Int)) (isort (l.take (k + 1))) := by rw [take_succ_gt hk, isort_snoc]
      constructor
      · simp only [rSt, ref02_Sort_o_L3_sel, ref02_Sort_o_L3_h1_sel, ref02_Sort_o_L3_h1_e0, ref02_Sort_o_S1_1_c0, a1, a3, c1, hp, b1, s1, List.length_singleton, tb_eq, decide_true, cond_true]
        cases (isort (l.take (k + 1))).any (fun z => decide (gt l ((k + 1 : Nat) : Int) < z)) <;> rfl
      · simp only [rSt, ref02_Sort_o_L3_nx, ref02_Sort_o_L3_h1_nx, ref02_Sort_o_L3_h1_e0, a3, tb_eq, hsn]
        rw [wi_eq (by omega) (by omega)]
        have e1 : (((k + 1 : Nat) : Int) + 1) = ((k + 1 + 1 : Nat) : Int) := by omega
        cases h : (isort (l.take (k + 1))).any (fun z => decide (gt l ((k + 1 : Nat) : Int) < z)) with
        | true => simp only [insK, h, if_true, cond_true, e1]; rfl
        | false => simp only [insK, h, Bool.false_eq_true, if_false, cond_false, e1, insI_none _ h]
  · cases hn : l.length with
    | zero => simp [rSt, ref02_Sort_o_L3_sel, ref02_Sort_o_L3_h0_sel, ref02_Sort_o_S1_c0, hn, tb_eq]
    | succ k =>
      have : ¬ (((k + 1 : Nat) : Int) < (l.length : Int)) := by omega
      simp only [rSt, ref02_Sort_o_L3_sel, ref02_Sort_o_L3_h1_sel, ref02_Sort_o_S1_1_c0, tb_eq]
      rw [decide_eq_false this]; rfl

theorem rSort_r (l : List Int) (hl : l.length < 1152921504606846976) : ref02_Sort_o_c0 l = true ∧ ref02_Sort_o_r0_1 l = if lst16r l then isort l else [] := by
  obtain ⟨a1, a2⟩ := rright_o l hl
  cases h : lst16r l with
  | false => exact ⟨by simp [ref02_Sort_o_c0, ref02_Sort_o_S0_c0, a1, a2, h, tb_eq], by simp [ref02_Sort_o_r0_1, ref02_Sort_o_S0_c0, a2, h, tb_eq]⟩
  | true =>
    have hl16 : l.length ≤ 16 := by simp [lst16r] at h; exact h.2
    have hrun := rsort_run (l := l) (by omega)
    have he : ref02_Sort_o_e0 l = rSt l l.length := by simp only [ref02_Sort_o_e0, ref02_Sort_o_L3_end, hrun]; rfl
    have hok : ref02_Sort_o_L3_ok [] l 0 (.h0 ⟨⟩) = true := by simp only [ref02_Sort_o_L3_ok, hrun]; rfl
    cases hn : l.length with
    | zero =>
      have hnil : l = [] := List.length_eq_zero_iff.1 hn
      rw [hn] at he
      simp only [rSt] at he
      constructor
      · simp [ref02_Sort_o_c0, ref02_Sort_o_S0_c0, a1, a2, h, hok, he, ref02_Sort_o_L3_is0, ref02_Sort_o_L3_h0_c0, ref02_Sort_o_S1_c0, hn, tb_eq]
      · have hs : isort l = [] := by rw [hnil]; rfl
        simp only [ref02_Sort_o_r0_1, ref02_Sort_o_S0_c0, a2, h, he, ref02_Sort_o_L3_is0, tb_eq, hs]; rfl
    | succ k =>
      rw [hn] at he
      simp only [rSt] at he
      have hlt : ¬ (((k + 1 : Nat) : Int) < (l.length : Int)) := by omega
      have htk : l.take (k + 1) = l := List.take_of_length_le (by omega)
      rw [htk] at he
      constructor
      · simp only [ref02_Sort_o_c0, ref02_Sort_o_S0_c0, a1, a2, h, hok, he, ref02_Sort_o_L3_is0, ref02_Sort_o_L3_get1, ref02_Sort_o_L3_h1_c0, ref02_Sort_o_S1_1_c0, tb_eq]
        rw [decide_eq_false hlt]; rfl
      · simp [ref02_Sort_o_r0_1, ref02_Sort_o_S0_c0, a2, h, he, ref02_Sort_o_L3_is0, ref02_Sort_o_L3_get1, tb_eq]

theorem half_r {a b : Int} (ha : -1099511627776 ≤ a ∧ a ≤ 1099511627776) (hb : -1099511627776 ≤ b ∧ b ≤ 1099511627776) : ref02_half_ii_r0_0 a b = (a + b) / 2 := by
  simp only [ref02_half_ii_r0_0, tb_eq]
  rw [wi_eq (x := a + b) (by omega) (by omega)]
  by_cases h : 0 ≤ a + b
  · simp only [h, decide_true, cond_true]
    exact quo_i64 h (by omega) (by omega)
  · simp only [h, decide_false, cond_false]
    rw [wi_eq (x := 1 - (a + b)) (by omega) (by omega), quo_i64 (by omega) (by omega) (by omega), wi_eq (by omega) (by omega)]
    omega

def midR (l : List Int) : Int := (gt (isort l) (((l.length : Int) - 1) / 2) + gt (isort l) ((l.length : Int) / 2)) / 2

def mid4r (l : List Int) : Bool := lst16r l && (decide (1 ≤ l.length) && decide (l.length ≤ 4))

theorem isort_smr {l : List Int} (h : lst16r l = true) {i : Int} (h1 : 0 ≤ i) (h2 : i < l.length) : -1099511627776 ≤ gt (isort l) i ∧ gt (isort l) i ≤ 1099511627776 := by
  have hm := gt_mem (l := isort l) h1 (by rw [isort_len]; exact h2)
  have := (isort_perm l).mem_iff.1 hm
  simp only [lst16r, Bool.and_eq_true, List.all_eq_true] at h
  exact sm_iff.1 (h.1 _ this)

theorem rMid_r (l : List Int) (hl : l.length < 1152921504606846976) : ref02_Mid_o_c0 l = true ∧ ref02_Mid_o_r0_1 l = mid4r l ∧ (mid4r l = true → ref02_Mid_o_r0_0 l = midR l) ∧ (mid4r l = false → ref02_Mid_o_r0_0 l = 0) := by
  obtain ⟨a1, a2⟩ := rright_o l hl
  obtain ⟨b1, b2⟩ := rSort_r l hl
  have s0 : ref02_Mid_o_S0_c0 l (lst16r l) = !(mid4r l) := by
    simp only [ref02_Mid_o_S0_c0, mid4r, tb_eq]
    cases lst16r l
    · rfl
    · by_cases h1 : l.length < 1
      · have : (l.length : Int) < 1 := by omega
        have : ¬ 1 ≤ l.length := by omega
        simp [*]
      · have g1 : ¬ (l.length : Int) < 1 := by omega
        have g2 : 1 ≤ l.length := by omega
        by_cases h2 : 4 < l.length
        · have g3 : (4 : Int) < (l.length : Int) := by omega
          have g4 : ¬ l.length ≤ 4 := by omega
          simp [g1, g2, g3, g4]
        · have g3 : ¬ (4 : Int) < (l.length : Int) := by omega
          have g4 : l.length ≤ 4 := by omega
          simp [g1, g2, g3, g4]
  cases h : mid4r l with
  | false =>
    rw [h] at s0
    refine ⟨?_, ?_, (fun e => by cases e), fun _ => ?_⟩
    · simp only [ref02_Mid_o_c0, a1, a2, s0, tb_eq]; rfl
    · simp only [ref02_Mid_o_r0_1, a2, s0, tb_eq]; rfl
    · simp only [ref02_Mid_o_r0_0, a2, s0, tb_eq]; rfl
  | true =>
    rw [h] at s0
    have h' := h
    simp only [mid4r, Bool.and_eq_true, decide_eq_true_eq] at h'
    obtain ⟨h16, g1, g2⟩ := h'
    rw [h16] at b2
    simp only [if_true] at b2
    have hlen := isort_len l
    have m := fun (i : Int) (x : 0 ≤ i) (y : i < l.length) => isort_smr h16 x y
    have i0 : inb (isort l).length 0 = true := inb_of (by omega) (by omega)
    have hcases : l.length = 1 ∨ l.length = 2 ∨ l.length = 3 ∨ l.length = 4 := by omega
    refine ⟨?_, by simp only [ref02_Mid_o_r0_1, a2, s0, tb_eq]; rfl, fun _ => ?_, (fun e => by cases e)⟩
    · simp only [ref02_Mid_o_c0, a1, a2, s0, ref02_Mid_o_S1_c0, ref02_Mid_o_S1_c1, b1, b2, hlen, tb_eq]
      rcases hcases with e | e | e | e <;> simp [e, inb]
    · simp only [ref02_Mid_o_r0_0, a2, s0, ref02_Mid_o_S1_c0, ref02_Mid_o_S1_r0_0, b1, b2, hlen, tb_eq, midR]
      rcases hcases with e | e | e | e
      · simp [e, inb]; omega
      · have m0 := m 0 (by omega) (by omega)
        have m1 := m 1 (by omega) (by omega)
        simp [e, inb, half_r m0 m1]
      · simp [e, inb]; omega
      · have m0 := m 1 (by omega) (by omega)
        have m1 := m 2 (by omega) (by omega)
        simp [e, inb, half_r m0 m1]

end Go.Proofs.Ytdlhhoejnhjbhaa.Den

/- What tells lists of numbers alike, told plainly. -/
namespace Go.Proofs.Ytdlhhoejnhjbhaa.Den
open Go
set_option linter.unusedVariables false
set_option linter.unusedSimpArgs false

theorem ints_eq {l k : List Int} (hl : l.length < 1152921504606846976) : ref02_Ints_oo_c0 l k = true ∧ ref02_Ints_oo_r0_0 l k = decide (l = k) := by
  by_cases h : l.length = k.length
  · obtain ⟨s1, e, g0, g⟩ := eq_loop (sel := ref02_Ints_oo_L0_sel l k) (nx := ref02_Ints_oo_L0_nx l k) (s0 := ⟨0⟩) h (fun s => s.c4) hl rfl
      (fun s a1 a2 => by show wi _ = _; exact wi_eq (by omega) (by omega))
      (fun s a1 a2 => by
        by_cases hi : s.c4 < l.length
        · have i1 := inb_of a1 hi
          have i2 : inb k.length s.c4 = true := by rw [← h]; exact i1
          by_cases q : gt l s.c4 = gt k s.c4
          · simp [ref02_Ints_oo_L0_sel, hi, i1, i2, q]
          · simp [ref02_Ints_oo_L0_sel, hi, i1, i2, q, bne]
        · simp [ref02_Ints_oo_L0_sel, hi])
    have hne : ((((l.length : Nat) : Int) : Int) != ((k.length : Nat) : Int)) = false := by simp [h]
    simp only [ref02_Ints_oo_c0, ref02_Ints_oo_r0_0, ref02_Ints_oo_L0_ok, ref02_Ints_oo_L0_end, e, hne, tb_eq, cond_false, Option.isSome_some, cond_true, Option.getD_some]
    rcases g with ⟨a, b⟩ | ⟨a, b, c⟩
    · simp [ref02_Ints_oo_L0_c0, ref02_Ints_oo_L0_c1, a, b]
    · have i1 := inb_of g0 a
      have i2 : inb k.length s1.c4 = true := by rw [← h]; exact i1
      simp [ref02_Ints_oo_L0_c0, ref02_Ints_oo_L0_c1, a, c, i1, i2]
  · have hne : ((((l.length : Nat) : Int) : Int) != ((k.length : Nat) : Int)) = true := by simp; omega
    have : l ≠ k := fun e => h (by rw [e])
    simp [ref02_Ints_oo_c0, ref02_Ints_oo_r0_0, hne, this]

end Go.Proofs.Ytdlhhoejnhjbhaa.Den

/- Layer 2 (order): Sort, Spread, Without, of the program and of the reference, told plainly. -/
namespace Go.Proofs.Ytdlhhoejnhjbhaa.Den
open Go
set_option linter.unusedVariables false
set_option linter.unusedSimpArgs false

theorem lst16_eqr (l : List Int) : lst16 l = lst16r l := by simp only [lst16, lst16r]; exact Bool.and_comm _ _

theorem Sort_c {l : List Int} (hl : l.length < 1152921504606846976) : order_Sort_o_c0 l = lst16 l ∧ order_Sort_o_c1 l = !lst16 l := by
  obtain ⟨a1, a2⟩ := right_o l hl
  cases h : lst16 l with
  | true => exact ⟨Sort_r h, by simp [order_Sort_o_c1, order_Sort_o_S0_c0, a1, a2, h]⟩
  | false => simp [order_Sort_o_c0, order_Sort_o_c1, order_Sort_o_S0_c0, order_Sort_o_S0_c1, a1, a2, h]

theorem Sort_v {l : List Int} (h : lst16 l = true) : order_Sort_o_e2 l = l.length ∧ order_Sort_o_L2_r0_3 (order_Sort_o_e2 l) (((order_Sort_o_e2 l) : Nat) : Int) (order_Sort_o_S3_e0 (order_Sort_o_e0 l) (order_Sort_o_e2 l)) = isort l := by
  have h16 : l.length ≤ 16 := by simp only [lst16, Bool.and_eq_true, decide_eq_true_eq] at h; exact h.1
  obtain ⟨b1, b2⟩ := passes (l := l) (by omega)
  have e1 : ((l.length : Nat) : Int).toNat = l.length := by omega
  have e0 : order_Sort_o_e0 l = l := by simp only [order_Sort_o_e0, e1, cpL_rep]
  have e2 : order_Sort_o_e2 l = l.length := by simp only [order_Sort_o_e2, e1, List.length_replicate]
  rw [e2, e0]; exact ⟨rfl, b2⟩

/-- The list without an element. -/
def wo (l : List Int) (i : Int) : List Int := if 0 ≤ i ∧ i < l.length then l.take i.toNat ++ l.drop (i.toNat + 1) else l

theorem Clone_v (b : Bool) (l : List Int) : slices_Clone_int_o_r0_1 b l = l ∧ slices_Clone_int_o_r0_0 b l = (b && l.isEmpty) := by
  unfold slices_Clone_int_o_r0_1 slices_Clone_int_o_r0_0
  cases b <;> cases l <;> simp

theorem Clone_c (b : Bool) {l : List Int} (hl : l.length ≤ 17592186044416) : slices_Clone_int_o_c0 b l = true := by
  unfold slices_Clone_int_o_c0
  have : (l.length : Nat) * 8 ≤ 140737488355328 := by omega
  simp [this]

theorem del_view {l : List Int} {i : Int} (h : 0 ≤ i ∧ i < l.length) : List.take ((dlL l i (i + 1)).length - ((i + 1).toNat - i.toNat)) (dlL l i (i + 1)) = wo l i := by
  unfold dlL wo
  rw [if_pos ⟨h.1, by omega, by omega⟩, if_pos h]
  have e1 : (i + 1).toNat = i.toNat + 1 := by omega
  rw [e1]
  have e2 : i.toNat + 1 - i.toNat = 1 := by omega
  rw [e2]
  have hl : (l.take i.toNat ++ l.drop (i.toNat + 1)).length = l.length - 1 := by simp; omega
  rw [List.length_append, hl, List.length_replicate, show l.length - 1 + 1 - 1 = (l.take i.toNat ++ l.drop (i.toNat + 1)).length by rw [hl]; omega, List.take_left']
  rfl

theorem wo_len {l : List Int} {i : Int} (h : 0 ≤ i ∧ i < l.length) : (wo l i).length = l.length - 1 := by
  unfold wo; rw [if_pos h]; simp; omega

theorem Without_no (b : Bool) {l : List Int} (i : Int) (hl : l.length < 1152921504606846976) (h : lst16 l = false) : order_Without_oi_c0 b l i = true ∧ order_Without_oi_r0_1 b l = [] ∧ order_Without_oi_r0_0 b l = true := by
  obtain ⟨a1, a2⟩ := right_o l hl
  simp [order_Without_oi_c0, order_Without_oi_r0_1, order_Without_oi_r0_0, a1, a2, h]

theorem Without_out (b : Bool) {l : List Int} {i : Int} (h : lst16 l = true) (hi : ¬ (0 ≤ i ∧ i < l.length)) : order_Without_oi_c0 b l i = true ∧ order_Without_oi_r0_1 b l = l := by
  have h16 : l.length ≤ 16 := by simp only [lst16, Bool.and_eq_true, decide_eq_true_eq] at h; exact h.1
  obtain ⟨a1, a2⟩ := right_o l (by omega)
  have hc := Clone_c b (l := l) (by omega)
  refine ⟨?_, by simp [order_Without_oi_r0_1, a2, h, (Clone_v b l).1]⟩
  by_cases h1 : i < 0
  · simp [order_Without_oi_c0, a1, a2, h, hc, h1]
  · have h2 : (l.length : Int) ≤ i := by omega
    simp [order_Without_oi_c0, a1, a2, h, hc, h1, h2]

theorem Without_in (b : Bool) {l : List Int} {i : Int} (h : lst16 l = true) (hi : 0 ≤ i ∧ i < l.length) : order_Without_oi_c0 b l i = false ∧ order_Without_oi_c1 b l i = true := by
  have h16 : l.length ≤ 16 := by simp only [lst16, Bool.and_eq_true, decide_eq_true_eq] at h; exact h.1
  obtain ⟨a1, a2⟩ := right_o l (by omega)
  have hc := Clone_c b (l := l) (by omega)
  have h1 : ¬ i < 0 := by omega
  have h2 : ¬ (l.length : Int) ≤ i := by omega
  have hw : wi (i + 1) = i + 1 := wi_eq (by omega) (by omega)
  have hne : l.isEmpty = false := by cases l with | nil => simp at hi; omega | cons a l => rfl
  have hd : delB l.length i (i + 1) = true := by simp [delB]; omega
  simp [order_Without_oi_c0, order_Without_oi_c1, a1, a2, h, hc, h1, h2, (Clone_v b l).1, (Clone_v b l).2, hne, hw, hd]

theorem rWithout_r {l : List Int} (i : Int) (hl : l.length < 1152921504606846976) : ref02_Without_oi_c0 l i = true ∧ ref02_Without_oi_r0_1 l i = if lst16r l then wo l i else [] := by
  obtain ⟨a1, a2⟩ := rright_o l hl
  cases h : lst16r l with
  | false => simp [ref02_Without_oi_c0, ref02_Without_oi_r0_1, a1, a2, h]
  | true =>
    have h16 : l.length ≤ 16 := by simp only [lst16r, Bool.and_eq_true, decide_eq_true_eq] at h; exact h.2
    obtain ⟨s1, e, ⟨hJ, hi⟩, hn⟩ := idx_loop (sel := ref02_Without_oi_L0_sel l i) (nx := ref02_Without_oi_L0_nx l i) (s0 := ⟨true, 0, []⟩) (l.length : Int) (fun s => s.c4)
      (fun s => s.c6 = (if 0 ≤ i ∧ i < s.c4 then l.take i.toNat ++ (l.take s.c4.toNat).drop (i.toNat + 1) else l.take s.c4.toNat) ∧ s.c6.length ≤ s.c4.toNat) (by omega) ⟨by simp; omega, by simp⟩ (by simp) (by simp)
      (fun s ⟨hJ, hlen⟩ h1 h2 => by
        have hin := inb_of h1 h2
        have hk : s.c4.toNat < l.length := by omega
        have hw : wi (s.c4 + 1) = s.c4 + 1 := wi_eq (by omega) (by omega)
        have ht : l.take (s.c4 + 1).toNat = l.take s.c4.toNat ++ [gt l s.c4] := by
          rw [show (s.c4 + 1).toNat = s.c4.toNat + 1 by omega, List.take_succ_eq_append_getElem hk, gt_getElem h1 hk]
        have hsz : (s.c6.length + 1) * 8 ≤ 140737488355328 := by omega
        by_cases hc : s.c4 = i
        · subst hc
          refine ⟨by simp [ref02_Without_oi_L0_sel, h2], ?_⟩
          simp only [ref02_Without_oi_L0_nx, bne_self_eq_false, tb_eq, cond_false, hw]
          refine ⟨⟨?_, by omega⟩, trivial⟩
          rw [hJ, if_neg (by omega), if_pos ⟨h1, by omega⟩, ht, List.drop_eq_nil_of_le (by simp; omega), List.append_nil]
        · have hne : ((s.c4 : Int) != i) = true := by simpa using hc
          refine ⟨by simp [ref02_Without_oi_L0_sel, h2, hne, hin, hsz], ?_⟩
          simp only [ref02_Without_oi_L0_nx, hne, tb_eq, cond_true, hw]
          refine ⟨⟨?_, by simp; omega⟩, trivial⟩
          rw [hJ, ht]
          by_cases hq : 0 ≤ i ∧ i < s.c4
          · rw [if_pos hq, if_pos ⟨hq.1, by omega⟩, List.drop_append_of_le_length (by simp; omega), List.append_assoc]
          · rw [if_neg hq, if_neg (by omega)])
      (fun s _ hs => by simp [ref02_Without_oi_L0_sel, hs])
    have hok : ref02_Without_oi_L0_ok l i ⟨true, 0, []⟩ = true := by simp [ref02_Without_oi_L0_ok, e]
    have hend : ref02_Without_oi_e0 l i = s1 := by simp [ref02_Without_oi_e0, ref02_Without_oi_L0_end, e]
    have hn' : s1.c4 = l.length := hn
    have hc0 : ref02_Without_oi_L0_c0 l s1 = true := by simp [ref02_Without_oi_L0_c0, hn']
    refine ⟨by simp [ref02_Without_oi_c0, a1, a2, h, hok, hend, hc0], ?_⟩
    simp only [ref02_Without_oi_r0_1, a2, h, tb_eq, cond_true, hend, if_true]
    rw [hJ, hn']
    unfold wo
    simp only [Int.toNat_natCast, List.take_length]

/-- The greatest of a list, and the least. -/
theorem max_loop {l : List Int} (h0 : 1 ≤ l.length) (hb : l.length ≤ 1000) : ∃ s1, itS (slices_Max_int_o_L0_sel l) (slices_Max_int_o_L0_nx l) bound ⟨gt l 0, 1⟩ = some s1 ∧ s1.c3 = l.length ∧ s1.c2 ∈ l ∧ ∀ z, z ∈ l → z ≤ s1.c2 := by
  obtain ⟨s1, e, ⟨h1, h2, h3⟩, hn⟩ := idx_loop (sel := slices_Max_int_o_L0_sel l) (nx := slices_Max_int_o_L0_nx l) (s0 := ⟨gt l 0, 1⟩) (l.length : Int) (fun s => s.c3) (fun s => s.c2 ∈ l ∧ 1 ≤ s.c3 ∧ ∀ z, z ∈ l.take s.c3.toNat → z ≤ s.c2) (by omega)
    ⟨gt_mem (by omega) (by omega), by simp, fun z hz => by
      have : l.take 1 = [gt l 0] := by
        have := take_succ_gt (l := l) (k := 0) (by omega)
        simpa using this
      have hz' : z ∈ l.take 1 := hz
      rw [this] at hz'
      simp at hz'; simp [hz']⟩ (by simp) (by simp; omega)
    (fun s ⟨a, a2, b⟩ h1 h2 => by
      have hin := inb_of h1 h2
      have hw : wi (s.c3 + 1) = s.c3 + 1 := wi_eq (by omega) (by omega)
      have ht : l.take (s.c3 + 1).toNat = l.take s.c3.toNat ++ [gt l s.c3] := by
        rw [show (s.c3 + 1).toNat = s.c3.toNat + 1 by omega, List.take_succ_eq_append_getElem (by omega), gt_getElem h1 (by omega)]
      refine ⟨by simp [slices_Max_int_o_L0_sel, h2, hin], ?_⟩
      simp only [slices_Max_int_o_L0_nx, hw, mxI_eq]
      refine ⟨⟨?_, by omega, fun z hz => ?_⟩, trivial⟩
      · have := gt_mem (l := l) h1 (by omega)
        rcases Int.le_total (gt l s.c3) s.c2 with q | q
        · rw [Int.max_eq_left q]; exact a
        · rw [Int.max_eq_right q]; exact this
      · rw [ht] at hz
        rcases List.mem_append.1 hz with hz | hz
        · have := b z hz; omega
        · simp at hz; omega)
    (fun s _ hs => by simp [slices_Max_int_o_L0_sel, hs])
  have hn' : s1.c3 = l.length := hn
  exact ⟨s1, e, hn', h1, fun z hz => h3 z (by rw [hn']; simpa using hz)⟩

theorem min_loop {l : List Int} (h0 : 1 ≤ l.length) (hb : l.length ≤ 1000) : ∃ s1, itS (slices_Min_int_o_L0_sel l) (slices_Min_int_o_L0_nx l) bound ⟨gt l 0, 1⟩ = some s1 ∧ s1.c3 = l.length ∧ s1.c2 ∈ l ∧ ∀ z, z ∈ l → s1.c2 ≤ z := by
  obtain ⟨s1, e, ⟨h1, h2, h3⟩, hn⟩ := idx_loop (sel := slices_Min_int_o_L0_sel l) (nx := slices_Min_int_o_L0_nx l) (s0 := ⟨gt l 0, 1⟩) (l.length : Int) (fun s => s.c3) (fun s => s.c2 ∈ l ∧ 1 ≤ s.c3 ∧ ∀ z, z ∈ l.take s.c3.toNat → s.c2 ≤ z) (by omega)
    ⟨gt_mem (by omega) (by omega), by simp, fun z hz => by
      have : l.take 1 = [gt l 0] := by
        have := take_succ_gt (l := l) (k := 0) (by omega)
        simpa using this
      have hz' : z ∈ l.take 1 := hz
      rw [this] at hz'
      simp at hz'; simp [hz']⟩ (by simp) (by simp; omega)
    (fun s ⟨a, a2, b⟩ h1 h2 => by
      have hin := inb_of h1 h2
      have hw : wi (s.c3 + 1) = s.c3 + 1 := wi_eq (by omega) (by omega)
      have ht : l.take (s.c3 + 1).toNat = l.take s.c3.toNat ++ [gt l s.c3] := by
        rw [show (s.c3 + 1).toNat = s.c3.toNat + 1 by omega, List.take_succ_eq_append_getElem (by omega), gt_getElem h1 (by omega)]
      refine ⟨by simp [slices_Min_int_o_L0_sel, h2, hin], ?_⟩
      simp only [slices_Min_int_o_L0_nx, hw, mnI_eq]
      refine ⟨⟨?_, by omega, fun z hz => ?_⟩, trivial⟩
      · have := gt_mem (l := l) h1 (by omega)
        rcases Int.le_total s.c2 (gt l s.c3) with q | q
        · rw [Int.min_eq_left q]; exact a
        · rw [Int.min_eq_right q]; exact this
      · rw [ht] at hz
        rcases List.mem_append.1 hz with hz | hz
        · have := b z hz; omega
        · simp at hz; omega)
    (fun s _ hs => by simp [slices_Min_int_o_L0_sel, hs])
  have hn' : s1.c3 = l.length := hn
  exact ⟨s1, e, hn', h1, fun z hz => h3 z (by rw [hn']; simpa using hz)⟩

theorem srt_last {l : List Int} (h : Srt l) (h0 : 1 ≤ l.length) : ∀ z, z ∈ l → z ≤ gt l ((l.length : Int) - 1) := by
  intro z hz
  obtain ⟨i, hi, rfl⟩ := List.getElem_of_mem hz
  rw [gt_getElem (by omega) (by omega)]
  rcases Nat.lt_or_ge i (((l.length : Int) - 1).toNat) with h1 | h1
  · exact List.pairwise_iff_getElem.1 h i _ hi (by omega) h1
  · have : i = ((l.length : Int) - 1).toNat := by omega
    subst this; exact Int.le_refl _

theorem srt_first {l : List Int} (h : Srt l) : ∀ z, z ∈ l → gt l 0 ≤ z := by
  intro z hz
  obtain ⟨i, hi, rfl⟩ := List.getElem_of_mem hz
  rw [gt_getElem (by omega) (by simp; omega)]
  rcases Nat.lt_or_ge 0 i with h1 | h1
  · exact List.pairwise_iff_getElem.1 h _ i (by simp; omega) hi (by simpa using h1)
  · have : i = 0 := by omega
    subst this; exact Int.le_refl _

/-- The greatest less the least. -/
def spreadI (l : List Int) : Int := if l.length = 0 then 0 else gt (isort l) ((l.length : Int) - 1) - gt (isort l) 0

theorem Spread_r {l : List Int} (hl : l.length < 1152921504606846976) : order_Spread_o_c0 l = true ∧ order_Spread_o_r0_0 l = if lst16 l then spreadI l else 0 := by
  obtain ⟨a1, a2⟩ := right_o l hl
  cases h : lst16 l with
  | false => simp [order_Spread_o_c0, order_Spread_o_r0_0, a1, a2, h]
  | true =>
    have h16 : l.length ≤ 16 := by simp only [lst16, Bool.and_eq_true, decide_eq_true_eq] at h; exact h.1
    by_cases h0 : l.length = 0
    · have : ((l.length : Int) == 0) = true := by simp; simpa using h0
      simp [order_Spread_o_c0, order_Spread_o_r0_0, a1, a2, h, this, spreadI, h0]
    · have hne : ((l.length : Int) == 0) = false := by simp; simpa using h0
      obtain ⟨s1, e1, n1, p1, q1⟩ := max_loop (l := l) (by omega) (by omega)
      obtain ⟨s2, e2, n2, p2, q2⟩ := min_loop (l := l) (by omega) (by omega)
      have i0 : inb l.length 0 = true := inb_of (by omega) (by omega)
      have hlt : ¬ (l.length : Int) < 1 := by omega
      have k1 : slices_Max_int_o_c0 l = true := by
        simp [slices_Max_int_o_c0, slices_Max_int_o_e0, slices_Max_int_o_L0_ok, slices_Max_int_o_L0_end, e1, i0, hlt, slices_Max_int_o_L0_c0, n1]
      have k2 : slices_Min_int_o_c0 l = true := by
        simp [slices_Min_int_o_c0, slices_Min_int_o_e0, slices_Min_int_o_L0_ok, slices_Min_int_o_L0_end, e2, i0, hlt, slices_Min_int_o_L0_c0, n2]
      have hmax : s1.c2 = gt (isort l) ((l.length : Int) - 1) := by
        apply Int.le_antisymm
        · have := srt_last (isort_srt l) (by rw [isort_len]; omega) s1.c2 ((isort_perm l).mem_iff.2 p1)
          rwa [isort_len] at this
        · exact q1 _ ((isort_perm l).mem_iff.1 (gt_mem (by omega) (by rw [isort_len]; omega)))
      have hmin : s2.c2 = gt (isort l) 0 := by
        apply Int.le_antisymm
        · exact q2 _ ((isort_perm l).mem_iff.1 (gt_mem (by omega) (by rw [isort_len]; omega)))
        · exact srt_first (isort_srt l) s2.c2 ((isort_perm l).mem_iff.2 p2)
      have m1 := isort_sm h (i := (l.length : Int) - 1) (by omega) (by omega)
      have m2 := isort_sm h (i := 0) (by omega) (by omega)
      refine ⟨by simp [order_Spread_o_c0, a1, a2, h, hne, k1, k2], ?_⟩
      simp only [order_Spread_o_r0_0, a2, h, hne, tb_eq, cond_true, cond_false, if_true, order_Spread_o_e0, slices_Max_int_o_e0, slices_Min_int_o_e0, slices_Max_int_o_L0_end, slices_Min_int_o_L0_end, e1, e2, Option.getD_some, spreadI, h0, if_false, hmax, hmin]
      exact wi_eq (by omega) (by omega)

theorem rSpread_r {l : List Int} (hl : l.length < 1152921504606846976) : ref02_Spread_o_c0 l = true ∧ ref02_Spread_o_r0_0 l = if lst16r l then spreadI l else 0 := by
  obtain ⟨a1, a2⟩ := rSort_r l hl
  cases h : lst16r l with
  | false =>
    rw [h] at a2
    have a2 : ref02_Sort_o_r0_1 l = [] := by simpa using a2
    simp [ref02_Spread_o_c0, ref02_Spread_o_r0_0, a1, a2]
  | true =>
    rw [h] at a2
    have a2 : ref02_Sort_o_r0_1 l = isort l := by simpa using a2
    have h16 : l.length ≤ 16 := by simp only [lst16r, Bool.and_eq_true, decide_eq_true_eq] at h; exact h.2
    by_cases h0 : l.length = 0
    · have : (((isort l).length : Int) == 0) = true := by rw [isort_len]; simp; simpa using h0
      simp only [ref02_Spread_o_c0, ref02_Spread_o_r0_0, a1, a2, this, tb_eq, cond_true, spreadI, h0, if_true, and_self]
    · have hne : (((isort l).length : Int) == 0) = false := by rw [isort_len]; simp; simpa using h0
      have hw : wi (((isort l).length : Int) - 1) = (l.length : Int) - 1 := by rw [isort_len]; exact wi_eq (by omega) (by omega)
      have i0 : inb (isort l).length 0 = true := inb_of (by omega) (by rw [isort_len]; omega)
      have i1 : inb (isort l).length ((l.length : Int) - 1) = true := inb_of (by omega) (by rw [isort_len]; omega)
      have m1 := isort_smr h (i := (l.length : Int) - 1) (by omega) (by omega)
      have m2 := isort_smr h (i := 0) (by omega) (by omega)
      simp only [ref02_Spread_o_c0, ref02_Spread_o_r0_0, ref02_Spread_o_e0, a1, a2, hne, hw, i0, i1, tb_eq, cond_true, cond_false, spreadI, h0, if_false, true_and, if_true]
      exact wi_eq (by omega) (by omega)

end Go.Proofs.Ytdlhhoejnhjbhaa.Den

/- OrderMidst: the plain law. -/
namespace Go.Proofs.Ytdlhhoejnhjbhaa.Den
open Go
set_option linter.unusedVariables false
set_option linter.unusedSimpArgs false
set_option maxRecDepth 100000

theorem mid_within {l : List Int} (h : mid4 l = true) {a b : Int} (hb : ∀ z, z ∈ l → a ≤ z ∧ z ≤ b) : a ≤ midI l ∧ midI l ≤ b := by
  simp only [mid4, Bool.and_eq_true, decide_eq_true_eq] at h
  obtain ⟨h16, h1, h2⟩ := h
  have g := fun (i : Int) (x : 0 ≤ i) (y : i < l.length) => hb _ ((isort_perm l).mem_iff.1 (gt_mem (l := isort l) x (by rw [isort_len]; exact y)))
  have m1 := g (((l.length : Int) - 1) / 2) (by omega) (by omega)
  have m2 := g ((l.length : Int) / 2) (by omega) (by omega)
  unfold midI; omega

/-- One more number moves the middle of two or three no farther than their ends. -/
theorem mid_more {l : List Int} {x a b : Int} (hl : l.length = 2 ∨ l.length = 3) (hb : ∀ z, z ∈ l → a ≤ z ∧ z ≤ b) : a ≤ midI (l ++ [x]) ∧ midI (l ++ [x]) ≤ b := by
  have hp := isort_perm (l ++ [x])
  have hs := isort_srt (l ++ [x])
  have hlen := isort_len (l ++ [x])
  have c1 : (l ++ [x]).countP (fun z => decide (z < a)) ≤ 1 := by
    rw [List.countP_append, List.countP_eq_zero.2 (fun z hz => by have := hb z hz; simp; omega)]
    rw [Nat.zero_add]; exact List.countP_le_length
  have c2 : (l ++ [x]).countP (fun z => decide (b < z)) ≤ 1 := by
    rw [List.countP_append, List.countP_eq_zero.2 (fun z hz => by have := hb z hz; simp; omega)]
    rw [Nat.zero_add]; exact List.countP_le_length
  rw [← hp.countP_eq] at c1 c2
  simp only [List.length_append, List.length_cons, List.length_nil] at hlen
  unfold midI
  simp only [List.length_append, List.length_cons, List.length_nil]
  unfold Srt at hs
  rcases hl with hl | hl
  · rw [hl] at hlen ⊢
    match isort (l ++ [x]), hlen, hs, c1, c2 with
    | [p, q, r], _, hs, c1, c2 =>
      simp only [List.pairwise_cons, List.mem_cons, List.not_mem_nil, or_false, forall_eq_or_imp, forall_eq] at hs
      simp only [List.countP_cons, List.countP_nil] at c1 c2
      have e1 : gt [p, q, r] (((2 + (0 + 1) : Nat) - 1 : Int) / 2) = q := rfl
      have e2 : gt [p, q, r] (((2 + (0 + 1) : Nat) : Int) / 2) = q := rfl
      rw [e1, e2]
      by_cases u1 : q < a
      · have : p < a := by omega
        simp [u1, this] at c1
      · by_cases u2 : b < q
        · have : b < r := by omega
          simp [u2, this] at c2; omega
        · omega
  · rw [hl] at hlen ⊢
    match isort (l ++ [x]), hlen, hs, c1, c2 with
    | [p, q, r, s], _, hs, c1, c2 =>
      simp only [List.pairwise_cons, List.mem_cons, List.not_mem_nil, or_false, forall_eq_or_imp, forall_eq] at hs
      simp only [List.countP_cons, List.countP_nil] at c1 c2
      have e1 : gt [p, q, r, s] (((3 + (0 + 1) : Nat) - 1 : Int) / 2) = q := rfl
      have e2 : gt [p, q, r, s] (((3 + (0 + 1) : Nat) : Int) / 2) = r := rfl
      rw [e1, e2]
      have v1 : a ≤ q := by
        by_cases u1 : q < a
        · have : p < a := by omega
          simp [u1, this] at c1
        · omega
      have v2 : r ≤ b := by
        by_cases u2 : b < r
        · have : b < s := by omega
          simp [u2, this] at c2; omega
        · omega
      omega

theorem pure_OrderMidst (x0 : Bool) (x1 : List Int) (x2 : Int) (x3 : Int) (wx1 : (x1.length ≤ maxLen ∧ x1.length * 8 ≤ 140737488351232 ∧ ∀ z ∈ x1, WfI .i64 z)) (wx2 : WfI .i64 x2) (wx3 : WfI .u8 x3) : law02_OrderMidst_c0 x1 x2 x3 = true ∧ (law02_OrderMidst_r0_0 x1 x2 x3) = true := by
  have hb8 := wx1.2.1
  have hla : (x1 ++ [x2]).length = x1.length + 1 := by simp
  have hl : (x1 ++ [x2]).length < 1152921504606846976 := by omega
  obtain ⟨r1, r2⟩ := rright_o (x1 ++ [x2]) hl
  have d1 : decide ((([] : List Int).length + x1.length) * 8 ≤ 140737488355328) = true := by simp; omega
  have d2 : decide ((x1.length + [x2].length) * 8 ≤ 140737488355328) = true := by simp; omega
  have s0 : law02_OrderMidst_S0_c0 x1 x2 = true := by simp only [law02_OrderMidst_S0_c0, d1, d2, r1, tb_eq, cond_true]
  simp only [law02_OrderMidst_c0, law02_OrderMidst_r0_0, s0, r2, tb_eq, cond_true]
  by_cases h1 : law02_OrderMidst_S1_c0 x1 (lst16r (x1 ++ [x2])) = true
  · simp [h1]
  have h1' : law02_OrderMidst_S1_c0 x1 (lst16r (x1 ++ [x2])) = false := by simpa using h1
  rw [h1']
  obtain ⟨hR, hlo, hhi⟩ : lst16r (x1 ++ [x2]) = true ∧ 1 ≤ x1.length ∧ x1.length ≤ 4 := by
    simp only [law02_OrderMidst_S1_c0, tb_eq] at h1'
    cases hR : lst16r (x1 ++ [x2]) with
    | false => simp [hR] at h1'
    | true =>
      simp only [hR, cond_true] at h1'
      by_cases a : ((x1.length : Nat) : Int) < 1
      · simp [a] at h1'
      · by_cases b : 4 < ((x1.length : Nat) : Int)
        · simp [a, b] at h1'
        · exact ⟨rfl, by omega, by omega⟩
  have hA : lst16 (x1 ++ [x2]) = true := by rw [lst16_eqr]; exact hR
  have hA' := hA
  simp only [lst16, Bool.and_eq_true, decide_eq_true_eq, List.all_append] at hA'
  have h16 : lst16 x1 = true := by simp only [lst16, Bool.and_eq_true, decide_eq_true_eq]; exact ⟨by omega, hA'.2.1⟩
  have hm4 : mid4 x1 = true := by simp [mid4, h16, hlo, hhi]
  obtain ⟨c0, -⟩ := Sort_c (l := x1) (by omega)
  rw [h16] at c0
  obtain ⟨v1, v2⟩ := Sort_v h16
  obtain ⟨m0, m1, m2, -⟩ := Mid_r x1 (by omega)
  rw [hm4] at m1
  have m2 := m2 hm4
  have hsl := isort_len x1
  have e4 : law02_OrderMidst_S5_e4 x1 = isort x1 := v2
  have e0 : law02_OrderMidst_S5_e0 x1 = gt (isort x1) 0 := by unfold law02_OrderMidst_S5_e0; rw [v2]
  have hw : wi ((x1.length : Int) - 1) = (x1.length : Int) - 1 := wi_eq (by omega) (by omega)
  have e1 : law02_OrderMidst_S5_e1 x1 = gt (isort x1) ((x1.length : Int) - 1) := by unfold law02_OrderMidst_S5_e1; rw [v2, v1, hw]
  have hrng : ∀ z, z ∈ x1 → gt (isort x1) 0 ≤ z ∧ z ≤ gt (isort x1) ((x1.length : Int) - 1) := fun z hz => by
    have hz' := (isort_perm x1).mem_iff.2 hz
    have := srt_last (isort_srt x1) (by omega) z hz'
    rw [hsl] at this
    exact ⟨srt_first (isort_srt x1) z hz', this⟩
  have mw := mid_within hm4 hrng
  have n1 : decide (midI x1 < gt (isort x1) 0) = false := by simp; omega
  have n2 : decide (gt (isort x1) ((x1.length : Int) - 1) < midI x1) = false := by simp; omega
  have i0 : inb x1.length 0 = true := inb_of (by omega) (by omega)
  have i1 : inb x1.length ((x1.length : Int) - 1) = true := inb_of (by omega) (by omega)
  have hbq : Nat.beq x1.length (isort x1).length = true := by rw [hsl]; simp
  -- turned round
  have hx3 := wfI_u8 wx3
  have hr : remI .i64 (wi x3) ((x1.length : Nat) : Int) = x3 % x1.length := by rw [wi_eq (by omega) (by omega), rem_i64 (by omega)]
  have hr0 : 0 ≤ x3 % (x1.length : Int) := Int.emod_nonneg _ (by omega)
  have hr1 : x3 % (x1.length : Int) < x1.length := Int.emod_lt_of_pos _ (by omega)
  obtain ⟨k, hk⟩ : ∃ k : Nat, x3 % (x1.length : Int) = k := ⟨(x3 % (x1.length : Int)).toNat, by omega⟩
  have hkl : k < x1.length := by omega
  rw [hk] at hr
  have e2 : law02_OrderMidst_S5_e2 x1 x3 = x1.drop k := by
    unfold law02_OrderMidst_S5_e2
    rw [hr, sub_nat, ← List.length_drop]
    exact List.take_length
  have s2 : sub x1 0 (k : Int) = x1.take k := by
    have := sub_nat x1 0 k
    simpa using this
  have e3 : law02_OrderMidst_S5_e3 x1 x3 = x1.drop k ++ x1.take k := by
    unfold law02_OrderMidst_S5_e3
    rw [e2, hr, s2]
  have hp3 : (x1.drop k ++ x1.take k).Perm x1 := List.perm_append_comm.trans (by rw [List.take_append_drop])
  have l3 : (x1.drop k ++ x1.take k).length = x1.length := hp3.length_eq
  have m43 : mid4 (x1.drop k ++ x1.take k) = true := by
    have : (x1.drop k ++ x1.take k).all sm = x1.all sm := by
      rw [Bool.eq_iff_iff, List.all_eq_true, List.all_eq_true]
      exact ⟨fun h z hz => h z (hp3.mem_iff.2 hz), fun h z hz => h z (hp3.mem_iff.1 hz)⟩
    rw [← hm4]
    simp only [mid4, lst16, l3, this]
  obtain ⟨t0, t1, t2, -⟩ := Mid_r (x1.drop k ++ x1.take k) (by omega)
  rw [m43] at t1
  have t2 := t2 m43
  have t3 : midI (x1.drop k ++ x1.take k) = midI x1 := by unfold midI; rw [l3, isort_congr hp3]
  rw [t3] at t2
  -- put in order
  have m44 : mid4 (isort x1) = true := by
    have : (isort x1).all sm = x1.all sm := by
      rw [Bool.eq_iff_iff, List.all_eq_true, List.all_eq_true]
      exact ⟨fun h z hz => h z ((isort_perm x1).mem_iff.2 hz), fun h z hz => h z ((isort_perm x1).mem_iff.1 hz)⟩
    rw [← hm4]
    simp only [mid4, lst16, hsl, this]
  obtain ⟨u0, u1, u2, -⟩ := Mid_r (isort x1) (by omega)
  rw [m44] at u1
  have u2 := u2 m44
  have u3 : midI (isort x1) = midI x1 := by unfold midI; rw [hsl, isort_fix (isort_srt x1)]
  rw [u3] at u2
  have b1 : ins x1.length (k : Int) ((x1.length : Nat) : Int) = true := by simp [ins]; omega
  have b2 : ins x1.length 0 (k : Int) = true := by simp [ins]; omega
  have b3 : decide ((([] : List Int).length + (x1.drop k).length) * 8 ≤ 140737488355328) = true := by simp; omega
  have b4 : decide (((x1.drop k).length + (x1.take k).length) * 8 ≤ 140737488355328) = true := by simp; omega
  have z0 : (((x1.length : Nat) : Int) == 0) = false := by rw [beq_eq_false_iff_ne]; omega
  have ne0 : (((x1.length : Nat) : Int) != ((x1.length : Nat) : Int)) = false := by simp
  have nem : (midI x1 != midI x1) = false := by simp
  -- one more
  obtain ⟨a0, a1, a2, -⟩ := Mid_r (x1 ++ [x2]) hl
  have s3 : law02_OrderMidst_S3_c0 x1 x2 = true := by simp only [law02_OrderMidst_S3_c0, d1, d2, a0, tb_eq, cond_true]
  have s4 : law02_OrderMidst_S2_r0_5 x1 = true → law02_OrderMidst_S4_c0 (isort x1) x1.length (order_Mid_o_r0_0 (x1 ++ [x2])) (order_Mid_o_r0_1 (x1 ++ [x2])) = true ∧ law02_OrderMidst_S4_r0_3 (isort x1) x1.length (order_Mid_o_r0_0 (x1 ++ [x2])) (order_Mid_o_r0_1 (x1 ++ [x2])) = false := fun h2 => by
    have h23 : x1.length = 2 ∨ x1.length = 3 := by
      simp only [law02_OrderMidst_S2_r0_5, tb_eq] at h2
      by_cases q : x1.length = 2
      · exact .inl q
      · have q' : (((x1.length : Nat) : Int) == 2) = false := by simp; omega
        rw [q', cond_false] at h2
        simp at h2; omega
    have hma : mid4 (x1 ++ [x2]) = true := by simp only [mid4, hA, hla]; simp; omega
    have a2 := a2 hma
    rw [hma] at a1
    have mm := mid_more (x := x2) h23 hrng
    have p1 : decide (midI (x1 ++ [x2]) < gt (isort x1) 0) = false := by simp; omega
    have p2 : decide (gt (isort x1) ((x1.length : Int) - 1) < midI (x1 ++ [x2])) = false := by simp; omega
    simp only [law02_OrderMidst_S4_c0, law02_OrderMidst_S4_r0_3, a1, a2, i0, hbq, p1, hw, i1, p2, tb_eq, cond_true, cond_false, and_self]
  rw [v1] at v2
  have S5 : law02_OrderMidst_S5_c0 x1 x2 x3 = false ∧ law02_OrderMidst_S5_c1 x1 x2 x3 = true := by
    simp only [law02_OrderMidst_S5_c0, law02_OrderMidst_S5_c1, c0, m0, v1, v2, ne0, m1, i0, hbq, m2, e0, e1, e2, e3, e4, n1, n2, hw, i1, z0, hr, b1, b2, b3, b4, s2, t0, t1, t2, u0, u1, u2, nem, s3, tb_eq, cond_true, cond_false]
    cases h2 : law02_OrderMidst_S2_r0_5 x1 with
    | false => simp
    | true =>
      obtain ⟨q1, q2⟩ := s4 h2
      simp [q1, q2]
  have hw2 : wi ((x1.length : Int) + 1) = (x1.length : Int) + 1 := wi_eq (by omega) (by omega)
  have hin : 0 ≤ (x1.length : Int) ∧ (x1.length : Int) < (x1 ++ [x2]).length := ⟨by omega, by rw [hla]; omega⟩
  obtain ⟨w0, w1⟩ := Without_in false hA hin
  have hwo : wo (x1 ++ [x2]) (x1.length : Int) = x1 := by
    unfold wo; rw [if_pos hin]; simp
  have e6 : law02_OrderMidst_S6_e0 x1 x2 = x1 := by
    unfold law02_OrderMidst_S6_e0
    rw [hw2, (Clone_v false (x1 ++ [x2])).1, del_view hin, hwo]
  have ie := ints_eq (l := x1) (k := x1) (by omega)
  have S6 : law02_OrderMidst_S6_c0 x1 x2 = true ∧ law02_OrderMidst_S6_r0_0 x1 x2 = true := by
    simp only [law02_OrderMidst_S6_c0, law02_OrderMidst_S6_r0_0, d1, d2, w0, w1, e6, ie.1, ie.2, tb_eq, cond_true, cond_false, decide_true, and_self]
  simp only [S5.1, S5.2, S6.1, S6.2, cond_true, cond_false, and_self]

end Go.Proofs.Ytdlhhoejnhjbhaa.Den

/- What all rows of a seat rest on. -/
namespace Go.Proofs.Ytdlhhoejnhjbhaa.Den
open Go Go.Proofs
set_option maxRecDepth 100000

theorem own : ownKnob Try.prog.godebug = none := by kernel_rfl
theorem laidOut : laidOutB Try.prog = true := by kernel_rfl
theorem mixed : Try.prog.follows .mixedOrders = true := by kernel_rfl
theorem envOK : EnvOK Try.prog E0 := ⟨e0_cf, fun f args m r m' h => by simp [E0] at h, e0_del⟩
theorem glOK (w : World) : GlOK E0 (cx0 w) := fun g cs h => by simp [E0] at h
end Go.Proofs.Ytdlhhoejnhjbhaa.Den

/- The row of OrderMidst. -/
namespace Go.Proofs.Ytdlhhoejnhjbhaa.Den
open Go Go.Proofs Go.ChangeShapes Go.WideShapes Go.ChangeAt Go.RowKit
open Go.Proofs.Ytdlhhoejnhjbhaa (Rows.orderMidstSpec Rows.orderMidstRow Rows.OrderMidstSaid)
set_option maxRecDepth 100000
set_option linter.unusedSimpArgs false
set_option linter.unusedVariables false

theorem row5 (rs : List (List D)) (h : TyAll Try.prog 20 Try.f5.params.toList rs) : ∃ k m', callD E0 k 5 (argsV Try.prog Try.f5.params.toList rs) [] = some ([.d (.bool true)], m') := by
  rw [Try.params5] at h ⊢
  simp only [TyAll] at h
  obtain ⟨_, _, rfl, q0, _, _, rfl, q1, _, _, rfl, q2, rfl⟩ := h
  have k0 := flatK_ok 20 _ _ _ (show flatK Try.prog 20 22 = some [.l 3] by kernel_rfl) q0
  simp only [CellsK, CellK] at k0
  obtain ⟨d0_0, _, rfl, y0_0, rfl⟩ := k0
  obtain ⟨n0_0, a0_0, rfl, v0_0⟩ : ∃ n l, d0_0 = slD (encI .i64) true 1 n l ∧ (l.length ≤ maxLen ∧ l.length * 8 ≤ 140737488351232 ∧ ∀ z ∈ l, WfI .i64 z) := by
    rcases y0_0 with rfl | ⟨rows1, rfl, hl1, hb1, m1, hr1⟩
    · exact ⟨true, [], rfl, by simp [maxLen], by simp, fun z hz => by simp at hz⟩
    · obtain ⟨l2, rfl, hw2⟩ : ∃ l : List Int, rows1 = l.map (encI .i64) ∧ ∀ z ∈ l, WfI .i64 z := rows_of (T := Ty Try.prog m1 3) (fun r hr => by
          have q := flatK_any (show flatK Try.prog 20 3 = some [.i .i64] by kernel_rfl) hr
          simp only [CellsK, CellK] at q
          obtain ⟨_, _, rfl, ⟨b0, rfl, w0⟩, rfl⟩ := q
          exact ⟨b0, rfl, w0⟩) rows1 hr1
      rw [List.length_map, show Try.prog.bytesOf 3 = 8 by kernel_rfl] at hb1
      rw [show isFlat Try.prog 3 = true by kernel_rfl, show Try.prog.cellsOf 3 = 1 by kernel_rfl]
      exact ⟨false, l2, slD_rs _ _ _ _, by simpa using hl1, hb1, hw2⟩
  have k1 := flatK_ok 20 _ _ _ (show flatK Try.prog 20 3 = some [.i .i64] by kernel_rfl) q1
  simp only [CellsK, CellK] at k1
  obtain ⟨_, _, rfl, ⟨a1_0, rfl, w1_0⟩, rfl⟩ := k1
  have k2 := flatK_ok 20 _ _ _ (show flatK Try.prog 20 5 = some [.i .u8] by kernel_rfl) q2
  simp only [CellsK, CellK] at k2
  obtain ⟨_, _, rfl, ⟨a2_0, rfl, w2_0⟩, rfl⟩ := k2
  simp only [argsV, argV, Try.underlying3, Try.underlying5, Try.underlying22, List.map_cons, List.map_nil]
  obtain ⟨g1, g2⟩ := pure_OrderMidst n0_0 a0_0 a1_0 a2_0 v0_0 w1_0 w2_0
  have hc := law02_OrderMidst_t0 n0_0 a0_0 a1_0 a2_0 g1
  rw [g2] at hc
  obtain ⟨k, hk⟩ := of_cl hc
  exact ⟨k, _, hk⟩

theorem orderMidst_lifted (os : Os) (started : os.Started) (H : Type) (enc : TypeId × Value → H) :
    ReturnsInHanded {} Try.checked os 5 .any (Rows.orderMidstSpec.pre6 enc Try.prog Try.f5 Rows.orderMidstRow.domain false) (Rows.orderMidstSpec.post enc Try.prog Try.f5 false true false false) :=
  law_lifted (C := Try.checked) (fn := Try.f5) mixed envOK glOK own started (by kernel_rfl) Try.func5 laidOut
    (ChangeSpec.witness6 (enc := enc) (C := Try.checked) false ⟨#[], #[.slice none 0 0, .int .i64 0, .int .u8 0], []⟩ 8 (by kernel_rfl) (by kernel_rfl) (by kernel_rfl) (by kernel_rfl))
    (by kernel_rfl) (rt := 4) rfl Try.underlying4 rfl
    (fun ds h => by
      match ds, h with
      | [_, _, _], _ => rfl)
    row5

theorem orderMidst_holds : Rows.OrderMidstSaid :=
  OpenClaim.holds_of_wide 5 Try.f5 rfl rfl rfl rfl rfl rfl rfl ⟨rfl, rfl, rfl, rfl, rfl⟩ rfl rfl rfl rfl rfl (by kernel_rfl) Try.func5 (by kernel_rfl)
    (of_decide_eq_true (by kernel_rfl)) (by unfold Func.isWrapper; first | (rw [if_pos (by decide +kernel)]; kernel_rfl) | (rw [if_neg (by decide +kernel)]; exact ⟨rfl, rfl⟩))
    (fun os started H enc _ => orderMidst_lifted os started H enc)

end Go.Proofs.Ytdlhhoejnhjbhaa.Den
