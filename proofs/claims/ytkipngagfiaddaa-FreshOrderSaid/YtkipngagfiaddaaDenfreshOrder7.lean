/- FreshOrder: part 7 of what its proof rests on: an evaluator of the program's code, proved sound; plain functions printed from the code by a program of this session, with proofs; plain laws. No condition. -/
import Derived.Test.YtkipngagfiaddaaDenfreshOrder6
import Derived.Test.YtkipngagfiaddaaRows

namespace Go.Proofs.Ytkipngagfiaddaa.Den
open Go Go.Proofs
set_option maxRecDepth 100000
set_option maxHeartbeats 4000000
set_option linter.unusedVariables false
set_option linter.unusedSimpArgs false
structure law06_FreshOrder_L0_s0 where
  c4 : Int
  c11 : Int
  c12 : Bool
  c13 : List Int
  deriving Inhabited
def law06_FreshOrder_L0_h0_e1 (x3 : Int) (x11 : List R_bool_Su811) (s0 : law06_FreshOrder_L0_s0) : List Int := (fresh_Track_Take_pabo_Fi2bi7_e1 x3 s0.c11 s0.c12 s0.c13 ((gt x11 s0.c4).c0) ((gt x11 s0.c4).c1) ((gt x11 s0.c4).c2))
def law06_FreshOrder_L0_enc (x0 : Int) (x1 : List Int) (x2 : List Int) (x3 : Int) (x4 : Int) (x5 : Bool) (x6 : List Int) (x7 : Bool) (x8 : Bool) (x9 : Bool) (x10 : Bool) (x11 : List R_bool_Su811) (x12 : Int) (x13 : Bool) (x14 : Int) (s0 : law06_FreshOrder_L0_s0) : List V × Mem := ([(V.d (slD enc_R_bool_Su811 false 2 x10 x11)), (V.d (.int .u8 x12)), (V.ptr 0 1 0 0), (V.so x13 1 x2.length), (V.ptr 2 1 0 0), (V.d (.int .i64 s0.c4))], [(Blk.flat 33 9 [([(.int .i64 x0)] ++ arrD .i64 x1 8)] x7), (Blk.flat 5 1 (List.map (encI .u8) x2) x8), (Blk.flat 67 10 [([(.int .i64 x3), (.int .i64 s0.c11), (.bool s0.c12)] ++ arrD .i64 s0.c13 7)] false)])
def law06_FreshOrder_L0_sel (x3 : Int) (x11 : List R_bool_Su811) (s0 : law06_FreshOrder_L0_s0) : Bool := (bif tb (decide (s0.c4 < ((x11.length : Nat) : Int))) then (bif tb (inb x11.length s0.c4) then (bif tb (fresh_Track_Take_pabo_Fi2bi7_c0 x3 s0.c11 s0.c12 ((gt x11 s0.c4).c0) ((gt x11 s0.c4).c1) ((gt x11 s0.c4).c2)) then true else false) else false) else false)
def law06_FreshOrder_L0_nx (x3 : Int) (x11 : List R_bool_Su811) (s0 : law06_FreshOrder_L0_s0) : law06_FreshOrder_L0_s0 := ⟨(wi (s0.c4 + 1)), (fresh_Track_take_pabo_Fi2bi7_r0_4 x3 s0.c11 ((gt x11 s0.c4).c0) ((gt x11 s0.c4).c1) ((gt x11 s0.c4).c2)), (fresh_Track_take_pabo_Fi2bi7_r0_5 x3 s0.c12 ((gt x11 s0.c4).c0) ((gt x11 s0.c4).c1) ((gt x11 s0.c4).c2)), (law06_FreshOrder_L0_h0_e1 x3 x11 s0)⟩
def law06_FreshOrder_L0_ok (x3 : Int) (x11 : List R_bool_Su811) (s0 : law06_FreshOrder_L0_s0) : Bool := (itS (law06_FreshOrder_L0_sel x3 x11) (law06_FreshOrder_L0_nx x3 x11) bound s0).isSome
def law06_FreshOrder_L0_end (x3 : Int) (x11 : List R_bool_Su811) (s0 : law06_FreshOrder_L0_s0) : law06_FreshOrder_L0_s0 := (itS (law06_FreshOrder_L0_sel x3 x11) (law06_FreshOrder_L0_nx x3 x11) bound s0).getD default
theorem law06_FreshOrder_L0_go (x0 : Int) (x1 : List Int) (x2 : List Int) (x3 : Int) (x4 : Int) (x5 : Bool) (x6 : List Int) (x7 : Bool) (x8 : Bool) (x9 : Bool) (x10 : Bool) (x11 : List R_bool_Su811) (x12 : Int) (x13 : Bool) (x14 : Int) (s0 : law06_FreshOrder_L0_s0) : law06_FreshOrder_L0_sel x3 x11 s0 = true → (roundG (runC E0 (cl E0) L4_0) [0, 2, 4, 8, 10, 12] [0, 2, 4, 8, 10] 3) (law06_FreshOrder_L0_enc x0 x1 x2 x3 x4 x5 x6 x7 x8 x9 x10 x11 x12 x13 x14 s0) = some (.normal, law06_FreshOrder_L0_enc x0 x1 x2 x3 x4 x5 x6 x7 x8 x9 x10 x11 x12 x13 x14 (law06_FreshOrder_L0_nx x3 x11 s0)) := by
  unfold law06_FreshOrder_L0_sel law06_FreshOrder_L0_nx
  cases h1 : tb (decide (s0.c4 < ((x11.length : Nat) : Int)))
  · intro g0
    exact absurd g0 ft
  · cases h2 : tb (inb x11.length s0.c4)
    · intro g0
      exact absurd g0 ft
    · cases h3 : tb (fresh_Track_Take_pabo_Fi2bi7_c0 x3 s0.c11 s0.c12 ((gt x11 s0.c4).c0) ((gt x11 s0.c4).c1) ((gt x11 s0.c4).c2))
      · intro g0
        exact absurd g0 ft
      · intro _
        exact round_walk [.o 52 (fun _ => o_len_os (enc := enc_R_bool_Su811) (l := x11) (fl := false) (n := x10) (s := 2)), .b (tbE h1), .o 59 (fun _ => o_idx_os (enc := enc_R_bool_Su811) (l := x11) (fl := false) (n := x10) (s := 2) (k := .i64) (tbE h2)), .c (fresh_Track_Take_pabo_Fi2bi7_t0 x3 s0.c11 s0.c12 s0.c13 ((gt x11 s0.c4).c0) ((gt x11 s0.c4).c1) ((gt x11 s0.c4).c2) (tbE h3))] (by kernel_rfl)
def law06_FreshOrder_L0_c0 (x11 : List R_bool_Su811) (s0 : law06_FreshOrder_L0_s0) : Bool := (bif tb (decide (s0.c4 < ((x11.length : Nat) : Int))) then false else true)
theorem law06_FreshOrder_L0_x0 (x0 : Int) (x1 : List Int) (x2 : List Int) (x3 : Int) (x4 : Int) (x5 : Bool) (x6 : List Int) (x7 : Bool) (x8 : Bool) (x9 : Bool) (x10 : Bool) (x11 : List R_bool_Su811) (x12 : Int) (x13 : Bool) (x14 : Int) (s0 : law06_FreshOrder_L0_s0) : law06_FreshOrder_L0_sel x3 x11 s0 = false → law06_FreshOrder_L0_c0 x11 s0 = true → (roundG (runC E0 (cl E0) L4_0) [0, 2, 4, 8, 10, 12] [0, 2, 4, 8, 10] 3) (law06_FreshOrder_L0_enc x0 x1 x2 x3 x4 x5 x6 x7 x8 x9 x10 x11 x12 x13 x14 s0) = some ((.exit 0), ([(V.d (slD enc_R_bool_Su811 false 2 x10 x11)), (V.d (.int .u8 x12)), (V.ptr 0 1 0 0), (V.so x13 1 x2.length), (V.ptr 2 1 0 0)], [(Blk.flat 33 9 [([(.int .i64 x0)] ++ arrD .i64 x1 8)] x7), (Blk.flat 5 1 (List.map (encI .u8) x2) x8), (Blk.flat 67 10 [([(.int .i64 x3), (.int .i64 s0.c11), (.bool s0.c12)] ++ arrD .i64 s0.c13 7)] false)])) := by
  unfold law06_FreshOrder_L0_sel law06_FreshOrder_L0_c0
  cases h1 : tb (decide (s0.c4 < ((x11.length : Nat) : Int)))
  · intro g0 g1
    exact round_walk [.o 52 (fun _ => o_len_os (enc := enc_R_bool_Su811) (l := x11) (fl := false) (n := x10) (s := 2)), .b (tbE h1)] (by kernel_rfl)
  · cases h2 : tb (inb x11.length s0.c4)
    · intro g0 g1
      exact absurd g1 ft
    · cases h3 : tb (fresh_Track_Take_pabo_Fi2bi7_c0 x3 s0.c11 s0.c12 ((gt x11 s0.c4).c0) ((gt x11 s0.c4).c1) ((gt x11 s0.c4).c2))
      · intro g0 g1
        exact absurd g1 ft
      · intro g0 g1
        exact absurd g0 tf
theorem law06_FreshOrder_L0_f0_0 (x0 : Int) (x1 : List Int) (x2 : List Int) (x3 : Int) (x4 : Int) (x5 : Bool) (x6 : List Int) (x7 : Bool) (x8 : Bool) (x9 : Bool) (x10 : Bool) (x11 : List R_bool_Su811) (x12 : Int) (x13 : Bool) (x14 : Int) (s : law06_FreshOrder_L0_s0) (hok : law06_FreshOrder_L0_ok x3 x11 s = true) (c0 : law06_FreshOrder_L0_c0 x11 (law06_FreshOrder_L0_end x3 x11 s) = true) : loopG (roundG (runC E0 (cl E0) L4_0) [0, 2, 4, 8, 10, 12] [0, 2, 4, 8, 10] 3) bound (law06_FreshOrder_L0_enc x0 x1 x2 x3 x4 x5 x6 x7 x8 x9 x10 x11 x12 x13 x14 s) = some ((.exit 0), ([(V.d (slD enc_R_bool_Su811 false 2 x10 x11)), (V.d (.int .u8 x12)), (V.ptr 0 1 0 0), (V.so x13 1 x2.length), (V.ptr 2 1 0 0)], [(Blk.flat 33 9 [([(.int .i64 x0)] ++ arrD .i64 x1 8)] x7), (Blk.flat 5 1 (List.map (encI .u8) x2) x8), (Blk.flat 67 10 [([(.int .i64 x3), (.int .i64 ((law06_FreshOrder_L0_end x3 x11 s).c11)), (.bool ((law06_FreshOrder_L0_end x3 x11 s).c12))] ++ arrD .i64 ((law06_FreshOrder_L0_end x3 x11 s).c13) 7)] false)])) := by
  have e : itS (law06_FreshOrder_L0_sel x3 x11) (law06_FreshOrder_L0_nx x3 x11) bound s = some (law06_FreshOrder_L0_end x3 x11 s) := itS_get hok
  have f := itS_false e
  exact loop_it (law06_FreshOrder_L0_go x0 x1 x2 x3 x4 x5 x6 x7 x8 x9 x10 x11 x12 x13 x14) bound s _ _ _ e (fun h => by cases h) (law06_FreshOrder_L0_x0 x0 x1 x2 x3 x4 x5 x6 x7 x8 x9 x10 x11 x12 x13 x14 (law06_FreshOrder_L0_end x3 x11 s) f c0)
def law06_FreshOrder_S1_c0 (x4 : Int) (x5 : Bool) (x15 : Int) : Bool := (bif tb (((remI .i64 x15 3) : Int) == 2) then (bif tb (fresh_Track_Take_pabn_Fi2bi7_c0 x4 x5 false) then true else false) else true)
def law06_FreshOrder_S1_r0_1 (x14 : Int) (x15 : Int) : Int := (bif tb (((remI .i64 x15 3) : Int) == 2) then (wi (x14 + 1)) else x14)
def law06_FreshOrder_S1_r0_9 (x4 : Int) (x15 : Int) : Int := (bif tb (((remI .i64 x15 3) : Int) == 2) then (fresh_Track_take_pabn_Fi2bi7_r0_4 x4 false) else x4)
def law06_FreshOrder_S1_r0_10 (x5 : Bool) (x15 : Int) : Bool := (bif tb (((remI .i64 x15 3) : Int) == 2) then (fresh_Track_take_pabn_Fi2bi7_r0_5 x5 false) else x5)
def law06_FreshOrder_S1_r0_11 (x4 : Int) (x5 : Bool) (x6 : List Int) (x15 : Int) : List Int := (bif tb (((remI .i64 x15 3) : Int) == 2) then (fresh_Track_Take_pabn_Fi2bi7_e1 x4 x5 x6 false) else x6)
theorem law06_FreshOrder_S1_t0 (x0 : Int) (x1 : List Int) (x2 : List Int) (x3 : Int) (x4 : Int) (x5 : Bool) (x6 : List Int) (x7 : Int) (x8 : List Int) (x9 : Bool) (x10 : Bool) (x12 : Bool) (x13 : Int) (x14 : Int) (x15 : Int) : law06_FreshOrder_S1_c0 x4 x5 x15 = true → segG (runC E0 (cl E0) S4_1) [2, 4, 10, 15, 16] [] [2, 4, 10, 15, 16] 4 ([(V.d (.int .u8 x13)), (V.ptr 0 1 0 0), (V.ptr 2 1 0 0), (V.d (.int .i64 x14)), (V.d (.int .i64 x15))], [(Blk.flat 33 9 [([(.int .i64 x0)] ++ arrD .i64 x1 8)] x9), (Blk.flat 5 1 (List.map (encI .u8) x2) x10), (Blk.flat 67 10 [([(.int .i64 x3), (.int .i64 x4), (.bool x5)] ++ arrD .i64 x6 7)] false), (Blk.flat 33 9 [([(.int .i64 x7)] ++ arrD .i64 x8 8)] x12)]) = some (.normal, ([(V.d (.int .u8 x13)), (V.ptr 0 1 0 0), (V.ptr 2 1 0 0), (V.d (.int .i64 (law06_FreshOrder_S1_r0_1 x14 x15))), (V.d (.int .i64 x15))], [(Blk.flat 33 9 [([(.int .i64 x0)] ++ arrD .i64 x1 8)] x9), (Blk.flat 5 1 (List.map (encI .u8) x2) x10), (Blk.flat 67 10 [([(.int .i64 x3), (.int .i64 (law06_FreshOrder_S1_r0_9 x4 x15)), (.bool (law06_FreshOrder_S1_r0_10 x5 x15))] ++ arrD .i64 (law06_FreshOrder_S1_r0_11 x4 x5 x6 x15) 7)] false), (Blk.flat 33 9 [([(.int .i64 x7)] ++ arrD .i64 x8 8)] x12)])) := by
  unfold law06_FreshOrder_S1_c0 law06_FreshOrder_S1_r0_1 law06_FreshOrder_S1_r0_9 law06_FreshOrder_S1_r0_10 law06_FreshOrder_S1_r0_11
  cases h1 : tb (((remI .i64 x15 3) : Int) == 2)
  · intro g0
    exact seg_walk [.b (tbE h1)] (by kernel_rfl)
  · cases h2 : tb (fresh_Track_Take_pabn_Fi2bi7_c0 x4 x5 false)
    · intro g0
      exact absurd g0 ft
    · intro g0
      exact seg_walk [.b (tbE h1), .c (fresh_Track_Take_pabn_Fi2bi7_t0 x3 x4 x5 x6 false (tbE h2))] (by kernel_rfl)
def law06_FreshOrder_S2_e0 (x0 : Int) (x1 : List Int) (x3 : Int) (x4 : Int) (x5 : Bool) : List Int := (fresh_Track_take_pabo_Fi2bi7_r0_1 x3 x4 x5 true (frame_Encode_iai9_r0_0 2 x0 x1) (frame_Encode_iai9_r0_2 2 x0 x1))
def law06_FreshOrder_S2_e1 (x0 : Int) (x1 : List Int) (x3 : Int) (x4 : Int) (x5 : Bool) (x6 : List Int) : List Int := (fresh_Track_Take_pabo_Fi2bi7_e1 x3 x4 x5 x6 true (frame_Encode_iai9_r0_0 2 x0 x1) (frame_Encode_iai9_r0_2 2 x0 x1))
def law06_FreshOrder_S2_e2 (x0 : Int) (x1 : List Int) (x3 : Int) (x4 : Int) (x5 : Bool) : Bool := (true != ((((fresh_Track_take_pabo_Fi2bi7_r0_0 x3 x4 x5 true (frame_Encode_iai9_r0_0 2 x0 x1) (frame_Encode_iai9_r0_2 2 x0 x1)) : Int) == x0) && ((((gt (law06_FreshOrder_S2_e0 x0 x1 x3 x4 x5) 0) : Int) == (gt x1 0)) && ((((gt (law06_FreshOrder_S2_e0 x0 x1 x3 x4 x5) 1) : Int) == (gt x1 1)) && ((((gt (law06_FreshOrder_S2_e0 x0 x1 x3 x4 x5) 2) : Int) == (gt x1 2)) && ((((gt (law06_FreshOrder_S2_e0 x0 x1 x3 x4 x5) 3) : Int) == (gt x1 3)) && ((((gt (law06_FreshOrder_S2_e0 x0 x1 x3 x4 x5) 4) : Int) == (gt x1 4)) && ((((gt (law06_FreshOrder_S2_e0 x0 x1 x3 x4 x5) 5) : Int) == (gt x1 5)) && ((((gt (law06_FreshOrder_S2_e0 x0 x1 x3 x4 x5) 6) : Int) == (gt x1 6)) && ((((gt (law06_FreshOrder_S2_e0 x0 x1 x3 x4 x5) 7) : Int) == (gt x1 7)) && true))))))))))
def law06_FreshOrder_S2_c0 (x0 : Int) (x1 : List Int) (x3 : Int) (x4 : Int) (x5 : Bool) : Bool := (bif tb (frame_Encode_iai9_c0 2 x0 x1) then (bif tb (fresh_Track_Take_pabo_Fi2bi7_c0 x3 x4 x5 true (frame_Encode_iai9_r0_0 2 x0 x1) (frame_Encode_iai9_r0_2 2 x0 x1)) then true else false) else false)
def law06_FreshOrder_S2_r0_3 (x0 : Int) (x1 : List Int) (x3 : Int) (x4 : Int) (x5 : Bool) : Bool := (bif tb (((frame_Encode_iai9_r0_1 2 x0 x1) : Int) != 0) then true else (bif tb (((fresh_Track_take_pabo_Fi2bi7_r0_2 x3 x4 x5 true (frame_Encode_iai9_r0_0 2 x0 x1) (frame_Encode_iai9_r0_2 2 x0 x1)) : Int) != 0) then true else (law06_FreshOrder_S2_e2 x0 x1 x3 x4 x5)))
theorem law06_FreshOrder_S2_t0 (x0 : Int) (x1 : List Int) (x2 : List Int) (x3 : Int) (x4 : Int) (x5 : Bool) (x6 : List Int) (x7 : Int) (x8 : List Int) (x9 : Bool) (x10 : Bool) (x12 : Bool) (x13 : Int) (x14 : Int) (x15 : Int) : law06_FreshOrder_S2_c0 x0 x1 x3 x4 x5 = true → segG (runC E0 (cl E0) S4_2) [2, 4, 10, 15, 16] [] [2, 4, 10, 15, 16, 121] 4 ([(V.d (.int .u8 x13)), (V.ptr 0 1 0 0), (V.ptr 2 1 0 0), (V.d (.int .i64 x14)), (V.d (.int .i64 x15))], [(Blk.flat 33 9 [([(.int .i64 x0)] ++ arrD .i64 x1 8)] x9), (Blk.flat 5 1 (List.map (encI .u8) x2) x10), (Blk.flat 67 10 [([(.int .i64 x3), (.int .i64 x4), (.bool x5)] ++ arrD .i64 x6 7)] false), (Blk.flat 33 9 [([(.int .i64 x7)] ++ arrD .i64 x8 8)] x12)]) = some (.normal, ([(V.d (.int .u8 x13)), (V.ptr 0 1 0 0), (V.ptr 2 1 0 0), (V.d (.int .i64 (wi (x14 + 1)))), (V.d (.int .i64 x15)), (V.d (.bool (law06_FreshOrder_S2_r0_3 x0 x1 x3 x4 x5)))], [(Blk.flat 33 9 [([(.int .i64 x0)] ++ arrD .i64 x1 8)] x9), (Blk.flat 5 1 (List.map (encI .u8) x2) x10), (Blk.flat 67 10 [([(.int .i64 x3), (.int .i64 (fresh_Track_take_pabo_Fi2bi7_r0_4 x3 x4 true (frame_Encode_iai9_r0_0 2 x0 x1) (frame_Encode_iai9_r0_2 2 x0 x1))), (.bool (fresh_Track_take_pabo_Fi2bi7_r0_5 x3 x5 true (frame_Encode_iai9_r0_0 2 x0 x1) (frame_Encode_iai9_r0_2 2 x0 x1)))] ++ arrD .i64 (law06_FreshOrder_S2_e1 x0 x1 x3 x4 x5 x6) 7)] false), (Blk.flat 33 9 [([(.int .i64 x7)] ++ arrD .i64 x8 8)] x12)])) := by
  unfold law06_FreshOrder_S2_c0 law06_FreshOrder_S2_r0_3
  cases h1 : tb (frame_Encode_iai9_c0 2 x0 x1)
  · intro g0
    exact absurd g0 ft
  · cases h2 : tb (fresh_Track_Take_pabo_Fi2bi7_c0 x3 x4 x5 true (frame_Encode_iai9_r0_0 2 x0 x1) (frame_Encode_iai9_r0_2 2 x0 x1))
    · intro g0
      exact absurd g0 ft
    · cases h3 : tb (((frame_Encode_iai9_r0_1 2 x0 x1) : Int) != 0)
      · cases h4 : tb (((fresh_Track_take_pabo_Fi2bi7_r0_2 x3 x4 x5 true (frame_Encode_iai9_r0_0 2 x0 x1) (frame_Encode_iai9_r0_2 2 x0 x1)) : Int) != 0)
        · intro g0
          exact seg_walk [.c (frame_Encode_iai9_t0 2 x0 x1 (tbE h1)), .y (mm := [(Blk.flat 33 9 [([(.int .i64 x0)] ++ arrD .i64 x1 8)] x9), (Blk.flat 5 1 (List.map (encI .u8) x2) x10), (Blk.flat 67 10 [([(.int .i64 x3), (.int .i64 x4), (.bool x5)] ++ arrD .i64 x6 7)] false), (Blk.flat 33 9 [([(.int .i64 x7)] ++ arrD .i64 x8 8)] x12), (Blk.flat 5 1 (List.map (encI .u8) (frame_Encode_iai9_r0_2 2 x0 x1)) false)]) (args := [(V.ptr 2 1 0 0), (V.agg [(V.d (.bool true)), (V.so (frame_Encode_iai9_r0_0 2 x0 x1) 4 ((frame_Encode_iai9_r0_2 2 x0 x1).length))])]) (args1 := [(V.ptr 2 1 0 0), (V.agg [(V.d (.bool true)), (V.d (slD (encI .u8) true 1 (frame_Encode_iai9_r0_0 2 x0 x1) (frame_Encode_iai9_r0_2 2 x0 x1)))])]) (byvals_cons (by kernel_rfl) (byvals_cons (byval_agg (byvals_cons (by kernel_rfl) (byvals_cons (byval_so (enc := (encI .u8)) (l := (frame_Encode_iai9_r0_2 2 x0 x1)) (b := (frame_Encode_iai9_r0_0 2 x0 x1)) (e := 5) (s := 1) (p := false) (n := ((frame_Encode_iai9_r0_2 2 x0 x1).length)) (Nat.beq_refl _) (by kernel_rfl)) (by kernel_rfl)))) (by kernel_rfl))), .c (fresh_Track_Take_pabo_Fi2bi7_t0 x3 x4 x5 x6 true (frame_Encode_iai9_r0_0 2 x0 x1) (frame_Encode_iai9_r0_2 2 x0 x1) (tbE h2)), .b (tbE h3), .b (tbE h4)] (by kernel_rfl)
        · intro g0
          exact seg_walk [.c (frame_Encode_iai9_t0 2 x0 x1 (tbE h1)), .y (mm := [(Blk.flat 33 9 [([(.int .i64 x0)] ++ arrD .i64 x1 8)] x9), (Blk.flat 5 1 (List.map (encI .u8) x2) x10), (Blk.flat 67 10 [([(.int .i64 x3), (.int .i64 x4), (.bool x5)] ++ arrD .i64 x6 7)] false), (Blk.flat 33 9 [([(.int .i64 x7)] ++ arrD .i64 x8 8)] x12), (Blk.flat 5 1 (List.map (encI .u8) (frame_Encode_iai9_r0_2 2 x0 x1)) false)]) (args := [(V.ptr 2 1 0 0), (V.agg [(V.d (.bool true)), (V.so (frame_Encode_iai9_r0_0 2 x0 x1) 4 ((frame_Encode_iai9_r0_2 2 x0 x1).length))])]) (args1 := [(V.ptr 2 1 0 0), (V.agg [(V.d (.bool true)), (V.d (slD (encI .u8) true 1 (frame_Encode_iai9_r0_0 2 x0 x1) (frame_Encode_iai9_r0_2 2 x0 x1)))])]) (byvals_cons (by kernel_rfl) (byvals_cons (byval_agg (byvals_cons (by kernel_rfl) (byvals_cons (byval_so (enc := (encI .u8)) (l := (frame_Encode_iai9_r0_2 2 x0 x1)) (b := (frame_Encode_iai9_r0_0 2 x0 x1)) (e := 5) (s := 1) (p := false) (n := ((frame_Encode_iai9_r0_2 2 x0 x1).length)) (Nat.beq_refl _) (by kernel_rfl)) (by kernel_rfl)))) (by kernel_rfl))), .c (fresh_Track_Take_pabo_Fi2bi7_t0 x3 x4 x5 x6 true (frame_Encode_iai9_r0_0 2 x0 x1) (frame_Encode_iai9_r0_2 2 x0 x1) (tbE h2)), .b (tbE h3), .b (tbE h4)] (by kernel_rfl)
      · intro g0
        exact seg_walk [.c (frame_Encode_iai9_t0 2 x0 x1 (tbE h1)), .y (mm := [(Blk.flat 33 9 [([(.int .i64 x0)] ++ arrD .i64 x1 8)] x9), (Blk.flat 5 1 (List.map (encI .u8) x2) x10), (Blk.flat 67 10 [([(.int .i64 x3), (.int .i64 x4), (.bool x5)] ++ arrD .i64 x6 7)] false), (Blk.flat 33 9 [([(.int .i64 x7)] ++ arrD .i64 x8 8)] x12), (Blk.flat 5 1 (List.map (encI .u8) (frame_Encode_iai9_r0_2 2 x0 x1)) false)]) (args := [(V.ptr 2 1 0 0), (V.agg [(V.d (.bool true)), (V.so (frame_Encode_iai9_r0_0 2 x0 x1) 4 ((frame_Encode_iai9_r0_2 2 x0 x1).length))])]) (args1 := [(V.ptr 2 1 0 0), (V.agg [(V.d (.bool true)), (V.d (slD (encI .u8) true 1 (frame_Encode_iai9_r0_0 2 x0 x1) (frame_Encode_iai9_r0_2 2 x0 x1)))])]) (byvals_cons (by kernel_rfl) (byvals_cons (byval_agg (byvals_cons (by kernel_rfl) (byvals_cons (byval_so (enc := (encI .u8)) (l := (frame_Encode_iai9_r0_2 2 x0 x1)) (b := (frame_Encode_iai9_r0_0 2 x0 x1)) (e := 5) (s := 1) (p := false) (n := ((frame_Encode_iai9_r0_2 2 x0 x1).length)) (Nat.beq_refl _) (by kernel_rfl)) (by kernel_rfl)))) (by kernel_rfl))), .c (fresh_Track_Take_pabo_Fi2bi7_t0 x3 x4 x5 x6 true (frame_Encode_iai9_r0_0 2 x0 x1) (frame_Encode_iai9_r0_2 2 x0 x1) (tbE h2)), .b (tbE h3)] (by kernel_rfl)
def law06_FreshOrder_S3_e0 (x0 : Int) (x1 : List Int) (x3 : Int) (x4 : Int) (x5 : Bool) (x6 : List Int) (x15 : Int) : List Int := (law06_FreshOrder_S2_e1 (word_Next_i_r0_0 x0) x1 x3 (law06_FreshOrder_S1_r0_9 x4 x15) (law06_FreshOrder_S1_r0_10 x5 x15) (law06_FreshOrder_S1_r0_11 x4 x5 x6 x15))
def law06_FreshOrder_S3_c0 (x0 : Int) (x1 : List Int) (x3 : Int) (x4 : Int) (x5 : Bool) (x15 : Int) : Bool := (bif tb (law06_FreshOrder_S1_c0 x4 x5 x15) then (bif tb (law06_FreshOrder_S2_c0 (word_Next_i_r0_0 x0) x1 x3 (law06_FreshOrder_S1_r0_9 x4 x15) (law06_FreshOrder_S1_r0_10 x5 x15)) then (bif tb (law06_FreshOrder_S2_r0_3 (word_Next_i_r0_0 x0) x1 x3 (law06_FreshOrder_S1_r0_9 x4 x15) (law06_FreshOrder_S1_r0_10 x5 x15)) then true else false) else false) else false)
def law06_FreshOrder_S3_c1 (x0 : Int) (x1 : List Int) (x3 : Int) (x4 : Int) (x5 : Bool) (x15 : Int) : Bool := (bif tb (law06_FreshOrder_S1_c0 x4 x5 x15) then (bif tb (law06_FreshOrder_S2_c0 (word_Next_i_r0_0 x0) x1 x3 (law06_FreshOrder_S1_r0_9 x4 x15) (law06_FreshOrder_S1_r0_10 x5 x15)) then (bif tb (law06_FreshOrder_S2_r0_3 (word_Next_i_r0_0 x0) x1 x3 (law06_FreshOrder_S1_r0_9 x4 x15) (law06_FreshOrder_S1_r0_10 x5 x15)) then false else true) else false) else false)
theorem law06_FreshOrder_S3_t0 (x0 : Int) (x1 : List Int) (x2 : List Int) (x3 : Int) (x4 : Int) (x5 : Bool) (x6 : List Int) (x7 : Int) (x8 : List Int) (x10 : Bool) (x12 : Bool) (x13 : Int) (x14 : Int) (x15 : Int) : law06_FreshOrder_S3_c0 x0 x1 x3 x4 x5 x15 = true → segG (runC E0 (cl E0) S4_3) [2, 4, 10, 15, 16] [6] [2, 4, 10, 15, 16] 4 ([(V.d (.int .u8 x13)), (V.ptr 0 1 0 0), (V.ptr 2 1 0 0), (V.d (.int .i64 x14)), (V.d (.int .i64 x15))], [(Blk.flat 33 9 [([(.int .i64 x0)] ++ arrD .i64 x1 8)] false), (Blk.flat 5 1 (List.map (encI .u8) x2) x10), (Blk.flat 67 10 [([(.int .i64 x3), (.int .i64 x4), (.bool x5)] ++ arrD .i64 x6 7)] false), (Blk.flat 33 9 [([(.int .i64 x7)] ++ arrD .i64 x8 8)] x12)]) = some (.ret, ([(V.d (.bool false))], [(Blk.flat 33 9 [([(.int .i64 (word_Next_i_r0_0 x0))] ++ arrD .i64 x1 8)] false), (Blk.flat 5 1 (List.map (encI .u8) x2) x10), (Blk.flat 67 10 [([(.int .i64 x3), (.int .i64 (fresh_Track_take_pabo_Fi2bi7_r0_4 x3 (law06_FreshOrder_S1_r0_9 x4 x15) true (frame_Encode_iai9_r0_0 2 (word_Next_i_r0_0 x0) x1) (frame_Encode_iai9_r0_2 2 (word_Next_i_r0_0 x0) x1))), (.bool (fresh_Track_take_pabo_Fi2bi7_r0_5 x3 (law06_FreshOrder_S1_r0_10 x5 x15) true (frame_Encode_iai9_r0_0 2 (word_Next_i_r0_0 x0) x1) (frame_Encode_iai9_r0_2 2 (word_Next_i_r0_0 x0) x1)))] ++ arrD .i64 (law06_FreshOrder_S3_e0 x0 x1 x3 x4 x5 x6 x15) 7)] false), (Blk.flat 33 9 [([(.int .i64 x7)] ++ arrD .i64 x8 8)] x12)])) := by
  unfold law06_FreshOrder_S3_c0
  cases h1 : tb (law06_FreshOrder_S1_c0 x4 x5 x15)
  · intro g0
    exact absurd g0 ft
  · cases h2 : tb (law06_FreshOrder_S2_c0 (word_Next_i_r0_0 x0) x1 x3 (law06_FreshOrder_S1_r0_9 x4 x15) (law06_FreshOrder_S1_r0_10 x5 x15))
    · intro g0
      exact absurd g0 ft
    · cases h3 : tb (law06_FreshOrder_S2_r0_3 (word_Next_i_r0_0 x0) x1 x3 (law06_FreshOrder_S1_r0_9 x4 x15) (law06_FreshOrder_S1_r0_10 x5 x15))
      · intro g0
        exact absurd g0 ft
      · intro g0
        exact seg_walk [.s (law06_FreshOrder_S1_t0 x0 x1 x2 x3 x4 x5 x6 x7 x8 false x10 x12 x13 x14 x15 (tbE h1)), .c (word_Next_i_t0 x0), .s (law06_FreshOrder_S2_t0 (word_Next_i_r0_0 x0) x1 x2 x3 (law06_FreshOrder_S1_r0_9 x4 x15) (law06_FreshOrder_S1_r0_10 x5 x15) (law06_FreshOrder_S1_r0_11 x4 x5 x6 x15) x7 x8 false x10 x12 x13 (law06_FreshOrder_S1_r0_1 x14 x15) x15 (tbE h2)), .b (tbE h3)] (by kernel_rfl)
theorem law06_FreshOrder_S3_t1 (x0 : Int) (x1 : List Int) (x2 : List Int) (x3 : Int) (x4 : Int) (x5 : Bool) (x6 : List Int) (x7 : Int) (x8 : List Int) (x10 : Bool) (x12 : Bool) (x13 : Int) (x14 : Int) (x15 : Int) : law06_FreshOrder_S3_c0 x0 x1 x3 x4 x5 x15 = false → law06_FreshOrder_S3_c1 x0 x1 x3 x4 x5 x15 = true → segG (runC E0 (cl E0) S4_3) [2, 4, 10, 15, 16] [6] [2, 4, 10, 15, 16] 4 ([(V.d (.int .u8 x13)), (V.ptr 0 1 0 0), (V.ptr 2 1 0 0), (V.d (.int .i64 x14)), (V.d (.int .i64 x15))], [(Blk.flat 33 9 [([(.int .i64 x0)] ++ arrD .i64 x1 8)] false), (Blk.flat 5 1 (List.map (encI .u8) x2) x10), (Blk.flat 67 10 [([(.int .i64 x3), (.int .i64 x4), (.bool x5)] ++ arrD .i64 x6 7)] false), (Blk.flat 33 9 [([(.int .i64 x7)] ++ arrD .i64 x8 8)] x12)]) = some (.normal, ([(V.d (.int .u8 x13)), (V.ptr 0 1 0 0), (V.ptr 2 1 0 0), (V.d (.int .i64 (wi ((law06_FreshOrder_S1_r0_1 x14 x15) + 1)))), (V.d (.int .i64 x15))], [(Blk.flat 33 9 [([(.int .i64 (word_Next_i_r0_0 x0))] ++ arrD .i64 x1 8)] false), (Blk.flat 5 1 (List.map (encI .u8) x2) x10), (Blk.flat 67 10 [([(.int .i64 x3), (.int .i64 (fresh_Track_take_pabo_Fi2bi7_r0_4 x3 (law06_FreshOrder_S1_r0_9 x4 x15) true (frame_Encode_iai9_r0_0 2 (word_Next_i_r0_0 x0) x1) (frame_Encode_iai9_r0_2 2 (word_Next_i_r0_0 x0) x1))), (.bool (fresh_Track_take_pabo_Fi2bi7_r0_5 x3 (law06_FreshOrder_S1_r0_10 x5 x15) true (frame_Encode_iai9_r0_0 2 (word_Next_i_r0_0 x0) x1) (frame_Encode_iai9_r0_2 2 (word_Next_i_r0_0 x0) x1)))] ++ arrD .i64 (law06_FreshOrder_S3_e0 x0 x1 x3 x4 x5 x6 x15) 7)] false), (Blk.flat 33 9 [([(.int .i64 x7)] ++ arrD .i64 x8 8)] x12)])) := by
  unfold law06_FreshOrder_S3_c0 law06_FreshOrder_S3_c1
  cases h1 : tb (law06_FreshOrder_S1_c0 x4 x5 x15)
  · intro g0 g1
    exact absurd g1 ft
  · cases h2 : tb (law06_FreshOrder_S2_c0 (word_Next_i_r0_0 x0) x1 x3 (law06_FreshOrder_S1_r0_9 x4 x15) (law06_FreshOrder_S1_r0_10 x5 x15))
    · intro g0 g1
      exact absurd g1 ft
    · cases h3 : tb (law06_FreshOrder_S2_r0_3 (word_Next_i_r0_0 x0) x1 x3 (law06_FreshOrder_S1_r0_9 x4 x15) (law06_FreshOrder_S1_r0_10 x5 x15))
      · intro g0 g1
        exact seg_walk [.s (law06_FreshOrder_S1_t0 x0 x1 x2 x3 x4 x5 x6 x7 x8 false x10 x12 x13 x14 x15 (tbE h1)), .c (word_Next_i_t0 x0), .s (law06_FreshOrder_S2_t0 (word_Next_i_r0_0 x0) x1 x2 x3 (law06_FreshOrder_S1_r0_9 x4 x15) (law06_FreshOrder_S1_r0_10 x5 x15) (law06_FreshOrder_S1_r0_11 x4 x5 x6 x15) x7 x8 false x10 x12 x13 (law06_FreshOrder_S1_r0_1 x14 x15) x15 (tbE h2)), .b (tbE h3)] (by kernel_rfl)
      · intro g0 g1
        exact absurd g0 tf
structure law06_FreshOrder_L4_s0 where
  c1 : Int
  c2 : Int
  c3 : Int
  c9 : Int
  c10 : Bool
  c11 : List Int
  deriving Inhabited
def law06_FreshOrder_L4_h0_e0 (x1 : List Int) (x3 : Int) (s0 : law06_FreshOrder_L4_s0) : List Int := (law06_FreshOrder_S3_e0 s0.c3 x1 x3 s0.c9 s0.c10 s0.c11 s0.c2)
def law06_FreshOrder_L4_enc (x0 : Int) (x1 : List Int) (x2 : List Int) (x3 : Int) (x4 : Int) (x5 : Bool) (x6 : List Int) (x7 : Int) (x8 : List Int) (x9 : Bool) (x10 : Bool) (x11 : Bool) (x12 : Bool) (x13 : Int) (x14 : Int) (x15 : Int) (s0 : law06_FreshOrder_L4_s0) : List V × Mem := ([(V.d (.int .u8 x13)), (V.ptr 0 1 0 0), (V.ptr 2 1 0 0), (V.d (.int .i64 s0.c1)), (V.d (.int .i64 s0.c2))], [(Blk.flat 33 9 [([(.int .i64 s0.c3)] ++ arrD .i64 x1 8)] false), (Blk.flat 5 1 (List.map (encI .u8) x2) x10), (Blk.flat 67 10 [([(.int .i64 x3), (.int .i64 s0.c9), (.bool s0.c10)] ++ arrD .i64 s0.c11 7)] false), (Blk.flat 33 9 [([(.int .i64 x7)] ++ arrD .i64 x8 8)] x12)])
def law06_FreshOrder_L4_sel (x1 : List Int) (x3 : Int) (x13 : Int) (s0 : law06_FreshOrder_L4_s0) : Bool := (bif tb (decide (s0.c2 < (wi (remI .u8 x13 40)))) then (bif tb (law06_FreshOrder_S3_c0 s0.c3 x1 x3 s0.c9 s0.c10 s0.c2) then false else (bif tb (law06_FreshOrder_S3_c1 s0.c3 x1 x3 s0.c9 s0.c10 s0.c2) then true else false)) else false)
def law06_FreshOrder_L4_nx (x1 : List Int) (x3 : Int) (x13 : Int) (s0 : law06_FreshOrder_L4_s0) : law06_FreshOrder_L4_s0 := ⟨(wi ((law06_FreshOrder_S1_r0_1 s0.c1 s0.c2) + 1)), (wi (s0.c2 + 1)), (word_Next_i_r0_0 s0.c3), (fresh_Track_take_pabo_Fi2bi7_r0_4 x3 (law06_FreshOrder_S1_r0_9 s0.c9 s0.c2) true (frame_Encode_iai9_r0_0 2 (word_Next_i_r0_0 s0.c3) x1) (frame_Encode_iai9_r0_2 2 (word_Next_i_r0_0 s0.c3) x1)), (fresh_Track_take_pabo_Fi2bi7_r0_5 x3 (law06_FreshOrder_S1_r0_10 s0.c10 s0.c2) true (frame_Encode_iai9_r0_0 2 (word_Next_i_r0_0 s0.c3) x1) (frame_Encode_iai9_r0_2 2 (word_Next_i_r0_0 s0.c3) x1)), (law06_FreshOrder_L4_h0_e0 x1 x3 s0)⟩
def law06_FreshOrder_L4_ok (x1 : List Int) (x3 : Int) (x13 : Int) (s0 : law06_FreshOrder_L4_s0) : Bool := (itS (law06_FreshOrder_L4_sel x1 x3 x13) (law06_FreshOrder_L4_nx x1 x3 x13) bound s0).isSome
def law06_FreshOrder_L4_end (x1 : List Int) (x3 : Int) (x13 : Int) (s0 : law06_FreshOrder_L4_s0) : law06_FreshOrder_L4_s0 := (itS (law06_FreshOrder_L4_sel x1 x3 x13) (law06_FreshOrder_L4_nx x1 x3 x13) bound s0).getD default
theorem law06_FreshOrder_L4_go (x0 : Int) (x1 : List Int) (x2 : List Int) (x3 : Int) (x4 : Int) (x5 : Bool) (x6 : List Int) (x7 : Int) (x8 : List Int) (x9 : Bool) (x10 : Bool) (x11 : Bool) (x12 : Bool) (x13 : Int) (x14 : Int) (x15 : Int) (s0 : law06_FreshOrder_L4_s0) : law06_FreshOrder_L4_sel x1 x3 x13 s0 = true → (roundG (runC E0 (cl E0) L4_4) [2, 4, 10, 15, 16] [4, 6, 10, 15] 4) (law06_FreshOrder_L4_enc x0 x1 x2 x3 x4 x5 x6 x7 x8 x9 x10 x11 x12 x13 x14 x15 s0) = some (.normal, law06_FreshOrder_L4_enc x0 x1 x2 x3 x4 x5 x6 x7 x8 x9 x10 x11 x12 x13 x14 x15 (law06_FreshOrder_L4_nx x1 x3 x13 s0)) := by
  unfold law06_FreshOrder_L4_sel law06_FreshOrder_L4_nx
  cases h1 : tb (decide (s0.c2 < (wi (remI .u8 x13 40))))
  · intro g0
    exact absurd g0 ft
  · cases h2 : tb (law06_FreshOrder_S3_c0 s0.c3 x1 x3 s0.c9 s0.c10 s0.c2)
    · cases h3 : tb (law06_FreshOrder_S3_c1 s0.c3 x1 x3 s0.c9 s0.c10 s0.c2)
      · intro g0
        exact absurd g0 ft
      · intro _
        exact round_walk [.b (tbE h1), .s (law06_FreshOrder_S3_t1 s0.c3 x1 x2 x3 s0.c9 s0.c10 s0.c11 x7 x8 x10 x12 x13 s0.c1 s0.c2 (tbE h2) (tbE h3))] (by kernel_rfl)
    · intro g0
      exact absurd g0 ft
def law06_FreshOrder_L4_c0 (x1 : List Int) (x3 : Int) (x13 : Int) (s0 : law06_FreshOrder_L4_s0) : Bool := (bif tb (decide (s0.c2 < (wi (remI .u8 x13 40)))) then (bif tb (law06_FreshOrder_S3_c0 s0.c3 x1 x3 s0.c9 s0.c10 s0.c2) then true else false) else false)
def law06_FreshOrder_L4_c1 (x13 : Int) (s0 : law06_FreshOrder_L4_s0) : Bool := (bif tb (decide (s0.c2 < (wi (remI .u8 x13 40)))) then false else true)
theorem law06_FreshOrder_L4_x0 (x0 : Int) (x1 : List Int) (x2 : List Int) (x3 : Int) (x4 : Int) (x5 : Bool) (x6 : List Int) (x7 : Int) (x8 : List Int) (x9 : Bool) (x10 : Bool) (x11 : Bool) (x12 : Bool) (x13 : Int) (x14 : Int) (x15 : Int) (s0 : law06_FreshOrder_L4_s0) : law06_FreshOrder_L4_sel x1 x3 x13 s0 = false → law06_FreshOrder_L4_c0 x1 x3 x13 s0 = true → (roundG (runC E0 (cl E0) L4_4) [2, 4, 10, 15, 16] [4, 6, 10, 15] 4) (law06_FreshOrder_L4_enc x0 x1 x2 x3 x4 x5 x6 x7 x8 x9 x10 x11 x12 x13 x14 x15 s0) = some (.ret, ([V.un, (V.d (.bool false)), V.un, V.un], [(Blk.flat 33 9 [([(.int .i64 (word_Next_i_r0_0 s0.c3))] ++ arrD .i64 x1 8)] false), (Blk.flat 5 1 (List.map (encI .u8) x2) x10), (Blk.flat 67 10 [([(.int .i64 x3), (.int .i64 (fresh_Track_take_pabo_Fi2bi7_r0_4 x3 (law06_FreshOrder_S1_r0_9 s0.c9 s0.c2) true (frame_Encode_iai9_r0_0 2 (word_Next_i_r0_0 s0.c3) x1) (frame_Encode_iai9_r0_2 2 (word_Next_i_r0_0 s0.c3) x1))), (.bool (fresh_Track_take_pabo_Fi2bi7_r0_5 x3 (law06_FreshOrder_S1_r0_10 s0.c10 s0.c2) true (frame_Encode_iai9_r0_0 2 (word_Next_i_r0_0 s0.c3) x1) (frame_Encode_iai9_r0_2 2 (word_Next_i_r0_0 s0.c3) x1)))] ++ arrD .i64 (law06_FreshOrder_L4_h0_e0 x1 x3 s0) 7)] false), (Blk.flat 33 9 [([(.int .i64 x7)] ++ arrD .i64 x8 8)] x12)])) := by
  unfold law06_FreshOrder_L4_sel law06_FreshOrder_L4_c0
  cases h1 : tb (decide (s0.c2 < (wi (remI .u8 x13 40))))
  · intro g0 g1
    exact absurd g1 ft
  · cases h2 : tb (law06_FreshOrder_S3_c0 s0.c3 x1 x3 s0.c9 s0.c10 s0.c2)
    · cases h3 : tb (law06_FreshOrder_S3_c1 s0.c3 x1 x3 s0.c9 s0.c10 s0.c2)
      · intro g0 g1
        exact absurd g1 ft
      · intro g0 g1
        exact absurd g0 tf
    · intro g0 g1
      exact round_walk [.b (tbE h1), .s (law06_FreshOrder_S3_t0 s0.c3 x1 x2 x3 s0.c9 s0.c10 s0.c11 x7 x8 x10 x12 x13 s0.c1 s0.c2 (tbE h2))] (by kernel_rfl)
theorem law06_FreshOrder_L4_x1 (x0 : Int) (x1 : List Int) (x2 : List Int) (x3 : Int) (x4 : Int) (x5 : Bool) (x6 : List Int) (x7 : Int) (x8 : List Int) (x9 : Bool) (x10 : Bool) (x11 : Bool) (x12 : Bool) (x13 : Int) (x14 : Int) (x15 : Int) (s0 : law06_FreshOrder_L4_s0) : law06_FreshOrder_L4_sel x1 x3 x13 s0 = false → law06_FreshOrder_L4_c0 x1 x3 x13 s0 = false → law06_FreshOrder_L4_c1 x13 s0 = true → (roundG (runC E0 (cl E0) L4_4) [2, 4, 10, 15, 16] [4, 6, 10, 15] 4) (law06_FreshOrder_L4_enc x0 x1 x2 x3 x4 x5 x6 x7 x8 x9 x10 x11 x12 x13 x14 x15 s0) = some ((.exit 2), ([(V.ptr 0 1 0 0), V.un, (V.ptr 2 1 0 0), (V.d (.int .i64 s0.c1))], [(Blk.flat 33 9 [([(.int .i64 s0.c3)] ++ arrD .i64 x1 8)] false), (Blk.flat 5 1 (List.map (encI .u8) x2) x10), (Blk.flat 67 10 [([(.int .i64 x3), (.int .i64 s0.c9), (.bool s0.c10)] ++ arrD .i64 s0.c11 7)] false), (Blk.flat 33 9 [([(.int .i64 x7)] ++ arrD .i64 x8 8)] x12)])) := by
  unfold law06_FreshOrder_L4_sel law06_FreshOrder_L4_c0 law06_FreshOrder_L4_c1
  cases h1 : tb (decide (s0.c2 < (wi (remI .u8 x13 40))))
  · intro g0 g1 g2
    exact round_walk [.b (tbE h1)] (by kernel_rfl)
  · cases h2 : tb (law06_FreshOrder_S3_c0 s0.c3 x1 x3 s0.c9 s0.c10 s0.c2)
    · cases h3 : tb (law06_FreshOrder_S3_c1 s0.c3 x1 x3 s0.c9 s0.c10 s0.c2)
      · intro g0 g1 g2
        exact absurd g2 ft
      · intro g0 g1 g2
        exact absurd g0 tf
    · intro g0 g1 g2
      exact absurd g1 tf
theorem law06_FreshOrder_L4_f0_0 (x0 : Int) (x1 : List Int) (x2 : List Int) (x3 : Int) (x4 : Int) (x5 : Bool) (x6 : List Int) (x7 : Int) (x8 : List Int) (x9 : Bool) (x10 : Bool) (x11 : Bool) (x12 : Bool) (x13 : Int) (x14 : Int) (x15 : Int) (s : law06_FreshOrder_L4_s0) (hok : law06_FreshOrder_L4_ok x1 x3 x13 s = true) (c0 : law06_FreshOrder_L4_c0 x1 x3 x13 (law06_FreshOrder_L4_end x1 x3 x13 s) = true) : loopG (roundG (runC E0 (cl E0) L4_4) [2, 4, 10, 15, 16] [4, 6, 10, 15] 4) bound (law06_FreshOrder_L4_enc x0 x1 x2 x3 x4 x5 x6 x7 x8 x9 x10 x11 x12 x13 x14 x15 s) = some (.ret, ([V.un, (V.d (.bool false)), V.un, V.un], [(Blk.flat 33 9 [([(.int .i64 (word_Next_i_r0_0 (law06_FreshOrder_L4_end x1 x3 x13 s).c3))] ++ arrD .i64 x1 8)] false), (Blk.flat 5 1 (List.map (encI .u8) x2) x10), (Blk.flat 67 10 [([(.int .i64 x3), (.int .i64 (fresh_Track_take_pabo_Fi2bi7_r0_4 x3 (law06_FreshOrder_S1_r0_9 (law06_FreshOrder_L4_end x1 x3 x13 s).c9 (law06_FreshOrder_L4_end x1 x3 x13 s).c2) true (frame_Encode_iai9_r0_0 2 (word_Next_i_r0_0 (law06_FreshOrder_L4_end x1 x3 x13 s).c3) x1) (frame_Encode_iai9_r0_2 2 (word_Next_i_r0_0 (law06_FreshOrder_L4_end x1 x3 x13 s).c3) x1))), (.bool (fresh_Track_take_pabo_Fi2bi7_r0_5 x3 (law06_FreshOrder_S1_r0_10 (law06_FreshOrder_L4_end x1 x3 x13 s).c10 (law06_FreshOrder_L4_end x1 x3 x13 s).c2) true (frame_Encode_iai9_r0_0 2 (word_Next_i_r0_0 (law06_FreshOrder_L4_end x1 x3 x13 s).c3) x1) (frame_Encode_iai9_r0_2 2 (word_Next_i_r0_0 (law06_FreshOrder_L4_end x1 x3 x13 s).c3) x1)))] ++ arrD .i64 (law06_FreshOrder_L4_h0_e0 x1 x3 (law06_FreshOrder_L4_end x1 x3 x13 s)) 7)] false), (Blk.flat 33 9 [([(.int .i64 x7)] ++ arrD .i64 x8 8)] x12)])) := by
  have e : itS (law06_FreshOrder_L4_sel x1 x3 x13) (law06_FreshOrder_L4_nx x1 x3 x13) bound s = some (law06_FreshOrder_L4_end x1 x3 x13 s) := itS_get hok
  have f := itS_false e
  exact loop_it (law06_FreshOrder_L4_go x0 x1 x2 x3 x4 x5 x6 x7 x8 x9 x10 x11 x12 x13 x14 x15) bound s _ _ _ e (fun h => by cases h) (law06_FreshOrder_L4_x0 x0 x1 x2 x3 x4 x5 x6 x7 x8 x9 x10 x11 x12 x13 x14 x15 (law06_FreshOrder_L4_end x1 x3 x13 s) f c0)
theorem law06_FreshOrder_L4_f0_1 (x0 : Int) (x1 : List Int) (x2 : List Int) (x3 : Int) (x4 : Int) (x5 : Bool) (x6 : List Int) (x7 : Int) (x8 : List Int) (x9 : Bool) (x10 : Bool) (x11 : Bool) (x12 : Bool) (x13 : Int) (x14 : Int) (x15 : Int) (s : law06_FreshOrder_L4_s0) (hok : law06_FreshOrder_L4_ok x1 x3 x13 s = true) (c0 : law06_FreshOrder_L4_c0 x1 x3 x13 (law06_FreshOrder_L4_end x1 x3 x13 s) = false) (c1 : law06_FreshOrder_L4_c1 x13 (law06_FreshOrder_L4_end x1 x3 x13 s) = true) : loopG (roundG (runC E0 (cl E0) L4_4) [2, 4, 10, 15, 16] [4, 6, 10, 15] 4) bound (law06_FreshOrder_L4_enc x0 x1 x2 x3 x4 x5 x6 x7 x8 x9 x10 x11 x12 x13 x14 x15 s) = some ((.exit 2), ([(V.ptr 0 1 0 0), V.un, (V.ptr 2 1 0 0), (V.d (.int .i64 ((law06_FreshOrder_L4_end x1 x3 x13 s).c1)))], [(Blk.flat 33 9 [([(.int .i64 ((law06_FreshOrder_L4_end x1 x3 x13 s).c3))] ++ arrD .i64 x1 8)] false), (Blk.flat 5 1 (List.map (encI .u8) x2) x10), (Blk.flat 67 10 [([(.int .i64 x3), (.int .i64 ((law06_FreshOrder_L4_end x1 x3 x13 s).c9)), (.bool ((law06_FreshOrder_L4_end x1 x3 x13 s).c10))] ++ arrD .i64 ((law06_FreshOrder_L4_end x1 x3 x13 s).c11) 7)] false), (Blk.flat 33 9 [([(.int .i64 x7)] ++ arrD .i64 x8 8)] x12)])) := by
  have e : itS (law06_FreshOrder_L4_sel x1 x3 x13) (law06_FreshOrder_L4_nx x1 x3 x13) bound s = some (law06_FreshOrder_L4_end x1 x3 x13 s) := itS_get hok
  have f := itS_false e
  exact loop_it (law06_FreshOrder_L4_go x0 x1 x2 x3 x4 x5 x6 x7 x8 x9 x10 x11 x12 x13 x14 x15) bound s _ _ _ e (fun h => by cases h) (law06_FreshOrder_L4_x1 x0 x1 x2 x3 x4 x5 x6 x7 x8 x9 x10 x11 x12 x13 x14 x15 (law06_FreshOrder_L4_end x1 x3 x13 s) f c0 c1)
structure law06_FreshOrder_L5_s0 where
  c1 : Int
  c2 : Int
  deriving Inhabited
def law06_FreshOrder_L5_enc (x0 : Int) (x1 : List Int) (x2 : List Int) (x3 : Int) (x4 : Int) (x5 : Bool) (x6 : List Int) (x7 : Int) (x8 : List Int) (x9 : List Int) (x10 : Bool) (x11 : Bool) (x12 : Bool) (x13 : Bool) (x14 : Bool) (x15 : Int) (x16 : Int) (x17 : Int) (s0 : law06_FreshOrder_L5_s0) : List V × Mem := ([(V.ptr 0 1 0 0), (V.ptr 2 1 0 0), (V.d (.int .i64 x15)), (V.d (.int .i64 s0.c1)), (V.ptr 4 1 0 0), (V.d (.int .i64 s0.c2))], [(Blk.flat 33 9 [([(.int .i64 x0)] ++ arrD .i64 x1 8)] x10), (Blk.flat 5 1 (List.map (encI .u8) x2) x11), (Blk.flat 67 10 [([(.int .i64 x3), (.int .i64 x4), (.bool x5)] ++ arrD .i64 x6 7)] x12), (Blk.flat 33 9 [([(.int .i64 x7)] ++ arrD .i64 x8 8)] x13), (Blk.flat 42 7 [(arrD .i64 x9 7)] x14)])
def law06_FreshOrder_L5_sel (x9 : List Int) (s0 : law06_FreshOrder_L5_s0) : Bool := (bif tb (decide (s0.c2 < 7)) then (bif tb (inb 7 s0.c2) then true else false) else false)
def law06_FreshOrder_L5_nx (x9 : List Int) (s0 : law06_FreshOrder_L5_s0) : law06_FreshOrder_L5_s0 := ⟨(wi (s0.c1 + (gt x9 s0.c2))), (wi (s0.c2 + 1))⟩
def law06_FreshOrder_L5_ok (x9 : List Int) (s0 : law06_FreshOrder_L5_s0) : Bool := (itS (law06_FreshOrder_L5_sel x9) (law06_FreshOrder_L5_nx x9) bound s0).isSome
def law06_FreshOrder_L5_end (x9 : List Int) (s0 : law06_FreshOrder_L5_s0) : law06_FreshOrder_L5_s0 := (itS (law06_FreshOrder_L5_sel x9) (law06_FreshOrder_L5_nx x9) bound s0).getD default
theorem law06_FreshOrder_L5_go (x0 : Int) (x1 : List Int) (x2 : List Int) (x3 : Int) (x4 : Int) (x5 : Bool) (x6 : List Int) (x7 : Int) (x8 : List Int) (x9 : List Int) (x10 : Bool) (x11 : Bool) (x12 : Bool) (x13 : Bool) (x14 : Bool) (x15 : Int) (x16 : Int) (x17 : Int) (s0 : law06_FreshOrder_L5_s0) : law06_FreshOrder_L5_sel x9 s0 = true → (roundG (runC E0 (cl E0) L4_5) [4, 10, 15, 21, 22, 23] [4, 10, 15, 21] 5) (law06_FreshOrder_L5_enc x0 x1 x2 x3 x4 x5 x6 x7 x8 x9 x10 x11 x12 x13 x14 x15 x16 x17 s0) = some (.normal, law06_FreshOrder_L5_enc x0 x1 x2 x3 x4 x5 x6 x7 x8 x9 x10 x11 x12 x13 x14 x15 x16 x17 (law06_FreshOrder_L5_nx x9 s0)) := by
  unfold law06_FreshOrder_L5_sel law06_FreshOrder_L5_nx
  cases h1 : tb (decide (s0.c2 < 7))
  · intro g0
    exact absurd g0 ft
  · cases h2 : tb (inb 7 s0.c2)
    · intro g0
      exact absurd g0 ft
    · intro _
      exact round_walk [.b (tbE h1), .o 130 (fun _ => o_idxAA (id := 4) (nn := 1) (row := 0) (off := 0) (n := 7) (s := 1) (k := .i64) (i := s0.c2) (tbE h2)), .m 131 (o_load_arr (m := [(Blk.flat 33 9 [([(.int .i64 x0)] ++ arrD .i64 x1 8)] x10), (Blk.flat 5 1 (List.map (encI .u8) x2) x11), (Blk.flat 67 10 [([(.int .i64 x3), (.int .i64 x4), (.bool x5)] ++ arrD .i64 x6 7)] x12), (Blk.flat 33 9 [([(.int .i64 x7)] ++ arrD .i64 x8 8)] x13), (Blk.flat 42 7 [(arrD .i64 x9 7)] x14)]) (id := 4) (nn := 1) (row := 0) (off := 0) (n := 7) (k := .i64) (T := x9) (i := s0.c2) (by kernel_rfl) (tbE h2))] (by kernel_rfl)
def law06_FreshOrder_L5_c0 (s0 : law06_FreshOrder_L5_s0) : Bool := (bif tb (decide (s0.c2 < 7)) then false else true)
theorem law06_FreshOrder_L5_x0 (x0 : Int) (x1 : List Int) (x2 : List Int) (x3 : Int) (x4 : Int) (x5 : Bool) (x6 : List Int) (x7 : Int) (x8 : List Int) (x9 : List Int) (x10 : Bool) (x11 : Bool) (x12 : Bool) (x13 : Bool) (x14 : Bool) (x15 : Int) (x16 : Int) (x17 : Int) (s0 : law06_FreshOrder_L5_s0) : law06_FreshOrder_L5_sel x9 s0 = false → law06_FreshOrder_L5_c0 s0 = true → (roundG (runC E0 (cl E0) L4_5) [4, 10, 15, 21, 22, 23] [4, 10, 15, 21] 5) (law06_FreshOrder_L5_enc x0 x1 x2 x3 x4 x5 x6 x7 x8 x9 x10 x11 x12 x13 x14 x15 x16 x17 s0) = some ((.exit 4), ([(V.ptr 0 1 0 0), (V.ptr 2 1 0 0), (V.d (.int .i64 x15)), (V.d (.int .i64 s0.c1))], [(Blk.flat 33 9 [([(.int .i64 x0)] ++ arrD .i64 x1 8)] x10), (Blk.flat 5 1 (List.map (encI .u8) x2) x11), (Blk.flat 67 10 [([(.int .i64 x3), (.int .i64 x4), (.bool x5)] ++ arrD .i64 x6 7)] x12), (Blk.flat 33 9 [([(.int .i64 x7)] ++ arrD .i64 x8 8)] x13), (Blk.flat 42 7 [(arrD .i64 x9 7)] x14)])) := by
  unfold law06_FreshOrder_L5_sel law06_FreshOrder_L5_c0
  cases h1 : tb (decide (s0.c2 < 7))
  · intro g0 g1
    exact round_walk [.b (tbE h1)] (by kernel_rfl)
  · cases h2 : tb (inb 7 s0.c2)
    · intro g0 g1
      exact absurd g1 ft
    · intro g0 g1
      exact absurd g0 tf
theorem law06_FreshOrder_L5_f0_0 (x0 : Int) (x1 : List Int) (x2 : List Int) (x3 : Int) (x4 : Int) (x5 : Bool) (x6 : List Int) (x7 : Int) (x8 : List Int) (x9 : List Int) (x10 : Bool) (x11 : Bool) (x12 : Bool) (x13 : Bool) (x14 : Bool) (x15 : Int) (x16 : Int) (x17 : Int) (s : law06_FreshOrder_L5_s0) (hok : law06_FreshOrder_L5_ok x9 s = true) (c0 : law06_FreshOrder_L5_c0 (law06_FreshOrder_L5_end x9 s) = true) : loopG (roundG (runC E0 (cl E0) L4_5) [4, 10, 15, 21, 22, 23] [4, 10, 15, 21] 5) bound (law06_FreshOrder_L5_enc x0 x1 x2 x3 x4 x5 x6 x7 x8 x9 x10 x11 x12 x13 x14 x15 x16 x17 s) = some ((.exit 4), ([(V.ptr 0 1 0 0), (V.ptr 2 1 0 0), (V.d (.int .i64 x15)), (V.d (.int .i64 ((law06_FreshOrder_L5_end x9 s).c1)))], [(Blk.flat 33 9 [([(.int .i64 x0)] ++ arrD .i64 x1 8)] x10), (Blk.flat 5 1 (List.map (encI .u8) x2) x11), (Blk.flat 67 10 [([(.int .i64 x3), (.int .i64 x4), (.bool x5)] ++ arrD .i64 x6 7)] x12), (Blk.flat 33 9 [([(.int .i64 x7)] ++ arrD .i64 x8 8)] x13), (Blk.flat 42 7 [(arrD .i64 x9 7)] x14)])) := by
  have e : itS (law06_FreshOrder_L5_sel x9) (law06_FreshOrder_L5_nx x9) bound s = some (law06_FreshOrder_L5_end x9 s) := itS_get hok
  have f := itS_false e
  exact loop_it (law06_FreshOrder_L5_go x0 x1 x2 x3 x4 x5 x6 x7 x8 x9 x10 x11 x12 x13 x14 x15 x16 x17) bound s _ _ _ e (fun h => by cases h) (law06_FreshOrder_L5_x0 x0 x1 x2 x3 x4 x5 x6 x7 x8 x9 x10 x11 x12 x13 x14 x15 x16 x17 (law06_FreshOrder_L5_end x9 s) f c0)
def law06_FreshOrder_S6_e0 (x4 : List R_bool_Su811) : law06_FreshOrder_L0_s0 := law06_FreshOrder_L0_end 2 x4 (⟨0, 0, false, [0, 0, 0, 0, 0, 0, 0]⟩ : law06_FreshOrder_L0_s0)
def law06_FreshOrder_S6_e1 (x0 : Int) (x1 : List Int) (x4 : List R_bool_Su811) : List Int := (fresh_Track_take_pabo_Fi2bi7_r0_1 2 ((law06_FreshOrder_S6_e0 x4).c11) ((law06_FreshOrder_S6_e0 x4).c12) true (frame_Encode_iai9_r0_0 2 x0 x1) (frame_Encode_iai9_r0_2 2 x0 x1))
def law06_FreshOrder_S6_e2 (x0 : Int) (x1 : List Int) (x4 : List R_bool_Su811) : List Int := (fresh_Track_Take_pabo_Fi2bi7_e1 2 ((law06_FreshOrder_S6_e0 x4).c11) ((law06_FreshOrder_S6_e0 x4).c12) ((law06_FreshOrder_S6_e0 x4).c13) true (frame_Encode_iai9_r0_0 2 x0 x1) (frame_Encode_iai9_r0_2 2 x0 x1))
def law06_FreshOrder_S6_e3 (x0 : Int) (x1 : List Int) (x4 : List R_bool_Su811) : Int := (fresh_Track_take_pabo_Fi2bi7_r0_4 2 ((law06_FreshOrder_S6_e0 x4).c11) true (frame_Encode_iai9_r0_0 2 x0 x1) (frame_Encode_iai9_r0_2 2 x0 x1))
def law06_FreshOrder_S6_e4 (x0 : Int) (x1 : List Int) (x4 : List R_bool_Su811) : Bool := (fresh_Track_take_pabo_Fi2bi7_r0_5 2 ((law06_FreshOrder_S6_e0 x4).c12) true (frame_Encode_iai9_r0_0 2 x0 x1) (frame_Encode_iai9_r0_2 2 x0 x1))
def law06_FreshOrder_S6_e5 (x0 : Int) (x1 : List Int) (x4 : List R_bool_Su811) : Int := (fresh_Track_take_pabo_Fi2bi7_r0_0 2 ((law06_FreshOrder_S6_e0 x4).c11) ((law06_FreshOrder_S6_e0 x4).c12) true (frame_Encode_iai9_r0_0 2 x0 x1) (frame_Encode_iai9_r0_2 2 x0 x1))
def law06_FreshOrder_S6_e6 (x0 : Int) (x1 : List Int) (x4 : List R_bool_Su811) (x5 : Int) : law06_FreshOrder_L4_s0 := law06_FreshOrder_L4_end x1 2 x5 (⟨(wi (((x4.length : Nat) : Int) + 1)), 0, x0, (law06_FreshOrder_S6_e3 x0 x1 x4), (law06_FreshOrder_S6_e4 x0 x1 x4), (law06_FreshOrder_S6_e2 x0 x1 x4)⟩ : law06_FreshOrder_L4_s0)
def law06_FreshOrder_S6_e8 (x0 : Int) (x1 : List Int) (x4 : List R_bool_Su811) (x5 : Int) : law06_FreshOrder_L5_s0 := law06_FreshOrder_L5_end ((law06_FreshOrder_S6_e6 x0 x1 x4 x5).c11) (⟨0, 0⟩ : law06_FreshOrder_L5_s0)
def law06_FreshOrder_S6_c0 (x0 : Int) (x1 : List Int) (x4 : List R_bool_Su811) (x5 : Int) (x6 : Bool) : Bool := (bif tb (frame_Encode_iai9_c0 2 x0 x1) then (bif tb (x6) then (bif tb (((frame_Encode_iai9_r0_1 2 x0 x1) : Int) != 0) then true else (bif tb (fresh_New_i_c0 2) then true else (bif tb (law06_FreshOrder_L0_ok 2 x4 (⟨0, 0, false, [0, 0, 0, 0, 0, 0, 0]⟩ : law06_FreshOrder_L0_s0)) then (bif tb (law06_FreshOrder_L0_c0 x4 (law06_FreshOrder_S6_e0 x4)) then (bif tb (fresh_Track_Take_pabo_Fi2bi7_c0 2 ((law06_FreshOrder_S6_e0 x4).c11) ((law06_FreshOrder_S6_e0 x4).c12) true (frame_Encode_iai9_r0_0 2 x0 x1) (frame_Encode_iai9_r0_2 2 x0 x1)) then (bif tb (((fresh_Track_take_pabo_Fi2bi7_r0_2 2 ((law06_FreshOrder_S6_e0 x4).c11) ((law06_FreshOrder_S6_e0 x4).c12) true (frame_Encode_iai9_r0_0 2 x0 x1) (frame_Encode_iai9_r0_2 2 x0 x1)) : Int) != 0) then (bif tb (((fresh_Track_take_pabo_Fi2bi7_r0_2 2 ((law06_FreshOrder_S6_e0 x4).c11) ((law06_FreshOrder_S6_e0 x4).c12) true (frame_Encode_iai9_r0_0 2 x0 x1) (frame_Encode_iai9_r0_2 2 x0 x1)) : Int) != 6) then true else (bif tb (law06_FreshOrder_L4_ok x1 2 x5 (⟨(wi (((x4.length : Nat) : Int) + 1)), 0, x0, (law06_FreshOrder_S6_e3 x0 x1 x4), (law06_FreshOrder_S6_e4 x0 x1 x4), (law06_FreshOrder_S6_e2 x0 x1 x4)⟩ : law06_FreshOrder_L4_s0)) then (bif tb (law06_FreshOrder_L4_c0 x1 2 x5 (law06_FreshOrder_S6_e6 x0 x1 x4 x5)) then true else false) else false)) else (bif tb (law06_FreshOrder_L4_ok x1 2 x5 (⟨(wi (((x4.length : Nat) : Int) + 1)), 0, x0, (law06_FreshOrder_S6_e3 x0 x1 x4), (law06_FreshOrder_S6_e4 x0 x1 x4), (law06_FreshOrder_S6_e2 x0 x1 x4)⟩ : law06_FreshOrder_L4_s0)) then (bif tb (law06_FreshOrder_L4_c0 x1 2 x5 (law06_FreshOrder_S6_e6 x0 x1 x4 x5)) then true else false) else false)) else false) else false) else false))) else true) else false)
def law06_FreshOrder_S6_r0_0 (x0 : Int) (x1 : List Int) (x6 : Bool) : Bool := (bif tb (x6) then (bif tb (((frame_Encode_iai9_r0_1 2 x0 x1) : Int) != 0) then true else false) else true)
def law06_FreshOrder_S6_r0_1 (x0 : Int) (x1 : List Int) (x4 : List R_bool_Su811) (x5 : Int) (x6 : Bool) : Int := (bif tb (x6) then (bif tb (((frame_Encode_iai9_r0_1 2 x0 x1) : Int) != 0) then x0 else (bif tb (fresh_New_i_c0 2) then x0 else (bif tb (((fresh_Track_take_pabo_Fi2bi7_r0_2 2 ((law06_FreshOrder_S6_e0 x4).c11) ((law06_FreshOrder_S6_e0 x4).c12) true (frame_Encode_iai9_r0_0 2 x0 x1) (frame_Encode_iai9_r0_2 2 x0 x1)) : Int) != 0) then (bif tb (((fresh_Track_take_pabo_Fi2bi7_r0_2 2 ((law06_FreshOrder_S6_e0 x4).c11) ((law06_FreshOrder_S6_e0 x4).c12) true (frame_Encode_iai9_r0_0 2 x0 x1) (frame_Encode_iai9_r0_2 2 x0 x1)) : Int) != 6) then x0 else (word_Next_i_r0_0 (law06_FreshOrder_S6_e6 x0 x1 x4 x5).c3)) else (word_Next_i_r0_0 (law06_FreshOrder_S6_e6 x0 x1 x4 x5).c3)))) else x0)
def law06_FreshOrder_S6_c1 (x0 : Int) (x1 : List Int) (x4 : List R_bool_Su811) (x5 : Int) (x6 : Bool) : Bool := (bif tb (frame_Encode_iai9_c0 2 x0 x1) then (bif tb (x6) then (bif tb (((frame_Encode_iai9_r0_1 2 x0 x1) : Int) != 0) then false else (bif tb (fresh_New_i_c0 2) then false else (bif tb (law06_FreshOrder_L0_ok 2 x4 (⟨0, 0, false, [0, 0, 0, 0, 0, 0, 0]⟩ : law06_FreshOrder_L0_s0)) then (bif tb (law06_FreshOrder_L0_c0 x4 (law06_FreshOrder_S6_e0 x4)) then (bif tb (fresh_Track_Take_pabo_Fi2bi7_c0 2 ((law06_FreshOrder_S6_e0 x4).c11) ((law06_FreshOrder_S6_e0 x4).c12) true (frame_Encode_iai9_r0_0 2 x0 x1) (frame_Encode_iai9_r0_2 2 x0 x1)) then (bif tb (((fresh_Track_take_pabo_Fi2bi7_r0_2 2 ((law06_FreshOrder_S6_e0 x4).c11) ((law06_FreshOrder_S6_e0 x4).c12) true (frame_Encode_iai9_r0_0 2 x0 x1) (frame_Encode_iai9_r0_2 2 x0 x1)) : Int) != 0) then (bif tb (((fresh_Track_take_pabo_Fi2bi7_r0_2 2 ((law06_FreshOrder_S6_e0 x4).c11) ((law06_FreshOrder_S6_e0 x4).c12) true (frame_Encode_iai9_r0_0 2 x0 x1) (frame_Encode_iai9_r0_2 2 x0 x1)) : Int) != 6) then false else (bif tb (law06_FreshOrder_L4_ok x1 2 x5 (⟨(wi (((x4.length : Nat) : Int) + 1)), 0, x0, (law06_FreshOrder_S6_e3 x0 x1 x4), (law06_FreshOrder_S6_e4 x0 x1 x4), (law06_FreshOrder_S6_e2 x0 x1 x4)⟩ : law06_FreshOrder_L4_s0)) then (bif tb (law06_FreshOrder_L4_c0 x1 2 x5 (law06_FreshOrder_S6_e6 x0 x1 x4 x5)) then false else (bif tb (law06_FreshOrder_L4_c1 x5 (law06_FreshOrder_S6_e6 x0 x1 x4 x5)) then (bif tb (law06_FreshOrder_L5_ok ((law06_FreshOrder_S6_e6 x0 x1 x4 x5).c11) (⟨0, 0⟩ : law06_FreshOrder_L5_s0)) then (bif tb (law06_FreshOrder_L5_c0 (law06_FreshOrder_S6_e8 x0 x1 x4 x5)) then true else false) else false) else false)) else false)) else (bif tb (law06_FreshOrder_L4_ok x1 2 x5 (⟨(wi (((x4.length : Nat) : Int) + 1)), 0, x0, (law06_FreshOrder_S6_e3 x0 x1 x4), (law06_FreshOrder_S6_e4 x0 x1 x4), (law06_FreshOrder_S6_e2 x0 x1 x4)⟩ : law06_FreshOrder_L4_s0)) then (bif tb (law06_FreshOrder_L4_c0 x1 2 x5 (law06_FreshOrder_S6_e6 x0 x1 x4 x5)) then false else (bif tb (law06_FreshOrder_L4_c1 x5 (law06_FreshOrder_S6_e6 x0 x1 x4 x5)) then (bif tb (law06_FreshOrder_L5_ok ((law06_FreshOrder_S6_e6 x0 x1 x4 x5).c11) (⟨0, 0⟩ : law06_FreshOrder_L5_s0)) then (bif tb (law06_FreshOrder_L5_c0 (law06_FreshOrder_S6_e8 x0 x1 x4 x5)) then true else false) else false) else false)) else false)) else false) else false) else false))) else false) else false)
theorem law06_FreshOrder_S6_t0 (x0 : Int) (x1 : List Int) (x3 : Bool) (x4 : List R_bool_Su811) (x5 : Int) (x6 : Bool) : law06_FreshOrder_S6_c0 x0 x1 x4 x5 x6 = true → segG (runC E0 (cl E0) S4_6) [0, 2, 4, 7] [6] [4, 15, 21, 24, 25] 1 ([(V.d (slD enc_R_bool_Su811 false 2 x3 x4)), (V.d (.int .u8 x5)), (V.ptr 0 1 0 0), (V.d (.bool x6))], [(Blk.flat 33 9 [([(.int .i64 x0)] ++ arrD .i64 x1 8)] false)]) = some (.ret, ([(V.d (.bool (law06_FreshOrder_S6_r0_0 x0 x1 x6)))], [(Blk.flat 33 9 [([(.int .i64 (law06_FreshOrder_S6_r0_1 x0 x1 x4 x5 x6))] ++ arrD .i64 x1 8)] false)])) := by
  unfold law06_FreshOrder_S6_c0 law06_FreshOrder_S6_r0_0 law06_FreshOrder_S6_r0_1
  cases h1 : tb (frame_Encode_iai9_c0 2 x0 x1)
  · intro g0
    exact absurd g0 ft
  · cases h2 : tb (x6)
    · intro g0
      exact seg_walk [.c (frame_Encode_iai9_t0 2 x0 x1 (tbE h1)), .b (notF (tbE h2)), .c (law06_alive_t0)] (by kernel_rfl)
    · cases h3 : tb (((frame_Encode_iai9_r0_1 2 x0 x1) : Int) != 0)
      · cases h4 : tb (fresh_New_i_c0 2)
        · cases h5 : tb (law06_FreshOrder_L0_ok 2 x4 (⟨0, 0, false, [0, 0, 0, 0, 0, 0, 0]⟩ : law06_FreshOrder_L0_s0))
          · intro g0
            exact absurd g0 ft
          · cases h6 : tb (law06_FreshOrder_L0_c0 x4 (law06_FreshOrder_S6_e0 x4))
            · intro g0
              exact absurd g0 ft
            · cases h7 : tb (fresh_Track_Take_pabo_Fi2bi7_c0 2 ((law06_FreshOrder_S6_e0 x4).c11) ((law06_FreshOrder_S6_e0 x4).c12) true (frame_Encode_iai9_r0_0 2 x0 x1) (frame_Encode_iai9_r0_2 2 x0 x1))
              · intro g0
                exact absurd g0 ft
              · cases h8 : tb (((fresh_Track_take_pabo_Fi2bi7_r0_2 2 ((law06_FreshOrder_S6_e0 x4).c11) ((law06_FreshOrder_S6_e0 x4).c12) true (frame_Encode_iai9_r0_0 2 x0 x1) (frame_Encode_iai9_r0_2 2 x0 x1)) : Int) != 0)
                · cases h9 : tb (law06_FreshOrder_L4_ok x1 2 x5 (⟨(wi (((x4.length : Nat) : Int) + 1)), 0, x0, (law06_FreshOrder_S6_e3 x0 x1 x4), (law06_FreshOrder_S6_e4 x0 x1 x4), (law06_FreshOrder_S6_e2 x0 x1 x4)⟩ : law06_FreshOrder_L4_s0))
                  · intro g0
                    exact absurd g0 ft
                  · cases h10 : tb (law06_FreshOrder_L4_c0 x1 2 x5 (law06_FreshOrder_S6_e6 x0 x1 x4 x5))
                    · cases h11 : tb (law06_FreshOrder_L4_c1 x5 (law06_FreshOrder_S6_e6 x0 x1 x4 x5))
                      · intro g0
                        exact absurd g0 ft
                      · cases h12 : tb (law06_FreshOrder_L5_ok ((law06_FreshOrder_S6_e6 x0 x1 x4 x5).c11) (⟨0, 0⟩ : law06_FreshOrder_L5_s0))
                        · intro g0
                          exact absurd g0 ft
                        · cases h13 : tb (law06_FreshOrder_L5_c0 (law06_FreshOrder_S6_e8 x0 x1 x4 x5))
                          · intro g0
                            exact absurd g0 ft
                          · intro g0
                            exact absurd g0 ft
                    · intro g0
                      exact seg_walk [.c (frame_Encode_iai9_t0 2 x0 x1 (tbE h1)), .b (notT (tbE h2)), .b (tbE h3), .c (fresh_New_i_t1 2 (tbE h4)), .k false, .k false, .l (law06_FreshOrder_L0_f0_0 x0 x1 (frame_Encode_iai9_r0_2 2 x0 x1) 2 0 false [0, 0, 0, 0, 0, 0, 0] false false false x3 x4 x5 (frame_Encode_iai9_r0_0 2 x0 x1) 0 (⟨0, 0, false, [0, 0, 0, 0, 0, 0, 0]⟩ : law06_FreshOrder_L0_s0) (tbE h5) (tbE h6)), .y (mm := [(Blk.flat 33 9 [([(.int .i64 x0)] ++ arrD .i64 x1 8)] false), (Blk.flat 5 1 (List.map (encI .u8) (frame_Encode_iai9_r0_2 2 x0 x1)) false), (Blk.flat 67 10 [([(.int .i64 2), (.int .i64 ((law06_FreshOrder_S6_e0 x4).c11)), (.bool ((law06_FreshOrder_S6_e0 x4).c12))] ++ arrD .i64 ((law06_FreshOrder_S6_e0 x4).c13) 7)] false)]) (args := [(V.ptr 2 1 0 0), (V.agg [(V.d (.bool true)), (V.so (frame_Encode_iai9_r0_0 2 x0 x1) 1 ((frame_Encode_iai9_r0_2 2 x0 x1).length))])]) (args1 := [(V.ptr 2 1 0 0), (V.agg [(V.d (.bool true)), (V.d (slD (encI .u8) true 1 (frame_Encode_iai9_r0_0 2 x0 x1) (frame_Encode_iai9_r0_2 2 x0 x1)))])]) (byvals_cons (by kernel_rfl) (byvals_cons (byval_agg (byvals_cons (by kernel_rfl) (byvals_cons (byval_so (enc := (encI .u8)) (l := (frame_Encode_iai9_r0_2 2 x0 x1)) (b := (frame_Encode_iai9_r0_0 2 x0 x1)) (e := 5) (s := 1) (p := false) (n := ((frame_Encode_iai9_r0_2 2 x0 x1).length)) (Nat.beq_refl _) (by kernel_rfl)) (by kernel_rfl)))) (by kernel_rfl))), .c (fresh_Track_Take_pabo_Fi2bi7_t0 2 ((law06_FreshOrder_S6_e0 x4).c11) ((law06_FreshOrder_S6_e0 x4).c12) ((law06_FreshOrder_S6_e0 x4).c13) true (frame_Encode_iai9_r0_0 2 x0 x1) (frame_Encode_iai9_r0_2 2 x0 x1) (tbE h7)), .b (tbE h8), .o 76 (fun _ => o_len_os (enc := enc_R_bool_Su811) (l := x4) (fl := false) (n := x3) (s := 2)), .l (law06_FreshOrder_L4_f0_0 x0 x1 (frame_Encode_iai9_r0_2 2 x0 x1) 2 (law06_FreshOrder_S6_e3 x0 x1 x4) (law06_FreshOrder_S6_e4 x0 x1 x4) (law06_FreshOrder_S6_e2 x0 x1 x4) (law06_FreshOrder_S6_e5 x0 x1 x4) (law06_FreshOrder_S6_e1 x0 x1 x4) false false false false x5 (wi (((x4.length : Nat) : Int) + 1)) 0 (⟨(wi (((x4.length : Nat) : Int) + 1)), 0, x0, (law06_FreshOrder_S6_e3 x0 x1 x4), (law06_FreshOrder_S6_e4 x0 x1 x4), (law06_FreshOrder_S6_e2 x0 x1 x4)⟩ : law06_FreshOrder_L4_s0) (tbE h9) (tbE h10))] (by kernel_rfl)
                · cases h9 : tb (((fresh_Track_take_pabo_Fi2bi7_r0_2 2 ((law06_FreshOrder_S6_e0 x4).c11) ((law06_FreshOrder_S6_e0 x4).c12) true (frame_Encode_iai9_r0_0 2 x0 x1) (frame_Encode_iai9_r0_2 2 x0 x1)) : Int) != 6)
                  · cases h10 : tb (law06_FreshOrder_L4_ok x1 2 x5 (⟨(wi (((x4.length : Nat) : Int) + 1)), 0, x0, (law06_FreshOrder_S6_e3 x0 x1 x4), (law06_FreshOrder_S6_e4 x0 x1 x4), (law06_FreshOrder_S6_e2 x0 x1 x4)⟩ : law06_FreshOrder_L4_s0))
                    · intro g0
                      exact absurd g0 ft
                    · cases h11 : tb (law06_FreshOrder_L4_c0 x1 2 x5 (law06_FreshOrder_S6_e6 x0 x1 x4 x5))
                      · cases h12 : tb (law06_FreshOrder_L4_c1 x5 (law06_FreshOrder_S6_e6 x0 x1 x4 x5))
                        · intro g0
                          exact absurd g0 ft
                        · cases h13 : tb (law06_FreshOrder_L5_ok ((law06_FreshOrder_S6_e6 x0 x1 x4 x5).c11) (⟨0, 0⟩ : law06_FreshOrder_L5_s0))
                          · intro g0
                            exact absurd g0 ft
                          · cases h14 : tb (law06_FreshOrder_L5_c0 (law06_FreshOrder_S6_e8 x0 x1 x4 x5))
                            · intro g0
                              exact absurd g0 ft
                            · intro g0
                              exact absurd g0 ft
                      · intro g0
                        exact seg_walk [.c (frame_Encode_iai9_t0 2 x0 x1 (tbE h1)), .b (notT (tbE h2)), .b (tbE h3), .c (fresh_New_i_t1 2 (tbE h4)), .k false, .k false, .l (law06_FreshOrder_L0_f0_0 x0 x1 (frame_Encode_iai9_r0_2 2 x0 x1) 2 0 false [0, 0, 0, 0, 0, 0, 0] false false false x3 x4 x5 (frame_Encode_iai9_r0_0 2 x0 x1) 0 (⟨0, 0, false, [0, 0, 0, 0, 0, 0, 0]⟩ : law06_FreshOrder_L0_s0) (tbE h5) (tbE h6)), .y (mm := [(Blk.flat 33 9 [([(.int .i64 x0)] ++ arrD .i64 x1 8)] false), (Blk.flat 5 1 (List.map (encI .u8) (frame_Encode_iai9_r0_2 2 x0 x1)) false), (Blk.flat 67 10 [([(.int .i64 2), (.int .i64 ((law06_FreshOrder_S6_e0 x4).c11)), (.bool ((law06_FreshOrder_S6_e0 x4).c12))] ++ arrD .i64 ((law06_FreshOrder_S6_e0 x4).c13) 7)] false)]) (args := [(V.ptr 2 1 0 0), (V.agg [(V.d (.bool true)), (V.so (frame_Encode_iai9_r0_0 2 x0 x1) 1 ((frame_Encode_iai9_r0_2 2 x0 x1).length))])]) (args1 := [(V.ptr 2 1 0 0), (V.agg [(V.d (.bool true)), (V.d (slD (encI .u8) true 1 (frame_Encode_iai9_r0_0 2 x0 x1) (frame_Encode_iai9_r0_2 2 x0 x1)))])]) (byvals_cons (by kernel_rfl) (byvals_cons (byval_agg (byvals_cons (by kernel_rfl) (byvals_cons (byval_so (enc := (encI .u8)) (l := (frame_Encode_iai9_r0_2 2 x0 x1)) (b := (frame_Encode_iai9_r0_0 2 x0 x1)) (e := 5) (s := 1) (p := false) (n := ((frame_Encode_iai9_r0_2 2 x0 x1).length)) (Nat.beq_refl _) (by kernel_rfl)) (by kernel_rfl)))) (by kernel_rfl))), .c (fresh_Track_Take_pabo_Fi2bi7_t0 2 ((law06_FreshOrder_S6_e0 x4).c11) ((law06_FreshOrder_S6_e0 x4).c12) ((law06_FreshOrder_S6_e0 x4).c13) true (frame_Encode_iai9_r0_0 2 x0 x1) (frame_Encode_iai9_r0_2 2 x0 x1) (tbE h7)), .b (tbE h8), .b (tbE h9), .o 76 (fun _ => o_len_os (enc := enc_R_bool_Su811) (l := x4) (fl := false) (n := x3) (s := 2)), .l (law06_FreshOrder_L4_f0_0 x0 x1 (frame_Encode_iai9_r0_2 2 x0 x1) 2 (law06_FreshOrder_S6_e3 x0 x1 x4) (law06_FreshOrder_S6_e4 x0 x1 x4) (law06_FreshOrder_S6_e2 x0 x1 x4) (law06_FreshOrder_S6_e5 x0 x1 x4) (law06_FreshOrder_S6_e1 x0 x1 x4) false false false false x5 (wi (((x4.length : Nat) : Int) + 1)) 0 (⟨(wi (((x4.length : Nat) : Int) + 1)), 0, x0, (law06_FreshOrder_S6_e3 x0 x1 x4), (law06_FreshOrder_S6_e4 x0 x1 x4), (law06_FreshOrder_S6_e2 x0 x1 x4)⟩ : law06_FreshOrder_L4_s0) (tbE h10) (tbE h11))] (by kernel_rfl)
                  · intro g0
                    exact seg_walk [.c (frame_Encode_iai9_t0 2 x0 x1 (tbE h1)), .b (notT (tbE h2)), .b (tbE h3), .c (fresh_New_i_t1 2 (tbE h4)), .k false, .k false, .l (law06_FreshOrder_L0_f0_0 x0 x1 (frame_Encode_iai9_r0_2 2 x0 x1) 2 0 false [0, 0, 0, 0, 0, 0, 0] false false false x3 x4 x5 (frame_Encode_iai9_r0_0 2 x0 x1) 0 (⟨0, 0, false, [0, 0, 0, 0, 0, 0, 0]⟩ : law06_FreshOrder_L0_s0) (tbE h5) (tbE h6)), .y (mm := [(Blk.flat 33 9 [([(.int .i64 x0)] ++ arrD .i64 x1 8)] false), (Blk.flat 5 1 (List.map (encI .u8) (frame_Encode_iai9_r0_2 2 x0 x1)) false), (Blk.flat 67 10 [([(.int .i64 2), (.int .i64 ((law06_FreshOrder_S6_e0 x4).c11)), (.bool ((law06_FreshOrder_S6_e0 x4).c12))] ++ arrD .i64 ((law06_FreshOrder_S6_e0 x4).c13) 7)] false)]) (args := [(V.ptr 2 1 0 0), (V.agg [(V.d (.bool true)), (V.so (frame_Encode_iai9_r0_0 2 x0 x1) 1 ((frame_Encode_iai9_r0_2 2 x0 x1).length))])]) (args1 := [(V.ptr 2 1 0 0), (V.agg [(V.d (.bool true)), (V.d (slD (encI .u8) true 1 (frame_Encode_iai9_r0_0 2 x0 x1) (frame_Encode_iai9_r0_2 2 x0 x1)))])]) (byvals_cons (by kernel_rfl) (byvals_cons (byval_agg (byvals_cons (by kernel_rfl) (byvals_cons (byval_so (enc := (encI .u8)) (l := (frame_Encode_iai9_r0_2 2 x0 x1)) (b := (frame_Encode_iai9_r0_0 2 x0 x1)) (e := 5) (s := 1) (p := false) (n := ((frame_Encode_iai9_r0_2 2 x0 x1).length)) (Nat.beq_refl _) (by kernel_rfl)) (by kernel_rfl)))) (by kernel_rfl))), .c (fresh_Track_Take_pabo_Fi2bi7_t0 2 ((law06_FreshOrder_S6_e0 x4).c11) ((law06_FreshOrder_S6_e0 x4).c12) ((law06_FreshOrder_S6_e0 x4).c13) true (frame_Encode_iai9_r0_0 2 x0 x1) (frame_Encode_iai9_r0_2 2 x0 x1) (tbE h7)), .b (tbE h8), .b (tbE h9)] (by kernel_rfl)
        · intro g0
          exact seg_walk [.c (frame_Encode_iai9_t0 2 x0 x1 (tbE h1)), .b (notT (tbE h2)), .b (tbE h3), .c (fresh_New_i_t0 2 (tbE h4)), .k true] (by kernel_rfl)
      · intro g0
        exact seg_walk [.c (frame_Encode_iai9_t0 2 x0 x1 (tbE h1)), .b (notT (tbE h2)), .b (tbE h3), .c (law06_alive_t0)] (by kernel_rfl)
theorem law06_FreshOrder_S6_t1 (x0 : Int) (x1 : List Int) (x3 : Bool) (x4 : List R_bool_Su811) (x5 : Int) (x6 : Bool) : law06_FreshOrder_S6_c0 x0 x1 x4 x5 x6 = false → law06_FreshOrder_S6_c1 x0 x1 x4 x5 x6 = true → segG (runC E0 (cl E0) S4_6) [0, 2, 4, 7] [6] [4, 15, 21, 24, 25] 1 ([(V.d (slD enc_R_bool_Su811 false 2 x3 x4)), (V.d (.int .u8 x5)), (V.ptr 0 1 0 0), (V.d (.bool x6))], [(Blk.flat 33 9 [([(.int .i64 x0)] ++ arrD .i64 x1 8)] false)]) = some (.normal, ([(V.ptr 0 1 0 0), (V.d (.int .i64 ((law06_FreshOrder_S6_e6 x0 x1 x4 x5).c1))), (V.d (.int .i64 ((law06_FreshOrder_S6_e8 x0 x1 x4 x5).c1))), (V.d (.int .i64 ((law06_FreshOrder_S6_e6 x0 x1 x4 x5).c9))), (V.d (.bool ((law06_FreshOrder_S6_e6 x0 x1 x4 x5).c10)))], [(Blk.flat 33 9 [([(.int .i64 ((law06_FreshOrder_S6_e6 x0 x1 x4 x5).c3))] ++ arrD .i64 x1 8)] false)])) := by
  unfold law06_FreshOrder_S6_c0 law06_FreshOrder_S6_c1
  cases h1 : tb (frame_Encode_iai9_c0 2 x0 x1)
  · intro g0 g1
    exact absurd g1 ft
  · cases h2 : tb (x6)
    · intro g0 g1
      exact absurd g0 tf
    · cases h3 : tb (((frame_Encode_iai9_r0_1 2 x0 x1) : Int) != 0)
      · cases h4 : tb (fresh_New_i_c0 2)
        · cases h5 : tb (law06_FreshOrder_L0_ok 2 x4 (⟨0, 0, false, [0, 0, 0, 0, 0, 0, 0]⟩ : law06_FreshOrder_L0_s0))
          · intro g0 g1
            exact absurd g1 ft
          · cases h6 : tb (law06_FreshOrder_L0_c0 x4 (law06_FreshOrder_S6_e0 x4))
            · intro g0 g1
              exact absurd g1 ft
            · cases h7 : tb (fresh_Track_Take_pabo_Fi2bi7_c0 2 ((law06_FreshOrder_S6_e0 x4).c11) ((law06_FreshOrder_S6_e0 x4).c12) true (frame_Encode_iai9_r0_0 2 x0 x1) (frame_Encode_iai9_r0_2 2 x0 x1))
              · intro g0 g1
                exact absurd g1 ft
              · cases h8 : tb (((fresh_Track_take_pabo_Fi2bi7_r0_2 2 ((law06_FreshOrder_S6_e0 x4).c11) ((law06_FreshOrder_S6_e0 x4).c12) true (frame_Encode_iai9_r0_0 2 x0 x1) (frame_Encode_iai9_r0_2 2 x0 x1)) : Int) != 0)
                · cases h9 : tb (law06_FreshOrder_L4_ok x1 2 x5 (⟨(wi (((x4.length : Nat) : Int) + 1)), 0, x0, (law06_FreshOrder_S6_e3 x0 x1 x4), (law06_FreshOrder_S6_e4 x0 x1 x4), (law06_FreshOrder_S6_e2 x0 x1 x4)⟩ : law06_FreshOrder_L4_s0))
                  · intro g0 g1
                    exact absurd g1 ft
                  · cases h10 : tb (law06_FreshOrder_L4_c0 x1 2 x5 (law06_FreshOrder_S6_e6 x0 x1 x4 x5))
                    · cases h11 : tb (law06_FreshOrder_L4_c1 x5 (law06_FreshOrder_S6_e6 x0 x1 x4 x5))
                      · intro g0 g1
                        exact absurd g1 ft
                      · cases h12 : tb (law06_FreshOrder_L5_ok ((law06_FreshOrder_S6_e6 x0 x1 x4 x5).c11) (⟨0, 0⟩ : law06_FreshOrder_L5_s0))
                        · intro g0 g1
                          exact absurd g1 ft
                        · cases h13 : tb (law06_FreshOrder_L5_c0 (law06_FreshOrder_S6_e8 x0 x1 x4 x5))
                          · intro g0 g1
                            exact absurd g1 ft
                          · intro g0 g1
                            exact seg_walk [.c (frame_Encode_iai9_t0 2 x0 x1 (tbE h1)), .b (notT (tbE h2)), .b (tbE h3), .c (fresh_New_i_t1 2 (tbE h4)), .k false, .k false, .l (law06_FreshOrder_L0_f0_0 x0 x1 (frame_Encode_iai9_r0_2 2 x0 x1) 2 0 false [0, 0, 0, 0, 0, 0, 0] false false false x3 x4 x5 (frame_Encode_iai9_r0_0 2 x0 x1) 0 (⟨0, 0, false, [0, 0, 0, 0, 0, 0, 0]⟩ : law06_FreshOrder_L0_s0) (tbE h5) (tbE h6)), .y (mm := [(Blk.flat 33 9 [([(.int .i64 x0)] ++ arrD .i64 x1 8)] false), (Blk.flat 5 1 (List.map (encI .u8) (frame_Encode_iai9_r0_2 2 x0 x1)) false), (Blk.flat 67 10 [([(.int .i64 2), (.int .i64 ((law06_FreshOrder_S6_e0 x4).c11)), (.bool ((law06_FreshOrder_S6_e0 x4).c12))] ++ arrD .i64 ((law06_FreshOrder_S6_e0 x4).c13) 7)] false)]) (args := [(V.ptr 2 1 0 0), (V.agg [(V.d (.bool true)), (V.so (frame_Encode_iai9_r0_0 2 x0 x1) 1 ((frame_Encode_iai9_r0_2 2 x0 x1).length))])]) (args1 := [(V.ptr 2 1 0 0), (V.agg [(V.d (.bool true)), (V.d (slD (encI .u8) true 1 (frame_Encode_iai9_r0_0 2 x0 x1) (frame_Encode_iai9_r0_2 2 x0 x1)))])]) (byvals_cons (by kernel_rfl) (byvals_cons (byval_agg (byvals_cons (by kernel_rfl) (byvals_cons (byval_so (enc := (encI .u8)) (l := (frame_Encode_iai9_r0_2 2 x0 x1)) (b := (frame_Encode_iai9_r0_0 2 x0 x1)) (e := 5) (s := 1) (p := false) (n := ((frame_Encode_iai9_r0_2 2 x0 x1).length)) (Nat.beq_refl _) (by kernel_rfl)) (by kernel_rfl)))) (by kernel_rfl))), .c (fresh_Track_Take_pabo_Fi2bi7_t0 2 ((law06_FreshOrder_S6_e0 x4).c11) ((law06_FreshOrder_S6_e0 x4).c12) ((law06_FreshOrder_S6_e0 x4).c13) true (frame_Encode_iai9_r0_0 2 x0 x1) (frame_Encode_iai9_r0_2 2 x0 x1) (tbE h7)), .b (tbE h8), .o 76 (fun _ => o_len_os (enc := enc_R_bool_Su811) (l := x4) (fl := false) (n := x3) (s := 2)), .l (law06_FreshOrder_L4_f0_1 x0 x1 (frame_Encode_iai9_r0_2 2 x0 x1) 2 (law06_FreshOrder_S6_e3 x0 x1 x4) (law06_FreshOrder_S6_e4 x0 x1 x4) (law06_FreshOrder_S6_e2 x0 x1 x4) (law06_FreshOrder_S6_e5 x0 x1 x4) (law06_FreshOrder_S6_e1 x0 x1 x4) false false false false x5 (wi (((x4.length : Nat) : Int) + 1)) 0 (⟨(wi (((x4.length : Nat) : Int) + 1)), 0, x0, (law06_FreshOrder_S6_e3 x0 x1 x4), (law06_FreshOrder_S6_e4 x0 x1 x4), (law06_FreshOrder_S6_e2 x0 x1 x4)⟩ : law06_FreshOrder_L4_s0) (tbE h9) (tbE h10) (tbE h11)), .c (fresh_Track_Counts_p_Fi2bi7_t0 2 ((law06_FreshOrder_S6_e6 x0 x1 x4 x5).c9) ((law06_FreshOrder_S6_e6 x0 x1 x4 x5).c10) ((law06_FreshOrder_S6_e6 x0 x1 x4 x5).c11) false), .l (law06_FreshOrder_L5_f0_0 ((law06_FreshOrder_S6_e6 x0 x1 x4 x5).c3) x1 (frame_Encode_iai9_r0_2 2 x0 x1) 2 ((law06_FreshOrder_S6_e6 x0 x1 x4 x5).c9) ((law06_FreshOrder_S6_e6 x0 x1 x4 x5).c10) ((law06_FreshOrder_S6_e6 x0 x1 x4 x5).c11) (law06_FreshOrder_S6_e5 x0 x1 x4) (law06_FreshOrder_S6_e1 x0 x1 x4) ((law06_FreshOrder_S6_e6 x0 x1 x4 x5).c11) false false false false false ((law06_FreshOrder_S6_e6 x0 x1 x4 x5).c1) 0 0 (⟨0, 0⟩ : law06_FreshOrder_L5_s0) (tbE h12) (tbE h13)), .c (fresh_Track_Last_p_Fi2bi7_t0 2 ((law06_FreshOrder_S6_e6 x0 x1 x4 x5).c9) ((law06_FreshOrder_S6_e6 x0 x1 x4 x5).c10) ((law06_FreshOrder_S6_e6 x0 x1 x4 x5).c11) false)] (by kernel_rfl)
                    · intro g0 g1
                      exact absurd g0 tf
                · cases h9 : tb (((fresh_Track_take_pabo_Fi2bi7_r0_2 2 ((law06_FreshOrder_S6_e0 x4).c11) ((law06_FreshOrder_S6_e0 x4).c12) true (frame_Encode_iai9_r0_0 2 x0 x1) (frame_Encode_iai9_r0_2 2 x0 x1)) : Int) != 6)
                  · cases h10 : tb (law06_FreshOrder_L4_ok x1 2 x5 (⟨(wi (((x4.length : Nat) : Int) + 1)), 0, x0, (law06_FreshOrder_S6_e3 x0 x1 x4), (law06_FreshOrder_S6_e4 x0 x1 x4), (law06_FreshOrder_S6_e2 x0 x1 x4)⟩ : law06_FreshOrder_L4_s0))
                    · intro g0 g1
                      exact absurd g1 ft
                    · cases h11 : tb (law06_FreshOrder_L4_c0 x1 2 x5 (law06_FreshOrder_S6_e6 x0 x1 x4 x5))
                      · cases h12 : tb (law06_FreshOrder_L4_c1 x5 (law06_FreshOrder_S6_e6 x0 x1 x4 x5))
                        · intro g0 g1
                          exact absurd g1 ft
                        · cases h13 : tb (law06_FreshOrder_L5_ok ((law06_FreshOrder_S6_e6 x0 x1 x4 x5).c11) (⟨0, 0⟩ : law06_FreshOrder_L5_s0))
                          · intro g0 g1
                            exact absurd g1 ft
                          · cases h14 : tb (law06_FreshOrder_L5_c0 (law06_FreshOrder_S6_e8 x0 x1 x4 x5))
                            · intro g0 g1
                              exact absurd g1 ft
                            · intro g0 g1
                              exact seg_walk [.c (frame_Encode_iai9_t0 2 x0 x1 (tbE h1)), .b (notT (tbE h2)), .b (tbE h3), .c (fresh_New_i_t1 2 (tbE h4)), .k false, .k false, .l (law06_FreshOrder_L0_f0_0 x0 x1 (frame_Encode_iai9_r0_2 2 x0 x1) 2 0 false [0, 0, 0, 0, 0, 0, 0] false false false x3 x4 x5 (frame_Encode_iai9_r0_0 2 x0 x1) 0 (⟨0, 0, false, [0, 0, 0, 0, 0, 0, 0]⟩ : law06_FreshOrder_L0_s0) (tbE h5) (tbE h6)), .y (mm := [(Blk.flat 33 9 [([(.int .i64 x0)] ++ arrD .i64 x1 8)] false), (Blk.flat 5 1 (List.map (encI .u8) (frame_Encode_iai9_r0_2 2 x0 x1)) false), (Blk.flat 67 10 [([(.int .i64 2), (.int .i64 ((law06_FreshOrder_S6_e0 x4).c11)), (.bool ((law06_FreshOrder_S6_e0 x4).c12))] ++ arrD .i64 ((law06_FreshOrder_S6_e0 x4).c13) 7)] false)]) (args := [(V.ptr 2 1 0 0), (V.agg [(V.d (.bool true)), (V.so (frame_Encode_iai9_r0_0 2 x0 x1) 1 ((frame_Encode_iai9_r0_2 2 x0 x1).length))])]) (args1 := [(V.ptr 2 1 0 0), (V.agg [(V.d (.bool true)), (V.d (slD (encI .u8) true 1 (frame_Encode_iai9_r0_0 2 x0 x1) (frame_Encode_iai9_r0_2 2 x0 x1)))])]) (byvals_cons (by kernel_rfl) (byvals_cons (byval_agg (byvals_cons (by kernel_rfl) (byvals_cons (byval_so (enc := (encI .u8)) (l := (frame_Encode_iai9_r0_2 2 x0 x1)) (b := (frame_Encode_iai9_r0_0 2 x0 x1)) (e := 5) (s := 1) (p := false) (n := ((frame_Encode_iai9_r0_2 2 x0 x1).length)) (Nat.beq_refl _) (by kernel_rfl)) (by kernel_rfl)))) (by kernel_rfl))), .c (fresh_Track_Take_pabo_Fi2bi7_t0 2 ((law06_FreshOrder_S6_e0 x4).c11) ((law06_FreshOrder_S6_e0 x4).c12) ((law06_FreshOrder_S6_e0 x4).c13) true (frame_Encode_iai9_r0_0 2 x0 x1) (frame_Encode_iai9_r0_2 2 x0 x1) (tbE h7)), .b (tbE h8), .b (tbE h9), .o 76 (fun _ => o_len_os (enc := enc_R_bool_Su811) (l := x4) (fl := false) (n := x3) (s := 2)), .l (law06_FreshOrder_L4_f0_1 x0 x1 (frame_Encode_iai9_r0_2 2 x0 x1) 2 (law06_FreshOrder_S6_e3 x0 x1 x4) (law06_FreshOrder_S6_e4 x0 x1 x4) (law06_FreshOrder_S6_e2 x0 x1 x4) (law06_FreshOrder_S6_e5 x0 x1 x4) (law06_FreshOrder_S6_e1 x0 x1 x4) false false false false x5 (wi (((x4.length : Nat) : Int) + 1)) 0 (⟨(wi (((x4.length : Nat) : Int) + 1)), 0, x0, (law06_FreshOrder_S6_e3 x0 x1 x4), (law06_FreshOrder_S6_e4 x0 x1 x4), (law06_FreshOrder_S6_e2 x0 x1 x4)⟩ : law06_FreshOrder_L4_s0) (tbE h10) (tbE h11) (tbE h12)), .c (fresh_Track_Counts_p_Fi2bi7_t0 2 ((law06_FreshOrder_S6_e6 x0 x1 x4 x5).c9) ((law06_FreshOrder_S6_e6 x0 x1 x4 x5).c10) ((law06_FreshOrder_S6_e6 x0 x1 x4 x5).c11) false), .l (law06_FreshOrder_L5_f0_0 ((law06_FreshOrder_S6_e6 x0 x1 x4 x5).c3) x1 (frame_Encode_iai9_r0_2 2 x0 x1) 2 ((law06_FreshOrder_S6_e6 x0 x1 x4 x5).c9) ((law06_FreshOrder_S6_e6 x0 x1 x4 x5).c10) ((law06_FreshOrder_S6_e6 x0 x1 x4 x5).c11) (law06_FreshOrder_S6_e5 x0 x1 x4) (law06_FreshOrder_S6_e1 x0 x1 x4) ((law06_FreshOrder_S6_e6 x0 x1 x4 x5).c11) false false false false false ((law06_FreshOrder_S6_e6 x0 x1 x4 x5).c1) 0 0 (⟨0, 0⟩ : law06_FreshOrder_L5_s0) (tbE h13) (tbE h14)), .c (fresh_Track_Last_p_Fi2bi7_t0 2 ((law06_FreshOrder_S6_e6 x0 x1 x4 x5).c9) ((law06_FreshOrder_S6_e6 x0 x1 x4 x5).c10) ((law06_FreshOrder_S6_e6 x0 x1 x4 x5).c11) false)] (by kernel_rfl)
                      · intro g0 g1
                        exact absurd g0 tf
                  · intro g0 g1
                    exact absurd g0 tf
        · intro g0 g1
          exact absurd g0 tf
      · intro g0 g1
        exact absurd g0 tf
def law06_FreshOrder_S7_r0_0 (x0 : Int) (x3 : Int) (x4 : Int) (x5 : Int) (x6 : Bool) : Bool := (bif tb ((x4 : Int) == x3) then (bif tb (x6) then ((x5 : Int) == x0) else false) else false)
theorem law06_FreshOrder_S7_t0 (x0 : Int) (x1 : List Int) (x2 : Bool) (x3 : Int) (x4 : Int) (x5 : Int) (x6 : Bool) : segG (runC E0 (cl E0) S4_7) [4, 15, 21, 24, 25] [] [6] 1 ([(V.ptr 0 1 0 0), (V.d (.int .i64 x3)), (V.d (.int .i64 x4)), (V.d (.int .i64 x5)), (V.d (.bool x6))], [(Blk.flat 33 9 [([(.int .i64 x0)] ++ arrD .i64 x1 8)] x2)]) = some (.normal, ([(V.d (.bool (law06_FreshOrder_S7_r0_0 x0 x3 x4 x5 x6)))], [(Blk.flat 33 9 [([(.int .i64 x0)] ++ arrD .i64 x1 8)] x2)])) := by
  unfold law06_FreshOrder_S7_r0_0
  cases h1 : tb ((x4 : Int) == x3)
  · exact seg_walk [.c (law06_alive_t0), .k true, .b (tbE h1)] (by kernel_rfl)
  · cases h2 : tb (x6)
    · exact seg_walk [.c (law06_alive_t0), .k true, .b (tbE h1), .b (tbE h2)] (by kernel_rfl)
    · exact seg_walk [.c (law06_alive_t0), .k true, .b (tbE h1), .b (tbE h2)] (by kernel_rfl)
def law06_FreshOrder_c0 (x1 : List R_bool_Su811) (x2 : Int) (x3 : List Int) (x4 : Int) : Bool := (bif tb (law06_Fits_c0 x1) then (bif tb (law06_FreshOrder_S6_c0 x2 x3 x1 x4 (law06_Fits_r0_0 x1)) then true else (bif tb (law06_FreshOrder_S6_c1 x2 x3 x1 x4 (law06_Fits_r0_0 x1)) then true else false)) else false)
def law06_FreshOrder_r0_0 (x1 : List R_bool_Su811) (x2 : Int) (x3 : List Int) (x4 : Int) : Bool := (bif tb (law06_FreshOrder_S6_c0 x2 x3 x1 x4 (law06_Fits_r0_0 x1)) then (law06_FreshOrder_S6_r0_0 x2 x3 (law06_Fits_r0_0 x1)) else (law06_FreshOrder_S7_r0_0 ((law06_FreshOrder_S6_e6 x2 x3 x1 x4).c3) ((law06_FreshOrder_S6_e6 x2 x3 x1 x4).c1) ((law06_FreshOrder_S6_e8 x2 x3 x1 x4).c1) ((law06_FreshOrder_S6_e6 x2 x3 x1 x4).c9) ((law06_FreshOrder_S6_e6 x2 x3 x1 x4).c10)))
theorem law06_FreshOrder_t0 (x0 : Bool) (x1 : List R_bool_Su811) (x2 : Int) (x3 : List Int) (x4 : Int) : law06_FreshOrder_c0 x1 x2 x3 x4 = true → cl E0 4 [(V.d (slD enc_R_bool_Su811 false 2 x0 x1)), (V.agg [(V.d (.int .i64 x2)), (V.d (.int .i64 (gt x3 0))), (V.d (.int .i64 (gt x3 1))), (V.d (.int .i64 (gt x3 2))), (V.d (.int .i64 (gt x3 3))), (V.d (.int .i64 (gt x3 4))), (V.d (.int .i64 (gt x3 5))), (V.d (.int .i64 (gt x3 6))), (V.d (.int .i64 (gt x3 7)))]), (V.d (.int .u8 x4))] [] = some ([(V.d (.bool (law06_FreshOrder_r0_0 x1 x2 x3 x4)))], []) := by
  unfold law06_FreshOrder_c0 law06_FreshOrder_r0_0
  cases h1 : tb (law06_Fits_c0 x1)
  · intro g0
    exact absurd g0 ft
  · cases h2 : tb (law06_FreshOrder_S6_c0 x2 x3 x1 x4 (law06_Fits_r0_0 x1))
    · cases h3 : tb (law06_FreshOrder_S6_c1 x2 x3 x1 x4 (law06_Fits_r0_0 x1))
      · intro g0
        exact absurd g0 ft
      · intro g0
        exact w4 [.c (law06_Fits_t0 x0 x1 (tbE h1)), .s (law06_FreshOrder_S6_t1 x2 x3 x0 x1 x4 (law06_Fits_r0_0 x1) (tbE h2) (tbE h3)), .s (law06_FreshOrder_S7_t0 ((law06_FreshOrder_S6_e6 x2 x3 x1 x4).c3) x3 false ((law06_FreshOrder_S6_e6 x2 x3 x1 x4).c1) ((law06_FreshOrder_S6_e8 x2 x3 x1 x4).c1) ((law06_FreshOrder_S6_e6 x2 x3 x1 x4).c9) ((law06_FreshOrder_S6_e6 x2 x3 x1 x4).c10))] (by kernel_rfl)
    · intro g0
      exact w4 [.c (law06_Fits_t0 x0 x1 (tbE h1)), .s (law06_FreshOrder_S6_t0 x2 x3 x0 x1 x4 (law06_Fits_r0_0 x1) (tbE h2))] (by kernel_rfl)
end Go.Proofs.Ytkipngagfiaddaa.Den

namespace Go.Proofs.Ytkipngagfiaddaa.Den
open Go Go.Proofs
set_option linter.unusedVariables false
set_option linter.unusedSimpArgs false
def Cnt (N : List Int) (k : Int) : Prop := ∃ a b c d e f g : Int, N = [a, b, c, d, e, f, g] ∧ 0 ≤ a ∧ 0 ≤ b ∧ 0 ≤ c ∧ 0 ≤ d ∧ 0 ≤ e ∧ 0 ≤ f ∧ 0 ≤ g ∧ a + b + c + d + e + f + g = k
theorem cnt_sta {N : List Int} {k r : Int} (h : Cnt N k) (hk : k ≤ 1000) (h0 : 0 ≤ r) (h6 : r ≤ 6) : Cnt (sta N 7 r (wi (gt N r + 1))) (k + 1) := by
  obtain ⟨a, b, c, d, e, f, g, rfl, p1, p2, p3, p4, p5, p6, p7, hs⟩ := h
  rcases (by omega : r = 0 ∨ r = 1 ∨ r = 2 ∨ r = 3 ∨ r = 4 ∨ r = 5 ∨ r = 6) with rfl | rfl | rfl | rfl | rfl | rfl | rfl
  · refine ⟨wi (a + 1), b, c, d, e, f, g, rfl, ?_⟩
    rw [wi_eq (by omega) (by omega)]; omega
  · refine ⟨a, wi (b + 1), c, d, e, f, g, rfl, ?_⟩
    rw [wi_eq (by omega) (by omega)]; omega
  · refine ⟨a, b, wi (c + 1), d, e, f, g, rfl, ?_⟩
    rw [wi_eq (by omega) (by omega)]; omega
  · refine ⟨a, b, c, wi (d + 1), e, f, g, rfl, ?_⟩
    rw [wi_eq (by omega) (by omega)]; omega
  · refine ⟨a, b, c, d, wi (e + 1), f, g, rfl, ?_⟩
    rw [wi_eq (by omega) (by omega)]; omega
  · refine ⟨a, b, c, d, e, wi (f + 1), g, rfl, ?_⟩
    rw [wi_eq (by omega) (by omega)]; omega
  · refine ⟨a, b, c, d, e, f, wi (g + 1), rfl, ?_⟩
    rw [wi_eq (by omega) (by omega)]; omega
theorem cnt_run {N : List Int} {k : Int} (h : Cnt N k) (hk : k ≤ 1000) : itS (law06_FreshOrder_L5_sel N) (law06_FreshOrder_L5_nx N) bound ⟨0, 0⟩ = some ⟨k, 7⟩ := by
  obtain ⟨a, b, c, d, e, f, g, rfl, p1, p2, p3, p4, p5, p6, p7, hs⟩ := h
  have w0 : wi (0 + a) = a := by rw [wi_eq (by omega) (by omega)]; omega
  have w1 : wi (a + b) = a + b := wi_eq (by omega) (by omega)
  have w2 : wi (a + b + c) = a + b + c := wi_eq (by omega) (by omega)
  have w3 : wi (a + b + c + d) = a + b + c + d := wi_eq (by omega) (by omega)
  have w4 : wi (a + b + c + d + e) = a + b + c + d + e := wi_eq (by omega) (by omega)
  have w5 : wi (a + b + c + d + e + f) = a + b + c + d + e + f := wi_eq (by omega) (by omega)
  have w6 : wi (a + b + c + d + e + f + g) = k := by rw [wi_eq (by omega) (by omega)]; omega
  let st : Nat → law06_FreshOrder_L5_s0 := fun
    | 0 => ⟨0, 0⟩
    | 1 => ⟨a, 1⟩
    | 2 => ⟨a + b, 2⟩
    | 3 => ⟨a + b + c, 3⟩
    | 4 => ⟨a + b + c + d, 4⟩
    | 5 => ⟨a + b + c + d + e, 5⟩
    | 6 => ⟨a + b + c + d + e + f, 6⟩
    | _ => ⟨k, 7⟩
  have hit := loop_seq (sel := law06_FreshOrder_L5_sel [a, b, c, d, e, f, g]) (nx := law06_FreshOrder_L5_nx [a, b, c, d, e, f, g]) st 7 (by omega) (fun j hj => by
    rcases (by omega : j = 0 ∨ j = 1 ∨ j = 2 ∨ j = 3 ∨ j = 4 ∨ j = 5 ∨ j = 6) with rfl | rfl | rfl | rfl | rfl | rfl | rfl
    · refine ⟨rfl, ?_⟩
      show (⟨wi (0 + a), 1⟩ : law06_FreshOrder_L5_s0) = ⟨a, 1⟩
      rw [w0]
    · refine ⟨rfl, ?_⟩
      show (⟨wi (a + b), 2⟩ : law06_FreshOrder_L5_s0) = ⟨a + b, 2⟩
      rw [w1]
    · refine ⟨rfl, ?_⟩
      show (⟨wi (a + b + c), 3⟩ : law06_FreshOrder_L5_s0) = ⟨a + b + c, 3⟩
      rw [w2]
    · refine ⟨rfl, ?_⟩
      show (⟨wi (a + b + c + d), 4⟩ : law06_FreshOrder_L5_s0) = ⟨a + b + c + d, 4⟩
      rw [w3]
    · refine ⟨rfl, ?_⟩
      show (⟨wi (a + b + c + d + e), 5⟩ : law06_FreshOrder_L5_s0) = ⟨a + b + c + d + e, 5⟩
      rw [w4]
    · refine ⟨rfl, ?_⟩
      show (⟨wi (a + b + c + d + e + f), 6⟩ : law06_FreshOrder_L5_s0) = ⟨a + b + c + d + e + f, 6⟩
      rw [w5]
    · refine ⟨rfl, ?_⟩
      show (⟨wi (a + b + c + d + e + f + g), 7⟩ : law06_FreshOrder_L5_s0) = ⟨k, 7⟩
      rw [w6]) rfl
  exact hit
theorem Take_e1 (ch last : Int) (N : List Int) (begun is nl : Bool) {l : List Int} (h : Sm l) :
    fresh_Track_Take_pabo_Fi2bi7_c0 ch last begun is nl l = true ∧
    fresh_Track_Take_pabo_Fi2bi7_e1 ch last begun N is nl l = sta N 7 (rjOf ch last begun is l) (wi (gt N (rjOf ch last begun is l) + 1)) := by
  obtain ⟨t1, t2, t3, t4, t5, t6⟩ := take_eq ch last begun is nl h
  have hr := rjOf_rng ch last begun is l
  have hi7 : inb 7 (rjOf ch last begun is l) = true := inb_of (by omega) (by omega)
  simp only [fresh_Track_Take_pabo_Fi2bi7_c0, fresh_Track_Take_pabo_Fi2bi7_e1, fresh_Track_Take_pabo_Fi2bi7_e0, t1, t4, hi7, tb_eq, cond_true, and_self]
theorem next_rng (n : Int) : n16 (word_Next_i_r0_0 n) = true := by
  simp only [word_Next_i_r0_0, seq_r, tb_eq]
  cases h : n16 n with
  | false => rfl
  | true =>
    rw [n16_iff] at h
    simp only [cond_true]
    rw [n16_iff]
    by_cases h1 : n = 65535
    · subst h1; decide
    · have hr : remI .i64 (n + 1) 65536 = (n + 1) % 65536 := by unfold remI; exact Int.tmod_eq_emod_of_nonneg (by omega)
      rw [wi_eq (by omega) (by omega), hr]; omega
theorem S2_ok {s last : Int} {x N : List Int} {k : Int} (h : x.length = 8) (hx : all32 x = true) (hs : n16 s = true) (hl : s = word_Next_i_r0_0 last) (hN : Cnt N k) (hk : k ≤ 999) :
    law06_FreshOrder_S2_c0 s x 2 last true = true ∧ law06_FreshOrder_S2_r0_3 s x 2 last true = false ∧
    Cnt (law06_FreshOrder_S2_e1 s x 2 last true N) (k + 1) ∧
    fresh_Track_take_pabo_Fi2bi7_r0_4 2 last true (frame_Encode_iai9_r0_0 2 s x) (frame_Encode_iai9_r0_2 2 s x) = s ∧
    fresh_Track_take_pabo_Fi2bi7_r0_5 2 true true (frame_Encode_iai9_r0_0 2 s x) (frame_Encode_iai9_r0_2 2 s x) = true := by
  have hok : okF 2 s x = true := by simp [okF, hs, hx]
  obtain ⟨n1, n2, n3, n4⟩ := encode_eq 2 s h
  rw [hok] at n2 n3 n4
  simp only [if_true] at n3 n4
  obtain ⟨b1, b2, b3, b4⟩ := back_F h hok
  obtain ⟨T1, T2⟩ := Take_e1 2 last N true true (!true) b1
  obtain ⟨t1, t2, t3, t4, t5, t6⟩ := take_eq 2 last true true (!true) b1
  have hr : rjOf 2 last true true (sealed (bodyF 2 s x)) = 0 := by
    unfold rjOf; rw [b2, b3, hl]; simp
  have e0 : law06_FreshOrder_S2_e0 s x 2 last true = x := by simp only [law06_FreshOrder_S2_e0, n2, n4, t3, hr, if_true, b4]
  have e2 : law06_FreshOrder_S2_e2 s x 2 last true = false := by
    simp only [law06_FreshOrder_S2_e2, e0, n2, n4, t2, hr, if_true, b3]; simp
  refine ⟨?_, ?_, ?_, ?_, ?_⟩
  · simp only [law06_FreshOrder_S2_c0, n1, n2, n4, T1, tb_eq, cond_true]
  · simp only [law06_FreshOrder_S2_r0_3, n2, n3, n4, t4, hr, e2, tb_eq]; rfl
  · simp only [law06_FreshOrder_S2_e1, n2, n4, T2, hr]
    exact cnt_sta hN (by omega) (by omega) (by omega)
  · rw [n2, n4, t5, b2, b3]; rfl
  · rw [n2, n4, t6, b2]; rfl
theorem empty_rj (last : Int) : fresh_Track_take_pabn_Fi2bi7_r0_2 last true false = 1 := by
  simp [fresh_Track_take_pabn_Fi2bi7_r0_2, frame_Decode_iabn_S0_r0_0]
theorem S1_ok {last i t : Int} {N : List Int} {k : Int} (hN : Cnt N k) (hk0 : 0 ≤ k) (hk : k ≤ 999) :
    law06_FreshOrder_S1_c0 last true i = true ∧ law06_FreshOrder_S1_r0_9 last i = last ∧ law06_FreshOrder_S1_r0_10 true i = true ∧
    Cnt (law06_FreshOrder_S1_r0_11 last true N i) (law06_FreshOrder_S1_r0_1 k i) ∧ k ≤ law06_FreshOrder_S1_r0_1 k i ∧ law06_FreshOrder_S1_r0_1 k i ≤ k + 1 := by
  by_cases h : ((remI .i64 i 3 : Int) == 2) = true
  · have i1 : inb 7 1 = true := rfl
    have hw : wi (k + 1) = k + 1 := wi_eq (by omega) (by omega)
    refine ⟨?_, ?_, ?_, ?_, ?_, ?_⟩
    · simp only [law06_FreshOrder_S1_c0, h, fresh_Track_Take_pabn_Fi2bi7_c0, empty_rj, i1, tb_eq, cond_true]
    · simp only [law06_FreshOrder_S1_r0_9, h, tb_eq, cond_true]; simp [fresh_Track_take_pabn_Fi2bi7_r0_4, frame_Decode_iabn_S0_r0_0]
    · simp only [law06_FreshOrder_S1_r0_10, h, tb_eq, cond_true]; simp [fresh_Track_take_pabn_Fi2bi7_r0_5, frame_Decode_iabn_S0_r0_0]
    · simp only [law06_FreshOrder_S1_r0_11, law06_FreshOrder_S1_r0_1, h, hw, fresh_Track_Take_pabn_Fi2bi7_e1, fresh_Track_Take_pabn_Fi2bi7_e0, empty_rj, tb_eq, cond_true]
      exact cnt_sta hN (by omega) (by omega) (by omega)
    · simp only [law06_FreshOrder_S1_r0_1, h, hw, tb_eq, cond_true]; omega
    · simp only [law06_FreshOrder_S1_r0_1, h, hw, tb_eq, cond_true]; omega
  · have h' : ((remI .i64 i 3 : Int) == 2) = false := by simpa using h
    simp only [law06_FreshOrder_S1_c0, law06_FreshOrder_S1_r0_9, law06_FreshOrder_S1_r0_10, law06_FreshOrder_S1_r0_11, law06_FreshOrder_S1_r0_1, h', tb_eq, cond_false, true_and]
    exact ⟨hN, by omega, by omega⟩
structure OInv (m : Int) (s : law06_FreshOrder_L4_s0) : Prop where
  n : n16 s.c3 = true
  e : s.c9 = s.c3
  b : s.c10 = true
  c : Cnt s.c11 s.c1
  lo : 0 ≤ s.c1
  hi : s.c1 ≤ m + 2 * s.c2
theorem order_rounds {x : List Int} {n m : Int} {s0 : law06_FreshOrder_L4_s0} (h : x.length = 8) (hx : all32 x = true) (hn : WfI .u8 n) (hm : m ≤ 100) (hI : OInv m s0) (hz : s0.c2 = 0) :
    ∃ s1, itS (law06_FreshOrder_L4_sel x 2 n) (law06_FreshOrder_L4_nx x 2 n) bound s0 = some s1 ∧ OInv m s1 ∧ s1.c2 = wi (remI .u8 n 40) ∧ s1.c2 ≤ 39 := by
  have hb := wfI_u8 hn
  have hr : wi (remI .u8 n 40) = n % 40 := by
    rw [show remI .u8 n 40 = n % 40 by unfold remI; exact Int.tmod_eq_emod_of_nonneg (by omega), wi_eq (by omega) (by omega)]
  obtain ⟨s1, e, hJ, hk⟩ := idx_loop (sel := law06_FreshOrder_L4_sel x 2 n) (nx := law06_FreshOrder_L4_nx x 2 n) (s0 := s0) (n % 40) (fun s => s.c2) (fun s => OInv m s) (by omega) hI (by omega) (by omega)
    (fun s hI a1 a2 => by
      obtain ⟨k1, k2, k3, k4, k5, k6⟩ := S1_ok (last := s.c9) (i := s.c2) (t := 0) hI.c hI.lo (by have := hI.hi; omega)
      obtain ⟨m1, m2, m3, m4, m5⟩ := S2_ok (s := word_Next_i_r0_0 s.c3) (last := s.c9) h hx (next_rng _) (by rw [hI.e]) k4 (by have := hI.hi; omega)
      have hlt : decide (s.c2 < wi (remI .u8 n 40)) = true := decide_eq_true (by rw [hr]; exact a2)
      have c0 : law06_FreshOrder_S3_c0 s.c3 x 2 s.c9 s.c10 s.c2 = false := by
        simp only [law06_FreshOrder_S3_c0, hI.b, k1, k2, k3, m1, m2, tb_eq, cond_true, cond_false]
      have c1 : law06_FreshOrder_S3_c1 s.c3 x 2 s.c9 s.c10 s.c2 = true := by
        simp only [law06_FreshOrder_S3_c1, hI.b, k1, k2, k3, m1, m2, tb_eq, cond_true, cond_false]
      have hw : wi (law06_FreshOrder_S1_r0_1 s.c1 s.c2 + 1) = law06_FreshOrder_S1_r0_1 s.c1 s.c2 + 1 := wi_eq (by have := hI.lo; omega) (by have := hI.hi; omega)
      have hw2 : wi (s.c2 + 1) = s.c2 + 1 := wi_eq (by omega) (by omega)
      refine ⟨?_, ⟨?_, ?_, ?_, ?_, ?_, ?_⟩, ?_⟩
      · simp only [law06_FreshOrder_L4_sel, hlt, c0, c1, tb_eq, cond_true, cond_false]
      · simp only [law06_FreshOrder_L4_nx]; exact next_rng _
      · simp only [law06_FreshOrder_L4_nx, k2]; exact m4
      · simp only [law06_FreshOrder_L4_nx, hI.b, k3]; exact m5
      · simp only [law06_FreshOrder_L4_nx, law06_FreshOrder_L4_h0_e0, law06_FreshOrder_S3_e0, hI.b, k2, k3, hw]; exact m3
      · simp only [law06_FreshOrder_L4_nx, hw]; have := hI.lo; omega
      · simp only [law06_FreshOrder_L4_nx, hw, hw2]; have := hI.hi; omega
      · exact hw2)
    (fun s hI hk => by
      have hlt : decide (s.c2 < wi (remI .u8 n 40)) = false := decide_eq_false (by rw [hr]; omega)
      simp only [law06_FreshOrder_L4_sel, hlt, tb_eq, cond_false])
  exact ⟨s1, e, hJ, by rw [hr]; exact hk, by omega⟩
structure AInv (s : law06_FreshOrder_L0_s0) : Prop where
  c : Cnt s.c13 s.c4
theorem order_slots {L : List R_bool_Su811} (hF : FitsP L) : ∃ s1, itS (law06_FreshOrder_L0_sel 2 L) (law06_FreshOrder_L0_nx 2 L) bound ⟨0, 0, false, [0, 0, 0, 0, 0, 0, 0]⟩ = some s1 ∧ Cnt s1.c13 s1.c4 ∧ s1.c4 = (L.length : Int) := by
  have hn := hF.n
  exact idx_loop (sel := law06_FreshOrder_L0_sel 2 L) (nx := law06_FreshOrder_L0_nx 2 L) (L.length : Int) (fun s => s.c4) (fun s => Cnt s.c13 s.c4) (by omega)
    ⟨0, 0, 0, 0, 0, 0, 0, rfl, by omega, by omega, by omega, by omega, by omega, by omega, by omega, rfl⟩ (by simp) (by simp)
    (fun s hI a1 a2 => by
      obtain ⟨k, hk⟩ : ∃ k : Nat, s.c4 = k := ⟨s.c4.toNat, by omega⟩
      have hz : gt L s.c4 ∈ L := by rw [hk]; exact gt_mem (by omega) (by omega)
      have hs := hF.b _ hz
      have hi : inb L.length s.c4 = true := by rw [hk]; exact inb_of (by omega) (by omega)
      obtain ⟨T1, T2⟩ := Take_e1 2 s.c11 s.c13 s.c12 (gt L s.c4).c0 (gt L s.c4).c1 hs
      have hr := rjOf_rng 2 s.c11 s.c12 (gt L s.c4).c0 (gt L s.c4).c2
      have hlt : decide (s.c4 < ((L.length : Nat) : Int)) = true := decide_eq_true a2
      have hw : wi (s.c4 + 1) = s.c4 + 1 := wi_eq (by omega) (by omega)
      refine ⟨?_, ?_, hw⟩
      · simp only [law06_FreshOrder_L0_sel, hlt, hi, T1, tb_eq, cond_true]
      · simp only [law06_FreshOrder_L0_nx, law06_FreshOrder_L0_h0_e1, T2, hw]
        exact cnt_sta hI (by omega) hr.1 hr.2)
    (fun s hI hk => by
      have hlt : decide (s.c4 < ((L.length : Nat) : Int)) = false := decide_eq_false (by omega)
      simp only [law06_FreshOrder_L0_sel, hlt, tb_eq, cond_false])
theorem pure_FreshOrder (x0 : Bool) (x1 : List R_bool_Su811) (x2 : Int) (x3 : List Int) (x4 : Int) (wx1 : (x1.length ≤ maxLen ∧ x1.length * 32 ≤ 140737488351232 ∧ ∀ z ∈ x1, (z.c2.length ≤ maxLen ∧ z.c2.length * 1 ≤ 140737488351232 ∧ ∀ zz ∈ z.c2, WfI .u8 zz) ∧ True)) (wx2 : WfI .i64 x2) (wx3 : x3.length = 8 ∧ ∀ z ∈ x3, WfI .i64 z) (wx4 : WfI .u8 x4) : law06_FreshOrder_c0 x1 x2 x3 x4 = true ∧ (law06_FreshOrder_r0_0 x1 x2 x3 x4) = true := by
  obtain ⟨w1, w2, w3⟩ := wx1
  obtain ⟨f1, f2⟩ := fits_eq (l := x1) (fun z hz => (w3 z hz).1.2.2) (by omega) (fun z hz => (w3 z hz).1.1)
  obtain ⟨h8, _⟩ := wx3
  obtain ⟨n1, n2, n3, n4⟩ := encode_eq 2 x2 h8
  simp only [law06_FreshOrder_c0, law06_FreshOrder_r0_0, f1]
  cases hf : law06_Fits_r0_0 x1 with
  | false => simp [law06_FreshOrder_S6_c0, law06_FreshOrder_S6_r0_0, n1]
  | true =>
    have hF := f2 hf
    have hn := hF.n
    cases hok : okF 2 x2 x3 with
    | false =>
      have n3' : ((frame_Encode_iai9_r0_1 2 x2 x3 : Int) != 0) = true := by rw [n3, hok]; rfl
      simp only [law06_FreshOrder_S6_c0, law06_FreshOrder_S6_r0_0, n1, n3', tb_eq, cond_true, and_self]
    | true =>
      have n3' : ((frame_Encode_iai9_r0_1 2 x2 x3 : Int) != 0) = false := by rw [n3, hok]; rfl
      rw [hok] at n2 n4
      simp only [if_true] at n4
      have hok' := hok
      simp only [okF, Bool.and_eq_true] at hok'
      obtain ⟨⟨_, k16⟩, k32⟩ := hok'
      obtain ⟨b1, b2, b3, b4⟩ := back_F h8 hok
      obtain ⟨s1, e, hC, hk⟩ := order_slots hF
      have e0 : law06_FreshOrder_S6_e0 x1 = s1 := by simp only [law06_FreshOrder_S6_e0, law06_FreshOrder_L0_end, e, Option.getD_some]
      have l0 : law06_FreshOrder_L0_ok 2 x1 ⟨0, 0, false, [0, 0, 0, 0, 0, 0, 0]⟩ = true := by simp only [law06_FreshOrder_L0_ok, e, Option.isSome_some]
      have l0c : law06_FreshOrder_L0_c0 x1 s1 = true := by
        have hlt : decide (s1.c4 < ((x1.length : Nat) : Int)) = false := decide_eq_false (by omega)
        simp only [law06_FreshOrder_L0_c0, hlt, tb_eq, cond_false]
      have nw : fresh_New_i_c0 2 = false := rfl
      obtain ⟨T1, T2⟩ := Take_e1 2 s1.c11 s1.c13 s1.c12 true (!true) b1
      obtain ⟨t1, t2, t3, t4, t5, t6⟩ := take_eq 2 s1.c11 s1.c12 true (!true) b1
      have hr := rjOf_rng 2 s1.c11 s1.c12 true (sealed (bodyF 2 x2 x3))
      have h06 : rjOf 2 s1.c11 s1.c12 true (sealed (bodyF 2 x2 x3)) = 0 ∨ rjOf 2 s1.c11 s1.c12 true (sealed (bodyF 2 x2 x3)) = 6 := by
        unfold rjOf; rw [b2, if_pos rfl]
        repeat' split
        all_goals omega
      have e3 : law06_FreshOrder_S6_e3 x2 x3 x1 = x2 := by simp only [law06_FreshOrder_S6_e3, e0, n2, n4, t5, b2, b3, if_true]
      have e4 : law06_FreshOrder_S6_e4 x2 x3 x1 = true := by simp only [law06_FreshOrder_S6_e4, e0, n2, n4, t6, b2, if_true]
      have hw : wi (((x1.length : Nat) : Int) + 1) = (x1.length : Int) + 1 := wi_eq (by omega) (by omega)
      have e2 : Cnt (law06_FreshOrder_S6_e2 x2 x3 x1) ((x1.length : Int) + 1) := by
        simp only [law06_FreshOrder_S6_e2, e0, n2, n4, T2]
        rw [← hk]
        exact cnt_sta hC (by omega) hr.1 hr.2
      obtain ⟨s4, r4, hJ, hk4, hk39⟩ := order_rounds (x := x3) (n := x4) (m := 61) (s0 := ⟨wi (((x1.length : Nat) : Int) + 1), 0, x2, law06_FreshOrder_S6_e3 x2 x3 x1, law06_FreshOrder_S6_e4 x2 x3 x1, law06_FreshOrder_S6_e2 x2 x3 x1⟩) h8 k32 wx4 (by omega)
        ⟨k16, e3, e4, by show Cnt _ (wi _); rw [hw]; exact e2, by show 0 ≤ wi _; rw [hw]; omega, by show wi _ ≤ _; rw [hw]; show _ ≤ 61 + 2 * (0 : Int); omega⟩ rfl
      have l4 : law06_FreshOrder_L4_ok x3 2 x4 ⟨wi (((x1.length : Nat) : Int) + 1), 0, x2, law06_FreshOrder_S6_e3 x2 x3 x1, law06_FreshOrder_S6_e4 x2 x3 x1, law06_FreshOrder_S6_e2 x2 x3 x1⟩ = true := by simp only [law06_FreshOrder_L4_ok, r4, Option.isSome_some]
      have e6 : law06_FreshOrder_S6_e6 x2 x3 x1 x4 = s4 := by simp only [law06_FreshOrder_S6_e6, law06_FreshOrder_L4_end, r4, Option.getD_some]
      have hlt4 : decide (s4.c2 < wi (remI .u8 x4 40)) = false := decide_eq_false (by omega)
      have l4c : law06_FreshOrder_L4_c0 x3 2 x4 s4 = false := by simp only [law06_FreshOrder_L4_c0, hlt4, tb_eq, cond_false]
      have l4d : law06_FreshOrder_L4_c1 x4 s4 = true := by simp only [law06_FreshOrder_L4_c1, hlt4, tb_eq, cond_false]
      have r5 := cnt_run hJ.c (by have := hJ.hi; omega)
      have l5 : law06_FreshOrder_L5_ok s4.c11 ⟨0, 0⟩ = true := by simp only [law06_FreshOrder_L5_ok, r5, Option.isSome_some]
      have e8 : law06_FreshOrder_S6_e8 x2 x3 x1 x4 = ⟨s4.c1, 7⟩ := by simp only [law06_FreshOrder_S6_e8, e6, law06_FreshOrder_L5_end, r5, Option.getD_some]
      have l5c : law06_FreshOrder_L5_c0 ⟨s4.c1, 7⟩ = true := rfl
      have s6 : law06_FreshOrder_S6_c0 x2 x3 x1 x4 true = false := by
        simp only [law06_FreshOrder_S6_c0, n1, n3', nw, l0, e0, l0c, n2, n4, T1, t4, l4, e6, l4c, tb_eq, cond_true, cond_false]
        rcases h06 with h | h <;> rw [h] <;> rfl
      have s61 : law06_FreshOrder_S6_c1 x2 x3 x1 x4 true = true := by
        simp only [law06_FreshOrder_S6_c1, n1, n3', nw, l0, e0, l0c, n2, n4, T1, t4, l4, e6, l4c, l4d, l5, e8, l5c, tb_eq, cond_true, cond_false]
        rcases h06 with h | h <;> rw [h] <;> rfl
      have s7 : law06_FreshOrder_S7_r0_0 s4.c3 s4.c1 s4.c1 s4.c9 s4.c10 = true := by
        simp only [law06_FreshOrder_S7_r0_0, hJ.b, hJ.e, tb_eq]; simp
      simp only [s6, s61, e6, e8, s7, tb_eq, cond_true, cond_false, and_self]
end Go.Proofs.Ytkipngagfiaddaa.Den

namespace Go.Proofs.Ytkipngagfiaddaa.Den
open Go Go.Proofs
set_option maxRecDepth 100000
theorem own : ownKnob Try.prog.godebug = none := by kernel_rfl
theorem laidOut : laidOutB Try.prog = true := by kernel_rfl
theorem mixed : Try.prog.follows .mixedOrders = true := by kernel_rfl
theorem envOK : EnvOK Try.prog E0 := ⟨e0_cf, ext_ok rfl e0_x, e0_del⟩
theorem glOK (w : World) : GlOK E0 (cx0 w) := fun g cs h => by simp [E0] at h
end Go.Proofs.Ytkipngagfiaddaa.Den

namespace Go.Proofs.Ytkipngagfiaddaa.Den
open Go Go.Proofs Go.ChangeShapes Go.WideShapes Go.ChangeAt Go.RowKit
open Go.Proofs.Ytkipngagfiaddaa (Rows.freshOrderSpec Rows.freshOrderRow Rows.FreshOrderSaid)
set_option maxRecDepth 100000
set_option linter.unusedSimpArgs false
set_option linter.unusedVariables false
theorem row4 (rs : List (List D)) (h : TyAll Try.prog 20 Try.f4.params.toList rs) : ∃ k m', callD E0 k 4 (argsV Try.prog Try.f4.params.toList rs) [] = some ([.d (.bool true)], m') := by
  rw [Try.params4] at h ⊢
  simp only [TyAll] at h
  obtain ⟨_, _, rfl, q0, _, _, rfl, q1, _, _, rfl, q2, rfl⟩ := h
  have k0 := flatK_ok 20 _ _ _ (show flatK Try.prog 20 22 = some [.l 39] by kernel_rfl) q0
  simp only [CellsK, CellK] at k0
  obtain ⟨d0_0, _, rfl, y0_0, rfl⟩ := k0
  obtain ⟨n0_0, a0_0, rfl, v0_0⟩ : ∃ n l, d0_0 = slD enc_R_bool_Su811 false 2 n l ∧ (l.length ≤ maxLen ∧ l.length * 32 ≤ 140737488351232 ∧ ∀ z ∈ l, (z.c2.length ≤ maxLen ∧ z.c2.length * 1 ≤ 140737488351232 ∧ ∀ zz ∈ z.c2, WfI .u8 zz) ∧ True) := by
    rcases y0_0 with rfl | ⟨rows1, rfl, hl1, hb1, m1, hr1⟩
    · exact ⟨true, [], rfl, by simp [maxLen], by simp, fun z hz => by simp at hz⟩
    · obtain ⟨l2, rfl, hw2⟩ : ∃ l : List R_bool_Su811, rows1 = l.map enc_R_bool_Su811 ∧ ∀ z ∈ l, (z.c2.length ≤ maxLen ∧ z.c2.length * 1 ≤ 140737488351232 ∧ ∀ zz ∈ z.c2, WfI .u8 zz) ∧ True := rows_of (T := Ty Try.prog m1 39) (fun r hr => by
          have q := flatK_any (show flatK Try.prog 20 39 = some [.b, .l 5] by kernel_rfl) hr
          simp only [CellsK, CellK] at q
          obtain ⟨_, _, rfl, ⟨b0, rfl⟩, d1, _, rfl, w1, rfl⟩ := q
          obtain ⟨n1, b1, rfl, v1⟩ : ∃ n l, d1 = slD (encI .u8) true 1 n l ∧ (l.length ≤ maxLen ∧ l.length * 1 ≤ 140737488351232 ∧ ∀ z ∈ l, WfI .u8 z) := by
            rcases w1 with rfl | ⟨rows3, rfl, hl3, hb3, m3, hr3⟩
            · exact ⟨true, [], rfl, by simp [maxLen], by simp, fun z hz => by simp at hz⟩
            · obtain ⟨l4, rfl, hw4⟩ : ∃ l : List Int, rows3 = l.map (encI .u8) ∧ ∀ z ∈ l, WfI .u8 z := rows_of (T := Ty Try.prog m3 5) (fun r hr => by
                  have q := flatK_any (show flatK Try.prog 20 5 = some [.i .u8] by kernel_rfl) hr
                  simp only [CellsK, CellK] at q
                  obtain ⟨_, _, rfl, ⟨b0, rfl, w0⟩, rfl⟩ := q
                  exact ⟨b0, rfl, w0⟩) rows3 hr3
              rw [List.length_map, show Try.prog.bytesOf 5 = 1 by kernel_rfl] at hb3
              rw [show isFlat Try.prog 5 = true by kernel_rfl, show Try.prog.cellsOf 5 = 1 by kernel_rfl]
              exact ⟨false, l4, slD_rs _ _ _ _, by simpa using hl3, hb3, hw4⟩
          exact ⟨⟨b0, n1, b1⟩, rfl, ⟨v1, trivial⟩⟩) rows1 hr1
      rw [List.length_map, show Try.prog.bytesOf 39 = 32 by kernel_rfl] at hb1
      rw [show isFlat Try.prog 39 = false by kernel_rfl, show Try.prog.cellsOf 39 = 2 by kernel_rfl]
      exact ⟨false, l2, slD_rs _ _ _ _, by simpa using hl1, hb1, hw2⟩
  have k1 := flatK_ok 20 _ _ _ (show flatK Try.prog 20 33 = some [.i .i64, .i .i64, .i .i64, .i .i64, .i .i64, .i .i64, .i .i64, .i .i64, .i .i64] by kernel_rfl) q1
  simp only [CellsK, CellK] at k1
  obtain ⟨_, _, rfl, ⟨a1_0, rfl, w1_0⟩, _, _, rfl, ⟨a1_1, rfl, w1_1⟩, _, _, rfl, ⟨a1_2, rfl, w1_2⟩, _, _, rfl, ⟨a1_3, rfl, w1_3⟩, _, _, rfl, ⟨a1_4, rfl, w1_4⟩, _, _, rfl, ⟨a1_5, rfl, w1_5⟩, _, _, rfl, ⟨a1_6, rfl, w1_6⟩, _, _, rfl, ⟨a1_7, rfl, w1_7⟩, _, _, rfl, ⟨a1_8, rfl, w1_8⟩, rfl⟩ := k1
  have k2 := flatK_ok 20 _ _ _ (show flatK Try.prog 20 5 = some [.i .u8] by kernel_rfl) q2
  simp only [CellsK, CellK] at k2
  obtain ⟨_, _, rfl, ⟨a2_0, rfl, w2_0⟩, rfl⟩ := k2
  simp only [argsV, argV, Try.underlying5, Try.underlying22, Try.underlying33, List.map_cons, List.map_nil]
  obtain ⟨g1, g2⟩ := pure_FreshOrder n0_0 a0_0 a1_0 [a1_1, a1_2, a1_3, a1_4, a1_5, a1_6, a1_7, a1_8] a2_0 v0_0 w1_0 ⟨rfl, (List.forall_mem_cons.2 ⟨w1_1, (List.forall_mem_cons.2 ⟨w1_2, (List.forall_mem_cons.2 ⟨w1_3, (List.forall_mem_cons.2 ⟨w1_4, (List.forall_mem_cons.2 ⟨w1_5, (List.forall_mem_cons.2 ⟨w1_6, (List.forall_mem_cons.2 ⟨w1_7, (List.forall_mem_cons.2 ⟨w1_8, (fun z hz => by cases hz)⟩)⟩)⟩)⟩)⟩)⟩)⟩)⟩)⟩ w2_0
  have hc := law06_FreshOrder_t0 n0_0 a0_0 a1_0 [a1_1, a1_2, a1_3, a1_4, a1_5, a1_6, a1_7, a1_8] a2_0 g1
  rw [g2] at hc
  obtain ⟨k, hk⟩ := of_cl hc
  exact ⟨k, _, hk⟩
theorem freshOrder_lifted (os : Os) (started : os.Started) (H : Type) (enc : TypeId × Value → H) :
    ReturnsInHanded {} Try.checked os 4 .any (Rows.freshOrderSpec.pre6 enc Try.prog Try.f4 Rows.freshOrderRow.domain false) (Rows.freshOrderSpec.post enc Try.prog Try.f4 false true false false) :=
  law_lifted (C := Try.checked) (fn := Try.f4) mixed envOK glOK own started (by kernel_rfl) Try.func4 laidOut
    (ChangeSpec.witness6 (enc := enc) (C := Try.checked) false ⟨#[], #[.slice none 0 0, .agg #[.int .i64 0, .int .i64 0, .int .i64 0, .int .i64 0, .int .i64 0, .int .i64 0, .int .i64 0, .int .i64 0, .int .i64 0], .int .u8 0], []⟩ 8 (by kernel_rfl) (by kernel_rfl) (by kernel_rfl) (by kernel_rfl))
    (by kernel_rfl) (rt := 4) rfl Try.underlying4 rfl
    (fun ds h => by
      match ds, h with
      | [_, _, _], _ => rfl)
    row4
theorem freshOrder_holds : Rows.FreshOrderSaid :=
  OpenClaim.holds_of_wide 4 Try.f4 rfl rfl rfl rfl rfl rfl rfl ⟨rfl, rfl, rfl, rfl, rfl⟩ rfl rfl rfl rfl rfl (by kernel_rfl) Try.func4 (by kernel_rfl)
    (of_decide_eq_true (by kernel_rfl)) (by unfold Func.isWrapper; first | (rw [if_pos (by decide +kernel)]; kernel_rfl) | (rw [if_neg (by decide +kernel)]; exact ⟨rfl, rfl⟩))
    (fun os started H enc _ => freshOrder_lifted os started H enc)
end Go.Proofs.Ytkipngagfiaddaa.Den
