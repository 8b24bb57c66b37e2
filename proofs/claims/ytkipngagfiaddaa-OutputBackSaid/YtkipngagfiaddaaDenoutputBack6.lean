/- OutputBack: part 6 of what its proof rests on: an evaluator of the program's code, proved sound; plain functions printed from the code by a program of this session, with proofs; plain laws. No condition. -/
import Derived.Test.YtkipngagfiaddaaDenoutputBack5
import Derived.Test.YtkipngagfiaddaaRows

namespace Go.Proofs.Ytkipngagfiaddaa.Den
open Go Go.Proofs
set_option maxRecDepth 100000
set_option maxHeartbeats 4000000
set_option linter.unusedVariables false
set_option linter.unusedSimpArgs false
def crc_More_io_S0_c0 (x0 : Int) : Bool := (bif tb (decide (x0 < 0)) then true else (bif tb (decide (65535 < x0)) then true else false))
theorem crc_More_io_S0_t0 (x0 : Int) (x1 : Bool) (x2 : Bool) (x3 : List Int) : crc_More_io_S0_c0 x0 = true → segG (runC E0 (cl E0) S73_0) [1, 2] [4] [1, 2] 1 ([(V.d (slD (encI .u8) true 1 x2 x3)), (V.ptr 0 1 0 0)], [(Blk.flat 3 1 [[(.int .i64 x0)]] x1)]) = some (.ret, ([(V.d (.int .i64 0))], [(Blk.flat 3 1 [[(.int .i64 x0)]] x1)])) := by
  unfold crc_More_io_S0_c0
  cases h1 : tb (decide (x0 < 0))
  · cases h2 : tb (decide (65535 < x0))
    · intro g0
      exact absurd g0 ft
    · intro g0
      exact seg_walk [.b (tbE h1), .b (tbE h2)] (by kernel_rfl)
  · intro g0
    exact seg_walk [.b (tbE h1)] (by kernel_rfl)
theorem crc_More_io_S0_t1 (x0 : Int) (x1 : Bool) (x2 : Bool) (x3 : List Int) : crc_More_io_S0_c0 x0 = false → segG (runC E0 (cl E0) S73_0) [1, 2] [4] [1, 2] 1 ([(V.d (slD (encI .u8) true 1 x2 x3)), (V.ptr 0 1 0 0)], [(Blk.flat 3 1 [[(.int .i64 x0)]] x1)]) = some (.normal, ([(V.d (slD (encI .u8) true 1 x2 x3)), (V.ptr 0 1 0 0)], [(Blk.flat 3 1 [[(.int .i64 x0)]] x1)])) := by
  unfold crc_More_io_S0_c0
  cases h1 : tb (decide (x0 < 0))
  · cases h2 : tb (decide (65535 < x0))
    · intro g0
      exact seg_walk [.b (tbE h1), .b (tbE h2)] (by kernel_rfl)
    · intro g0
      exact absurd g0 tf
  · intro g0
    exact absurd g0 tf
def crc_More_c1_p_Fi_r0_0 (x0 : Int) : Int := (bif tb (((andI .i64 x0 32768) : Int) != 0) then (xorI .i64 (andI .i64 (shlI .i64 x0 1) 65535) 4129) else (andI .i64 (shlI .i64 x0 1) 65535))
theorem crc_More_c1_p_Fi_t0 (x0 : Int) : cl E0 77 [(V.ptr 0 1 0 0)] [(Blk.flat 3 1 [[(.int .i64 x0)]] false)] = some ([], [(Blk.flat 3 1 [[(.int .i64 (crc_More_c1_p_Fi_r0_0 x0))]] false)]) := by
  unfold crc_More_c1_p_Fi_r0_0
  cases h1 : tb (((andI .i64 x0 32768) : Int) != 0)
  · exact w77 [.o 6 (fun _ => o_shl (k := .i64) (k2 := .u64) (x := x0) (y := 1) rfl), .b (tbE h1)] (by kernel_rfl)
  · exact w77 [.o 6 (fun _ => o_shl (k := .i64) (k2 := .u64) (x := x0) (y := 1) rfl), .b (tbE h1)] (by kernel_rfl)
structure crc_More_io_L1_s0 where
  c4 : Int
  c5 : Int
  deriving Inhabited
def crc_More_io_L1_enc (x0 : Int) (x1 : Bool) (x2 : Bool) (x3 : List Int) (x4 : Int) (x5 : Int) (x6 : Int) (s0 : crc_More_io_L1_s0) : List V × Mem := ([(V.ptr 0 1 0 0), (V.fn (.func 77) [] [(V.ptr 0 1 0 0)]), (V.d (slD (encI .u8) true 1 x2 x3)), (V.d (.int .i64 x4)), (V.d (.int .i64 x5)), (V.d (.int .i64 s0.c4))], [(Blk.flat 3 1 [[(.int .i64 s0.c5)]] false)])
def crc_More_io_L1_sel  (s0 : crc_More_io_L1_s0) : Bool := (bif tb (decide (s0.c4 < 8)) then true else false)
def crc_More_io_L1_nx  (s0 : crc_More_io_L1_s0) : crc_More_io_L1_s0 := ⟨(wi (s0.c4 + 1)), (crc_More_c1_p_Fi_r0_0 s0.c5)⟩
def crc_More_io_L1_ok  (s0 : crc_More_io_L1_s0) : Bool := (itS (crc_More_io_L1_sel ) (crc_More_io_L1_nx ) bound s0).isSome
def crc_More_io_L1_end  (s0 : crc_More_io_L1_s0) : crc_More_io_L1_s0 := (itS (crc_More_io_L1_sel ) (crc_More_io_L1_nx ) bound s0).getD default
theorem crc_More_io_L1_go (x0 : Int) (x1 : Bool) (x2 : Bool) (x3 : List Int) (x4 : Int) (x5 : Int) (x6 : Int) (s0 : crc_More_io_L1_s0) : crc_More_io_L1_sel  s0 = true → (roundG (runC E0 (cl E0) L73_1) [2, 5, 15, 16, 17, 26] [2, 5, 15, 16, 17] 1) (crc_More_io_L1_enc x0 x1 x2 x3 x4 x5 x6 s0) = some (.normal, crc_More_io_L1_enc x0 x1 x2 x3 x4 x5 x6 (crc_More_io_L1_nx  s0)) := by
  unfold crc_More_io_L1_sel crc_More_io_L1_nx
  cases h1 : tb (decide (s0.c4 < 8))
  · intro g0
    exact absurd g0 ft
  · intro _
    exact round_walk [.b (tbE h1), .c (crc_More_c1_p_Fi_t0 s0.c5)] (by kernel_rfl)
theorem crc_More_io_L1_x0 (x0 : Int) (x1 : Bool) (x2 : Bool) (x3 : List Int) (x4 : Int) (x5 : Int) (x6 : Int) (s0 : crc_More_io_L1_s0) : crc_More_io_L1_sel  s0 = false → (roundG (runC E0 (cl E0) L73_1) [2, 5, 15, 16, 17, 26] [2, 5, 15, 16, 17] 1) (crc_More_io_L1_enc x0 x1 x2 x3 x4 x5 x6 s0) = some ((.exit 2), ([(V.ptr 0 1 0 0), (V.fn (.func 77) [] [(V.ptr 0 1 0 0)]), (V.d (slD (encI .u8) true 1 x2 x3)), (V.d (.int .i64 x4)), (V.d (.int .i64 x5))], [(Blk.flat 3 1 [[(.int .i64 s0.c5)]] false)])) := by
  unfold crc_More_io_L1_sel
  cases h1 : tb (decide (s0.c4 < 8))
  · intro g0
    exact round_walk [.b (tbE h1)] (by kernel_rfl)
  · intro g0
    exact absurd g0 tf
theorem crc_More_io_L1_f0_0 (x0 : Int) (x1 : Bool) (x2 : Bool) (x3 : List Int) (x4 : Int) (x5 : Int) (x6 : Int) (s : crc_More_io_L1_s0) (hok : crc_More_io_L1_ok  s = true) : loopG (roundG (runC E0 (cl E0) L73_1) [2, 5, 15, 16, 17, 26] [2, 5, 15, 16, 17] 1) bound (crc_More_io_L1_enc x0 x1 x2 x3 x4 x5 x6 s) = some ((.exit 2), ([(V.ptr 0 1 0 0), (V.fn (.func 77) [] [(V.ptr 0 1 0 0)]), (V.d (slD (encI .u8) true 1 x2 x3)), (V.d (.int .i64 x4)), (V.d (.int .i64 x5))], [(Blk.flat 3 1 [[(.int .i64 ((crc_More_io_L1_end  s).c5))]] false)])) := by
  have e : itS (crc_More_io_L1_sel ) (crc_More_io_L1_nx ) bound s = some (crc_More_io_L1_end  s) := itS_get hok
  have f := itS_false e
  exact loop_it (crc_More_io_L1_go x0 x1 x2 x3 x4 x5 x6) bound s _ _ _ e (fun h => by cases h) (crc_More_io_L1_x0 x0 x1 x2 x3 x4 x5 x6 (crc_More_io_L1_end  s) f )
structure crc_More_io_L2_s0 where
  c3 : Int
  c4 : Int
  deriving Inhabited
def crc_More_io_L2_h0_e0 (x3 : List Int) (s0 : crc_More_io_L2_s0) : crc_More_io_L1_s0 := crc_More_io_L1_end  (⟨0, (xorI .i64 s0.c4 (shlI .i64 (wi (gt x3 s0.c3)) 8))⟩ : crc_More_io_L1_s0)
def crc_More_io_L2_enc (x0 : Int) (x1 : Bool) (x2 : Bool) (x3 : List Int) (x4 : Int) (x5 : Int) (s0 : crc_More_io_L2_s0) : List V × Mem := ([(V.ptr 0 1 0 0), (V.fn (.func 77) [] [(V.ptr 0 1 0 0)]), (V.d (slD (encI .u8) true 1 x2 x3)), (V.d (.int .i64 x4)), (V.d (.int .i64 s0.c3))], [(Blk.flat 3 1 [[(.int .i64 s0.c4)]] false)])
def crc_More_io_L2_sel (x3 : List Int) (x4 : Int) (s0 : crc_More_io_L2_s0) : Bool := (bif tb (decide (s0.c3 < x4)) then (bif tb (inb x3.length s0.c3) then (bif tb (crc_More_io_L1_ok  (⟨0, (xorI .i64 s0.c4 (shlI .i64 (wi (gt x3 s0.c3)) 8))⟩ : crc_More_io_L1_s0)) then true else false) else false) else false)
def crc_More_io_L2_nx (x3 : List Int) (x4 : Int) (s0 : crc_More_io_L2_s0) : crc_More_io_L2_s0 := ⟨(wi (s0.c3 + 1)), ((crc_More_io_L2_h0_e0 x3 s0).c5)⟩
def crc_More_io_L2_ok (x3 : List Int) (x4 : Int) (s0 : crc_More_io_L2_s0) : Bool := (itS (crc_More_io_L2_sel x3 x4) (crc_More_io_L2_nx x3 x4) bound s0).isSome
def crc_More_io_L2_end (x3 : List Int) (x4 : Int) (s0 : crc_More_io_L2_s0) : crc_More_io_L2_s0 := (itS (crc_More_io_L2_sel x3 x4) (crc_More_io_L2_nx x3 x4) bound s0).getD default
theorem crc_More_io_L2_go (x0 : Int) (x1 : Bool) (x2 : Bool) (x3 : List Int) (x4 : Int) (x5 : Int) (s0 : crc_More_io_L2_s0) : crc_More_io_L2_sel x3 x4 s0 = true → (roundG (runC E0 (cl E0) L73_2) [2, 5, 15, 16, 17] [2] 1) (crc_More_io_L2_enc x0 x1 x2 x3 x4 x5 s0) = some (.normal, crc_More_io_L2_enc x0 x1 x2 x3 x4 x5 (crc_More_io_L2_nx x3 x4 s0)) := by
  unfold crc_More_io_L2_sel crc_More_io_L2_nx
  cases h1 : tb (decide (s0.c3 < x4))
  · intro g0
    exact absurd g0 ft
  · cases h2 : tb (inb x3.length s0.c3)
    · intro g0
      exact absurd g0 ft
    · cases h3 : tb (crc_More_io_L1_ok  (⟨0, (xorI .i64 s0.c4 (shlI .i64 (wi (gt x3 s0.c3)) 8))⟩ : crc_More_io_L1_s0))
      · intro g0
        exact absurd g0 ft
      · intro _
        exact round_walk [.b (tbE h1), .o 19 (fun _ => o_idx_os (enc := (encI .u8)) (l := x3) (fl := true) (n := x2) (s := 1) (k := .i64) (tbE h2)), .o 24 (fun _ => o_shl (k := .i64) (k2 := .u64) (x := (wi (gt x3 s0.c3))) (y := 8) rfl), .l (crc_More_io_L1_f0_0 (xorI .i64 s0.c4 (shlI .i64 (wi (gt x3 s0.c3)) 8)) false x2 x3 x4 s0.c3 0 (⟨0, (xorI .i64 s0.c4 (shlI .i64 (wi (gt x3 s0.c3)) 8))⟩ : crc_More_io_L1_s0) (tbE h3))] (by kernel_rfl)
def crc_More_io_L2_c0 (x4 : Int) (s0 : crc_More_io_L2_s0) : Bool := (bif tb (decide (s0.c3 < x4)) then false else true)
theorem crc_More_io_L2_x0 (x0 : Int) (x1 : Bool) (x2 : Bool) (x3 : List Int) (x4 : Int) (x5 : Int) (s0 : crc_More_io_L2_s0) : crc_More_io_L2_sel x3 x4 s0 = false → crc_More_io_L2_c0 x4 s0 = true → (roundG (runC E0 (cl E0) L73_2) [2, 5, 15, 16, 17] [2] 1) (crc_More_io_L2_enc x0 x1 x2 x3 x4 x5 s0) = some ((.exit 0), ([(V.ptr 0 1 0 0)], [(Blk.flat 3 1 [[(.int .i64 s0.c4)]] false)])) := by
  unfold crc_More_io_L2_sel crc_More_io_L2_c0
  cases h1 : tb (decide (s0.c3 < x4))
  · intro g0 g1
    exact round_walk [.b (tbE h1)] (by kernel_rfl)
  · cases h2 : tb (inb x3.length s0.c3)
    · intro g0 g1
      exact absurd g1 ft
    · cases h3 : tb (crc_More_io_L1_ok  (⟨0, (xorI .i64 s0.c4 (shlI .i64 (wi (gt x3 s0.c3)) 8))⟩ : crc_More_io_L1_s0))
      · intro g0 g1
        exact absurd g1 ft
      · intro g0 g1
        exact absurd g0 tf
theorem crc_More_io_L2_f0_0 (x0 : Int) (x1 : Bool) (x2 : Bool) (x3 : List Int) (x4 : Int) (x5 : Int) (s : crc_More_io_L2_s0) (hok : crc_More_io_L2_ok x3 x4 s = true) (c0 : crc_More_io_L2_c0 x4 (crc_More_io_L2_end x3 x4 s) = true) : loopG (roundG (runC E0 (cl E0) L73_2) [2, 5, 15, 16, 17] [2] 1) bound (crc_More_io_L2_enc x0 x1 x2 x3 x4 x5 s) = some ((.exit 0), ([(V.ptr 0 1 0 0)], [(Blk.flat 3 1 [[(.int .i64 ((crc_More_io_L2_end x3 x4 s).c4))]] false)])) := by
  have e : itS (crc_More_io_L2_sel x3 x4) (crc_More_io_L2_nx x3 x4) bound s = some (crc_More_io_L2_end x3 x4 s) := itS_get hok
  have f := itS_false e
  exact loop_it (crc_More_io_L2_go x0 x1 x2 x3 x4 x5) bound s _ _ _ e (fun h => by cases h) (crc_More_io_L2_x0 x0 x1 x2 x3 x4 x5 (crc_More_io_L2_end x3 x4 s) f c0)
def crc_More_io_S3_e0 (x0 : Int) (x3 : List Int) : crc_More_io_L2_s0 := crc_More_io_L2_end x3 ((x3.length : Nat) : Int) (⟨0, x0⟩ : crc_More_io_L2_s0)
def crc_More_io_S3_c0 (x0 : Int) (x3 : List Int) : Bool := (bif tb (crc_More_io_L2_ok x3 ((x3.length : Nat) : Int) (⟨0, x0⟩ : crc_More_io_L2_s0)) then (bif tb (crc_More_io_L2_c0 ((x3.length : Nat) : Int) (crc_More_io_S3_e0 x0 x3)) then true else false) else false)
theorem crc_More_io_S3_t0 (x0 : Int) (x2 : Bool) (x3 : List Int) : crc_More_io_S3_c0 x0 x3 = true → segG (runC E0 (cl E0) S73_3) [1, 2, 5] [] [2] 1 ([(V.d (slD (encI .u8) true 1 x2 x3)), (V.ptr 0 1 0 0), (V.fn (.func 77) [] [(V.ptr 0 1 0 0)])], [(Blk.flat 3 1 [[(.int .i64 x0)]] false)]) = some (.normal, ([(V.ptr 0 1 0 0)], [(Blk.flat 3 1 [[(.int .i64 ((crc_More_io_S3_e0 x0 x3).c4))]] false)])) := by
  unfold crc_More_io_S3_c0
  cases h1 : tb (crc_More_io_L2_ok x3 ((x3.length : Nat) : Int) (⟨0, x0⟩ : crc_More_io_L2_s0))
  · intro g0
    exact absurd g0 ft
  · cases h2 : tb (crc_More_io_L2_c0 ((x3.length : Nat) : Int) (crc_More_io_S3_e0 x0 x3))
    · intro g0
      exact absurd g0 ft
    · intro g0
      exact seg_walk [.o 16 (fun _ => o_len_os (enc := (encI .u8)) (l := x3) (fl := true) (n := x2) (s := 1)), .l (crc_More_io_L2_f0_0 x0 false x2 x3 ((x3.length : Nat) : Int) 0 (⟨0, x0⟩ : crc_More_io_L2_s0) (tbE h1) (tbE h2))] (by kernel_rfl)
def crc_More_io_c0 (x0 : Int) (x2 : List Int) : Bool := (bif tb (crc_More_io_S0_c0 x0) then true else (bif tb (crc_More_io_S3_c0 x0 x2) then true else false))
def crc_More_io_r0_0 (x0 : Int) (x2 : List Int) : Int := (bif tb (crc_More_io_S0_c0 x0) then 0 else ((crc_More_io_S3_e0 x0 x2).c4))
theorem crc_More_io_t0 (x0 : Int) (x1 : Bool) (x2 : List Int) : crc_More_io_c0 x0 x2 = true → cl E0 73 [(V.d (.int .i64 x0)), (V.d (slD (encI .u8) true 1 x1 x2))] [] = some ([(V.d (.int .i64 (crc_More_io_r0_0 x0 x2)))], []) := by
  unfold crc_More_io_c0 crc_More_io_r0_0
  cases h1 : tb (crc_More_io_S0_c0 x0)
  · cases h2 : tb (crc_More_io_S3_c0 x0 x2)
    · intro g0
      exact absurd g0 ft
    · intro g0
      exact w73 [.s (crc_More_io_S0_t1 x0 false x1 x2 (tbE h1)), .s (crc_More_io_S3_t0 x0 x1 x2 (tbE h2))] (by kernel_rfl)
  · intro g0
    exact w73 [.s (crc_More_io_S0_t0 x0 false x1 x2 (tbE h1))] (by kernel_rfl)
def crc_Sum_o_c0 (x1 : List Int) : Bool := (bif tb (crc_More_io_c0 65535 x1) then true else false)
theorem crc_Sum_o_t0 (x0 : Bool) (x1 : List Int) : crc_Sum_o_c0 x1 = true → cl E0 58 [(V.d (slD (encI .u8) true 1 x0 x1))] [] = some ([(V.d (.int .i64 (crc_More_io_r0_0 65535 x1)))], []) := by
  unfold crc_Sum_o_c0
  cases h1 : tb (crc_More_io_c0 65535 x1)
  · intro g0
    exact absurd g0 ft
  · intro g0
    exact w58 [.c (crc_More_io_t0 65535 x0 x1 (tbE h1))] (by kernel_rfl)
def crc_Seal_o_e0 (x0 : Bool) (x1 : List Int) : List Int := ((slices_Clone_byte_o_r0_1 x0 x1) ++ [(IntKind.u8.wrap (shrI .i64 (crc_More_io_r0_0 65535 x1) 8)), (IntKind.u8.wrap ((crc_More_io_r0_0 65535 x1)))])
def crc_Seal_o_c0 (x0 : Bool) (x1 : List Int) : Bool := (bif tb (crc_Sum_o_c0 x1) then (bif tb (slices_Clone_byte_o_c0 x0 x1) then (bif tb (decide (((slices_Clone_byte_o_r0_1 x0 x1).length + [(IntKind.u8.wrap (shrI .i64 (crc_More_io_r0_0 65535 x1) 8)), (IntKind.u8.wrap ((crc_More_io_r0_0 65535 x1)))].length) * 1 ≤ 140737488355328)) then true else false) else false) else false)
theorem crc_Seal_o_t0 (x0 : Bool) (x1 : List Int) : crc_Seal_o_c0 x0 x1 = true → cl E0 31 [(V.d (slD (encI .u8) true 1 x0 x1))] [] = some ([(V.so false 0 ((crc_Seal_o_e0 x0 x1).length))], [(Blk.flat 5 1 (List.map (encI .u8) (crc_Seal_o_e0 x0 x1)) false)]) := by
  unfold crc_Seal_o_c0
  cases h1 : tb (crc_Sum_o_c0 x1)
  · intro g0
    exact absurd g0 ft
  · cases h2 : tb (slices_Clone_byte_o_c0 x0 x1)
    · intro g0
      exact absurd g0 ft
    · cases h3 : tb (decide (((slices_Clone_byte_o_r0_1 x0 x1).length + [(IntKind.u8.wrap (shrI .i64 (crc_More_io_r0_0 65535 x1) 8)), (IntKind.u8.wrap ((crc_More_io_r0_0 65535 x1)))].length) * 1 ≤ 140737488355328))
      · intro g0
        exact absurd g0 ft
      · intro g0
        exact w31 [.c (crc_Sum_o_t0 x0 x1 (tbE h1)), .c (slices_Clone_byte_o_t0 x0 x1 (tbE h2)), .o 9 (fun _ => o_shr (k := .i64) (k2 := .u64) (x := (crc_More_io_r0_0 65535 x1)) (y := 8) rfl), .m 14 (o_app_so (nl := (slices_Clone_byte_o_r0_0 x0 x1)) (m := [(Blk.flat 5 1 [] false), (Blk.flat 5 1 (List.map (encI .u8) (slices_Clone_byte_o_r0_1 x0 x1)) false), (Blk.flat 5 1 [[(.int .u8 (IntKind.u8.wrap (shrI .i64 (crc_More_io_r0_0 65535 x1) 8)))], [(.int .u8 (IntKind.u8.wrap ((crc_More_io_r0_0 65535 x1))))]] false)]) (enc := (encI .u8)) (l0 := (slices_Clone_byte_o_r0_1 x0 x1)) (l1 := [(IntKind.u8.wrap (shrI .i64 (crc_More_io_r0_0 65535 x1) 8)), (IntKind.u8.wrap ((crc_More_io_r0_0 65535 x1)))]) (id := 1) (e := 5) (s := 1) (bytes := 1) (x := (V.so false 2 2)) (n := ((slices_Clone_byte_o_r0_1 x0 x1).length)) (Nat.beq_refl _) (by kernel_rfl) (by kernel_rfl) (by kernel_rfl) (tbE h3))] (by kernel_rfl)
end Go.Proofs.Ytkipngagfiaddaa.Den

namespace Go.Proofs.Ytkipngagfiaddaa.Den
open Go Go.Proofs
set_option maxRecDepth 100000
set_option maxHeartbeats 4000000
set_option linter.unusedVariables false
set_option linter.unusedSimpArgs false
structure ref03_cross_ii_L0_s0 where
  c0 : Int
  c1 : Int
  c2 : Int
  c3 : Int
  c4 : Int
  deriving Inhabited
structure ref03_More_io_L1_s0 where
  c2 : Int
  c4 : Int
  deriving Inhabited
structure ref03_More_io_L2_s0 where
  c2 : Int
  c3 : Int
  deriving Inhabited
structure ref03_Same_oo_L0_s0 where
  c4 : Int
  deriving Inhabited
def ref03_Same_oo_L0_enc (x0 : Bool) (x1 : List Int) (x2 : Bool) (x3 : List Int) (x4 : Int) (s0 : ref03_Same_oo_L0_s0) : List V × Mem := ([(V.d (slD (encI .u8) true 1 x0 x1)), (V.d (slD (encI .u8) true 1 x2 x3)), (V.d (.int .i64 s0.c4))], [])
def ref03_Same_oo_L0_sel (x1 : List Int) (x3 : List Int) (s0 : ref03_Same_oo_L0_s0) : Bool := (bif tb (decide (s0.c4 < ((x1.length : Nat) : Int))) then (bif tb (inb x1.length s0.c4) then (bif tb (inb x3.length s0.c4) then (bif tb (((gt x1 s0.c4) : Int) != (gt x3 s0.c4)) then false else true) else false) else false) else false)
def ref03_Same_oo_L0_nx (x1 : List Int) (x3 : List Int) (s0 : ref03_Same_oo_L0_s0) : ref03_Same_oo_L0_s0 := ⟨(wi (s0.c4 + 1))⟩
def ref03_Same_oo_L0_ok (x1 : List Int) (x3 : List Int) (s0 : ref03_Same_oo_L0_s0) : Bool := (itS (ref03_Same_oo_L0_sel x1 x3) (ref03_Same_oo_L0_nx x1 x3) bound s0).isSome
def ref03_Same_oo_L0_end (x1 : List Int) (x3 : List Int) (s0 : ref03_Same_oo_L0_s0) : ref03_Same_oo_L0_s0 := (itS (ref03_Same_oo_L0_sel x1 x3) (ref03_Same_oo_L0_nx x1 x3) bound s0).getD default
theorem ref03_Same_oo_L0_go (x0 : Bool) (x1 : List Int) (x2 : Bool) (x3 : List Int) (x4 : Int) (s0 : ref03_Same_oo_L0_s0) : ref03_Same_oo_L0_sel x1 x3 s0 = true → (roundG (runC E0 (cl E0) L20_0) [0, 1, 5] [4] 0) (ref03_Same_oo_L0_enc x0 x1 x2 x3 x4 s0) = some (.normal, ref03_Same_oo_L0_enc x0 x1 x2 x3 x4 (ref03_Same_oo_L0_nx x1 x3 s0)) := by
  unfold ref03_Same_oo_L0_sel ref03_Same_oo_L0_nx
  cases h1 : tb (decide (s0.c4 < ((x1.length : Nat) : Int)))
  · intro g0
    exact absurd g0 ft
  · cases h2 : tb (inb x1.length s0.c4)
    · intro g0
      exact absurd g0 ft
    · cases h3 : tb (inb x3.length s0.c4)
      · intro g0
        exact absurd g0 ft
      · cases h4 : tb (((gt x1 s0.c4) : Int) != (gt x3 s0.c4))
        · intro _
          exact round_walk [.o 13 (fun _ => o_len_os (enc := (encI .u8)) (l := x1) (fl := true) (n := x0) (s := 1)), .b (tbE h1), .o 19 (fun _ => o_idx_os (enc := (encI .u8)) (l := x1) (fl := true) (n := x0) (s := 1) (k := .i64) (tbE h2)), .o 23 (fun _ => o_idx_os (enc := (encI .u8)) (l := x3) (fl := true) (n := x2) (s := 1) (k := .i64) (tbE h3)), .b (tbE h4)] (by kernel_rfl)
        · intro g0
          exact absurd g0 ft
def ref03_Same_oo_L0_c0 (x1 : List Int) (x3 : List Int) (s0 : ref03_Same_oo_L0_s0) : Bool := (bif tb (decide (s0.c4 < ((x1.length : Nat) : Int))) then (bif tb (inb x1.length s0.c4) then (bif tb (inb x3.length s0.c4) then true else false) else false) else false)
def ref03_Same_oo_L0_c1 (x1 : List Int) (s0 : ref03_Same_oo_L0_s0) : Bool := (bif tb (decide (s0.c4 < ((x1.length : Nat) : Int))) then false else true)
theorem ref03_Same_oo_L0_x0 (x0 : Bool) (x1 : List Int) (x2 : Bool) (x3 : List Int) (x4 : Int) (s0 : ref03_Same_oo_L0_s0) : ref03_Same_oo_L0_sel x1 x3 s0 = false → ref03_Same_oo_L0_c0 x1 x3 s0 = true → (roundG (runC E0 (cl E0) L20_0) [0, 1, 5] [4] 0) (ref03_Same_oo_L0_enc x0 x1 x2 x3 x4 s0) = some (.ret, ([(V.d (.bool false))], [])) := by
  unfold ref03_Same_oo_L0_sel ref03_Same_oo_L0_c0
  cases h1 : tb (decide (s0.c4 < ((x1.length : Nat) : Int)))
  · intro g0 g1
    exact absurd g1 ft
  · cases h2 : tb (inb x1.length s0.c4)
    · intro g0 g1
      exact absurd g1 ft
    · cases h3 : tb (inb x3.length s0.c4)
      · intro g0 g1
        exact absurd g1 ft
      · cases h4 : tb (((gt x1 s0.c4) : Int) != (gt x3 s0.c4))
        · intro g0 g1
          exact absurd g0 tf
        · intro g0 g1
          exact round_walk [.o 13 (fun _ => o_len_os (enc := (encI .u8)) (l := x1) (fl := true) (n := x0) (s := 1)), .b (tbE h1), .o 19 (fun _ => o_idx_os (enc := (encI .u8)) (l := x1) (fl := true) (n := x0) (s := 1) (k := .i64) (tbE h2)), .o 23 (fun _ => o_idx_os (enc := (encI .u8)) (l := x3) (fl := true) (n := x2) (s := 1) (k := .i64) (tbE h3)), .b (tbE h4)] (by kernel_rfl)
theorem ref03_Same_oo_L0_x1 (x0 : Bool) (x1 : List Int) (x2 : Bool) (x3 : List Int) (x4 : Int) (s0 : ref03_Same_oo_L0_s0) : ref03_Same_oo_L0_sel x1 x3 s0 = false → ref03_Same_oo_L0_c0 x1 x3 s0 = false → ref03_Same_oo_L0_c1 x1 s0 = true → (roundG (runC E0 (cl E0) L20_0) [0, 1, 5] [4] 0) (ref03_Same_oo_L0_enc x0 x1 x2 x3 x4 s0) = some ((.exit 0), ([V.un], [])) := by
  unfold ref03_Same_oo_L0_sel ref03_Same_oo_L0_c0 ref03_Same_oo_L0_c1
  cases h1 : tb (decide (s0.c4 < ((x1.length : Nat) : Int)))
  · intro g0 g1 g2
    exact round_walk [.o 13 (fun _ => o_len_os (enc := (encI .u8)) (l := x1) (fl := true) (n := x0) (s := 1)), .b (tbE h1)] (by kernel_rfl)
  · cases h2 : tb (inb x1.length s0.c4)
    · intro g0 g1 g2
      exact absurd g2 ft
    · cases h3 : tb (inb x3.length s0.c4)
      · intro g0 g1 g2
        exact absurd g2 ft
      · cases h4 : tb (((gt x1 s0.c4) : Int) != (gt x3 s0.c4))
        · intro g0 g1 g2
          exact absurd g0 tf
        · intro g0 g1 g2
          exact absurd g1 tf
theorem ref03_Same_oo_L0_f0_0 (x0 : Bool) (x1 : List Int) (x2 : Bool) (x3 : List Int) (x4 : Int) (s : ref03_Same_oo_L0_s0) (hok : ref03_Same_oo_L0_ok x1 x3 s = true) (c0 : ref03_Same_oo_L0_c0 x1 x3 (ref03_Same_oo_L0_end x1 x3 s) = true) : loopG (roundG (runC E0 (cl E0) L20_0) [0, 1, 5] [4] 0) bound (ref03_Same_oo_L0_enc x0 x1 x2 x3 x4 s) = some (.ret, ([(V.d (.bool false))], [])) := by
  have e : itS (ref03_Same_oo_L0_sel x1 x3) (ref03_Same_oo_L0_nx x1 x3) bound s = some (ref03_Same_oo_L0_end x1 x3 s) := itS_get hok
  have f := itS_false e
  exact loop_it (ref03_Same_oo_L0_go x0 x1 x2 x3 x4) bound s _ _ _ e (fun h => by cases h) (ref03_Same_oo_L0_x0 x0 x1 x2 x3 x4 (ref03_Same_oo_L0_end x1 x3 s) f c0)
theorem ref03_Same_oo_L0_f0_1 (x0 : Bool) (x1 : List Int) (x2 : Bool) (x3 : List Int) (x4 : Int) (s : ref03_Same_oo_L0_s0) (hok : ref03_Same_oo_L0_ok x1 x3 s = true) (c0 : ref03_Same_oo_L0_c0 x1 x3 (ref03_Same_oo_L0_end x1 x3 s) = false) (c1 : ref03_Same_oo_L0_c1 x1 (ref03_Same_oo_L0_end x1 x3 s) = true) : loopG (roundG (runC E0 (cl E0) L20_0) [0, 1, 5] [4] 0) bound (ref03_Same_oo_L0_enc x0 x1 x2 x3 x4 s) = some ((.exit 0), ([V.un], [])) := by
  have e : itS (ref03_Same_oo_L0_sel x1 x3) (ref03_Same_oo_L0_nx x1 x3) bound s = some (ref03_Same_oo_L0_end x1 x3 s) := itS_get hok
  have f := itS_false e
  exact loop_it (ref03_Same_oo_L0_go x0 x1 x2 x3 x4) bound s _ _ _ e (fun h => by cases h) (ref03_Same_oo_L0_x1 x0 x1 x2 x3 x4 (ref03_Same_oo_L0_end x1 x3 s) f c0 c1)
def ref03_Same_oo_c0 (x1 : List Int) (x3 : List Int) : Bool := (bif tb ((((x1.length : Nat) : Int) : Int) != ((x3.length : Nat) : Int)) then true else (bif tb (ref03_Same_oo_L0_ok x1 x3 (⟨0⟩ : ref03_Same_oo_L0_s0)) then (bif tb (ref03_Same_oo_L0_c0 x1 x3 (ref03_Same_oo_L0_end x1 x3 (⟨0⟩ : ref03_Same_oo_L0_s0))) then true else (bif tb (ref03_Same_oo_L0_c1 x1 (ref03_Same_oo_L0_end x1 x3 (⟨0⟩ : ref03_Same_oo_L0_s0))) then true else false)) else false))
def ref03_Same_oo_r0_0 (x1 : List Int) (x3 : List Int) : Bool := (bif tb ((((x1.length : Nat) : Int) : Int) != ((x3.length : Nat) : Int)) then false else (bif tb (ref03_Same_oo_L0_c0 x1 x3 (ref03_Same_oo_L0_end x1 x3 (⟨0⟩ : ref03_Same_oo_L0_s0))) then false else true))
theorem ref03_Same_oo_t0 (x0 : Bool) (x1 : List Int) (x2 : Bool) (x3 : List Int) : ref03_Same_oo_c0 x1 x3 = true → cl E0 20 [(V.d (slD (encI .u8) true 1 x0 x1)), (V.d (slD (encI .u8) true 1 x2 x3))] [] = some ([(V.d (.bool (ref03_Same_oo_r0_0 x1 x3)))], []) := by
  unfold ref03_Same_oo_c0 ref03_Same_oo_r0_0
  cases h1 : tb ((((x1.length : Nat) : Int) : Int) != ((x3.length : Nat) : Int))
  · cases h2 : tb (ref03_Same_oo_L0_ok x1 x3 (⟨0⟩ : ref03_Same_oo_L0_s0))
    · intro g0
      exact absurd g0 ft
    · cases h3 : tb (ref03_Same_oo_L0_c0 x1 x3 (ref03_Same_oo_L0_end x1 x3 (⟨0⟩ : ref03_Same_oo_L0_s0)))
      · cases h4 : tb (ref03_Same_oo_L0_c1 x1 (ref03_Same_oo_L0_end x1 x3 (⟨0⟩ : ref03_Same_oo_L0_s0)))
        · intro g0
          exact absurd g0 ft
        · intro g0
          exact w20 [.o 7 (fun _ => o_len_os (enc := (encI .u8)) (l := x1) (fl := true) (n := x0) (s := 1)), .o 9 (fun _ => o_len_os (enc := (encI .u8)) (l := x3) (fl := true) (n := x2) (s := 1)), .b (tbE h1), .l (ref03_Same_oo_L0_f0_1 x0 x1 x2 x3 0 (⟨0⟩ : ref03_Same_oo_L0_s0) (tbE h2) (tbE h3) (tbE h4))] (by kernel_rfl)
      · intro g0
        exact w20 [.o 7 (fun _ => o_len_os (enc := (encI .u8)) (l := x1) (fl := true) (n := x0) (s := 1)), .o 9 (fun _ => o_len_os (enc := (encI .u8)) (l := x3) (fl := true) (n := x2) (s := 1)), .b (tbE h1), .l (ref03_Same_oo_L0_f0_0 x0 x1 x2 x3 0 (⟨0⟩ : ref03_Same_oo_L0_s0) (tbE h2) (tbE h3))] (by kernel_rfl)
  · intro g0
    exact w20 [.o 7 (fun _ => o_len_os (enc := (encI .u8)) (l := x1) (fl := true) (n := x0) (s := 1)), .o 9 (fun _ => o_len_os (enc := (encI .u8)) (l := x3) (fl := true) (n := x2) (s := 1)), .b (tbE h1)] (by kernel_rfl)
end Go.Proofs.Ytkipngagfiaddaa.Den

namespace Go.Proofs.Ytkipngagfiaddaa.Den
open Go
set_option linter.unusedVariables false
set_option linter.unusedSimpArgs false
theorem xor_mul_pow (a b i : Nat) : (2 ^ i * a) ^^^ (2 ^ i * b) = 2 ^ i * (a ^^^ b) := by
  have h := Nat.shiftLeft_xor_distrib (i := i) (a := a) (b := b)
  simp only [Nat.shiftLeft_eq] at h
  rw [Nat.mul_comm (2 ^ i) a, Nat.mul_comm (2 ^ i) b, Nat.mul_comm (2 ^ i) (a ^^^ b), h]
theorem xor_low {a b i : Nat} (hb : b < 2 ^ i) : (2 ^ i * a) ^^^ b = 2 ^ i * a + b := by
  apply Nat.eq_of_testBit_eq
  intro j
  rw [Nat.testBit_xor, Nat.testBit_two_pow_mul_add a hb, Nat.testBit_two_pow_mul]
  by_cases h : j < i
  · have : ¬ i ≤ j := by omega
    simp [h, this]
  · have h1 : i ≤ j := by omega
    have : b.testBit j = false := Nat.testBit_lt_two_pow (Nat.lt_of_lt_of_le hb (Nat.pow_le_pow_right (by omega) h1))
    simp [h, h1, this]
theorem eq_of_xor {a b : Nat} (h : a ^^^ b = 0) : a = b := by
  have : (a ^^^ b) ^^^ b = a := by rw [Nat.xor_assoc, Nat.xor_self, Nat.xor_zero]
  rw [h, Nat.zero_xor] at this
  exact this.symm
theorem xor16 {a b : Nat} (h1 : a < 65536) (h2 : b < 65536) : a ^^^ b < 65536 := Nat.xor_lt_two_pow (n := 16) h1 h2
def topN (n : Nat) : Nat := n / 32768 % 2
def stepN (n : Nat) : Nat := if topN n = 1 then (2 * n % 65536) ^^^ 4129 else 2 * n % 65536
theorem stepN_lt (n : Nat) : stepN n < 65536 := by
  unfold stepN
  split
  · exact xor16 (by omega) (by omega)
  · omega
theorem topN_xor (a b : Nat) : topN (a ^^^ b) = 1 ↔ ¬ (topN a = 1 ↔ topN b = 1) := by
  unfold topN
  rw [show (32768 : Nat) = 2 ^ 15 from rfl, Nat.xor_div_two_pow]
  exact Nat.xor_mod_two_eq_one
theorem dbl_xor (a b : Nat) : 2 * (a ^^^ b) % 65536 = (2 * a % 65536) ^^^ (2 * b % 65536) := by
  have h := xor_mul_pow a b 1
  rw [show (65536 : Nat) = 2 ^ 16 from rfl, ← Nat.xor_mod_two_pow]
  simp only [Nat.pow_one] at h
  rw [h]
theorem stepN_xor (a b : Nat) : stepN (a ^^^ b) = stepN a ^^^ stepN b := by
  have h := topN_xor a b
  unfold stepN
  rw [dbl_xor]
  generalize 2 * a % 65536 = x
  generalize 2 * b % 65536 = y
  by_cases h1 : topN a = 1 <;> by_cases h2 : topN b = 1
  · have : ¬ topN (a ^^^ b) = 1 := by rw [h]; simp [h1, h2]
    simp only [h1, h2, this, if_true, if_false]
    rw [Nat.xor_assoc x, Nat.xor_comm 4129, Nat.xor_assoc y, Nat.xor_self, Nat.xor_zero]
  · have : topN (a ^^^ b) = 1 := by rw [h]; simp [h1, h2]
    simp only [h1, h2, this, if_true, if_false]
    rw [Nat.xor_assoc x, Nat.xor_assoc x, Nat.xor_comm y]
  · have : topN (a ^^^ b) = 1 := by rw [h]; simp [h1, h2]
    simp only [h1, h2, this, if_true, if_false]
    rw [Nat.xor_assoc x]
  · have : ¬ topN (a ^^^ b) = 1 := by rw [h]; simp [h1, h2]
    simp only [h1, h2, this, if_true, if_false]
theorem stepN_zero : stepN 0 = 0 := by decide
theorem stepN_inj {n : Nat} (hn : n < 65536) (h : stepN n = 0) : n = 0 := by
  unfold stepN topN at h
  split at h
  · have := eq_of_xor h; omega
  · omega
theorem stepN_small {n : Nat} (hn : n < 32768) : stepN n = 2 * n := by
  unfold stepN topN
  split <;> omega
def itN : Nat → Nat → Nat
  | 0, c => c
  | k + 1, c => stepN (itN k c)
theorem itN_lt (k : Nat) {c : Nat} (h : c < 65536) : itN k c < 65536 := by
  cases k with
  | zero => exact h
  | succ k => exact stepN_lt _
theorem itN_xor (k a b : Nat) : itN k (a ^^^ b) = itN k a ^^^ itN k b := by
  induction k with
  | zero => rfl
  | succ k ih => simp only [itN, ih, stepN_xor]
theorem itN_zero (k : Nat) : itN k 0 = 0 := by
  induction k with
  | zero => rfl
  | succ k ih => simp only [itN, ih, stepN_zero]
theorem itN_inj (k : Nat) {c : Nat} (hc : c < 65536) (h : itN k c = 0) : c = 0 := by
  induction k with
  | zero => exact h
  | succ k ih => exact ih (stepN_inj (itN_lt k hc) h)
theorem itN_add (a b c : Nat) : itN a (itN b c) = itN (a + b) c := by
  induction a with
  | zero => simp [itN]
  | succ a ih => rw [show a + 1 + b = (a + b) + 1 by omega]; simp only [itN, ih]
theorem itN_small {v : Nat} (hv : v < 256) : itN 8 v = 256 * v := by
  simp only [itN]
  have d : ∀ n m : Nat, n = 2 * m → n ≤ 65535 → stepN m = n := fun n m h1 h2 => by rw [stepN_small (by omega)]; exact h1.symm
  rw [d (2 * v) v rfl (by omega), d (4 * v) (2 * v) (by omega) (by omega), d (8 * v) (4 * v) (by omega) (by omega), d (16 * v) (8 * v) (by omega) (by omega), d (32 * v) (16 * v) (by omega) (by omega), d (64 * v) (32 * v) (by omega) (by omega), d (128 * v) (64 * v) (by omega) (by omega), d (256 * v) (128 * v) (by omega) (by omega)]
def byteN (c b : Nat) : Nat := itN 8 (c ^^^ (256 * b))
theorem byteN_lt {c b : Nat} (hc : c < 65536) (hb : b < 256) : byteN c b < 65536 := itN_lt 8 (xor16 hc (by omega))
theorem byteN_xor (c d a b : Nat) : byteN (c ^^^ d) (a ^^^ b) = byteN c a ^^^ byteN d b := by
  have h := xor_mul_pow a b 8
  unfold byteN
  rw [← itN_xor, show (256 : Nat) = 2 ^ 8 from rfl, ← h]
  congr 1
  rw [Nat.xor_assoc, Nat.xor_assoc, ← Nat.xor_assoc d, Nat.xor_comm d, Nat.xor_assoc]
def crcN (c : Nat) (l : List Nat) : Nat := l.foldl byteN c
theorem crcN_lt {l : List Nat} : ∀ {c : Nat}, c < 65536 → (∀ b ∈ l, b < 256) → crcN c l < 65536 := by
  induction l with
  | nil => intro c h _; exact h
  | cons b l ih => intro c h hl; exact ih (byteN_lt h (hl b (by simp))) (fun x hx => hl x (by simp [hx]))
theorem crcN_app (c : Nat) (l k : List Nat) : crcN c (l ++ k) = crcN (crcN c l) k := by simp [crcN]
theorem two_bytes {c u v : Nat} (hc : c < 65536) (hu : u < 256) (hv : v < 256) : crcN c [u, v] = itN 16 (c ^^^ (256 * u + v)) := by
  simp only [crcN, List.foldl, byteN]
  rw [← itN_small hv, ← itN_xor, itN_add, Nat.xor_assoc]
  congr 2
  exact xor_low (i := 8) hv
theorem two_zero {c u v : Nat} (hc : c < 65536) (hu : u < 256) (hv : v < 256) : crcN c [u, v] = 0 ↔ c = 256 * u + v := by
  rw [two_bytes hc hu hv]
  constructor
  · intro h; exact eq_of_xor (itN_inj 16 (xor16 hc (by omega)) h)
  · rintro rfl; rw [Nat.xor_self, itN_zero]
theorem byteN_inj {c d b : Nat} (hc : c < 65536) (hd : d < 65536) (h : byteN c b = byteN d b) : c = d := by
  have h1 := byteN_xor c d b b
  rw [h, Nat.xor_self, Nat.xor_self] at h1
  exact eq_of_xor (itN_inj 8 (xor16 hc hd) (by simpa [byteN] using h1))
theorem crcN_inj {l : List Nat} : ∀ {c d : Nat}, c < 65536 → d < 65536 → (∀ b ∈ l, b < 256) → crcN c l = crcN d l → c = d := by
  induction l with
  | nil => intro c d _ _ _ h; exact h
  | cons b l ih =>
    intro c d hc hd hl h
    have hb := hl b (by simp)
    exact byteN_inj hc hd (ih (byteN_lt hc hb) (byteN_lt hd hb) (fun x hx => hl x (by simp [hx])) h)
theorem crcN_seen {c : Nat} {p q : List Nat} {u v u' v' : Nat} (hc : c < 65536) (hp : ∀ b ∈ p, b < 256) (hq : ∀ b ∈ q, b < 256) (hu : u < 256) (hv : v < 256) (hu' : u' < 256) (hv' : v' < 256)
    (h : crcN c (p ++ u :: v :: q) = crcN c (p ++ u' :: v' :: q)) : u = u' ∧ v = v' := by
  have hx := crcN_lt hc hp
  have e : ∀ a b : Nat, p ++ a :: b :: q = (p ++ [a, b]) ++ q := by simp
  rw [e, e, crcN_app c (p ++ [u, v]), crcN_app c (p ++ [u', v']), crcN_app c p, crcN_app c p] at h
  generalize crcN c p = x at h hx
  have b2 : ∀ {a b : Nat}, a < 256 → b < 256 → ∀ z ∈ [a, b], z < 256 := by
    intro a b ha hb z hz
    simp only [List.mem_cons, List.not_mem_nil, or_false] at hz
    omega
  have h2 := crcN_inj (crcN_lt hx (b2 hu hv)) (crcN_lt hx (b2 hu' hv')) hq h
  rw [two_bytes hx hu hv, two_bytes hx hu' hv'] at h2
  have h3 := itN_xor 16 (x ^^^ (256 * u + v)) (x ^^^ (256 * u' + v'))
  rw [h2, Nat.xor_self] at h3
  have h4 := itN_inj 16 (xor16 (xor16 hx (by omega)) (xor16 hx (by omega))) h3
  have h5 := eq_of_xor h4
  have h6 : (256 * u + v) = (256 * u' + v') := by
    have g : ∀ y, x ^^^ (x ^^^ y) = y := fun y => by rw [← Nat.xor_assoc, Nat.xor_self, Nat.zero_xor]
    rw [← g (256 * u + v), h5, g]
  omega
theorem bv_nat {a : Nat} (h : a < 9223372036854775808) : BitVec.ofInt 64 (a : Int) = BitVec.ofNat 64 a := by
  apply BitVec.eq_of_toNat_eq
  rw [BitVec.toNat_ofInt, BitVec.toNat_ofNat]
  omega
theorem andI_nat {a b : Nat} (ha : a < 9223372036854775808) (hb : b < 9223372036854775808) : andI .i64 (a : Int) (b : Int) = ((a &&& b : Nat) : Int) := by
  show IntKind.i64.wrap ((BitVec.ofInt 64 (a : Int) &&& BitVec.ofInt 64 (b : Int)).toNat : Int) = _
  rw [bv_nat ha, bv_nat hb, BitVec.toNat_and, BitVec.toNat_ofNat, BitVec.toNat_ofNat, Nat.mod_eq_of_lt (a := a) (by omega), Nat.mod_eq_of_lt (a := b) (by omega)]
  have := @Nat.and_le_left a b
  exact wrap64 (by omega) (by omega)
theorem xorI_nat {a b : Nat} (ha : a < 9223372036854775808) (hb : b < 9223372036854775808) : xorI .i64 (a : Int) (b : Int) = ((a ^^^ b : Nat) : Int) := by
  show IntKind.i64.wrap ((BitVec.ofInt 64 (a : Int) ^^^ BitVec.ofInt 64 (b : Int)).toNat : Int) = _
  rw [bv_nat ha, bv_nat hb, BitVec.toNat_xor, BitVec.toNat_ofNat, BitVec.toNat_ofNat, Nat.mod_eq_of_lt (a := a) (by omega), Nat.mod_eq_of_lt (a := b) (by omega)]
  have : a ^^^ b < 2 ^ 63 := Nat.xor_lt_two_pow (by omega) (by omega)
  exact wrap64 (by omega) (by omega)
theorem and_top (n : Nat) : n &&& 32768 = 32768 * topN n := by
  apply Nat.eq_of_testBit_eq
  intro j
  rw [Nat.testBit_and, show (32768 : Nat) = 2 ^ 15 from rfl, Nat.testBit_two_pow, Nat.testBit_two_pow_mul]
  by_cases h : 15 = j
  · subst h
    simp [topN, Nat.testBit_eq_decide_div_mod_eq]
  · simp only [h, decide_false, Bool.and_false]
    by_cases h2 : 15 ≤ j
    · have h3 : topN n < 2 ^ (j - 15) := by
        have : topN n < 2 ^ 1 := by unfold topN; omega
        exact Nat.lt_of_lt_of_le this (Nat.pow_le_pow_right (by omega) (by omega))
      rw [Nat.testBit_lt_two_pow h3]; simp
    · simp [h2]
theorem and_mask (n : Nat) : n &&& 65535 = n % 65536 := Nat.and_two_pow_sub_one_eq_mod n 16
def nats (l : List Int) : List Nat := l.map Int.toNat
theorem nats_lt {l : List Int} (h : ∀ z ∈ l, WfI .u8 z) : ∀ b ∈ nats l, b < 256 := by
  intro b hb
  obtain ⟨z, hz, rfl⟩ := List.mem_map.1 hb
  have := wfI_u8 (h z hz)
  omega
def crcI (c : Nat) (l : List Int) : Nat := crcN c (nats l)
end Go.Proofs.Ytkipngagfiaddaa.Den

namespace Go.Proofs.Ytkipngagfiaddaa.Den
open Go
set_option linter.unusedVariables false
set_option linter.unusedSimpArgs false
theorem shl8_nat {n : Nat} (h : n < 4294967296) : shlI .i64 (n : Int) 8 = ((256 * n : Nat) : Int) := by
  show IntKind.i64.wrap ((n : Int) * 2 ^ (min (8 : Int).toNat 64)) = _
  have : (2 : Int) ^ (min (8 : Int).toNat 64) = 256 := by decide
  rw [this, wrap64 (by omega) (by omega)]; omega
theorem shl1_nat {n : Nat} (h : n < 4294967296) : shlI .i64 (n : Int) 1 = ((2 * n : Nat) : Int) := by
  show IntKind.i64.wrap ((n : Int) * 2 ^ (min (1 : Int).toNat 64)) = _
  have : (2 : Int) ^ (min (1 : Int).toNat 64) = 2 := by decide
  rw [this, wrap64 (by omega) (by omega)]; omega
theorem step_eq {n : Nat} (h : n < 65536) : crc_More_c1_p_Fi_r0_0 (n : Int) = (stepN n : Int) := by
  have e1 : andI .i64 (n : Int) 32768 = ((32768 * topN n : Nat) : Int) := by rw [← and_top]; exact andI_nat (b := 32768) (by omega) (by omega)
  have e2 : andI .i64 (shlI .i64 (n : Int) 1) 65535 = ((2 * n % 65536 : Nat) : Int) := by rw [shl1_nat (by omega), ← and_mask]; exact andI_nat (b := 65535) (by omega) (by omega)
  have e3 : xorI .i64 ((2 * n % 65536 : Nat) : Int) 4129 = (((2 * n % 65536) ^^^ 4129 : Nat) : Int) := xorI_nat (b := 4129) (by omega) (by omega)
  have ht : topN n < 2 := by unfold topN; omega
  unfold crc_More_c1_p_Fi_r0_0 stepN
  rw [e1, e2, e3]
  by_cases h1 : topN n = 1
  · simp [h1]
  · have : topN n = 0 := by omega
    simp [this]
theorem crcL0 {c : Nat} (h : c < 65536) : crc_More_io_L1_ok ⟨0, (c : Int)⟩ = true ∧ (crc_More_io_L1_end ⟨0, (c : Int)⟩).c5 = (itN 8 c : Int) := by
  obtain ⟨s1, e, ⟨k, h1, h2⟩, h3⟩ := idx_loop (sel := crc_More_io_L1_sel) (nx := crc_More_io_L1_nx) (s0 := ⟨0, (c : Int)⟩) 8 (fun s => s.c4) (fun s => ∃ k : Nat, s.c4 = k ∧ s.c5 = (itN k c : Int)) (by omega) ⟨0, rfl, rfl⟩ (by simp) (by simp)
    (fun s ⟨k, h1, h2⟩ g1 g2 => by
      have e : (wi (s.c4 + 1)) = s.c4 + 1 := wi_eq (by omega) (by omega)
      refine ⟨by simp [crc_More_io_L1_sel, g2], ⟨k + 1, ?_, ?_⟩, e⟩
      · simp only [crc_More_io_L1_nx, e]; omega
      · simp only [crc_More_io_L1_nx, h2]; exact step_eq (itN_lt k h))
    (fun s _ g => by simp [crc_More_io_L1_sel, g])
  have hk : k = 8 := by omega
  subst hk
  simp [crc_More_io_L1_ok, crc_More_io_L1_end, e, h2]
theorem take_nats {l : List Int} {k : Nat} (h : k < l.length) (c : Nat) : crcI c (l.take (k + 1)) = byteN (crcI c (l.take k)) (l[k]).toNat := by
  unfold crcI nats
  rw [List.take_succ_eq_append_getElem h, List.map_append, crcN_app]
  rfl
def Byt (l : List Int) : Prop := ∀ z ∈ l, WfI .u8 z
theorem Byt.take {l : List Int} (h : Byt l) (k : Nat) : Byt (l.take k) := fun z hz => h z (List.mem_of_mem_take hz)
theorem Byt.drop {l : List Int} (h : Byt l) (k : Nat) : Byt (l.drop k) := fun z hz => h z (List.mem_of_mem_drop hz)
theorem crcI_lt {c : Nat} {l : List Int} (hc : c < 65536) (h : Byt l) : crcI c l < 65536 := crcN_lt hc (nats_lt h)
theorem crcL1 {c : Nat} {l : List Int} (h : c < 65536) (hl : Byt l) (hn : l.length < 1152921504606846976) : ∃ s1, itS (crc_More_io_L2_sel l l.length) (crc_More_io_L2_nx l l.length) bound ⟨0, (c : Int)⟩ = some s1 ∧ s1.c3 = l.length ∧ s1.c4 = (crcI c l : Int) := by
  obtain ⟨s1, e, ⟨k, h1, h2, h4⟩, h3⟩ := idx_loop (sel := crc_More_io_L2_sel l l.length) (nx := crc_More_io_L2_nx l l.length) (s0 := ⟨0, (c : Int)⟩) l.length (fun s => s.c3) (fun s => ∃ k : Nat, s.c3 = k ∧ k ≤ l.length ∧ s.c4 = (crcI c (l.take k) : Int)) (by omega) ⟨0, rfl, by omega, rfl⟩ (by simp) (by simp)
    (fun s ⟨k, h1, h2, h4⟩ g1 g2 => by
      have e : (wi (s.c3 + 1)) = s.c3 + 1 := wi_eq (by omega) (by omega)
      have hk : k < l.length := by omega
      have hg : gt l s.c3 = ((l[k]).toNat : Int) := by
        rw [h1, gt_nat hk]; have := wfI_u8 (hl _ (List.getElem_mem hk)); omega
      have hb : (l[k]).toNat < 256 := by have := wfI_u8 (hl _ (List.getElem_mem hk)); omega
      have hc := crcI_lt h (hl.take k)
      have hx : xorI .i64 s.c4 (shlI .i64 (wi (gt l s.c3)) 8) = ((crcI c (l.take k) ^^^ (256 * (l[k]).toNat) : Nat) : Int) := by
        rw [hg, wi_eq (x := ((l[k]).toNat : Int)) (by omega) (by omega), shl8_nat (by omega), h4]; exact xorI_nat (by omega) (by omega)
      obtain ⟨q1, q2⟩ := crcL0 (xor16 hc (by omega : 256 * (l[k]).toNat < 65536))
      refine ⟨by simp [crc_More_io_L2_sel, g2, inb_of g1 g2, hx, q1], ⟨k + 1, ?_, by omega, ?_⟩, e⟩
      · simp only [crc_More_io_L2_nx, e]; omega
      · simp only [crc_More_io_L2_nx, crc_More_io_L2_h0_e0, hx, q2, take_nats hk]; rfl)
    (fun s _ g => by simp [crc_More_io_L2_sel, g])
  have hk : k = l.length := by omega
  subst hk
  exact ⟨s1, e, h1, by rw [h4, List.take_length]⟩
def moreI (x : Int) (l : List Int) : Int := if 0 ≤ x ∧ x ≤ 65535 then (crcI x.toNat l : Int) else 0
theorem more_eq (x : Int) {l : List Int} (hl : Byt l) (hn : l.length < 1152921504606846976) : crc_More_io_c0 x l = true ∧ crc_More_io_r0_0 x l = moreI x l := by
  by_cases h1 : x < 0
  · simp [crc_More_io_c0, crc_More_io_r0_0, crc_More_io_S0_c0, h1, moreI]; omega
  by_cases h2 : 65535 < x
  · simp [crc_More_io_c0, crc_More_io_r0_0, crc_More_io_S0_c0, h1, h2, moreI]; omega
  obtain ⟨s1, e, g1, g2⟩ := crcL1 (c := x.toNat) (by omega) hl hn
  rw [show ((x.toNat : Nat) : Int) = x by omega] at e
  have h3 : 0 ≤ x ∧ x ≤ 65535 := by omega
  simp [crc_More_io_c0, crc_More_io_r0_0, crc_More_io_S0_c0, crc_More_io_S3_c0, crc_More_io_S3_e0, h1, h2, moreI, h3, crc_More_io_L2_ok, crc_More_io_L2_end, e, crc_More_io_L2_c0, g1, g2]
theorem equal_eq {l k : List Int} (hl : l.length < 1152921504606846976) : slices_Equal_byte_oo_c0 l k = true ∧ slices_Equal_byte_oo_r0_0 l k = decide (l = k) := by
  by_cases h : l.length = k.length
  · obtain ⟨s1, e, g0, g⟩ := eq_loop (sel := slices_Equal_byte_oo_L0_sel l k l.length) (nx := slices_Equal_byte_oo_L0_nx l k l.length) (s0 := ⟨0⟩) h (fun s => s.c5) hl rfl
      (fun s a1 a2 => by show wi _ = _; exact wi_eq (by omega) (by omega))
      (fun s a1 a2 => by
        by_cases hi : s.c5 < l.length
        · have i1 := inb_of a1 hi
          have i2 : inb k.length s.c5 = true := by rw [← h]; exact i1
          by_cases q : gt l s.c5 = gt k s.c5
          · simp [slices_Equal_byte_oo_L0_sel, hi, i1, i2, q]
          · simp [slices_Equal_byte_oo_L0_sel, hi, i1, i2, q, bne]
        · simp [slices_Equal_byte_oo_L0_sel, hi])
    have hne : ((((l.length : Nat) : Int) : Int) != ((k.length : Nat) : Int)) = false := by simp [h]
    simp only [slices_Equal_byte_oo_c0, slices_Equal_byte_oo_r0_0, slices_Equal_byte_oo_e0, slices_Equal_byte_oo_L0_ok, slices_Equal_byte_oo_L0_end, e, hne, tb_eq, cond_false, Option.isSome_some, cond_true, Option.getD_some]
    rcases g with ⟨a, b⟩ | ⟨a, b, c⟩
    · simp [slices_Equal_byte_oo_L0_c0, slices_Equal_byte_oo_L0_c1, a, b]
    · have i1 := inb_of g0 a
      have i2 : inb k.length s1.c5 = true := by rw [← h]; exact i1
      simp [slices_Equal_byte_oo_L0_c0, slices_Equal_byte_oo_L0_c1, a, c, i1, i2]
  · have hne : ((((l.length : Nat) : Int) : Int) != ((k.length : Nat) : Int)) = true := by simp; omega
    have : l ≠ k := fun e => h (by rw [e])
    simp [slices_Equal_byte_oo_c0, slices_Equal_byte_oo_r0_0, hne, this]
structure Sm (l : List Int) : Prop where
  b : Byt l
  n : l.length ≤ 1000
theorem Sm.n' {l : List Int} (h : Sm l) : l.length < 1152921504606846976 := by have := h.n; omega
def tail2 (l : List Int) : List Int := [((crcI 65535 l / 256 : Nat) : Int), ((crcI 65535 l % 256 : Nat) : Int)]
def sealed (l : List Int) : List Int := l ++ tail2 l
theorem u8_wrap {n : Nat} : IntKind.u8.wrap (n : Int) = ((n % 256 : Nat) : Int) := by
  unfold IntKind.wrap; simp [IntKind.bits, IntKind.signed]
theorem more_f {l : List Int} (h : Sm l) : crc_More_io_r0_0 65535 l = (crcI 65535 l : Int) := by
  rw [(more_eq 65535 h.b h.n').2]; simp [moreI]
theorem sumc {l : List Int} (h : Sm l) : crc_Sum_o_c0 l = true := by simp [crc_Sum_o_c0, (more_eq 65535 h.b h.n').1]
theorem Sm.crc {l : List Int} (h : Sm l) : crcI 65535 l < 65536 := crcI_lt (by omega) h.b
theorem tail_eq {l : List Int} (h : Sm l) : [(IntKind.u8.wrap (shrI .i64 (crc_More_io_r0_0 65535 l) 8)), (IntKind.u8.wrap ((crc_More_io_r0_0 65535 l)))] = tail2 l := by
  have hc := h.crc
  have e : shrI .i64 (crcI 65535 l : Int) 8 = ((crcI 65535 l / 256 : Nat) : Int) := by
    show (crcI 65535 l : Int).fdiv (2 ^ (min (8 : Int).toNat 64)) = _
    rw [show (2 : Int) ^ (min (8 : Int).toNat 64) = 256 by decide, Int.fdiv_eq_ediv_of_nonneg _ (by omega)]; omega
  rw [more_f h, e, u8_wrap, u8_wrap, Nat.mod_eq_of_lt (a := crcI 65535 l / 256) (by omega)]
  rfl
theorem clone_r (a : Bool) {l : List Int} (h : Sm l) : slices_Clone_byte_o_c0 a l = true ∧ slices_Clone_byte_o_r0_0 a l = (a && l.isEmpty) ∧ slices_Clone_byte_o_r0_1 a l = l := by
  have h1 : ((([] : List Int).length + l.length) * 1 ≤ 140737488355328) := by have := h.n; simp; omega
  cases l with
  | nil => cases a <;> simp [slices_Clone_byte_o_c0, slices_Clone_byte_o_r0_0, slices_Clone_byte_o_r0_1]
  | cons x l =>
    simp only [slices_Clone_byte_o_c0, slices_Clone_byte_o_r0_0, slices_Clone_byte_o_r0_1, h1, tb_eq]
    simp
theorem seal_r (a : Bool) {l : List Int} (h : Sm l) : crc_Seal_o_c0 a l = true ∧ crc_Seal_o_e0 a l = sealed l := by
  obtain ⟨c1, c2, c3⟩ := clone_r a h
  have h1 : (l.length + (tail2 l).length) * 1 ≤ 140737488355328 := by have := h.n; show (l.length + 2) * 1 ≤ _; omega
  constructor
  · simp only [crc_Seal_o_c0, sumc h, c1, c3, tail_eq h, h1, decide_true, tb_eq, cond_true]
  · unfold crc_Seal_o_e0; rw [c3, tail_eq h]; rfl
def okS (l : List Int) : Bool := decide (2 ≤ l.length) && decide (sealed (l.take (l.length - 2)) = l)
theorem Sm.take {l : List Int} (h : Sm l) (k : Nat) : Sm (l.take k) := ⟨h.b.take k, by have := h.n; rw [List.length_take]; omega⟩
end Go.Proofs.Ytkipngagfiaddaa.Den

namespace Go.Proofs.Ytkipngagfiaddaa.Den
open Go Go.Proofs
set_option maxRecDepth 100000
set_option maxHeartbeats 4000000
set_option linter.unusedVariables false
set_option linter.unusedSimpArgs false
structure slices_IndexFunc_int_o_frame_Right_c1_L0_s0 where
  c3 : Int
  deriving Inhabited
end Go.Proofs.Ytkipngagfiaddaa.Den

namespace Go.Proofs.Ytkipngagfiaddaa.Den
open Go Go.Proofs
set_option maxRecDepth 100000
set_option maxHeartbeats 4000000
set_option linter.unusedVariables false
set_option linter.unusedSimpArgs false
structure ref05_Decode_iabo_L4_s0 where
  c1 : Int
  c10 : List Int
  deriving Inhabited
end Go.Proofs.Ytkipngagfiaddaa.Den

namespace Go.Proofs.Ytkipngagfiaddaa.Den
open Go Go.Proofs
set_option linter.unusedVariables false
set_option linter.unusedSimpArgs false
theorem GetAll_n {b : List Int} (hb : Byts b) (hl : b.length ≤ 1000000) (x : Bool) : word_GetAll_o_r0_0 x b = (if b.length % 4 = 0 then b.length / 4 == 0 else true) := by
  have hrun := fours_run hb hl x
  have he : word_fours_c1_yp_Y43_1pGvLGo_e0 [] true x b = ⟨b.length / 4 == 0, fours b (b.length / 4), (b.length / 4 == 0) && x, b.drop (4 * (b.length / 4))⟩ := by
    simp only [word_fours_c1_yp_Y43_1pGvLGo_e0, word_fours_c1_yp_Y43_1pGvLGo_L0_end, hrun]; rfl
  simp only [word_GetAll_o_r0_0, rem4, he, tb_eq]
  by_cases h : b.length % 4 = 0
  · simp [h]
  · have : (((b.length % 4 : Nat) : Int) != 0) = true := by simp; omega
    simp only [this, cond_true, h, if_false]
def z8 : List Int := [0, 0, 0, 0, 0, 0, 0, 0]
end Go.Proofs.Ytkipngagfiaddaa.Den

namespace Go.Proofs.Ytkipngagfiaddaa.Den
open Go Go.Proofs
set_option linter.unusedVariables false
set_option linter.unusedSimpArgs false
theorem arr8 {x : List Int} (h : x.length = 8) : [(gt x 0), (gt x 1), (gt x 2), (gt x 3), (gt x 4), (gt x 5), (gt x 6), (gt x 7)] = x := by
  match x, h with
  | [a, b, c, d, e, f, g, i], _ => rfl
def c3st0 : Nat → slices_Concat_byte_v_GvvvLLL_L0_1_S
  | 0 => .h0 ⟨⟩
  | 1 => .h1 ⟨⟩
  | 2 => .h2 ⟨⟩
  | _ => .h3 ⟨⟩
def c3st2 : Nat → slices_Concat_byte_v_GvvvLLL_L2_1_S
  | 0 => .h0 ⟨⟩
  | 1 => .h1 ⟨⟩
  | 2 => .h2 ⟨⟩
  | _ => .h3 ⟨⟩
theorem concat_c {a b c : List Int} (ha : a.length ≤ 1000) (hb : b.length ≤ 1000) (hc : c.length ≤ 1000) : slices_Concat_byte_v_GvvvLLL_c0 a b c = true := by
  have w0 : wi (0 + ((a.length : Nat) : Int)) = ((a.length : Nat) : Int) := by rw [wi_eq (by omega) (by omega)]; omega
  have w1 : slices_Concat_byte_v_GvvvLLL_L0_1_h1_e0 a b = ((a.length + b.length : Nat) : Int) := by unfold slices_Concat_byte_v_GvvvLLL_L0_1_h1_e0; rw [w0, wi_eq (by omega) (by omega)]; omega
  have w2 : slices_Concat_byte_v_GvvvLLL_L0_1_h2_e0 a b c = ((a.length + b.length + c.length : Nat) : Int) := by unfold slices_Concat_byte_v_GvvvLLL_L0_1_h2_e0; rw [w1, wi_eq (by omega) (by omega)]; omega
  have r0 : itS (slices_Concat_byte_v_GvvvLLL_L0_1_sel a b c) (slices_Concat_byte_v_GvvvLLL_L0_1_nx a b c) bound (c3st0 0) = some (c3st0 3) := by
    refine loop_seq c3st0 3 (by omega) (fun k hk => ?_) rfl
    rcases (by omega : k = 0 ∨ k = 1 ∨ k = 2) with rfl | rfl | rfl
    · refine ⟨?_, rfl⟩
      simp only [c3st0, slices_Concat_byte_v_GvvvLLL_L0_1_sel, slices_Concat_byte_v_GvvvLLL_L0_1_h0_sel, w0, tb_eq]
      rw [decide_eq_false (by omega)]; rfl
    · refine ⟨?_, rfl⟩
      simp only [c3st0, slices_Concat_byte_v_GvvvLLL_L0_1_sel, slices_Concat_byte_v_GvvvLLL_L0_1_h1_sel, w1, tb_eq]
      rw [decide_eq_false (by omega)]; rfl
    · refine ⟨?_, rfl⟩
      simp only [c3st0, slices_Concat_byte_v_GvvvLLL_L0_1_sel, slices_Concat_byte_v_GvvvLLL_L0_1_h2_sel, w2, tb_eq]
      rw [decide_eq_false (by omega)]; rfl
  have r2 : itS (slices_Concat_byte_v_GvvvLLL_L2_1_sel a b c) (slices_Concat_byte_v_GvvvLLL_L2_1_nx a b c) bound (c3st2 0) = some (c3st2 3) := by
    refine loop_seq c3st2 3 (by omega) (fun k hk => ?_) rfl
    rcases (by omega : k = 0 ∨ k = 1 ∨ k = 2) with rfl | rfl | rfl
    · refine ⟨?_, rfl⟩
      simp only [c3st2, slices_Concat_byte_v_GvvvLLL_L2_1_sel, slices_Concat_byte_v_GvvvLLL_L2_1_h0_sel, tb_eq]
      rw [decide_eq_true (by simp; omega)]; rfl
    · refine ⟨?_, rfl⟩
      simp only [c3st2, slices_Concat_byte_v_GvvvLLL_L2_1_sel, slices_Concat_byte_v_GvvvLLL_L2_1_h1_sel, tb_eq]
      rw [decide_eq_true (by omega)]; rfl
    · refine ⟨?_, rfl⟩
      simp only [c3st2, slices_Concat_byte_v_GvvvLLL_L2_1_sel, slices_Concat_byte_v_GvvvLLL_L2_1_h2_sel, tb_eq]
      rw [decide_eq_true (by simp; omega)]; rfl
  have z0 : c3st0 0 = .h0 ⟨⟩ := rfl
  have z2 : c3st2 0 = .h0 ⟨⟩ := rfl
  rw [z0] at r0
  rw [z2] at r2
  have e0 : slices_Concat_byte_v_GvvvLLL_S1_e0 a b c = .h3 ⟨⟩ := by simp only [slices_Concat_byte_v_GvvvLLL_S1_e0, slices_Concat_byte_v_GvvvLLL_L0_1_end, r0]; rfl
  have e1 : slices_Concat_byte_v_GvvvLLL_e1 a b c = .h3 ⟨⟩ := by simp only [slices_Concat_byte_v_GvvvLLL_e1, slices_Concat_byte_v_GvvvLLL_L2_1_end, r2]; rfl
  have s1 : slices_Concat_byte_v_GvvvLLL_S1_c0 a b c = true := by
    simp only [slices_Concat_byte_v_GvvvLLL_S1_c0, slices_Concat_byte_v_GvvvLLL_L0_1_ok, r0, e0, tb_eq]; rfl
  have gr : slices_Grow_byte_ni_c0 ((a.length + b.length + c.length : Nat) : Int) = true := by
    simp only [slices_Grow_byte_ni_c0, Bool.and_eq_true, decide_eq_true_eq]; omega
  simp only [slices_Concat_byte_v_GvvvLLL_c0, s1, w2, gr, slices_Concat_byte_v_GvvvLLL_L2_1_ok, r2, e1, tb_eq]; rfl
theorem wf_u8 {z : Int} (h : 0 ≤ z ∧ z ≤ 255) : WfI .u8 z := by
  simp [WfI, Lit.wf, IntKind.min, IntKind.max, IntKind.signed, IntKind.bits]; omega
end Go.Proofs.Ytkipngagfiaddaa.Den

namespace Go.Proofs.Ytkipngagfiaddaa.Den
open Go Go.Proofs
set_option linter.unusedVariables false
set_option linter.unusedSimpArgs false
end Go.Proofs.Ytkipngagfiaddaa.Den

namespace Go.Proofs.Ytkipngagfiaddaa.Den
open Go Go.Proofs
set_option maxRecDepth 100000
set_option maxHeartbeats 4000000
set_option linter.unusedVariables false
set_option linter.unusedSimpArgs false
def output_Right_c1_i_r0_0 (x0 : Int) : Bool := (bif tb (decide (x0 < (-2147483648))) then true else (decide (2147483647 < x0)))
theorem output_Right_c1_i_t0 (x0 : Int) : cl E0 50 [(V.d (.int .i64 x0))] [] = some ([(V.d (.bool (output_Right_c1_i_r0_0 x0)))], []) := by
  unfold output_Right_c1_i_r0_0
  cases h1 : tb (decide (x0 < (-2147483648)))
  · exact w50 [.b (tbE h1)] (by kernel_rfl)
  · exact w50 [.b (tbE h1)] (by kernel_rfl)
structure slices_IndexFunc_int_o_output_Right_c1_L0_s0 where
  c3 : Int
  deriving Inhabited
def slices_IndexFunc_int_o_output_Right_c1_L0_enc (x0 : Bool) (x1 : List Int) (x2 : Int) (x3 : Int) (s0 : slices_IndexFunc_int_o_output_Right_c1_L0_s0) : List V × Mem := ([(V.d (slD (encI .i64) true 1 x0 x1)), (V.fn (.func 50) [] []), (V.d (.int .i64 x2)), (V.d (.int .i64 s0.c3))], [])
def slices_IndexFunc_int_o_output_Right_c1_L0_sel (x1 : List Int) (x2 : Int) (s0 : slices_IndexFunc_int_o_output_Right_c1_L0_s0) : Bool := (bif tb (decide (s0.c3 < x2)) then (bif tb (inb x1.length s0.c3) then (bif tb (output_Right_c1_i_r0_0 (gt x1 s0.c3)) then false else true) else false) else false)
def slices_IndexFunc_int_o_output_Right_c1_L0_nx (x1 : List Int) (x2 : Int) (s0 : slices_IndexFunc_int_o_output_Right_c1_L0_s0) : slices_IndexFunc_int_o_output_Right_c1_L0_s0 := ⟨(wi (s0.c3 + 1))⟩
def slices_IndexFunc_int_o_output_Right_c1_L0_ok (x1 : List Int) (x2 : Int) (s0 : slices_IndexFunc_int_o_output_Right_c1_L0_s0) : Bool := (itS (slices_IndexFunc_int_o_output_Right_c1_L0_sel x1 x2) (slices_IndexFunc_int_o_output_Right_c1_L0_nx x1 x2) bound s0).isSome
def slices_IndexFunc_int_o_output_Right_c1_L0_end (x1 : List Int) (x2 : Int) (s0 : slices_IndexFunc_int_o_output_Right_c1_L0_s0) : slices_IndexFunc_int_o_output_Right_c1_L0_s0 := (itS (slices_IndexFunc_int_o_output_Right_c1_L0_sel x1 x2) (slices_IndexFunc_int_o_output_Right_c1_L0_nx x1 x2) bound s0).getD default
theorem slices_IndexFunc_int_o_output_Right_c1_L0_go (x0 : Bool) (x1 : List Int) (x2 : Int) (x3 : Int) (s0 : slices_IndexFunc_int_o_output_Right_c1_L0_s0) : slices_IndexFunc_int_o_output_Right_c1_L0_sel x1 x2 s0 = true → (roundG (runC E0 (cl E0) L69_0) [0, 1, 7, 8] [4] 0) (slices_IndexFunc_int_o_output_Right_c1_L0_enc x0 x1 x2 x3 s0) = some (.normal, slices_IndexFunc_int_o_output_Right_c1_L0_enc x0 x1 x2 x3 (slices_IndexFunc_int_o_output_Right_c1_L0_nx x1 x2 s0)) := by
  unfold slices_IndexFunc_int_o_output_Right_c1_L0_sel slices_IndexFunc_int_o_output_Right_c1_L0_nx
  cases h1 : tb (decide (s0.c3 < x2))
  · intro g0
    exact absurd g0 ft
  · cases h2 : tb (inb x1.length s0.c3)
    · intro g0
      exact absurd g0 ft
    · cases h3 : tb (output_Right_c1_i_r0_0 (gt x1 s0.c3))
      · intro _
        exact round_walk [.b (tbE h1), .o 14 (fun _ => o_idx_os (enc := (encI .i64)) (l := x1) (fl := true) (n := x0) (s := 1) (k := .i64) (tbE h2)), .c (output_Right_c1_i_t0 (gt x1 s0.c3)), .b (tbE h3)] (by kernel_rfl)
      · intro g0
        exact absurd g0 ft
def slices_IndexFunc_int_o_output_Right_c1_L0_c0 (x1 : List Int) (x2 : Int) (s0 : slices_IndexFunc_int_o_output_Right_c1_L0_s0) : Bool := (bif tb (decide (s0.c3 < x2)) then (bif tb (inb x1.length s0.c3) then true else false) else false)
def slices_IndexFunc_int_o_output_Right_c1_L0_c1 (x2 : Int) (s0 : slices_IndexFunc_int_o_output_Right_c1_L0_s0) : Bool := (bif tb (decide (s0.c3 < x2)) then false else true)
theorem slices_IndexFunc_int_o_output_Right_c1_L0_x0 (x0 : Bool) (x1 : List Int) (x2 : Int) (x3 : Int) (s0 : slices_IndexFunc_int_o_output_Right_c1_L0_s0) : slices_IndexFunc_int_o_output_Right_c1_L0_sel x1 x2 s0 = false → slices_IndexFunc_int_o_output_Right_c1_L0_c0 x1 x2 s0 = true → (roundG (runC E0 (cl E0) L69_0) [0, 1, 7, 8] [4] 0) (slices_IndexFunc_int_o_output_Right_c1_L0_enc x0 x1 x2 x3 s0) = some (.ret, ([(V.d (.int .i64 s0.c3))], [])) := by
  unfold slices_IndexFunc_int_o_output_Right_c1_L0_sel slices_IndexFunc_int_o_output_Right_c1_L0_c0
  cases h1 : tb (decide (s0.c3 < x2))
  · intro g0 g1
    exact absurd g1 ft
  · cases h2 : tb (inb x1.length s0.c3)
    · intro g0 g1
      exact absurd g1 ft
    · cases h3 : tb (output_Right_c1_i_r0_0 (gt x1 s0.c3))
      · intro g0 g1
        exact absurd g0 tf
      · intro g0 g1
        exact round_walk [.b (tbE h1), .o 14 (fun _ => o_idx_os (enc := (encI .i64)) (l := x1) (fl := true) (n := x0) (s := 1) (k := .i64) (tbE h2)), .c (output_Right_c1_i_t0 (gt x1 s0.c3)), .b (tbE h3)] (by kernel_rfl)
theorem slices_IndexFunc_int_o_output_Right_c1_L0_x1 (x0 : Bool) (x1 : List Int) (x2 : Int) (x3 : Int) (s0 : slices_IndexFunc_int_o_output_Right_c1_L0_s0) : slices_IndexFunc_int_o_output_Right_c1_L0_sel x1 x2 s0 = false → slices_IndexFunc_int_o_output_Right_c1_L0_c0 x1 x2 s0 = false → slices_IndexFunc_int_o_output_Right_c1_L0_c1 x2 s0 = true → (roundG (runC E0 (cl E0) L69_0) [0, 1, 7, 8] [4] 0) (slices_IndexFunc_int_o_output_Right_c1_L0_enc x0 x1 x2 x3 s0) = some ((.exit 0), ([V.un], [])) := by
  unfold slices_IndexFunc_int_o_output_Right_c1_L0_sel slices_IndexFunc_int_o_output_Right_c1_L0_c0 slices_IndexFunc_int_o_output_Right_c1_L0_c1
  cases h1 : tb (decide (s0.c3 < x2))
  · intro g0 g1 g2
    exact round_walk [.b (tbE h1)] (by kernel_rfl)
  · cases h2 : tb (inb x1.length s0.c3)
    · intro g0 g1 g2
      exact absurd g2 ft
    · cases h3 : tb (output_Right_c1_i_r0_0 (gt x1 s0.c3))
      · intro g0 g1 g2
        exact absurd g0 tf
      · intro g0 g1 g2
        exact absurd g1 tf
theorem slices_IndexFunc_int_o_output_Right_c1_L0_f0_0 (x0 : Bool) (x1 : List Int) (x2 : Int) (x3 : Int) (s : slices_IndexFunc_int_o_output_Right_c1_L0_s0) (hok : slices_IndexFunc_int_o_output_Right_c1_L0_ok x1 x2 s = true) (c0 : slices_IndexFunc_int_o_output_Right_c1_L0_c0 x1 x2 (slices_IndexFunc_int_o_output_Right_c1_L0_end x1 x2 s) = true) : loopG (roundG (runC E0 (cl E0) L69_0) [0, 1, 7, 8] [4] 0) bound (slices_IndexFunc_int_o_output_Right_c1_L0_enc x0 x1 x2 x3 s) = some (.ret, ([(V.d (.int .i64 ((slices_IndexFunc_int_o_output_Right_c1_L0_end x1 x2 s).c3)))], [])) := by
  have e : itS (slices_IndexFunc_int_o_output_Right_c1_L0_sel x1 x2) (slices_IndexFunc_int_o_output_Right_c1_L0_nx x1 x2) bound s = some (slices_IndexFunc_int_o_output_Right_c1_L0_end x1 x2 s) := itS_get hok
  have f := itS_false e
  exact loop_it (slices_IndexFunc_int_o_output_Right_c1_L0_go x0 x1 x2 x3) bound s _ _ _ e (fun h => by cases h) (slices_IndexFunc_int_o_output_Right_c1_L0_x0 x0 x1 x2 x3 (slices_IndexFunc_int_o_output_Right_c1_L0_end x1 x2 s) f c0)
theorem slices_IndexFunc_int_o_output_Right_c1_L0_f0_1 (x0 : Bool) (x1 : List Int) (x2 : Int) (x3 : Int) (s : slices_IndexFunc_int_o_output_Right_c1_L0_s0) (hok : slices_IndexFunc_int_o_output_Right_c1_L0_ok x1 x2 s = true) (c0 : slices_IndexFunc_int_o_output_Right_c1_L0_c0 x1 x2 (slices_IndexFunc_int_o_output_Right_c1_L0_end x1 x2 s) = false) (c1 : slices_IndexFunc_int_o_output_Right_c1_L0_c1 x2 (slices_IndexFunc_int_o_output_Right_c1_L0_end x1 x2 s) = true) : loopG (roundG (runC E0 (cl E0) L69_0) [0, 1, 7, 8] [4] 0) bound (slices_IndexFunc_int_o_output_Right_c1_L0_enc x0 x1 x2 x3 s) = some ((.exit 0), ([V.un], [])) := by
  have e : itS (slices_IndexFunc_int_o_output_Right_c1_L0_sel x1 x2) (slices_IndexFunc_int_o_output_Right_c1_L0_nx x1 x2) bound s = some (slices_IndexFunc_int_o_output_Right_c1_L0_end x1 x2 s) := itS_get hok
  have f := itS_false e
  exact loop_it (slices_IndexFunc_int_o_output_Right_c1_L0_go x0 x1 x2 x3) bound s _ _ _ e (fun h => by cases h) (slices_IndexFunc_int_o_output_Right_c1_L0_x1 x0 x1 x2 x3 (slices_IndexFunc_int_o_output_Right_c1_L0_end x1 x2 s) f c0 c1)
def slices_IndexFunc_int_o_output_Right_c1_e0 (x1 : List Int) : slices_IndexFunc_int_o_output_Right_c1_L0_s0 := slices_IndexFunc_int_o_output_Right_c1_L0_end x1 ((x1.length : Nat) : Int) (⟨0⟩ : slices_IndexFunc_int_o_output_Right_c1_L0_s0)
def slices_IndexFunc_int_o_output_Right_c1_c0 (x1 : List Int) : Bool := (bif tb (slices_IndexFunc_int_o_output_Right_c1_L0_ok x1 ((x1.length : Nat) : Int) (⟨0⟩ : slices_IndexFunc_int_o_output_Right_c1_L0_s0)) then (bif tb (slices_IndexFunc_int_o_output_Right_c1_L0_c0 x1 ((x1.length : Nat) : Int) (slices_IndexFunc_int_o_output_Right_c1_e0 x1)) then true else (bif tb (slices_IndexFunc_int_o_output_Right_c1_L0_c1 ((x1.length : Nat) : Int) (slices_IndexFunc_int_o_output_Right_c1_e0 x1)) then true else false)) else false)
def slices_IndexFunc_int_o_output_Right_c1_r0_0 (x1 : List Int) : Int := (bif tb (slices_IndexFunc_int_o_output_Right_c1_L0_c0 x1 ((x1.length : Nat) : Int) (slices_IndexFunc_int_o_output_Right_c1_e0 x1)) then ((slices_IndexFunc_int_o_output_Right_c1_e0 x1).c3) else (-1))
theorem slices_IndexFunc_int_o_output_Right_c1_t0 (x0 : Bool) (x1 : List Int) : slices_IndexFunc_int_o_output_Right_c1_c0 x1 = true → cl E0 69 [(V.d (slD (encI .i64) true 1 x0 x1)), (V.fn (.func 50) [] [])] [] = some ([(V.d (.int .i64 (slices_IndexFunc_int_o_output_Right_c1_r0_0 x1)))], []) := by
  unfold slices_IndexFunc_int_o_output_Right_c1_c0 slices_IndexFunc_int_o_output_Right_c1_r0_0
  cases h1 : tb (slices_IndexFunc_int_o_output_Right_c1_L0_ok x1 ((x1.length : Nat) : Int) (⟨0⟩ : slices_IndexFunc_int_o_output_Right_c1_L0_s0))
  · intro g0
    exact absurd g0 ft
  · cases h2 : tb (slices_IndexFunc_int_o_output_Right_c1_L0_c0 x1 ((x1.length : Nat) : Int) (slices_IndexFunc_int_o_output_Right_c1_e0 x1))
    · cases h3 : tb (slices_IndexFunc_int_o_output_Right_c1_L0_c1 ((x1.length : Nat) : Int) (slices_IndexFunc_int_o_output_Right_c1_e0 x1))
      · intro g0
        exact absurd g0 ft
      · intro g0
        exact w69 [.o 7 (fun _ => o_len_os (enc := (encI .i64)) (l := x1) (fl := true) (n := x0) (s := 1)), .l (slices_IndexFunc_int_o_output_Right_c1_L0_f0_1 x0 x1 ((x1.length : Nat) : Int) 0 (⟨0⟩ : slices_IndexFunc_int_o_output_Right_c1_L0_s0) (tbE h1) (tbE h2) (tbE h3))] (by kernel_rfl)
    · intro g0
      exact w69 [.o 7 (fun _ => o_len_os (enc := (encI .i64)) (l := x1) (fl := true) (n := x0) (s := 1)), .l (slices_IndexFunc_int_o_output_Right_c1_L0_f0_0 x0 x1 ((x1.length : Nat) : Int) 0 (⟨0⟩ : slices_IndexFunc_int_o_output_Right_c1_L0_s0) (tbE h1) (tbE h2))] (by kernel_rfl)
def slices_ContainsFunc_int_o_output_Right_c1_c0 (x1 : List Int) : Bool := (bif tb (slices_IndexFunc_int_o_output_Right_c1_c0 x1) then true else false)
theorem slices_ContainsFunc_int_o_output_Right_c1_t0 (x0 : Bool) (x1 : List Int) : slices_ContainsFunc_int_o_output_Right_c1_c0 x1 = true → cl E0 53 [(V.d (slD (encI .i64) true 1 x0 x1)), (V.fn (.func 50) [] [])] [] = some ([(V.d (.bool (decide (0 ≤ (slices_IndexFunc_int_o_output_Right_c1_r0_0 x1)))))], []) := by
  unfold slices_ContainsFunc_int_o_output_Right_c1_c0
  cases h1 : tb (slices_IndexFunc_int_o_output_Right_c1_c0 x1)
  · intro g0
    exact absurd g0 ft
  · intro g0
    exact w53 [.c (slices_IndexFunc_int_o_output_Right_c1_t0 x0 x1 (tbE h1))] (by kernel_rfl)
theorem output_Right_c2_ai3b_t0 (x0 : Int) (x1 : Int) (x2 : Int) (x3 : Bool) : cl E0 51 [(V.agg [(V.d (.int .i64 x0)), (V.d (.int .i64 x1)), (V.d (.int .i64 x2)), (V.d (.bool x3))])] [] = some ([(V.d (.bool (!(status_Right_ai3b_S1_r0_0 x0 x1 x3 (status_Right_ai3b_S0_r0_0 x0 x2)))))], []) := by
  exact w51 [.c (status_Right_ai3b_t0 x0 x1 x2 x3)] (by kernel_rfl)
structure slices_IndexFunc_api_Status_o_output_Right_c2_L0_s0 where
  c3 : Int
  deriving Inhabited
def slices_IndexFunc_api_Status_o_output_Right_c2_L0_enc (x0 : Bool) (x1 : List R_i64_i64_i64_bool) (x2 : Int) (x3 : Int) (s0 : slices_IndexFunc_api_Status_o_output_Right_c2_L0_s0) : List V × Mem := ([(V.d (slD enc_R_i64_i64_i64_bool true 4 x0 x1)), (V.fn (.func 51) [] []), (V.d (.int .i64 x2)), (V.d (.int .i64 s0.c3))], [])
def slices_IndexFunc_api_Status_o_output_Right_c2_L0_sel (x1 : List R_i64_i64_i64_bool) (x2 : Int) (s0 : slices_IndexFunc_api_Status_o_output_Right_c2_L0_s0) : Bool := (bif tb (decide (s0.c3 < x2)) then (bif tb (inb x1.length s0.c3) then (bif tb (status_Right_ai3b_S1_r0_0 ((gt x1 s0.c3).c0) ((gt x1 s0.c3).c1) ((gt x1 s0.c3).c3) (status_Right_ai3b_S0_r0_0 ((gt x1 s0.c3).c0) ((gt x1 s0.c3).c2))) then true else false) else false) else false)
def slices_IndexFunc_api_Status_o_output_Right_c2_L0_nx (x1 : List R_i64_i64_i64_bool) (x2 : Int) (s0 : slices_IndexFunc_api_Status_o_output_Right_c2_L0_s0) : slices_IndexFunc_api_Status_o_output_Right_c2_L0_s0 := ⟨(wi (s0.c3 + 1))⟩
def slices_IndexFunc_api_Status_o_output_Right_c2_L0_ok (x1 : List R_i64_i64_i64_bool) (x2 : Int) (s0 : slices_IndexFunc_api_Status_o_output_Right_c2_L0_s0) : Bool := (itS (slices_IndexFunc_api_Status_o_output_Right_c2_L0_sel x1 x2) (slices_IndexFunc_api_Status_o_output_Right_c2_L0_nx x1 x2) bound s0).isSome
def slices_IndexFunc_api_Status_o_output_Right_c2_L0_end (x1 : List R_i64_i64_i64_bool) (x2 : Int) (s0 : slices_IndexFunc_api_Status_o_output_Right_c2_L0_s0) : slices_IndexFunc_api_Status_o_output_Right_c2_L0_s0 := (itS (slices_IndexFunc_api_Status_o_output_Right_c2_L0_sel x1 x2) (slices_IndexFunc_api_Status_o_output_Right_c2_L0_nx x1 x2) bound s0).getD default
theorem slices_IndexFunc_api_Status_o_output_Right_c2_L0_go (x0 : Bool) (x1 : List R_i64_i64_i64_bool) (x2 : Int) (x3 : Int) (s0 : slices_IndexFunc_api_Status_o_output_Right_c2_L0_s0) : slices_IndexFunc_api_Status_o_output_Right_c2_L0_sel x1 x2 s0 = true → (roundG (runC E0 (cl E0) L70_0) [0, 1, 7, 8] [4] 0) (slices_IndexFunc_api_Status_o_output_Right_c2_L0_enc x0 x1 x2 x3 s0) = some (.normal, slices_IndexFunc_api_Status_o_output_Right_c2_L0_enc x0 x1 x2 x3 (slices_IndexFunc_api_Status_o_output_Right_c2_L0_nx x1 x2 s0)) := by
  unfold slices_IndexFunc_api_Status_o_output_Right_c2_L0_sel slices_IndexFunc_api_Status_o_output_Right_c2_L0_nx
  cases h1 : tb (decide (s0.c3 < x2))
  · intro g0
    exact absurd g0 ft
  · cases h2 : tb (inb x1.length s0.c3)
    · intro g0
      exact absurd g0 ft
    · cases h3 : tb (status_Right_ai3b_S1_r0_0 ((gt x1 s0.c3).c0) ((gt x1 s0.c3).c1) ((gt x1 s0.c3).c3) (status_Right_ai3b_S0_r0_0 ((gt x1 s0.c3).c0) ((gt x1 s0.c3).c2)))
      · intro g0
        exact absurd g0 ft
      · intro _
        exact round_walk [.b (tbE h1), .o 14 (fun _ => o_idx_os (enc := enc_R_i64_i64_i64_bool) (l := x1) (fl := true) (n := x0) (s := 4) (k := .i64) (tbE h2)), .c (output_Right_c2_ai3b_t0 ((gt x1 s0.c3).c0) ((gt x1 s0.c3).c1) ((gt x1 s0.c3).c2) ((gt x1 s0.c3).c3)), .b (notT (tbE h3))] (by kernel_rfl)
def slices_IndexFunc_api_Status_o_output_Right_c2_L0_c0 (x1 : List R_i64_i64_i64_bool) (x2 : Int) (s0 : slices_IndexFunc_api_Status_o_output_Right_c2_L0_s0) : Bool := (bif tb (decide (s0.c3 < x2)) then (bif tb (inb x1.length s0.c3) then true else false) else false)
def slices_IndexFunc_api_Status_o_output_Right_c2_L0_c1 (x2 : Int) (s0 : slices_IndexFunc_api_Status_o_output_Right_c2_L0_s0) : Bool := (bif tb (decide (s0.c3 < x2)) then false else true)
theorem slices_IndexFunc_api_Status_o_output_Right_c2_L0_x0 (x0 : Bool) (x1 : List R_i64_i64_i64_bool) (x2 : Int) (x3 : Int) (s0 : slices_IndexFunc_api_Status_o_output_Right_c2_L0_s0) : slices_IndexFunc_api_Status_o_output_Right_c2_L0_sel x1 x2 s0 = false → slices_IndexFunc_api_Status_o_output_Right_c2_L0_c0 x1 x2 s0 = true → (roundG (runC E0 (cl E0) L70_0) [0, 1, 7, 8] [4] 0) (slices_IndexFunc_api_Status_o_output_Right_c2_L0_enc x0 x1 x2 x3 s0) = some (.ret, ([(V.d (.int .i64 s0.c3))], [])) := by
  unfold slices_IndexFunc_api_Status_o_output_Right_c2_L0_sel slices_IndexFunc_api_Status_o_output_Right_c2_L0_c0
  cases h1 : tb (decide (s0.c3 < x2))
  · intro g0 g1
    exact absurd g1 ft
  · cases h2 : tb (inb x1.length s0.c3)
    · intro g0 g1
      exact absurd g1 ft
    · cases h3 : tb (status_Right_ai3b_S1_r0_0 ((gt x1 s0.c3).c0) ((gt x1 s0.c3).c1) ((gt x1 s0.c3).c3) (status_Right_ai3b_S0_r0_0 ((gt x1 s0.c3).c0) ((gt x1 s0.c3).c2)))
      · intro g0 g1
        exact round_walk [.b (tbE h1), .o 14 (fun _ => o_idx_os (enc := enc_R_i64_i64_i64_bool) (l := x1) (fl := true) (n := x0) (s := 4) (k := .i64) (tbE h2)), .c (output_Right_c2_ai3b_t0 ((gt x1 s0.c3).c0) ((gt x1 s0.c3).c1) ((gt x1 s0.c3).c2) ((gt x1 s0.c3).c3)), .b (notF (tbE h3))] (by kernel_rfl)
      · intro g0 g1
        exact absurd g0 tf
theorem slices_IndexFunc_api_Status_o_output_Right_c2_L0_x1 (x0 : Bool) (x1 : List R_i64_i64_i64_bool) (x2 : Int) (x3 : Int) (s0 : slices_IndexFunc_api_Status_o_output_Right_c2_L0_s0) : slices_IndexFunc_api_Status_o_output_Right_c2_L0_sel x1 x2 s0 = false → slices_IndexFunc_api_Status_o_output_Right_c2_L0_c0 x1 x2 s0 = false → slices_IndexFunc_api_Status_o_output_Right_c2_L0_c1 x2 s0 = true → (roundG (runC E0 (cl E0) L70_0) [0, 1, 7, 8] [4] 0) (slices_IndexFunc_api_Status_o_output_Right_c2_L0_enc x0 x1 x2 x3 s0) = some ((.exit 0), ([V.un], [])) := by
  unfold slices_IndexFunc_api_Status_o_output_Right_c2_L0_sel slices_IndexFunc_api_Status_o_output_Right_c2_L0_c0 slices_IndexFunc_api_Status_o_output_Right_c2_L0_c1
  cases h1 : tb (decide (s0.c3 < x2))
  · intro g0 g1 g2
    exact round_walk [.b (tbE h1)] (by kernel_rfl)
  · cases h2 : tb (inb x1.length s0.c3)
    · intro g0 g1 g2
      exact absurd g2 ft
    · cases h3 : tb (status_Right_ai3b_S1_r0_0 ((gt x1 s0.c3).c0) ((gt x1 s0.c3).c1) ((gt x1 s0.c3).c3) (status_Right_ai3b_S0_r0_0 ((gt x1 s0.c3).c0) ((gt x1 s0.c3).c2)))
      · intro g0 g1 g2
        exact absurd g1 tf
      · intro g0 g1 g2
        exact absurd g0 tf
theorem slices_IndexFunc_api_Status_o_output_Right_c2_L0_f0_0 (x0 : Bool) (x1 : List R_i64_i64_i64_bool) (x2 : Int) (x3 : Int) (s : slices_IndexFunc_api_Status_o_output_Right_c2_L0_s0) (hok : slices_IndexFunc_api_Status_o_output_Right_c2_L0_ok x1 x2 s = true) (c0 : slices_IndexFunc_api_Status_o_output_Right_c2_L0_c0 x1 x2 (slices_IndexFunc_api_Status_o_output_Right_c2_L0_end x1 x2 s) = true) : loopG (roundG (runC E0 (cl E0) L70_0) [0, 1, 7, 8] [4] 0) bound (slices_IndexFunc_api_Status_o_output_Right_c2_L0_enc x0 x1 x2 x3 s) = some (.ret, ([(V.d (.int .i64 ((slices_IndexFunc_api_Status_o_output_Right_c2_L0_end x1 x2 s).c3)))], [])) := by
  have e : itS (slices_IndexFunc_api_Status_o_output_Right_c2_L0_sel x1 x2) (slices_IndexFunc_api_Status_o_output_Right_c2_L0_nx x1 x2) bound s = some (slices_IndexFunc_api_Status_o_output_Right_c2_L0_end x1 x2 s) := itS_get hok
  have f := itS_false e
  exact loop_it (slices_IndexFunc_api_Status_o_output_Right_c2_L0_go x0 x1 x2 x3) bound s _ _ _ e (fun h => by cases h) (slices_IndexFunc_api_Status_o_output_Right_c2_L0_x0 x0 x1 x2 x3 (slices_IndexFunc_api_Status_o_output_Right_c2_L0_end x1 x2 s) f c0)
theorem slices_IndexFunc_api_Status_o_output_Right_c2_L0_f0_1 (x0 : Bool) (x1 : List R_i64_i64_i64_bool) (x2 : Int) (x3 : Int) (s : slices_IndexFunc_api_Status_o_output_Right_c2_L0_s0) (hok : slices_IndexFunc_api_Status_o_output_Right_c2_L0_ok x1 x2 s = true) (c0 : slices_IndexFunc_api_Status_o_output_Right_c2_L0_c0 x1 x2 (slices_IndexFunc_api_Status_o_output_Right_c2_L0_end x1 x2 s) = false) (c1 : slices_IndexFunc_api_Status_o_output_Right_c2_L0_c1 x2 (slices_IndexFunc_api_Status_o_output_Right_c2_L0_end x1 x2 s) = true) : loopG (roundG (runC E0 (cl E0) L70_0) [0, 1, 7, 8] [4] 0) bound (slices_IndexFunc_api_Status_o_output_Right_c2_L0_enc x0 x1 x2 x3 s) = some ((.exit 0), ([V.un], [])) := by
  have e : itS (slices_IndexFunc_api_Status_o_output_Right_c2_L0_sel x1 x2) (slices_IndexFunc_api_Status_o_output_Right_c2_L0_nx x1 x2) bound s = some (slices_IndexFunc_api_Status_o_output_Right_c2_L0_end x1 x2 s) := itS_get hok
  have f := itS_false e
  exact loop_it (slices_IndexFunc_api_Status_o_output_Right_c2_L0_go x0 x1 x2 x3) bound s _ _ _ e (fun h => by cases h) (slices_IndexFunc_api_Status_o_output_Right_c2_L0_x1 x0 x1 x2 x3 (slices_IndexFunc_api_Status_o_output_Right_c2_L0_end x1 x2 s) f c0 c1)
def slices_IndexFunc_api_Status_o_output_Right_c2_e0 (x1 : List R_i64_i64_i64_bool) : slices_IndexFunc_api_Status_o_output_Right_c2_L0_s0 := slices_IndexFunc_api_Status_o_output_Right_c2_L0_end x1 ((x1.length : Nat) : Int) (⟨0⟩ : slices_IndexFunc_api_Status_o_output_Right_c2_L0_s0)
def slices_IndexFunc_api_Status_o_output_Right_c2_c0 (x1 : List R_i64_i64_i64_bool) : Bool := (bif tb (slices_IndexFunc_api_Status_o_output_Right_c2_L0_ok x1 ((x1.length : Nat) : Int) (⟨0⟩ : slices_IndexFunc_api_Status_o_output_Right_c2_L0_s0)) then (bif tb (slices_IndexFunc_api_Status_o_output_Right_c2_L0_c0 x1 ((x1.length : Nat) : Int) (slices_IndexFunc_api_Status_o_output_Right_c2_e0 x1)) then true else (bif tb (slices_IndexFunc_api_Status_o_output_Right_c2_L0_c1 ((x1.length : Nat) : Int) (slices_IndexFunc_api_Status_o_output_Right_c2_e0 x1)) then true else false)) else false)
def slices_IndexFunc_api_Status_o_output_Right_c2_r0_0 (x1 : List R_i64_i64_i64_bool) : Int := (bif tb (slices_IndexFunc_api_Status_o_output_Right_c2_L0_c0 x1 ((x1.length : Nat) : Int) (slices_IndexFunc_api_Status_o_output_Right_c2_e0 x1)) then ((slices_IndexFunc_api_Status_o_output_Right_c2_e0 x1).c3) else (-1))
theorem slices_IndexFunc_api_Status_o_output_Right_c2_t0 (x0 : Bool) (x1 : List R_i64_i64_i64_bool) : slices_IndexFunc_api_Status_o_output_Right_c2_c0 x1 = true → cl E0 70 [(V.d (slD enc_R_i64_i64_i64_bool true 4 x0 x1)), (V.fn (.func 51) [] [])] [] = some ([(V.d (.int .i64 (slices_IndexFunc_api_Status_o_output_Right_c2_r0_0 x1)))], []) := by
  unfold slices_IndexFunc_api_Status_o_output_Right_c2_c0 slices_IndexFunc_api_Status_o_output_Right_c2_r0_0
  cases h1 : tb (slices_IndexFunc_api_Status_o_output_Right_c2_L0_ok x1 ((x1.length : Nat) : Int) (⟨0⟩ : slices_IndexFunc_api_Status_o_output_Right_c2_L0_s0))
  · intro g0
    exact absurd g0 ft
  · cases h2 : tb (slices_IndexFunc_api_Status_o_output_Right_c2_L0_c0 x1 ((x1.length : Nat) : Int) (slices_IndexFunc_api_Status_o_output_Right_c2_e0 x1))
    · cases h3 : tb (slices_IndexFunc_api_Status_o_output_Right_c2_L0_c1 ((x1.length : Nat) : Int) (slices_IndexFunc_api_Status_o_output_Right_c2_e0 x1))
      · intro g0
        exact absurd g0 ft
      · intro g0
        exact w70 [.o 7 (fun _ => o_len_os (enc := enc_R_i64_i64_i64_bool) (l := x1) (fl := true) (n := x0) (s := 4)), .l (slices_IndexFunc_api_Status_o_output_Right_c2_L0_f0_1 x0 x1 ((x1.length : Nat) : Int) 0 (⟨0⟩ : slices_IndexFunc_api_Status_o_output_Right_c2_L0_s0) (tbE h1) (tbE h2) (tbE h3))] (by kernel_rfl)
    · intro g0
      exact w70 [.o 7 (fun _ => o_len_os (enc := enc_R_i64_i64_i64_bool) (l := x1) (fl := true) (n := x0) (s := 4)), .l (slices_IndexFunc_api_Status_o_output_Right_c2_L0_f0_0 x0 x1 ((x1.length : Nat) : Int) 0 (⟨0⟩ : slices_IndexFunc_api_Status_o_output_Right_c2_L0_s0) (tbE h1) (tbE h2))] (by kernel_rfl)
def slices_ContainsFunc_api_Status_o_output_Right_c2_c0 (x1 : List R_i64_i64_i64_bool) : Bool := (bif tb (slices_IndexFunc_api_Status_o_output_Right_c2_c0 x1) then true else false)
theorem slices_ContainsFunc_api_Status_o_output_Right_c2_t0 (x0 : Bool) (x1 : List R_i64_i64_i64_bool) : slices_ContainsFunc_api_Status_o_output_Right_c2_c0 x1 = true → cl E0 54 [(V.d (slD enc_R_i64_i64_i64_bool true 4 x0 x1)), (V.fn (.func 51) [] [])] [] = some ([(V.d (.bool (decide (0 ≤ (slices_IndexFunc_api_Status_o_output_Right_c2_r0_0 x1)))))], []) := by
  unfold slices_ContainsFunc_api_Status_o_output_Right_c2_c0
  cases h1 : tb (slices_IndexFunc_api_Status_o_output_Right_c2_c0 x1)
  · intro g0
    exact absurd g0 ft
  · intro g0
    exact w54 [.c (slices_IndexFunc_api_Status_o_output_Right_c2_t0 x0 x1 (tbE h1))] (by kernel_rfl)
def output_Right_ai12bi3bi3bi3bi3bi3bi3bi3b_e0 (x1 : List Int) : List Int := [(gt x1 0), (gt x1 1), (gt x1 2), (gt x1 3), (gt x1 4), (gt x1 5), (gt x1 6), (gt x1 7)]
def output_Right_ai12bi3bi3bi3bi3bi3bi3bi3b_e1 (x2 : List R_i64_i64_i64_bool) : List R_i64_i64_i64_bool := [⟨((gt x2 0).c0), ((gt x2 0).c1), ((gt x2 0).c2), ((gt x2 0).c3)⟩, ⟨((gt x2 1).c0), ((gt x2 1).c1), ((gt x2 1).c2), ((gt x2 1).c3)⟩, ⟨((gt x2 2).c0), ((gt x2 2).c1), ((gt x2 2).c2), ((gt x2 2).c3)⟩, ⟨((gt x2 3).c0), ((gt x2 3).c1), ((gt x2 3).c2), ((gt x2 3).c3)⟩, ⟨((gt x2 4).c0), ((gt x2 4).c1), ((gt x2 4).c2), ((gt x2 4).c3)⟩, ⟨((gt x2 5).c0), ((gt x2 5).c1), ((gt x2 5).c2), ((gt x2 5).c3)⟩, ⟨((gt x2 6).c0), ((gt x2 6).c1), ((gt x2 6).c2), ((gt x2 6).c3)⟩, ⟨((gt x2 7).c0), ((gt x2 7).c1), ((gt x2 7).c2), ((gt x2 7).c3)⟩]
def output_Right_ai12bi3bi3bi3bi3bi3bi3bi3b_c0 (x0 : Int) (x1 : List Int) (x2 : List R_i64_i64_i64_bool) : Bool := (bif tb (decide (0 ≤ x0)) then (bif tb (decide (x0 < 65536)) then (bif tb (slices_ContainsFunc_int_o_output_Right_c1_c0 (output_Right_ai12bi3bi3bi3bi3bi3bi3bi3b_e0 x1)) then (bif tb (decide (0 ≤ (slices_IndexFunc_int_o_output_Right_c1_r0_0 (output_Right_ai12bi3bi3bi3bi3bi3bi3bi3b_e0 x1)))) then true else (bif tb (slices_ContainsFunc_api_Status_o_output_Right_c2_c0 (output_Right_ai12bi3bi3bi3bi3bi3bi3bi3b_e1 x2)) then true else false)) else false) else true) else true)
def output_Right_ai12bi3bi3bi3bi3bi3bi3bi3b_r0_0 (x0 : Int) (x1 : List Int) (x2 : List R_i64_i64_i64_bool) : Bool := (bif tb (decide (0 ≤ x0)) then (bif tb (decide (x0 < 65536)) then (bif tb (decide (0 ≤ (slices_IndexFunc_int_o_output_Right_c1_r0_0 (output_Right_ai12bi3bi3bi3bi3bi3bi3bi3b_e0 x1)))) then false else (!(decide (0 ≤ (slices_IndexFunc_api_Status_o_output_Right_c2_r0_0 (output_Right_ai12bi3bi3bi3bi3bi3bi3bi3b_e1 x2)))))) else false) else false)
theorem output_Right_ai12bi3bi3bi3bi3bi3bi3bi3b_t0 (x0 : Int) (x1 : List Int) (x2 : List R_i64_i64_i64_bool) : output_Right_ai12bi3bi3bi3bi3bi3bi3bi3b_c0 x0 x1 x2 = true → cl E0 23 [(V.agg (List.map V.d ([(.int .i64 x0)] ++ arrD .i64 x1 8 ++ arrE enc_R_i64_i64_i64_bool x2 8)))] [] = some ([(V.d (.bool (output_Right_ai12bi3bi3bi3bi3bi3bi3bi3b_r0_0 x0 x1 x2)))], []) := by
  unfold output_Right_ai12bi3bi3bi3bi3bi3bi3bi3b_c0 output_Right_ai12bi3bi3bi3bi3bi3bi3bi3b_r0_0
  cases h1 : tb (decide (0 ≤ x0))
  · intro g0
    exact w23 [.b (tbE h1)] (by kernel_rfl)
  · cases h2 : tb (decide (x0 < 65536))
    · intro g0
      exact w23 [.b (tbE h1), .b (tbE h2)] (by kernel_rfl)
    · cases h3 : tb (slices_ContainsFunc_int_o_output_Right_c1_c0 (output_Right_ai12bi3bi3bi3bi3bi3bi3bi3b_e0 x1))
      · intro g0
        exact absurd g0 ft
      · cases h4 : tb (decide (0 ≤ (slices_IndexFunc_int_o_output_Right_c1_r0_0 (output_Right_ai12bi3bi3bi3bi3bi3bi3bi3b_e0 x1))))
        · cases h5 : tb (slices_ContainsFunc_api_Status_o_output_Right_c2_c0 (output_Right_ai12bi3bi3bi3bi3bi3bi3bi3b_e1 x2))
          · intro g0
            exact absurd g0 ft
          · intro g0
            exact w23 [.b (tbE h1), .b (tbE h2), .c (slices_ContainsFunc_int_o_output_Right_c1_t0 false (output_Right_ai12bi3bi3bi3bi3bi3bi3bi3b_e0 x1) (tbE h3)), .b (notF (tbE h4)), .c (slices_ContainsFunc_api_Status_o_output_Right_c2_t0 false (output_Right_ai12bi3bi3bi3bi3bi3bi3bi3b_e1 x2) (tbE h5))] (by kernel_rfl)
        · intro g0
          exact w23 [.b (tbE h1), .b (tbE h2), .c (slices_ContainsFunc_int_o_output_Right_c1_t0 false (output_Right_ai12bi3bi3bi3bi3bi3bi3bi3b_e0 x1) (tbE h3)), .b (notT (tbE h4))] (by kernel_rfl)
structure output_Failed_ai12bi3bi3bi3bi3bi3bi3bi3b_L0_s0 where
  c0 : Int
  c2 : Int
  deriving Inhabited
def output_Failed_ai12bi3bi3bi3bi3bi3bi3bi3b_L0_enc (x0 : Int) (x1 : List Int) (x2 : List R_i64_i64_i64_bool) (x3 : Bool) (x4 : Int) (x5 : List R_i64_i64_i64_bool) (x6 : Int) (s0 : output_Failed_ai12bi3bi3bi3bi3bi3bi3bi3b_L0_s0) : List V × Mem := ([(V.d (.int .i64 s0.c0)), (V.agg (List.map V.d (arrE enc_R_i64_i64_i64_bool x5 8))), (V.d (.int .i64 s0.c2))], [(Blk.flat 55 41 [([(.int .i64 x0)] ++ arrD .i64 x1 8 ++ arrE enc_R_i64_i64_i64_bool x2 8)] x3)])
def output_Failed_ai12bi3bi3bi3bi3bi3bi3bi3b_L0_sel (x5 : List R_i64_i64_i64_bool) (s0 : output_Failed_ai12bi3bi3bi3bi3bi3bi3bi3b_L0_s0) : Bool := (bif tb (decide (s0.c2 < 8)) then (bif tb (inb 8 s0.c2) then true else false) else false)
def output_Failed_ai12bi3bi3bi3bi3bi3bi3bi3b_L0_nx (x5 : List R_i64_i64_i64_bool) (s0 : output_Failed_ai12bi3bi3bi3bi3bi3bi3bi3b_L0_s0) : output_Failed_ai12bi3bi3bi3bi3bi3bi3bi3b_L0_s0 := (bif tb ((gt x5 s0.c2).c3) then ⟨(wi (s0.c0 + 1)), (wi (s0.c2 + 1))⟩ else ⟨s0.c0, (wi (s0.c2 + 1))⟩)
def output_Failed_ai12bi3bi3bi3bi3bi3bi3bi3b_L0_ok (x5 : List R_i64_i64_i64_bool) (s0 : output_Failed_ai12bi3bi3bi3bi3bi3bi3bi3b_L0_s0) : Bool := (itS (output_Failed_ai12bi3bi3bi3bi3bi3bi3bi3b_L0_sel x5) (output_Failed_ai12bi3bi3bi3bi3bi3bi3bi3b_L0_nx x5) bound s0).isSome
def output_Failed_ai12bi3bi3bi3bi3bi3bi3bi3b_L0_end (x5 : List R_i64_i64_i64_bool) (s0 : output_Failed_ai12bi3bi3bi3bi3bi3bi3bi3b_L0_s0) : output_Failed_ai12bi3bi3bi3bi3bi3bi3bi3b_L0_s0 := (itS (output_Failed_ai12bi3bi3bi3bi3bi3bi3bi3b_L0_sel x5) (output_Failed_ai12bi3bi3bi3bi3bi3bi3bi3b_L0_nx x5) bound s0).getD default
theorem output_Failed_ai12bi3bi3bi3bi3bi3bi3bi3b_L0_go (x0 : Int) (x1 : List Int) (x2 : List R_i64_i64_i64_bool) (x3 : Bool) (x4 : Int) (x5 : List R_i64_i64_i64_bool) (x6 : Int) (s0 : output_Failed_ai12bi3bi3bi3bi3bi3bi3bi3b_L0_s0) : output_Failed_ai12bi3bi3bi3bi3bi3bi3bi3b_L0_sel x5 s0 = true → (roundG (runC E0 (cl E0) L25_0) [3, 7, 8] [3] 1) (output_Failed_ai12bi3bi3bi3bi3bi3bi3bi3b_L0_enc x0 x1 x2 x3 x4 x5 x6 s0) = some (.normal, output_Failed_ai12bi3bi3bi3bi3bi3bi3bi3b_L0_enc x0 x1 x2 x3 x4 x5 x6 (output_Failed_ai12bi3bi3bi3bi3bi3bi3bi3b_L0_nx x5 s0)) := by
  unfold output_Failed_ai12bi3bi3bi3bi3bi3bi3bi3b_L0_sel output_Failed_ai12bi3bi3bi3bi3bi3bi3bi3b_L0_nx
  cases h1 : tb (decide (s0.c2 < 8))
  · intro g0
    exact absurd g0 ft
  · cases h2 : tb (inb 8 s0.c2)
    · intro g0
      exact absurd g0 ft
    · cases h3 : tb ((gt x5 s0.c2).c3)
      · intro _
        exact round_walk [.b (tbE h1), .o 10 (fun _ => o_idx_arrE (enc := enc_R_i64_i64_i64_bool) (z := 4) (fun _ => rfl) (by decide) (n := 8) (agg := true) (cells := [(V.d (.int .i64 ((gt x5 0).c0))), (V.d (.int .i64 ((gt x5 0).c1))), (V.d (.int .i64 ((gt x5 0).c2))), (V.d (.bool ((gt x5 0).c3))), (V.d (.int .i64 ((gt x5 1).c0))), (V.d (.int .i64 ((gt x5 1).c1))), (V.d (.int .i64 ((gt x5 1).c2))), (V.d (.bool ((gt x5 1).c3))), (V.d (.int .i64 ((gt x5 2).c0))), (V.d (.int .i64 ((gt x5 2).c1))), (V.d (.int .i64 ((gt x5 2).c2))), (V.d (.bool ((gt x5 2).c3))), (V.d (.int .i64 ((gt x5 3).c0))), (V.d (.int .i64 ((gt x5 3).c1))), (V.d (.int .i64 ((gt x5 3).c2))), (V.d (.bool ((gt x5 3).c3))), (V.d (.int .i64 ((gt x5 4).c0))), (V.d (.int .i64 ((gt x5 4).c1))), (V.d (.int .i64 ((gt x5 4).c2))), (V.d (.bool ((gt x5 4).c3))), (V.d (.int .i64 ((gt x5 5).c0))), (V.d (.int .i64 ((gt x5 5).c1))), (V.d (.int .i64 ((gt x5 5).c2))), (V.d (.bool ((gt x5 5).c3))), (V.d (.int .i64 ((gt x5 6).c0))), (V.d (.int .i64 ((gt x5 6).c1))), (V.d (.int .i64 ((gt x5 6).c2))), (V.d (.bool ((gt x5 6).c3))), (V.d (.int .i64 ((gt x5 7).c0))), (V.d (.int .i64 ((gt x5 7).c1))), (V.d (.int .i64 ((gt x5 7).c2))), (V.d (.bool ((gt x5 7).c3)))]) (k := .i64) (T := x5) (i := s0.c2) (v := (V.agg [(V.d (.int .i64 ((gt x5 s0.c2).c0))), (V.d (.int .i64 ((gt x5 s0.c2).c1))), (V.d (.int .i64 ((gt x5 s0.c2).c2))), (V.d (.bool ((gt x5 s0.c2).c3)))])) (by kernel_rfl) (tbE h2) (by kernel_rfl)), .b (tbE h3)] (by kernel_rfl)
      · intro _
        exact round_walk [.b (tbE h1), .o 10 (fun _ => o_idx_arrE (enc := enc_R_i64_i64_i64_bool) (z := 4) (fun _ => rfl) (by decide) (n := 8) (agg := true) (cells := [(V.d (.int .i64 ((gt x5 0).c0))), (V.d (.int .i64 ((gt x5 0).c1))), (V.d (.int .i64 ((gt x5 0).c2))), (V.d (.bool ((gt x5 0).c3))), (V.d (.int .i64 ((gt x5 1).c0))), (V.d (.int .i64 ((gt x5 1).c1))), (V.d (.int .i64 ((gt x5 1).c2))), (V.d (.bool ((gt x5 1).c3))), (V.d (.int .i64 ((gt x5 2).c0))), (V.d (.int .i64 ((gt x5 2).c1))), (V.d (.int .i64 ((gt x5 2).c2))), (V.d (.bool ((gt x5 2).c3))), (V.d (.int .i64 ((gt x5 3).c0))), (V.d (.int .i64 ((gt x5 3).c1))), (V.d (.int .i64 ((gt x5 3).c2))), (V.d (.bool ((gt x5 3).c3))), (V.d (.int .i64 ((gt x5 4).c0))), (V.d (.int .i64 ((gt x5 4).c1))), (V.d (.int .i64 ((gt x5 4).c2))), (V.d (.bool ((gt x5 4).c3))), (V.d (.int .i64 ((gt x5 5).c0))), (V.d (.int .i64 ((gt x5 5).c1))), (V.d (.int .i64 ((gt x5 5).c2))), (V.d (.bool ((gt x5 5).c3))), (V.d (.int .i64 ((gt x5 6).c0))), (V.d (.int .i64 ((gt x5 6).c1))), (V.d (.int .i64 ((gt x5 6).c2))), (V.d (.bool ((gt x5 6).c3))), (V.d (.int .i64 ((gt x5 7).c0))), (V.d (.int .i64 ((gt x5 7).c1))), (V.d (.int .i64 ((gt x5 7).c2))), (V.d (.bool ((gt x5 7).c3)))]) (k := .i64) (T := x5) (i := s0.c2) (v := (V.agg [(V.d (.int .i64 ((gt x5 s0.c2).c0))), (V.d (.int .i64 ((gt x5 s0.c2).c1))), (V.d (.int .i64 ((gt x5 s0.c2).c2))), (V.d (.bool ((gt x5 s0.c2).c3)))])) (by kernel_rfl) (tbE h2) (by kernel_rfl)), .b (tbE h3)] (by kernel_rfl)
def output_Failed_ai12bi3bi3bi3bi3bi3bi3bi3b_L0_c0 (s0 : output_Failed_ai12bi3bi3bi3bi3bi3bi3bi3b_L0_s0) : Bool := (bif tb (decide (s0.c2 < 8)) then false else true)
theorem output_Failed_ai12bi3bi3bi3bi3bi3bi3bi3b_L0_x0 (x0 : Int) (x1 : List Int) (x2 : List R_i64_i64_i64_bool) (x3 : Bool) (x4 : Int) (x5 : List R_i64_i64_i64_bool) (x6 : Int) (s0 : output_Failed_ai12bi3bi3bi3bi3bi3bi3bi3b_L0_s0) : output_Failed_ai12bi3bi3bi3bi3bi3bi3bi3b_L0_sel x5 s0 = false → output_Failed_ai12bi3bi3bi3bi3bi3bi3bi3b_L0_c0 s0 = true → (roundG (runC E0 (cl E0) L25_0) [3, 7, 8] [3] 1) (output_Failed_ai12bi3bi3bi3bi3bi3bi3bi3b_L0_enc x0 x1 x2 x3 x4 x5 x6 s0) = some ((.exit 0), ([(V.d (.int .i64 s0.c0))], [(Blk.flat 55 41 [([(.int .i64 x0)] ++ arrD .i64 x1 8 ++ arrE enc_R_i64_i64_i64_bool x2 8)] x3)])) := by
  unfold output_Failed_ai12bi3bi3bi3bi3bi3bi3bi3b_L0_sel output_Failed_ai12bi3bi3bi3bi3bi3bi3bi3b_L0_c0
  cases h1 : tb (decide (s0.c2 < 8))
  · intro g0 g1
    exact round_walk [.b (tbE h1)] (by kernel_rfl)
  · cases h2 : tb (inb 8 s0.c2)
    · intro g0 g1
      exact absurd g1 ft
    · cases h3 : tb ((gt x5 s0.c2).c3)
      · intro g0 g1
        exact absurd g0 tf
      · intro g0 g1
        exact absurd g0 tf
theorem output_Failed_ai12bi3bi3bi3bi3bi3bi3bi3b_L0_f0_0 (x0 : Int) (x1 : List Int) (x2 : List R_i64_i64_i64_bool) (x3 : Bool) (x4 : Int) (x5 : List R_i64_i64_i64_bool) (x6 : Int) (s : output_Failed_ai12bi3bi3bi3bi3bi3bi3bi3b_L0_s0) (hok : output_Failed_ai12bi3bi3bi3bi3bi3bi3bi3b_L0_ok x5 s = true) (c0 : output_Failed_ai12bi3bi3bi3bi3bi3bi3bi3b_L0_c0 (output_Failed_ai12bi3bi3bi3bi3bi3bi3bi3b_L0_end x5 s) = true) : loopG (roundG (runC E0 (cl E0) L25_0) [3, 7, 8] [3] 1) bound (output_Failed_ai12bi3bi3bi3bi3bi3bi3bi3b_L0_enc x0 x1 x2 x3 x4 x5 x6 s) = some ((.exit 0), ([(V.d (.int .i64 ((output_Failed_ai12bi3bi3bi3bi3bi3bi3bi3b_L0_end x5 s).c0)))], [(Blk.flat 55 41 [([(.int .i64 x0)] ++ arrD .i64 x1 8 ++ arrE enc_R_i64_i64_i64_bool x2 8)] x3)])) := by
  have e : itS (output_Failed_ai12bi3bi3bi3bi3bi3bi3bi3b_L0_sel x5) (output_Failed_ai12bi3bi3bi3bi3bi3bi3bi3b_L0_nx x5) bound s = some (output_Failed_ai12bi3bi3bi3bi3bi3bi3bi3b_L0_end x5 s) := itS_get hok
  have f := itS_false e
  exact loop_it (output_Failed_ai12bi3bi3bi3bi3bi3bi3bi3b_L0_go x0 x1 x2 x3 x4 x5 x6) bound s _ _ _ e (fun h => by cases h) (output_Failed_ai12bi3bi3bi3bi3bi3bi3bi3b_L0_x0 x0 x1 x2 x3 x4 x5 x6 (output_Failed_ai12bi3bi3bi3bi3bi3bi3bi3b_L0_end x5 s) f c0)
def output_Failed_ai12bi3bi3bi3bi3bi3bi3bi3b_e0 (x2 : List R_i64_i64_i64_bool) : output_Failed_ai12bi3bi3bi3bi3bi3bi3bi3b_L0_s0 := output_Failed_ai12bi3bi3bi3bi3bi3bi3bi3b_L0_end x2 (⟨0, 0⟩ : output_Failed_ai12bi3bi3bi3bi3bi3bi3bi3b_L0_s0)
def output_Failed_ai12bi3bi3bi3bi3bi3bi3bi3b_c0 (x2 : List R_i64_i64_i64_bool) : Bool := (bif tb (output_Failed_ai12bi3bi3bi3bi3bi3bi3bi3b_L0_ok x2 (⟨0, 0⟩ : output_Failed_ai12bi3bi3bi3bi3bi3bi3bi3b_L0_s0)) then (bif tb (output_Failed_ai12bi3bi3bi3bi3bi3bi3bi3b_L0_c0 (output_Failed_ai12bi3bi3bi3bi3bi3bi3bi3b_e0 x2)) then true else false) else false)
theorem output_Failed_ai12bi3bi3bi3bi3bi3bi3bi3b_t0 (x0 : Int) (x1 : List Int) (x2 : List R_i64_i64_i64_bool) : output_Failed_ai12bi3bi3bi3bi3bi3bi3bi3b_c0 x2 = true → cl E0 25 [(V.agg (List.map V.d ([(.int .i64 x0)] ++ arrD .i64 x1 8 ++ arrE enc_R_i64_i64_i64_bool x2 8)))] [] = some ([(V.d (.int .i64 ((output_Failed_ai12bi3bi3bi3bi3bi3bi3bi3b_e0 x2).c0)))], []) := by
  unfold output_Failed_ai12bi3bi3bi3bi3bi3bi3bi3b_c0
  cases h1 : tb (output_Failed_ai12bi3bi3bi3bi3bi3bi3bi3b_L0_ok x2 (⟨0, 0⟩ : output_Failed_ai12bi3bi3bi3bi3bi3bi3bi3b_L0_s0))
  · intro g0
    exact absurd g0 ft
  · cases h2 : tb (output_Failed_ai12bi3bi3bi3bi3bi3bi3bi3b_L0_c0 (output_Failed_ai12bi3bi3bi3bi3bi3bi3bi3b_e0 x2))
    · intro g0
      exact absurd g0 ft
    · intro g0
      exact w25 [.l (output_Failed_ai12bi3bi3bi3bi3bi3bi3bi3b_L0_f0_0 x0 x1 x2 false 0 x2 0 (⟨0, 0⟩ : output_Failed_ai12bi3bi3bi3bi3bi3bi3bi3b_L0_s0) (tbE h1) (tbE h2))] (by kernel_rfl)
theorem output_pairs_ai12bi3bi3bi3bi3bi3bi3bi3b_t0 (x0 : Int) (x1 : List Int) (x2 : List R_i64_i64_i64_bool) : cl E0 37 [(V.agg (List.map V.d ([(.int .i64 x0)] ++ arrD .i64 x1 8 ++ arrE enc_R_i64_i64_i64_bool x2 8)))] [] = some ([(V.fn (.func 62) [] [(V.ptr 0 1 0 0)])], [(Blk.flat 55 41 [([(.int .i64 x0)] ++ arrD .i64 x1 8 ++ arrE enc_R_i64_i64_i64_bool x2 8)] false)]) := by
  exact w37 [] (by kernel_rfl)
def output_Encode_Y1_o_Y18_1pGvL_c0 (x0 : List Int) (x6 : List Int) : Bool := (bif tb (decide ((x0.length + x6.length) * 1 ≤ 140737488355328)) then true else false)
theorem output_Encode_Y1_o_Y18_1pGvL_t0 (x0 : List Int) (x2 : Bool) (x5 : Bool) (x6 : List Int) : output_Encode_Y1_o_Y18_1pGvL_c0 x0 x6 = true → cl E0 yfn [(V.yl 0), (V.d (slD (encI .u8) true 1 x5 x6))] [(Blk.loop .ready none [V.un, V.un, V.un, V.un, (V.ptr 1 1 0 0), V.un, V.un, V.un, V.un, V.un, V.un, V.un, V.un, V.un, V.un, V.un, V.un, V.un, V.un, V.un, V.un, V.un, V.un, V.un, V.un, V.un, V.un, V.un, V.un] [23] L18_0 L18_1 false), (Blk.gen 37 1 [[(V.so x2 2 x0.length)]] false), (Blk.flat 5 1 (List.map (encI .u8) x0) false)] = some ([(V.d (.bool true))], [(Blk.loop .ready none [V.un, V.un, V.un, V.un, (V.ptr 1 1 0 0), V.un, V.un, V.un, V.un, V.un, V.un, V.un, V.un, V.un, V.un, V.un, V.un, V.un, V.un, V.un, V.un, V.un, V.un, V.un, V.un, V.un, V.un, V.un, V.un] [23] L18_0 L18_1 false), (Blk.gen 37 1 [[(V.so (x6.isEmpty && x2) 2 ((x0 ++ x6).length))]] false), (Blk.flat 5 1 (List.map (encI .u8) (x0 ++ x6)) false)]) := by
  unfold output_Encode_Y1_o_Y18_1pGvL_c0
  cases h1 : tb (decide ((x0.length + x6.length) * 1 ≤ 140737488355328))
  · intro g0
    exact absurd g0 ft
  · intro g0
    exact round_yield [.m 26 (o_app_so (nl := x2) (m := [(Blk.loop .busy none [V.un, V.un, V.un, V.un, (V.ptr 1 1 0 0), V.un, V.un, V.un, V.un, V.un, V.un, V.un, V.un, V.un, V.un, V.un, V.un, V.un, V.un, V.un, V.un, V.un, V.un, V.un, V.un, V.un, V.un, V.un, V.un] [23] L18_0 L18_1 false), (Blk.gen 37 1 [[(V.so x2 2 x0.length)]] false), (Blk.flat 5 1 (List.map (encI .u8) x0) false)]) (enc := (encI .u8)) (l0 := x0) (l1 := x6) (id := 2) (e := 5) (s := 1) (bytes := 1) (x := (V.d (slD (encI .u8) true 1 x5 x6))) (n := x0.length) (Nat.beq_refl _) (by kernel_rfl) flatRowsOf_os sizeOk_os (tbE h1))] (by kernel_rfl)
structure output_pairs_c1_yp_Y18_1pGvLFi12bi3bi3bi3bi3bi3bi3bi3b_L0_s0 where
  c1 : Int
  c3 : Bool
  c5 : List Int
  deriving Inhabited
def output_pairs_c1_yp_Y18_1pGvLFi12bi3bi3bi3bi3bi3bi3bi3b_L0_h0_e0 (x9 : List R_i64_i64_i64_bool) (s0 : output_pairs_c1_yp_Y18_1pGvLFi12bi3bi3bi3bi3bi3bi3bi3b_L0_s0) : Int := (status_Word_ai3b_r0_0 ((gt x9 s0.c1).c0) ((gt x9 s0.c1).c1) ((gt x9 s0.c1).c2) ((gt x9 s0.c1).c3))
def output_pairs_c1_yp_Y18_1pGvLFi12bi3bi3bi3bi3bi3bi3bi3b_L0_h0_e1 (x9 : List R_i64_i64_i64_bool) (s0 : output_pairs_c1_yp_Y18_1pGvLFi12bi3bi3bi3bi3bi3bi3bi3b_L0_s0) : Bool := (word_Put2_i_r0_0 (output_pairs_c1_yp_Y18_1pGvLFi12bi3bi3bi3bi3bi3bi3bi3b_L0_h0_e0 x9 s0))
def output_pairs_c1_yp_Y18_1pGvLFi12bi3bi3bi3bi3bi3bi3bi3b_L0_h0_e2 (x9 : List R_i64_i64_i64_bool) (s0 : output_pairs_c1_yp_Y18_1pGvLFi12bi3bi3bi3bi3bi3bi3bi3b_L0_s0) : List Int := (word_Put2_i_r0_1 (output_pairs_c1_yp_Y18_1pGvLFi12bi3bi3bi3bi3bi3bi3bi3b_L0_h0_e0 x9 s0))
def output_pairs_c1_yp_Y18_1pGvLFi12bi3bi3bi3bi3bi3bi3bi3b_L0_enc (x0 : List Int) (x1 : Int) (x2 : List Int) (x3 : List R_i64_i64_i64_bool) (x4 : Bool) (x5 : Bool) (x6 : Bool) (x7 : Bool) (x8 : Bool) (x9 : List R_i64_i64_i64_bool) (x10 : Int) (s0 : output_pairs_c1_yp_Y18_1pGvLFi12bi3bi3bi3bi3bi3bi3bi3b_L0_s0) : List V × Mem := ([(V.yl 0), (V.agg (List.map V.d (arrE enc_R_i64_i64_i64_bool x9 8))), (V.d (.int .i64 s0.c1))], [(Blk.loop .ready none [V.un, V.un, V.un, V.un, (V.ptr 1 1 0 0), V.un, V.un, V.un, V.un, V.un, V.un, V.un, V.un, V.un, V.un, V.un, V.un, V.un, V.un, V.un, V.un, V.un, V.un, V.un, V.un, V.un, V.un, V.un, V.un] [23] L18_0 L18_1 false), (Blk.gen 37 1 [[(V.so s0.c3 2 s0.c5.length)]] false), (Blk.flat 5 1 (List.map (encI .u8) s0.c5) false), (Blk.flat 55 41 [([(.int .i64 x1)] ++ arrD .i64 x2 8 ++ arrE enc_R_i64_i64_i64_bool x3 8)] x8)])
def output_pairs_c1_yp_Y18_1pGvLFi12bi3bi3bi3bi3bi3bi3bi3b_L0_sel (x9 : List R_i64_i64_i64_bool) (s0 : output_pairs_c1_yp_Y18_1pGvLFi12bi3bi3bi3bi3bi3bi3bi3b_L0_s0) : Bool := (bif tb (decide (s0.c1 < 8)) then (bif tb (inb 8 s0.c1) then (bif tb (output_Encode_Y1_o_Y18_1pGvL_c0 s0.c5 (output_pairs_c1_yp_Y18_1pGvLFi12bi3bi3bi3bi3bi3bi3bi3b_L0_h0_e2 x9 s0)) then true else false) else false) else false)
def output_pairs_c1_yp_Y18_1pGvLFi12bi3bi3bi3bi3bi3bi3bi3b_L0_nx (x9 : List R_i64_i64_i64_bool) (s0 : output_pairs_c1_yp_Y18_1pGvLFi12bi3bi3bi3bi3bi3bi3bi3b_L0_s0) : output_pairs_c1_yp_Y18_1pGvLFi12bi3bi3bi3bi3bi3bi3bi3b_L0_s0 := ⟨(wi (s0.c1 + 1)), ((output_pairs_c1_yp_Y18_1pGvLFi12bi3bi3bi3bi3bi3bi3bi3b_L0_h0_e2 x9 s0).isEmpty && s0.c3), (s0.c5 ++ (output_pairs_c1_yp_Y18_1pGvLFi12bi3bi3bi3bi3bi3bi3bi3b_L0_h0_e2 x9 s0))⟩
def output_pairs_c1_yp_Y18_1pGvLFi12bi3bi3bi3bi3bi3bi3bi3b_L0_ok (x9 : List R_i64_i64_i64_bool) (s0 : output_pairs_c1_yp_Y18_1pGvLFi12bi3bi3bi3bi3bi3bi3bi3b_L0_s0) : Bool := (itS (output_pairs_c1_yp_Y18_1pGvLFi12bi3bi3bi3bi3bi3bi3bi3b_L0_sel x9) (output_pairs_c1_yp_Y18_1pGvLFi12bi3bi3bi3bi3bi3bi3bi3b_L0_nx x9) bound s0).isSome
def output_pairs_c1_yp_Y18_1pGvLFi12bi3bi3bi3bi3bi3bi3bi3b_L0_end (x9 : List R_i64_i64_i64_bool) (s0 : output_pairs_c1_yp_Y18_1pGvLFi12bi3bi3bi3bi3bi3bi3bi3b_L0_s0) : output_pairs_c1_yp_Y18_1pGvLFi12bi3bi3bi3bi3bi3bi3bi3b_L0_s0 := (itS (output_pairs_c1_yp_Y18_1pGvLFi12bi3bi3bi3bi3bi3bi3bi3b_L0_sel x9) (output_pairs_c1_yp_Y18_1pGvLFi12bi3bi3bi3bi3bi3bi3bi3b_L0_nx x9) bound s0).getD default
theorem output_pairs_c1_yp_Y18_1pGvLFi12bi3bi3bi3bi3bi3bi3bi3b_L0_go (x0 : List Int) (x1 : Int) (x2 : List Int) (x3 : List R_i64_i64_i64_bool) (x4 : Bool) (x5 : Bool) (x6 : Bool) (x7 : Bool) (x8 : Bool) (x9 : List R_i64_i64_i64_bool) (x10 : Int) (s0 : output_pairs_c1_yp_Y18_1pGvLFi12bi3bi3bi3bi3bi3bi3bi3b_L0_s0) : output_pairs_c1_yp_Y18_1pGvLFi12bi3bi3bi3bi3bi3bi3bi3b_L0_sel x9 s0 = true → (roundG (runC E0 (cl E0) L62_0) [0, 8, 9] [] 4) (output_pairs_c1_yp_Y18_1pGvLFi12bi3bi3bi3bi3bi3bi3bi3b_L0_enc x0 x1 x2 x3 x4 x5 x6 x7 x8 x9 x10 s0) = some (.normal, output_pairs_c1_yp_Y18_1pGvLFi12bi3bi3bi3bi3bi3bi3bi3b_L0_enc x0 x1 x2 x3 x4 x5 x6 x7 x8 x9 x10 (output_pairs_c1_yp_Y18_1pGvLFi12bi3bi3bi3bi3bi3bi3bi3b_L0_nx x9 s0)) := by
  unfold output_pairs_c1_yp_Y18_1pGvLFi12bi3bi3bi3bi3bi3bi3bi3b_L0_sel output_pairs_c1_yp_Y18_1pGvLFi12bi3bi3bi3bi3bi3bi3bi3b_L0_nx
  cases h1 : tb (decide (s0.c1 < 8))
  · intro g0
    exact absurd g0 ft
  · cases h2 : tb (inb 8 s0.c1)
    · intro g0
      exact absurd g0 ft
    · cases h3 : tb (output_Encode_Y1_o_Y18_1pGvL_c0 s0.c5 (output_pairs_c1_yp_Y18_1pGvLFi12bi3bi3bi3bi3bi3bi3bi3b_L0_h0_e2 x9 s0))
      · intro g0
        exact absurd g0 ft
      · intro _
        exact round_walk [.b (tbE h1), .o 11 (fun _ => o_idx_arrE (enc := enc_R_i64_i64_i64_bool) (z := 4) (fun _ => rfl) (by decide) (n := 8) (agg := true) (cells := [(V.d (.int .i64 ((gt x9 0).c0))), (V.d (.int .i64 ((gt x9 0).c1))), (V.d (.int .i64 ((gt x9 0).c2))), (V.d (.bool ((gt x9 0).c3))), (V.d (.int .i64 ((gt x9 1).c0))), (V.d (.int .i64 ((gt x9 1).c1))), (V.d (.int .i64 ((gt x9 1).c2))), (V.d (.bool ((gt x9 1).c3))), (V.d (.int .i64 ((gt x9 2).c0))), (V.d (.int .i64 ((gt x9 2).c1))), (V.d (.int .i64 ((gt x9 2).c2))), (V.d (.bool ((gt x9 2).c3))), (V.d (.int .i64 ((gt x9 3).c0))), (V.d (.int .i64 ((gt x9 3).c1))), (V.d (.int .i64 ((gt x9 3).c2))), (V.d (.bool ((gt x9 3).c3))), (V.d (.int .i64 ((gt x9 4).c0))), (V.d (.int .i64 ((gt x9 4).c1))), (V.d (.int .i64 ((gt x9 4).c2))), (V.d (.bool ((gt x9 4).c3))), (V.d (.int .i64 ((gt x9 5).c0))), (V.d (.int .i64 ((gt x9 5).c1))), (V.d (.int .i64 ((gt x9 5).c2))), (V.d (.bool ((gt x9 5).c3))), (V.d (.int .i64 ((gt x9 6).c0))), (V.d (.int .i64 ((gt x9 6).c1))), (V.d (.int .i64 ((gt x9 6).c2))), (V.d (.bool ((gt x9 6).c3))), (V.d (.int .i64 ((gt x9 7).c0))), (V.d (.int .i64 ((gt x9 7).c1))), (V.d (.int .i64 ((gt x9 7).c2))), (V.d (.bool ((gt x9 7).c3)))]) (k := .i64) (T := x9) (i := s0.c1) (v := (V.agg [(V.d (.int .i64 ((gt x9 s0.c1).c0))), (V.d (.int .i64 ((gt x9 s0.c1).c1))), (V.d (.int .i64 ((gt x9 s0.c1).c2))), (V.d (.bool ((gt x9 s0.c1).c3)))])) (by kernel_rfl) (tbE h2) (by kernel_rfl)), .c (status_Word_ai3b_t0 ((gt x9 s0.c1).c0) ((gt x9 s0.c1).c1) ((gt x9 s0.c1).c2) ((gt x9 s0.c1).c3)), .c (word_Put2_i_t0 (output_pairs_c1_yp_Y18_1pGvLFi12bi3bi3bi3bi3bi3bi3bi3b_L0_h0_e0 x9 s0)), .y (mm := [(Blk.loop .ready none [V.un, V.un, V.un, V.un, (V.ptr 1 1 0 0), V.un, V.un, V.un, V.un, V.un, V.un, V.un, V.un, V.un, V.un, V.un, V.un, V.un, V.un, V.un, V.un, V.un, V.un, V.un, V.un, V.un, V.un, V.un, V.un] [23] L18_0 L18_1 false), (Blk.gen 37 1 [[(V.so s0.c3 2 s0.c5.length)]] false), (Blk.flat 5 1 (List.map (encI .u8) s0.c5) false), (Blk.flat 55 41 [([(.int .i64 x1)] ++ arrD .i64 x2 8 ++ arrE enc_R_i64_i64_i64_bool x3 8)] x8), (Blk.flat 52 4 [[(.int .i64 ((gt x9 s0.c1).c0)), (.int .i64 ((gt x9 s0.c1).c1)), (.int .i64 ((gt x9 s0.c1).c2)), (.bool ((gt x9 s0.c1).c3))]] false), (Blk.flat 5 1 (List.map (encI .u8) (word_Put2_i_r0_1 (output_pairs_c1_yp_Y18_1pGvLFi12bi3bi3bi3bi3bi3bi3bi3b_L0_h0_e0 x9 s0))) false)]) (args := [(V.yl 0), (V.so (word_Put2_i_r0_0 (output_pairs_c1_yp_Y18_1pGvLFi12bi3bi3bi3bi3bi3bi3bi3b_L0_h0_e0 x9 s0)) 5 ((word_Put2_i_r0_1 (output_pairs_c1_yp_Y18_1pGvLFi12bi3bi3bi3bi3bi3bi3bi3b_L0_h0_e0 x9 s0)).length))]) (args1 := [(V.yl 0), (V.d (slD (encI .u8) true 1 (word_Put2_i_r0_0 (output_pairs_c1_yp_Y18_1pGvLFi12bi3bi3bi3bi3bi3bi3bi3b_L0_h0_e0 x9 s0)) (word_Put2_i_r0_1 (output_pairs_c1_yp_Y18_1pGvLFi12bi3bi3bi3bi3bi3bi3bi3b_L0_h0_e0 x9 s0))))]) (byvals_cons (by kernel_rfl) (byvals_cons (byval_so (enc := (encI .u8)) (l := (word_Put2_i_r0_1 (output_pairs_c1_yp_Y18_1pGvLFi12bi3bi3bi3bi3bi3bi3bi3b_L0_h0_e0 x9 s0))) (b := (word_Put2_i_r0_0 (output_pairs_c1_yp_Y18_1pGvLFi12bi3bi3bi3bi3bi3bi3bi3b_L0_h0_e0 x9 s0))) (e := 5) (s := 1) (p := false) (n := ((word_Put2_i_r0_1 (output_pairs_c1_yp_Y18_1pGvLFi12bi3bi3bi3bi3bi3bi3bi3b_L0_h0_e0 x9 s0)).length)) (Nat.beq_refl _) (by kernel_rfl)) (by kernel_rfl))), .c (output_Encode_Y1_o_Y18_1pGvL_t0 s0.c5 s0.c3 (output_pairs_c1_yp_Y18_1pGvLFi12bi3bi3bi3bi3bi3bi3bi3b_L0_h0_e1 x9 s0) (output_pairs_c1_yp_Y18_1pGvLFi12bi3bi3bi3bi3bi3bi3bi3b_L0_h0_e2 x9 s0) (tbE h3)), .k false] (by kernel_rfl)
def output_pairs_c1_yp_Y18_1pGvLFi12bi3bi3bi3bi3bi3bi3bi3b_L0_c0 (s0 : output_pairs_c1_yp_Y18_1pGvLFi12bi3bi3bi3bi3bi3bi3bi3b_L0_s0) : Bool := (bif tb (decide (s0.c1 < 8)) then false else true)
theorem output_pairs_c1_yp_Y18_1pGvLFi12bi3bi3bi3bi3bi3bi3bi3b_L0_x0 (x0 : List Int) (x1 : Int) (x2 : List Int) (x3 : List R_i64_i64_i64_bool) (x4 : Bool) (x5 : Bool) (x6 : Bool) (x7 : Bool) (x8 : Bool) (x9 : List R_i64_i64_i64_bool) (x10 : Int) (s0 : output_pairs_c1_yp_Y18_1pGvLFi12bi3bi3bi3bi3bi3bi3bi3b_L0_s0) : output_pairs_c1_yp_Y18_1pGvLFi12bi3bi3bi3bi3bi3bi3bi3b_L0_sel x9 s0 = false → output_pairs_c1_yp_Y18_1pGvLFi12bi3bi3bi3bi3bi3bi3bi3b_L0_c0 s0 = true → (roundG (runC E0 (cl E0) L62_0) [0, 8, 9] [] 4) (output_pairs_c1_yp_Y18_1pGvLFi12bi3bi3bi3bi3bi3bi3bi3b_L0_enc x0 x1 x2 x3 x4 x5 x6 x7 x8 x9 x10 s0) = some ((.exit 0), ([], [(Blk.loop .ready none [V.un, V.un, V.un, V.un, (V.ptr 1 1 0 0), V.un, V.un, V.un, V.un, V.un, V.un, V.un, V.un, V.un, V.un, V.un, V.un, V.un, V.un, V.un, V.un, V.un, V.un, V.un, V.un, V.un, V.un, V.un, V.un] [23] L18_0 L18_1 false), (Blk.gen 37 1 [[(V.so s0.c3 2 s0.c5.length)]] false), (Blk.flat 5 1 (List.map (encI .u8) s0.c5) false), (Blk.flat 55 41 [([(.int .i64 x1)] ++ arrD .i64 x2 8 ++ arrE enc_R_i64_i64_i64_bool x3 8)] x8)])) := by
  unfold output_pairs_c1_yp_Y18_1pGvLFi12bi3bi3bi3bi3bi3bi3bi3b_L0_sel output_pairs_c1_yp_Y18_1pGvLFi12bi3bi3bi3bi3bi3bi3bi3b_L0_c0
  cases h1 : tb (decide (s0.c1 < 8))
  · intro g0 g1
    exact round_walk [.b (tbE h1)] (by kernel_rfl)
  · cases h2 : tb (inb 8 s0.c1)
    · intro g0 g1
      exact absurd g1 ft
    · cases h3 : tb (output_Encode_Y1_o_Y18_1pGvL_c0 s0.c5 (output_pairs_c1_yp_Y18_1pGvLFi12bi3bi3bi3bi3bi3bi3bi3b_L0_h0_e2 x9 s0))
      · intro g0 g1
        exact absurd g1 ft
      · intro g0 g1
        exact absurd g0 tf
theorem output_pairs_c1_yp_Y18_1pGvLFi12bi3bi3bi3bi3bi3bi3bi3b_L0_f0_0 (x0 : List Int) (x1 : Int) (x2 : List Int) (x3 : List R_i64_i64_i64_bool) (x4 : Bool) (x5 : Bool) (x6 : Bool) (x7 : Bool) (x8 : Bool) (x9 : List R_i64_i64_i64_bool) (x10 : Int) (s : output_pairs_c1_yp_Y18_1pGvLFi12bi3bi3bi3bi3bi3bi3bi3b_L0_s0) (hok : output_pairs_c1_yp_Y18_1pGvLFi12bi3bi3bi3bi3bi3bi3bi3b_L0_ok x9 s = true) (c0 : output_pairs_c1_yp_Y18_1pGvLFi12bi3bi3bi3bi3bi3bi3bi3b_L0_c0 (output_pairs_c1_yp_Y18_1pGvLFi12bi3bi3bi3bi3bi3bi3bi3b_L0_end x9 s) = true) : loopG (roundG (runC E0 (cl E0) L62_0) [0, 8, 9] [] 4) bound (output_pairs_c1_yp_Y18_1pGvLFi12bi3bi3bi3bi3bi3bi3bi3b_L0_enc x0 x1 x2 x3 x4 x5 x6 x7 x8 x9 x10 s) = some ((.exit 0), ([], [(Blk.loop .ready none [V.un, V.un, V.un, V.un, (V.ptr 1 1 0 0), V.un, V.un, V.un, V.un, V.un, V.un, V.un, V.un, V.un, V.un, V.un, V.un, V.un, V.un, V.un, V.un, V.un, V.un, V.un, V.un, V.un, V.un, V.un, V.un] [23] L18_0 L18_1 false), (Blk.gen 37 1 [[(V.so ((output_pairs_c1_yp_Y18_1pGvLFi12bi3bi3bi3bi3bi3bi3bi3b_L0_end x9 s).c3) 2 (((output_pairs_c1_yp_Y18_1pGvLFi12bi3bi3bi3bi3bi3bi3bi3b_L0_end x9 s).c5).length))]] false), (Blk.flat 5 1 (List.map (encI .u8) ((output_pairs_c1_yp_Y18_1pGvLFi12bi3bi3bi3bi3bi3bi3bi3b_L0_end x9 s).c5)) false), (Blk.flat 55 41 [([(.int .i64 x1)] ++ arrD .i64 x2 8 ++ arrE enc_R_i64_i64_i64_bool x3 8)] x8)])) := by
  have e : itS (output_pairs_c1_yp_Y18_1pGvLFi12bi3bi3bi3bi3bi3bi3bi3b_L0_sel x9) (output_pairs_c1_yp_Y18_1pGvLFi12bi3bi3bi3bi3bi3bi3bi3b_L0_nx x9) bound s = some (output_pairs_c1_yp_Y18_1pGvLFi12bi3bi3bi3bi3bi3bi3bi3b_L0_end x9 s) := itS_get hok
  have f := itS_false e
  exact loop_it (output_pairs_c1_yp_Y18_1pGvLFi12bi3bi3bi3bi3bi3bi3bi3b_L0_go x0 x1 x2 x3 x4 x5 x6 x7 x8 x9 x10) bound s _ _ _ e (fun h => by cases h) (output_pairs_c1_yp_Y18_1pGvLFi12bi3bi3bi3bi3bi3bi3bi3b_L0_x0 x0 x1 x2 x3 x4 x5 x6 x7 x8 x9 x10 (output_pairs_c1_yp_Y18_1pGvLFi12bi3bi3bi3bi3bi3bi3bi3b_L0_end x9 s) f c0)
def output_pairs_c1_yp_Y18_1pGvLFi12bi3bi3bi3bi3bi3bi3bi3b_e0 (x0 : List Int) (x3 : List R_i64_i64_i64_bool) (x5 : Bool) : output_pairs_c1_yp_Y18_1pGvLFi12bi3bi3bi3bi3bi3bi3bi3b_L0_s0 := output_pairs_c1_yp_Y18_1pGvLFi12bi3bi3bi3bi3bi3bi3bi3b_L0_end x3 (⟨0, x5, x0⟩ : output_pairs_c1_yp_Y18_1pGvLFi12bi3bi3bi3bi3bi3bi3bi3b_L0_s0)
def output_pairs_c1_yp_Y18_1pGvLFi12bi3bi3bi3bi3bi3bi3bi3b_c0 (x0 : List Int) (x3 : List R_i64_i64_i64_bool) (x5 : Bool) : Bool := (bif tb (output_pairs_c1_yp_Y18_1pGvLFi12bi3bi3bi3bi3bi3bi3bi3b_L0_ok x3 (⟨0, x5, x0⟩ : output_pairs_c1_yp_Y18_1pGvLFi12bi3bi3bi3bi3bi3bi3bi3b_L0_s0)) then (bif tb (output_pairs_c1_yp_Y18_1pGvLFi12bi3bi3bi3bi3bi3bi3bi3b_L0_c0 (output_pairs_c1_yp_Y18_1pGvLFi12bi3bi3bi3bi3bi3bi3bi3b_e0 x0 x3 x5)) then true else false) else false)
theorem output_pairs_c1_yp_Y18_1pGvLFi12bi3bi3bi3bi3bi3bi3bi3b_t0 (x0 : List Int) (x1 : Int) (x2 : List Int) (x3 : List R_i64_i64_i64_bool) (x5 : Bool) (x8 : Bool) : output_pairs_c1_yp_Y18_1pGvLFi12bi3bi3bi3bi3bi3bi3bi3b_c0 x0 x3 x5 = true → cl E0 62 [(V.yl 0), (V.ptr 3 1 0 0)] [(Blk.loop .ready none [V.un, V.un, V.un, V.un, (V.ptr 1 1 0 0), V.un, V.un, V.un, V.un, V.un, V.un, V.un, V.un, V.un, V.un, V.un, V.un, V.un, V.un, V.un, V.un, V.un, V.un, V.un, V.un, V.un, V.un, V.un, V.un] [23] L18_0 L18_1 false), (Blk.gen 37 1 [[(V.so x5 2 x0.length)]] false), (Blk.flat 5 1 (List.map (encI .u8) x0) false), (Blk.flat 55 41 [([(.int .i64 x1)] ++ arrD .i64 x2 8 ++ arrE enc_R_i64_i64_i64_bool x3 8)] x8)] = some ([], [(Blk.loop .ready none [V.un, V.un, V.un, V.un, (V.ptr 1 1 0 0), V.un, V.un, V.un, V.un, V.un, V.un, V.un, V.un, V.un, V.un, V.un, V.un, V.un, V.un, V.un, V.un, V.un, V.un, V.un, V.un, V.un, V.un, V.un, V.un] [23] L18_0 L18_1 false), (Blk.gen 37 1 [[(V.so ((output_pairs_c1_yp_Y18_1pGvLFi12bi3bi3bi3bi3bi3bi3bi3b_e0 x0 x3 x5).c3) 2 (((output_pairs_c1_yp_Y18_1pGvLFi12bi3bi3bi3bi3bi3bi3bi3b_e0 x0 x3 x5).c5).length))]] false), (Blk.flat 5 1 (List.map (encI .u8) ((output_pairs_c1_yp_Y18_1pGvLFi12bi3bi3bi3bi3bi3bi3bi3b_e0 x0 x3 x5).c5)) false), (Blk.flat 55 41 [([(.int .i64 x1)] ++ arrD .i64 x2 8 ++ arrE enc_R_i64_i64_i64_bool x3 8)] x8)]) := by
  unfold output_pairs_c1_yp_Y18_1pGvLFi12bi3bi3bi3bi3bi3bi3bi3b_c0
  cases h1 : tb (output_pairs_c1_yp_Y18_1pGvLFi12bi3bi3bi3bi3bi3bi3bi3b_L0_ok x3 (⟨0, x5, x0⟩ : output_pairs_c1_yp_Y18_1pGvLFi12bi3bi3bi3bi3bi3bi3bi3b_L0_s0))
  · intro g0
    exact absurd g0 ft
  · cases h2 : tb (output_pairs_c1_yp_Y18_1pGvLFi12bi3bi3bi3bi3bi3bi3bi3b_L0_c0 (output_pairs_c1_yp_Y18_1pGvLFi12bi3bi3bi3bi3bi3bi3bi3b_e0 x0 x3 x5))
    · intro g0
      exact absurd g0 ft
    · intro g0
      exact w62 [.l (output_pairs_c1_yp_Y18_1pGvLFi12bi3bi3bi3bi3bi3bi3bi3b_L0_f0_0 x0 x1 x2 x3 false x5 false false x8 x3 0 (⟨0, x5, x0⟩ : output_pairs_c1_yp_Y18_1pGvLFi12bi3bi3bi3bi3bi3bi3bi3b_L0_s0) (tbE h1) (tbE h2))] (by kernel_rfl)
def output_Encode_ai12bi3bi3bi3bi3bi3bi3bi3b_S2_c0 (x2 : List R_i64_i64_i64_bool) (x6 : List Int) (x17 : Bool) : Bool := (bif tb (output_pairs_c1_yp_Y18_1pGvLFi12bi3bi3bi3bi3bi3bi3bi3b_c0 x6 x2 x17) then true else false)
theorem output_Encode_ai12bi3bi3bi3bi3bi3bi3bi3b_S2_t0 (x0 : Int) (x1 : List Int) (x2 : List R_i64_i64_i64_bool) (x3 : List Int) (x4 : List Int) (x5 : List Int) (x6 : List Int) (x7 : Bool) (x8 : Bool) (x9 : Bool) (x10 : Bool) (x11 : Bool) (x12 : Bool) (x13 : Bool) (x14 : Bool) (x16 : Bool) (x17 : Bool) : output_Encode_ai12bi3bi3bi3bi3bi3bi3bi3b_S2_c0 x2 x6 x17 = true → segG (runC E0 (cl E0) S18_2) [1, 2, 3, 4] [] [4] 9 ([(V.ptr 0 1 0 0), (V.so true 1 0), (V.d (.int .i64 0)), (V.ptr 8 1 0 0)], [(Blk.flat 55 41 [([(.int .i64 x0)] ++ arrD .i64 x1 8 ++ arrE enc_R_i64_i64_i64_bool x2 8)] x7), (Blk.flat 5 1 [] x8), (Blk.flat 5 1 (List.map (encI .u8) x3) x9), (Blk.flat 5 1 (List.map (encI .u8) x4) x10), (Blk.flat 5 1 (List.map (encI .u8) x5) x11), (Blk.gen 37 1 [[(V.so false 2 x3.length)], [(V.so x12 3 x4.length)], [(V.so x13 4 x5.length)]] x14), (Blk.flat 5 1 (List.map (encI .u8) x6) false), (Blk.flat 5 1 [] x16), (Blk.gen 37 1 [[(V.so x17 6 x6.length)]] false)]) = some (.normal, ([(V.ptr 8 1 0 0)], [(Blk.flat 55 41 [([(.int .i64 x0)] ++ arrD .i64 x1 8 ++ arrE enc_R_i64_i64_i64_bool x2 8)] x7), (Blk.flat 5 1 [] x8), (Blk.flat 5 1 (List.map (encI .u8) x3) x9), (Blk.flat 5 1 (List.map (encI .u8) x4) x10), (Blk.flat 5 1 (List.map (encI .u8) x5) x11), (Blk.gen 37 1 [[(V.so false 2 x3.length)], [(V.so x12 3 x4.length)], [(V.so x13 4 x5.length)]] x14), (Blk.flat 5 1 (List.map (encI .u8) ((output_pairs_c1_yp_Y18_1pGvLFi12bi3bi3bi3bi3bi3bi3bi3b_e0 x6 x2 x17).c5)) false), (Blk.flat 5 1 [] x16), (Blk.gen 37 1 [[(V.so ((output_pairs_c1_yp_Y18_1pGvLFi12bi3bi3bi3bi3bi3bi3bi3b_e0 x6 x2 x17).c3) 6 (((output_pairs_c1_yp_Y18_1pGvLFi12bi3bi3bi3bi3bi3bi3bi3b_e0 x6 x2 x17).c5).length))]] false)])) := by
  unfold output_Encode_ai12bi3bi3bi3bi3bi3bi3bi3b_S2_c0
  cases h1 : tb (output_pairs_c1_yp_Y18_1pGvLFi12bi3bi3bi3bi3bi3bi3bi3b_c0 x6 x2 x17)
  · intro g0
    exact absurd g0 ft
  · intro g0
    exact seg_walk [.c (output_pairs_ai12bi3bi3bi3bi3bi3bi3bi3b_t0 x0 x1 x2), .c (output_pairs_c1_yp_Y18_1pGvLFi12bi3bi3bi3bi3bi3bi3bi3b_t0 x6 x0 x1 x2 x17 false (tbE h1))] (by kernel_rfl)
def output_Encode_ai12bi3bi3bi3bi3bi3bi3bi3b_e0 (x2 : List R_i64_i64_i64_bool) : Int := IntKind.u8.wrap (((output_Failed_ai12bi3bi3bi3bi3bi3bi3bi3b_e0 x2).c0))
def output_Encode_ai12bi3bi3bi3bi3bi3bi3bi3b_e1 (x1 : List Int) : List Int := [(gt x1 0), (gt x1 1), (gt x1 2), (gt x1 3), (gt x1 4), (gt x1 5), (gt x1 6), (gt x1 7)]
def output_Encode_ai12bi3bi3bi3bi3bi3bi3bi3b_e2 (x1 : List Int) : List Int := (word_PutAll_o_r0_1 (output_Encode_ai12bi3bi3bi3bi3bi3bi3bi3b_e1 x1))
def output_Encode_ai12bi3bi3bi3bi3bi3bi3bi3b_e3 (x1 : List Int) : Bool := (word_PutAll_o_r0_0 (output_Encode_ai12bi3bi3bi3bi3bi3bi3bi3b_e1 x1))
def output_Encode_ai12bi3bi3bi3bi3bi3bi3bi3b_e4 (x0 : Int) (x1 : List Int) (x2 : List R_i64_i64_i64_bool) : List Int := (([90, (output_Encode_ai12bi3bi3bi3bi3bi3bi3bi3b_e0 x2)] ++ (word_Put2_i_r0_1 x0)) ++ (output_Encode_ai12bi3bi3bi3bi3bi3bi3bi3b_e2 x1))
def output_Encode_ai12bi3bi3bi3bi3bi3bi3bi3b_e5 (x0 : Int) (x1 : List Int) (x2 : List R_i64_i64_i64_bool) : Bool := ((output_Encode_ai12bi3bi3bi3bi3bi3bi3bi3b_e2 x1).isEmpty && ((word_Put2_i_r0_1 x0).isEmpty && ([90, (output_Encode_ai12bi3bi3bi3bi3bi3bi3bi3b_e0 x2)].isEmpty && (slices_Concat_byte_v_GvvvLLL_e0 [90, (output_Encode_ai12bi3bi3bi3bi3bi3bi3bi3b_e0 x2)] (word_Put2_i_r0_1 x0) (output_Encode_ai12bi3bi3bi3bi3bi3bi3bi3b_e2 x1)))))
def output_Encode_ai12bi3bi3bi3bi3bi3bi3bi3b_e6 (x0 : Int) (x1 : List Int) (x2 : List R_i64_i64_i64_bool) : Bool := ((output_pairs_c1_yp_Y18_1pGvLFi12bi3bi3bi3bi3bi3bi3bi3b_e0 (output_Encode_ai12bi3bi3bi3bi3bi3bi3bi3b_e4 x0 x1 x2) x2 (output_Encode_ai12bi3bi3bi3bi3bi3bi3bi3b_e5 x0 x1 x2)).c3)
def output_Encode_ai12bi3bi3bi3bi3bi3bi3bi3b_e7 (x0 : Int) (x1 : List Int) (x2 : List R_i64_i64_i64_bool) : List Int := ((output_pairs_c1_yp_Y18_1pGvLFi12bi3bi3bi3bi3bi3bi3bi3b_e0 (output_Encode_ai12bi3bi3bi3bi3bi3bi3bi3b_e4 x0 x1 x2) x2 (output_Encode_ai12bi3bi3bi3bi3bi3bi3bi3b_e5 x0 x1 x2)).c5)
def output_Encode_ai12bi3bi3bi3bi3bi3bi3bi3b_c0 (x0 : Int) (x1 : List Int) (x2 : List R_i64_i64_i64_bool) : Bool := (bif tb (output_Right_ai12bi3bi3bi3bi3bi3bi3bi3b_c0 x0 x1 x2) then (bif tb (output_Right_ai12bi3bi3bi3bi3bi3bi3bi3b_r0_0 x0 x1 x2) then (bif tb (output_Failed_ai12bi3bi3bi3bi3bi3bi3bi3b_c0 x2) then (bif tb (word_PutAll_o_c0 (output_Encode_ai12bi3bi3bi3bi3bi3bi3bi3b_e1 x1)) then (bif tb (slices_Concat_byte_v_GvvvLLL_c0 [90, (output_Encode_ai12bi3bi3bi3bi3bi3bi3bi3b_e0 x2)] (word_Put2_i_r0_1 x0) (output_Encode_ai12bi3bi3bi3bi3bi3bi3bi3b_e2 x1)) then (bif tb (output_Encode_ai12bi3bi3bi3bi3bi3bi3bi3b_S2_c0 x2 (output_Encode_ai12bi3bi3bi3bi3bi3bi3bi3b_e4 x0 x1 x2) (output_Encode_ai12bi3bi3bi3bi3bi3bi3bi3b_e5 x0 x1 x2)) then (bif tb (crc_Seal_o_c0 (output_Encode_ai12bi3bi3bi3bi3bi3bi3bi3b_e6 x0 x1 x2) (output_Encode_ai12bi3bi3bi3bi3bi3bi3bi3b_e7 x0 x1 x2)) then true else false) else false) else false) else false) else false) else true) else false)
def output_Encode_ai12bi3bi3bi3bi3bi3bi3bi3b_r0_0 (x0 : Int) (x1 : List Int) (x2 : List R_i64_i64_i64_bool) : Bool := (bif tb (output_Right_ai12bi3bi3bi3bi3bi3bi3bi3b_r0_0 x0 x1 x2) then false else true)
def output_Encode_ai12bi3bi3bi3bi3bi3bi3bi3b_r0_1 (x0 : Int) (x1 : List Int) (x2 : List R_i64_i64_i64_bool) : Int := (bif tb (output_Right_ai12bi3bi3bi3bi3bi3bi3bi3b_r0_0 x0 x1 x2) then 0 else 1)
def output_Encode_ai12bi3bi3bi3bi3bi3bi3bi3b_r0_2 (x0 : Int) (x1 : List Int) (x2 : List R_i64_i64_i64_bool) : List Int := (bif tb (output_Right_ai12bi3bi3bi3bi3bi3bi3bi3b_r0_0 x0 x1 x2) then (crc_Seal_o_e0 (output_Encode_ai12bi3bi3bi3bi3bi3bi3bi3b_e6 x0 x1 x2) (output_Encode_ai12bi3bi3bi3bi3bi3bi3bi3b_e7 x0 x1 x2)) else ([] : List Int))
theorem output_Encode_ai12bi3bi3bi3bi3bi3bi3bi3b_t0 (x0 : Int) (x1 : List Int) (x2 : List R_i64_i64_i64_bool) : output_Encode_ai12bi3bi3bi3bi3bi3bi3bi3b_c0 x0 x1 x2 = true → cl E0 18 [(V.agg (List.map V.d ([(.int .i64 x0)] ++ arrD .i64 x1 8 ++ arrE enc_R_i64_i64_i64_bool x2 8)))] [] = some ([(V.so (output_Encode_ai12bi3bi3bi3bi3bi3bi3bi3b_r0_0 x0 x1 x2) 0 ((output_Encode_ai12bi3bi3bi3bi3bi3bi3bi3b_r0_2 x0 x1 x2).length)), (V.d (.int .i64 (output_Encode_ai12bi3bi3bi3bi3bi3bi3bi3b_r0_1 x0 x1 x2)))], [(Blk.flat 5 1 (List.map (encI .u8) (output_Encode_ai12bi3bi3bi3bi3bi3bi3bi3b_r0_2 x0 x1 x2)) false)]) := by
  unfold output_Encode_ai12bi3bi3bi3bi3bi3bi3bi3b_c0 output_Encode_ai12bi3bi3bi3bi3bi3bi3bi3b_r0_0 output_Encode_ai12bi3bi3bi3bi3bi3bi3bi3b_r0_1 output_Encode_ai12bi3bi3bi3bi3bi3bi3bi3b_r0_2
  cases h1 : tb (output_Right_ai12bi3bi3bi3bi3bi3bi3bi3b_c0 x0 x1 x2)
  · intro g0
    exact absurd g0 ft
  · cases h2 : tb (output_Right_ai12bi3bi3bi3bi3bi3bi3bi3b_r0_0 x0 x1 x2)
    · intro g0
      exact w18 [.c (output_Right_ai12bi3bi3bi3bi3bi3bi3bi3b_t0 x0 x1 x2 (tbE h1)), .b (notF (tbE h2))] (by kernel_rfl)
    · cases h3 : tb (output_Failed_ai12bi3bi3bi3bi3bi3bi3bi3b_c0 x2)
      · intro g0
        exact absurd g0 ft
      · cases h4 : tb (word_PutAll_o_c0 (output_Encode_ai12bi3bi3bi3bi3bi3bi3bi3b_e1 x1))
        · intro g0
          exact absurd g0 ft
        · cases h5 : tb (slices_Concat_byte_v_GvvvLLL_c0 [90, (output_Encode_ai12bi3bi3bi3bi3bi3bi3bi3b_e0 x2)] (word_Put2_i_r0_1 x0) (output_Encode_ai12bi3bi3bi3bi3bi3bi3bi3b_e2 x1))
          · intro g0
            exact absurd g0 ft
          · cases h6 : tb (output_Encode_ai12bi3bi3bi3bi3bi3bi3bi3b_S2_c0 x2 (output_Encode_ai12bi3bi3bi3bi3bi3bi3bi3b_e4 x0 x1 x2) (output_Encode_ai12bi3bi3bi3bi3bi3bi3bi3b_e5 x0 x1 x2))
            · intro g0
              exact absurd g0 ft
            · cases h7 : tb (crc_Seal_o_c0 (output_Encode_ai12bi3bi3bi3bi3bi3bi3bi3b_e6 x0 x1 x2) (output_Encode_ai12bi3bi3bi3bi3bi3bi3bi3b_e7 x0 x1 x2))
              · intro g0
                exact absurd g0 ft
              · intro g0
                exact w18 [.c (output_Right_ai12bi3bi3bi3bi3bi3bi3bi3b_t0 x0 x1 x2 (tbE h1)), .b (notT (tbE h2)), .c (output_Failed_ai12bi3bi3bi3bi3bi3bi3bi3b_t0 x0 x1 x2 (tbE h3)), .c (word_Put2_i_t0 x0), .c (word_PutAll_o_t0 false (output_Encode_ai12bi3bi3bi3bi3bi3bi3bi3b_e1 x1) (tbE h4)), .c (slices_Concat_byte_v_GvvvLLL_t0 [90, (output_Encode_ai12bi3bi3bi3bi3bi3bi3bi3b_e0 x2)] (word_Put2_i_r0_1 x0) (output_Encode_ai12bi3bi3bi3bi3bi3bi3bi3b_e2 x1) false (word_Put2_i_r0_0 x0) (output_Encode_ai12bi3bi3bi3bi3bi3bi3bi3b_e3 x1) false false false false false (tbE h5)), .s (output_Encode_ai12bi3bi3bi3bi3bi3bi3bi3b_S2_t0 x0 x1 x2 [90, (output_Encode_ai12bi3bi3bi3bi3bi3bi3bi3b_e0 x2)] (word_Put2_i_r0_1 x0) (output_Encode_ai12bi3bi3bi3bi3bi3bi3bi3b_e2 x1) (output_Encode_ai12bi3bi3bi3bi3bi3bi3bi3b_e4 x0 x1 x2) false false false false false (word_Put2_i_r0_0 x0) (output_Encode_ai12bi3bi3bi3bi3bi3bi3bi3b_e3 x1) false false (output_Encode_ai12bi3bi3bi3bi3bi3bi3bi3b_e5 x0 x1 x2) (tbE h6)), .y (mm := [(Blk.flat 55 41 [([(.int .i64 x0)] ++ arrD .i64 x1 8 ++ arrE enc_R_i64_i64_i64_bool x2 8)] false), (Blk.flat 5 1 [] false), (Blk.flat 5 1 (List.map (encI .u8) [90, (output_Encode_ai12bi3bi3bi3bi3bi3bi3bi3b_e0 x2)]) false), (Blk.flat 5 1 (List.map (encI .u8) (word_Put2_i_r0_1 x0)) false), (Blk.flat 5 1 (List.map (encI .u8) (output_Encode_ai12bi3bi3bi3bi3bi3bi3bi3b_e2 x1)) false), (Blk.gen 37 1 [[(V.so false 2 ([90, (output_Encode_ai12bi3bi3bi3bi3bi3bi3bi3b_e0 x2)].length))], [(V.so (word_Put2_i_r0_0 x0) 3 ((word_Put2_i_r0_1 x0).length))], [(V.so (output_Encode_ai12bi3bi3bi3bi3bi3bi3bi3b_e3 x1) 4 ((output_Encode_ai12bi3bi3bi3bi3bi3bi3bi3b_e2 x1).length))]] false), (Blk.flat 5 1 (List.map (encI .u8) ((output_pairs_c1_yp_Y18_1pGvLFi12bi3bi3bi3bi3bi3bi3bi3b_e0 (output_Encode_ai12bi3bi3bi3bi3bi3bi3bi3b_e4 x0 x1 x2) x2 (output_Encode_ai12bi3bi3bi3bi3bi3bi3bi3b_e5 x0 x1 x2)).c5)) false), (Blk.flat 5 1 [] false), (Blk.gen 37 1 [[(V.so ((output_pairs_c1_yp_Y18_1pGvLFi12bi3bi3bi3bi3bi3bi3bi3b_e0 (output_Encode_ai12bi3bi3bi3bi3bi3bi3bi3b_e4 x0 x1 x2) x2 (output_Encode_ai12bi3bi3bi3bi3bi3bi3bi3b_e5 x0 x1 x2)).c3) 6 (((output_pairs_c1_yp_Y18_1pGvLFi12bi3bi3bi3bi3bi3bi3bi3b_e0 (output_Encode_ai12bi3bi3bi3bi3bi3bi3bi3b_e4 x0 x1 x2) x2 (output_Encode_ai12bi3bi3bi3bi3bi3bi3bi3b_e5 x0 x1 x2)).c5).length))]] false)]) (args := [(V.so ((output_pairs_c1_yp_Y18_1pGvLFi12bi3bi3bi3bi3bi3bi3bi3b_e0 (output_Encode_ai12bi3bi3bi3bi3bi3bi3bi3b_e4 x0 x1 x2) x2 (output_Encode_ai12bi3bi3bi3bi3bi3bi3bi3b_e5 x0 x1 x2)).c3) 6 (((output_pairs_c1_yp_Y18_1pGvLFi12bi3bi3bi3bi3bi3bi3bi3b_e0 (output_Encode_ai12bi3bi3bi3bi3bi3bi3bi3b_e4 x0 x1 x2) x2 (output_Encode_ai12bi3bi3bi3bi3bi3bi3bi3b_e5 x0 x1 x2)).c5).length))]) (args1 := [(V.d (slD (encI .u8) true 1 ((output_pairs_c1_yp_Y18_1pGvLFi12bi3bi3bi3bi3bi3bi3bi3b_e0 (output_Encode_ai12bi3bi3bi3bi3bi3bi3bi3b_e4 x0 x1 x2) x2 (output_Encode_ai12bi3bi3bi3bi3bi3bi3bi3b_e5 x0 x1 x2)).c3) ((output_pairs_c1_yp_Y18_1pGvLFi12bi3bi3bi3bi3bi3bi3bi3b_e0 (output_Encode_ai12bi3bi3bi3bi3bi3bi3bi3b_e4 x0 x1 x2) x2 (output_Encode_ai12bi3bi3bi3bi3bi3bi3bi3b_e5 x0 x1 x2)).c5)))]) (byvals_cons (byval_so (enc := (encI .u8)) (l := ((output_pairs_c1_yp_Y18_1pGvLFi12bi3bi3bi3bi3bi3bi3bi3b_e0 (output_Encode_ai12bi3bi3bi3bi3bi3bi3bi3b_e4 x0 x1 x2) x2 (output_Encode_ai12bi3bi3bi3bi3bi3bi3bi3b_e5 x0 x1 x2)).c5)) (b := ((output_pairs_c1_yp_Y18_1pGvLFi12bi3bi3bi3bi3bi3bi3bi3b_e0 (output_Encode_ai12bi3bi3bi3bi3bi3bi3bi3b_e4 x0 x1 x2) x2 (output_Encode_ai12bi3bi3bi3bi3bi3bi3bi3b_e5 x0 x1 x2)).c3)) (e := 5) (s := 1) (p := false) (n := (((output_pairs_c1_yp_Y18_1pGvLFi12bi3bi3bi3bi3bi3bi3bi3b_e0 (output_Encode_ai12bi3bi3bi3bi3bi3bi3bi3b_e4 x0 x1 x2) x2 (output_Encode_ai12bi3bi3bi3bi3bi3bi3bi3b_e5 x0 x1 x2)).c5).length)) (Nat.beq_refl _) (by kernel_rfl)) (by kernel_rfl)), .c (crc_Seal_o_t0 (output_Encode_ai12bi3bi3bi3bi3bi3bi3bi3b_e6 x0 x1 x2) (output_Encode_ai12bi3bi3bi3bi3bi3bi3bi3b_e7 x0 x1 x2) (tbE h7))] (by kernel_rfl)
def output_Decode_o_S0_c0 (x4 : List Int) : Bool := (bif tb ((((x4.length : Nat) : Int) : Int) != 54) then true else false)
theorem output_Decode_o_S0_t0 (x0 : List Int) (x1 : List R_i64_i64_i64_bool) (x3 : Bool) (x4 : List Int) : output_Decode_o_S0_c0 x4 = true → segG (runC E0 (cl E0) S21_0) [0, 2] [2, 3] [0, 2] 1 ([(V.d (slD (encI .u8) true 1 x3 x4)), (V.ptr 0 1 0 0)], [(Blk.flat 55 41 [([(.int .i64 0)] ++ arrD .i64 x0 8 ++ arrE enc_R_i64_i64_i64_bool x1 8)] false)]) = some (.ret, ([(V.ptr 0 1 0 0), (V.d (.int .i64 3))], [(Blk.flat 55 41 [([(.int .i64 0)] ++ arrD .i64 [0, 0, 0, 0, 0, 0, 0, 0] 8 ++ arrE enc_R_i64_i64_i64_bool ([⟨0, 0, 0, false⟩, ⟨0, 0, 0, false⟩, ⟨0, 0, 0, false⟩, ⟨0, 0, 0, false⟩, ⟨0, 0, 0, false⟩, ⟨0, 0, 0, false⟩, ⟨0, 0, 0, false⟩, ⟨0, 0, 0, false⟩] : List R_i64_i64_i64_bool) 8)] false)])) := by
  unfold output_Decode_o_S0_c0
  cases h1 : tb ((((x4.length : Nat) : Int) : Int) != 54)
  · intro g0
    exact absurd g0 ft
  · intro g0
    exact seg_walk [.o 13 (fun _ => o_len_os (enc := (encI .u8)) (l := x4) (fl := true) (n := x3) (s := 1)), .b (tbE h1)] (by kernel_rfl)
theorem output_Decode_o_S0_t1 (x0 : List Int) (x1 : List R_i64_i64_i64_bool) (x3 : Bool) (x4 : List Int) : output_Decode_o_S0_c0 x4 = false → segG (runC E0 (cl E0) S21_0) [0, 2] [2, 3] [0, 2] 1 ([(V.d (slD (encI .u8) true 1 x3 x4)), (V.ptr 0 1 0 0)], [(Blk.flat 55 41 [([(.int .i64 0)] ++ arrD .i64 x0 8 ++ arrE enc_R_i64_i64_i64_bool x1 8)] false)]) = some (.normal, ([(V.d (slD (encI .u8) true 1 x3 x4)), (V.ptr 0 1 0 0)], [(Blk.flat 55 41 [([(.int .i64 0)] ++ arrD .i64 x0 8 ++ arrE enc_R_i64_i64_i64_bool x1 8)] false)])) := by
  unfold output_Decode_o_S0_c0
  cases h1 : tb ((((x4.length : Nat) : Int) : Int) != 54)
  · intro g0
    exact seg_walk [.o 13 (fun _ => o_len_os (enc := (encI .u8)) (l := x4) (fl := true) (n := x3) (s := 1)), .b (tbE h1)] (by kernel_rfl)
  · intro g0
    exact absurd g0 tf
def output_Decode_o_S1_c0 (x7 : List Int) : Bool := (bif tb (ins x7.length 2 4) then (bif tb (word_Get2_o_c0 (sub x7 2 4)) then true else false) else false)
theorem output_Decode_o_S1_t0 (x0 : List Int) (x1 : List R_i64_i64_i64_bool) (x2 : List Int) (x3 : List R_i64_i64_i64_bool) (x4 : Bool) (x6 : Bool) (x7 : List Int) : output_Decode_o_S1_c0 x7 = true → segG (runC E0 (cl E0) S21_1) [0, 2, 4] [] [0, 2, 4] 2 ([(V.d (slD (encI .u8) true 1 x6 x7)), (V.ptr 0 1 0 0), (V.ptr 1 1 0 0)], [(Blk.flat 55 41 [([(.int .i64 0)] ++ arrD .i64 x0 8 ++ arrE enc_R_i64_i64_i64_bool x1 8)] x4), (Blk.flat 55 41 [([(.int .i64 0)] ++ arrD .i64 x2 8 ++ arrE enc_R_i64_i64_i64_bool x3 8)] false)]) = some (.normal, ([(V.d (slD (encI .u8) true 1 x6 x7)), (V.ptr 0 1 0 0), (V.ptr 1 1 0 0)], [(Blk.flat 55 41 [([(.int .i64 0)] ++ arrD .i64 x0 8 ++ arrE enc_R_i64_i64_i64_bool x1 8)] x4), (Blk.flat 55 41 [([(.int .i64 (word_Get2_o_r0_0 (sub x7 2 4)))] ++ arrD .i64 x2 8 ++ arrE enc_R_i64_i64_i64_bool x3 8)] false)])) := by
  unfold output_Decode_o_S1_c0
  cases h1 : tb (ins x7.length 2 4)
  · intro g0
    exact absurd g0 ft
  · cases h2 : tb (word_Get2_o_c0 (sub x7 2 4))
    · intro g0
      exact absurd g0 ft
    · intro g0
      exact seg_walk [.o 18 (fun _ => o_slice_os (enc := (encI .u8)) (l := x7) (fl := true) (n := x6) (s := 1) (some (.i64, 2)) (some (.i64, 4)) (tbE h1)), .c (word_Get2_o_t0 (x6 && x7.isEmpty) (sub x7 2 4) (tbE h2))] (by kernel_rfl)
def output_Decode_o_S2_c0 (x7 : Bool) (x8 : List Int) : Bool := (bif tb (ins x8.length 4 36) then (bif tb (word_GetAll_o_c0 (x7 && x8.isEmpty) (sub x8 4 36)) then (bif tb (word_GetAll_o_r0_0 (x7 && x8.isEmpty) (sub x8 4 36)) then false else (bif tb (Nat.ble 8 ((word_GetAll_o_r0_2 (x7 && x8.isEmpty) (sub x8 4 36)).length)) then true else false)) else false) else false)
theorem output_Decode_o_S2_t0 (x0 : List Int) (x1 : List R_i64_i64_i64_bool) (x2 : Int) (x3 : List Int) (x4 : List R_i64_i64_i64_bool) (x5 : Bool) (x7 : Bool) (x8 : List Int) : output_Decode_o_S2_c0 x7 x8 = true → segG (runC E0 (cl E0) S21_2) [0, 2, 4] [] [0, 2, 4] 2 ([(V.d (slD (encI .u8) true 1 x7 x8)), (V.ptr 0 1 0 0), (V.ptr 1 1 0 0)], [(Blk.flat 55 41 [([(.int .i64 0)] ++ arrD .i64 x0 8 ++ arrE enc_R_i64_i64_i64_bool x1 8)] x5), (Blk.flat 55 41 [([(.int .i64 x2)] ++ arrD .i64 x3 8 ++ arrE enc_R_i64_i64_i64_bool x4 8)] false)]) = some (.normal, ([(V.d (slD (encI .u8) true 1 x7 x8)), (V.ptr 0 1 0 0), (V.ptr 1 1 0 0)], [(Blk.flat 55 41 [([(.int .i64 0)] ++ arrD .i64 x0 8 ++ arrE enc_R_i64_i64_i64_bool x1 8)] x5), (Blk.flat 55 41 [([(.int .i64 x2)] ++ arrD .i64 (word_GetAll_o_r0_2 (x7 && x8.isEmpty) (sub x8 4 36)) 8 ++ arrE enc_R_i64_i64_i64_bool x4 8)] false)])) := by
  unfold output_Decode_o_S2_c0
  cases h1 : tb (ins x8.length 4 36)
  · intro g0
    exact absurd g0 ft
  · cases h2 : tb (word_GetAll_o_c0 (x7 && x8.isEmpty) (sub x8 4 36))
    · intro g0
      exact absurd g0 ft
    · cases h3 : tb (word_GetAll_o_r0_0 (x7 && x8.isEmpty) (sub x8 4 36))
      · cases h4 : tb (Nat.ble 8 ((word_GetAll_o_r0_2 (x7 && x8.isEmpty) (sub x8 4 36)).length))
        · intro g0
          exact absurd g0 ft
        · intro g0
          exact seg_walk [.o 25 (fun _ => o_slice_os (enc := (encI .u8)) (l := x8) (fl := true) (n := x7) (s := 1) (some (.i64, 4)) (some (.i64, 36)) (tbE h1)), .c (word_GetAll_o_t0 (x7 && x8.isEmpty) (sub x8 4 36) (tbE h2)), .m 30 (o_arrP (m := [(Blk.flat 55 41 [([(.int .i64 0)] ++ arrD .i64 x0 8 ++ arrE enc_R_i64_i64_i64_bool x1 8)] x5), (Blk.flat 55 41 [([(.int .i64 x2)] ++ arrD .i64 x3 8 ++ arrE enc_R_i64_i64_i64_bool x4 8)] false), (Blk.flat 3 1 (List.map (encI .i64) (word_GetAll_o_r0_2 (x7 && x8.isEmpty) (sub x8 4 36))) false)]) (nl := (word_GetAll_o_r0_0 (x7 && x8.isEmpty) (sub x8 4 36))) (id := 2) (n := ((word_GetAll_o_r0_2 (x7 && x8.isEmpty) (sub x8 4 36)).length)) (k := 8) (s := 1) (tbE h3) (by kernel_rfl) (tbE h4)), .m 31 (o_load_pa (m := [(Blk.flat 55 41 [([(.int .i64 0)] ++ arrD .i64 x0 8 ++ arrE enc_R_i64_i64_i64_bool x1 8)] x5), (Blk.flat 55 41 [([(.int .i64 x2)] ++ arrD .i64 x3 8 ++ arrE enc_R_i64_i64_i64_bool x4 8)] false), (Blk.flat 3 1 (List.map (encI .i64) (word_GetAll_o_r0_2 (x7 && x8.isEmpty) (sub x8 4 36))) false)]) (kd := .i64) (l := (word_GetAll_o_r0_2 (x7 && x8.isEmpty) (sub x8 4 36))) (id := 2) (n := ((word_GetAll_o_r0_2 (x7 && x8.isEmpty) (sub x8 4 36)).length)) (k := 8) (e := 3) (p := false) (Nat.beq_refl _) (by kernel_rfl) (tbE h4))] (by kernel_rfl)
      · intro g0
        exact absurd g0 ft
structure output_Decode_o_L3_s0 where
  c2 : Int
  c9 : List R_i64_i64_i64_bool
  deriving Inhabited
def output_Decode_o_L3_h0_e0 (x9 : List Int) (s0 : output_Decode_o_L3_s0) : List Int := sub x9 (wi (36 + (wi (2 * s0.c2)))) (wi ((wi (36 + (wi (2 * s0.c2)))) + 2))
def output_Decode_o_L3_h0_e1 (x9 : List Int) (s0 : output_Decode_o_L3_s0) : R_i64_i64_i64_bool := (⟨(status_Parse_i_r0_0 (word_Get2_o_r0_0 (output_Decode_o_L3_h0_e0 x9 s0))), (status_Parse_i_r0_1 (word_Get2_o_r0_0 (output_Decode_o_L3_h0_e0 x9 s0))), (status_Parse_i_r0_2 (word_Get2_o_r0_0 (output_Decode_o_L3_h0_e0 x9 s0))), (status_Parse_i_r0_3 (word_Get2_o_r0_0 (output_Decode_o_L3_h0_e0 x9 s0)))⟩ : R_i64_i64_i64_bool)
def output_Decode_o_L3_enc (x0 : Int) (x1 : List Int) (x2 : List R_i64_i64_i64_bool) (x3 : Int) (x4 : List Int) (x5 : List R_i64_i64_i64_bool) (x6 : Bool) (x7 : Bool) (x8 : Bool) (x9 : List Int) (x10 : Int) (s0 : output_Decode_o_L3_s0) : List V × Mem := ([(V.d (slD (encI .u8) true 1 x8 x9)), (V.ptr 0 1 0 0), (V.ptr 1 1 0 0), (V.d (.int .i64 s0.c2))], [(Blk.flat 55 41 [([(.int .i64 x0)] ++ arrD .i64 x1 8 ++ arrE enc_R_i64_i64_i64_bool x2 8)] x6), (Blk.flat 55 41 [([(.int .i64 x3)] ++ arrD .i64 x4 8 ++ arrE enc_R_i64_i64_i64_bool s0.c9 8)] false)])
def output_Decode_o_L3_sel (x9 : List Int) (s0 : output_Decode_o_L3_s0) : Bool := (bif tb (decide (s0.c2 < 8)) then (bif tb (ins x9.length (wi (36 + (wi (2 * s0.c2)))) (wi ((wi (36 + (wi (2 * s0.c2)))) + 2))) then (bif tb (word_Get2_o_c0 (output_Decode_o_L3_h0_e0 x9 s0)) then (bif tb (inb 8 s0.c2) then true else false) else false) else false) else false)
def output_Decode_o_L3_nx (x9 : List Int) (s0 : output_Decode_o_L3_s0) : output_Decode_o_L3_s0 := ⟨(wi (s0.c2 + 1)), (staE s0.c9 8 s0.c2 (output_Decode_o_L3_h0_e1 x9 s0))⟩
def output_Decode_o_L3_ok (x9 : List Int) (s0 : output_Decode_o_L3_s0) : Bool := (itS (output_Decode_o_L3_sel x9) (output_Decode_o_L3_nx x9) bound s0).isSome
def output_Decode_o_L3_end (x9 : List Int) (s0 : output_Decode_o_L3_s0) : output_Decode_o_L3_s0 := (itS (output_Decode_o_L3_sel x9) (output_Decode_o_L3_nx x9) bound s0).getD default
theorem output_Decode_o_L3_go (x0 : Int) (x1 : List Int) (x2 : List R_i64_i64_i64_bool) (x3 : Int) (x4 : List Int) (x5 : List R_i64_i64_i64_bool) (x6 : Bool) (x7 : Bool) (x8 : Bool) (x9 : List Int) (x10 : Int) (s0 : output_Decode_o_L3_s0) : output_Decode_o_L3_sel x9 s0 = true → (roundG (runC E0 (cl E0) L21_3) [0, 2, 4, 33] [0, 2, 4] 2) (output_Decode_o_L3_enc x0 x1 x2 x3 x4 x5 x6 x7 x8 x9 x10 s0) = some (.normal, output_Decode_o_L3_enc x0 x1 x2 x3 x4 x5 x6 x7 x8 x9 x10 (output_Decode_o_L3_nx x9 s0)) := by
  unfold output_Decode_o_L3_sel output_Decode_o_L3_nx
  cases h1 : tb (decide (s0.c2 < 8))
  · intro g0
    exact absurd g0 ft
  · cases h2 : tb (ins x9.length (wi (36 + (wi (2 * s0.c2)))) (wi ((wi (36 + (wi (2 * s0.c2)))) + 2)))
    · intro g0
      exact absurd g0 ft
    · cases h3 : tb (word_Get2_o_c0 (output_Decode_o_L3_h0_e0 x9 s0))
      · intro g0
        exact absurd g0 ft
      · cases h4 : tb (inb 8 s0.c2)
        · intro g0
          exact absurd g0 ft
        · intro _
          exact round_walk [.b (tbE h1), .o 45 (fun _ => o_slice_os (enc := (encI .u8)) (l := x9) (fl := true) (n := x8) (s := 1) (some (.i64, (wi (36 + (wi (2 * s0.c2)))))) (some (.i64, (wi ((wi (36 + (wi (2 * s0.c2)))) + 2)))) (tbE h2)), .c (word_Get2_o_t0 (x8 && x9.isEmpty) (output_Decode_o_L3_h0_e0 x9 s0) (tbE h3)), .c (status_Parse_i_t0 (word_Get2_o_r0_0 (output_Decode_o_L3_h0_e0 x9 s0))), .o 56 (fun _ => o_idxAA (id := 1) (nn := 1) (row := 0) (off := 9) (n := 8) (s := 4) (k := .i64) (i := s0.c2) (tbE h4)), .m 100056 (o_store_arrE (m := [(Blk.flat 55 41 [([(.int .i64 x0)] ++ arrD .i64 x1 8 ++ arrE enc_R_i64_i64_i64_bool x2 8)] x6), (Blk.flat 55 41 [([(.int .i64 x3)] ++ arrD .i64 x4 8 ++ arrE enc_R_i64_i64_i64_bool s0.c9 8)] false)]) (enc := enc_R_i64_i64_i64_bool) (z := 4) (fun _ => rfl) (by decide) (fun _ => rfl) (id := 1) (nn := 1) (row := 0) (off := 9) (n := 8) (s := 41) (e := 55) (rows := [([(.int .i64 x3)] ++ arrD .i64 x4 8 ++ arrE enc_R_i64_i64_i64_bool s0.c9 8)]) (cs := ([(.int .i64 x3)] ++ arrD .i64 x4 8 ++ arrE enc_R_i64_i64_i64_bool s0.c9 8)) (T := s0.c9) (i := s0.c2) (v := (output_Decode_o_L3_h0_e1 x9 s0)) (by kernel_rfl) (by kernel_rfl) (by kernel_rfl) (by kernel_rfl) (tbE h4))] (by kernel_rfl)
def output_Decode_o_L3_c0 (s0 : output_Decode_o_L3_s0) : Bool := (bif tb (decide (s0.c2 < 8)) then false else true)
theorem output_Decode_o_L3_x0 (x0 : Int) (x1 : List Int) (x2 : List R_i64_i64_i64_bool) (x3 : Int) (x4 : List Int) (x5 : List R_i64_i64_i64_bool) (x6 : Bool) (x7 : Bool) (x8 : Bool) (x9 : List Int) (x10 : Int) (s0 : output_Decode_o_L3_s0) : output_Decode_o_L3_sel x9 s0 = false → output_Decode_o_L3_c0 s0 = true → (roundG (runC E0 (cl E0) L21_3) [0, 2, 4, 33] [0, 2, 4] 2) (output_Decode_o_L3_enc x0 x1 x2 x3 x4 x5 x6 x7 x8 x9 x10 s0) = some ((.exit 0), ([(V.d (slD (encI .u8) true 1 x8 x9)), (V.ptr 0 1 0 0), (V.ptr 1 1 0 0)], [(Blk.flat 55 41 [([(.int .i64 x0)] ++ arrD .i64 x1 8 ++ arrE enc_R_i64_i64_i64_bool x2 8)] x6), (Blk.flat 55 41 [([(.int .i64 x3)] ++ arrD .i64 x4 8 ++ arrE enc_R_i64_i64_i64_bool s0.c9 8)] false)])) := by
  unfold output_Decode_o_L3_sel output_Decode_o_L3_c0
  cases h1 : tb (decide (s0.c2 < 8))
  · intro g0 g1
    exact round_walk [.b (tbE h1)] (by kernel_rfl)
  · cases h2 : tb (ins x9.length (wi (36 + (wi (2 * s0.c2)))) (wi ((wi (36 + (wi (2 * s0.c2)))) + 2)))
    · intro g0 g1
      exact absurd g1 ft
    · cases h3 : tb (word_Get2_o_c0 (output_Decode_o_L3_h0_e0 x9 s0))
      · intro g0 g1
        exact absurd g1 ft
      · cases h4 : tb (inb 8 s0.c2)
        · intro g0 g1
          exact absurd g1 ft
        · intro g0 g1
          exact absurd g0 tf
theorem output_Decode_o_L3_f0_0 (x0 : Int) (x1 : List Int) (x2 : List R_i64_i64_i64_bool) (x3 : Int) (x4 : List Int) (x5 : List R_i64_i64_i64_bool) (x6 : Bool) (x7 : Bool) (x8 : Bool) (x9 : List Int) (x10 : Int) (s : output_Decode_o_L3_s0) (hok : output_Decode_o_L3_ok x9 s = true) (c0 : output_Decode_o_L3_c0 (output_Decode_o_L3_end x9 s) = true) : loopG (roundG (runC E0 (cl E0) L21_3) [0, 2, 4, 33] [0, 2, 4] 2) bound (output_Decode_o_L3_enc x0 x1 x2 x3 x4 x5 x6 x7 x8 x9 x10 s) = some ((.exit 0), ([(V.d (slD (encI .u8) true 1 x8 x9)), (V.ptr 0 1 0 0), (V.ptr 1 1 0 0)], [(Blk.flat 55 41 [([(.int .i64 x0)] ++ arrD .i64 x1 8 ++ arrE enc_R_i64_i64_i64_bool x2 8)] x6), (Blk.flat 55 41 [([(.int .i64 x3)] ++ arrD .i64 x4 8 ++ arrE enc_R_i64_i64_i64_bool ((output_Decode_o_L3_end x9 s).c9) 8)] false)])) := by
  have e : itS (output_Decode_o_L3_sel x9) (output_Decode_o_L3_nx x9) bound s = some (output_Decode_o_L3_end x9 s) := itS_get hok
  have f := itS_false e
  exact loop_it (output_Decode_o_L3_go x0 x1 x2 x3 x4 x5 x6 x7 x8 x9 x10) bound s _ _ _ e (fun h => by cases h) (output_Decode_o_L3_x0 x0 x1 x2 x3 x4 x5 x6 x7 x8 x9 x10 (output_Decode_o_L3_end x9 s) f c0)
def output_Decode_o_S4_e0 (x4 : List R_i64_i64_i64_bool) (x8 : List Int) : List R_i64_i64_i64_bool := ((output_Decode_o_L3_end x8 (⟨0, x4⟩ : output_Decode_o_L3_s0)).c9)
def output_Decode_o_S4_c0 (x4 : List R_i64_i64_i64_bool) (x8 : List Int) : Bool := (bif tb (output_Decode_o_L3_ok x8 (⟨0, x4⟩ : output_Decode_o_L3_s0)) then (bif tb (output_Decode_o_L3_c0 (output_Decode_o_L3_end x8 (⟨0, x4⟩ : output_Decode_o_L3_s0))) then true else false) else false)
theorem output_Decode_o_S4_t0 (x0 : List Int) (x1 : List R_i64_i64_i64_bool) (x2 : Int) (x3 : List Int) (x4 : List R_i64_i64_i64_bool) (x5 : Bool) (x7 : Bool) (x8 : List Int) : output_Decode_o_S4_c0 x4 x8 = true → segG (runC E0 (cl E0) S21_4) [0, 2, 4] [] [0, 2, 4] 2 ([(V.d (slD (encI .u8) true 1 x7 x8)), (V.ptr 0 1 0 0), (V.ptr 1 1 0 0)], [(Blk.flat 55 41 [([(.int .i64 0)] ++ arrD .i64 x0 8 ++ arrE enc_R_i64_i64_i64_bool x1 8)] x5), (Blk.flat 55 41 [([(.int .i64 x2)] ++ arrD .i64 x3 8 ++ arrE enc_R_i64_i64_i64_bool x4 8)] false)]) = some (.normal, ([(V.d (slD (encI .u8) true 1 x7 x8)), (V.ptr 0 1 0 0), (V.ptr 1 1 0 0)], [(Blk.flat 55 41 [([(.int .i64 0)] ++ arrD .i64 x0 8 ++ arrE enc_R_i64_i64_i64_bool x1 8)] x5), (Blk.flat 55 41 [([(.int .i64 x2)] ++ arrD .i64 x3 8 ++ arrE enc_R_i64_i64_i64_bool (output_Decode_o_S4_e0 x4 x8) 8)] false)])) := by
  unfold output_Decode_o_S4_c0
  cases h1 : tb (output_Decode_o_L3_ok x8 (⟨0, x4⟩ : output_Decode_o_L3_s0))
  · intro g0
    exact absurd g0 ft
  · cases h2 : tb (output_Decode_o_L3_c0 (output_Decode_o_L3_end x8 (⟨0, x4⟩ : output_Decode_o_L3_s0)))
    · intro g0
      exact absurd g0 ft
    · intro g0
      exact seg_walk [.l (output_Decode_o_L3_f0_0 0 x0 x1 x2 x3 x4 x5 false x7 x8 0 (⟨0, x4⟩ : output_Decode_o_L3_s0) (tbE h1) (tbE h2))] (by kernel_rfl)
def output_Decode_o_S5_c0 (x2 : Int) (x3 : List Int) (x4 : List R_i64_i64_i64_bool) (x8 : List Int) : Bool := (bif tb (output_Encode_ai12bi3bi3bi3bi3bi3bi3bi3b_c0 x2 x3 x4) then (bif tb (((output_Encode_ai12bi3bi3bi3bi3bi3bi3bi3b_r0_1 x2 x3 x4) : Int) != 0) then true else (bif tb (slices_Equal_byte_oo_c0 (output_Encode_ai12bi3bi3bi3bi3bi3bi3bi3b_r0_2 x2 x3 x4) x8) then (bif tb (slices_Equal_byte_oo_r0_0 (output_Encode_ai12bi3bi3bi3bi3bi3bi3bi3b_r0_2 x2 x3 x4) x8) then false else true) else false)) else false)
def output_Decode_o_S5_c1 (x2 : Int) (x3 : List Int) (x4 : List R_i64_i64_i64_bool) (x8 : List Int) : Bool := (bif tb (output_Encode_ai12bi3bi3bi3bi3bi3bi3bi3b_c0 x2 x3 x4) then (bif tb (((output_Encode_ai12bi3bi3bi3bi3bi3bi3bi3b_r0_1 x2 x3 x4) : Int) != 0) then false else (bif tb (slices_Equal_byte_oo_c0 (output_Encode_ai12bi3bi3bi3bi3bi3bi3bi3b_r0_2 x2 x3 x4) x8) then (bif tb (slices_Equal_byte_oo_r0_0 (output_Encode_ai12bi3bi3bi3bi3bi3bi3bi3b_r0_2 x2 x3 x4) x8) then true else false) else false)) else false)
theorem output_Decode_o_S5_t0 (x0 : List Int) (x1 : List R_i64_i64_i64_bool) (x2 : Int) (x3 : List Int) (x4 : List R_i64_i64_i64_bool) (x6 : Bool) (x7 : Bool) (x8 : List Int) : output_Decode_o_S5_c0 x2 x3 x4 x8 = true → segG (runC E0 (cl E0) S21_5) [0, 2, 4] [2, 3] [2, 4] 2 ([(V.d (slD (encI .u8) true 1 x7 x8)), (V.ptr 0 1 0 0), (V.ptr 1 1 0 0)], [(Blk.flat 55 41 [([(.int .i64 0)] ++ arrD .i64 x0 8 ++ arrE enc_R_i64_i64_i64_bool x1 8)] false), (Blk.flat 55 41 [([(.int .i64 x2)] ++ arrD .i64 x3 8 ++ arrE enc_R_i64_i64_i64_bool x4 8)] x6)]) = some (.ret, ([(V.ptr 0 1 0 0), (V.d (.int .i64 3))], [(Blk.flat 55 41 [([(.int .i64 0)] ++ arrD .i64 [0, 0, 0, 0, 0, 0, 0, 0] 8 ++ arrE enc_R_i64_i64_i64_bool ([⟨0, 0, 0, false⟩, ⟨0, 0, 0, false⟩, ⟨0, 0, 0, false⟩, ⟨0, 0, 0, false⟩, ⟨0, 0, 0, false⟩, ⟨0, 0, 0, false⟩, ⟨0, 0, 0, false⟩, ⟨0, 0, 0, false⟩] : List R_i64_i64_i64_bool) 8)] false), (Blk.flat 55 41 [([(.int .i64 x2)] ++ arrD .i64 x3 8 ++ arrE enc_R_i64_i64_i64_bool x4 8)] x6)])) := by
  unfold output_Decode_o_S5_c0
  cases h1 : tb (output_Encode_ai12bi3bi3bi3bi3bi3bi3bi3b_c0 x2 x3 x4)
  · intro g0
    exact absurd g0 ft
  · cases h2 : tb (((output_Encode_ai12bi3bi3bi3bi3bi3bi3bi3b_r0_1 x2 x3 x4) : Int) != 0)
    · cases h3 : tb (slices_Equal_byte_oo_c0 (output_Encode_ai12bi3bi3bi3bi3bi3bi3bi3b_r0_2 x2 x3 x4) x8)
      · intro g0
        exact absurd g0 ft
      · cases h4 : tb (slices_Equal_byte_oo_r0_0 (output_Encode_ai12bi3bi3bi3bi3bi3bi3bi3b_r0_2 x2 x3 x4) x8)
        · intro g0
          exact seg_walk [.c (output_Encode_ai12bi3bi3bi3bi3bi3bi3bi3b_t0 x2 x3 x4 (tbE h1)), .b (tbE h2), .y (mm := [(Blk.flat 55 41 [([(.int .i64 0)] ++ arrD .i64 x0 8 ++ arrE enc_R_i64_i64_i64_bool x1 8)] false), (Blk.flat 55 41 [([(.int .i64 x2)] ++ arrD .i64 x3 8 ++ arrE enc_R_i64_i64_i64_bool x4 8)] x6), (Blk.flat 5 1 (List.map (encI .u8) (output_Encode_ai12bi3bi3bi3bi3bi3bi3bi3b_r0_2 x2 x3 x4)) false)]) (args := [(V.so (output_Encode_ai12bi3bi3bi3bi3bi3bi3bi3b_r0_0 x2 x3 x4) 2 ((output_Encode_ai12bi3bi3bi3bi3bi3bi3bi3b_r0_2 x2 x3 x4).length)), (V.d (slD (encI .u8) true 1 x7 x8))]) (args1 := [(V.d (slD (encI .u8) true 1 (output_Encode_ai12bi3bi3bi3bi3bi3bi3bi3b_r0_0 x2 x3 x4) (output_Encode_ai12bi3bi3bi3bi3bi3bi3bi3b_r0_2 x2 x3 x4))), (V.d (slD (encI .u8) true 1 x7 x8))]) (byvals_cons (byval_so (enc := (encI .u8)) (l := (output_Encode_ai12bi3bi3bi3bi3bi3bi3bi3b_r0_2 x2 x3 x4)) (b := (output_Encode_ai12bi3bi3bi3bi3bi3bi3bi3b_r0_0 x2 x3 x4)) (e := 5) (s := 1) (p := false) (n := ((output_Encode_ai12bi3bi3bi3bi3bi3bi3bi3b_r0_2 x2 x3 x4).length)) (Nat.beq_refl _) (by kernel_rfl)) (by kernel_rfl)), .c (slices_Equal_byte_oo_t0 (output_Encode_ai12bi3bi3bi3bi3bi3bi3bi3b_r0_0 x2 x3 x4) (output_Encode_ai12bi3bi3bi3bi3bi3bi3bi3b_r0_2 x2 x3 x4) x7 x8 (tbE h3)), .b (notF (tbE h4))] (by kernel_rfl)
        · intro g0
          exact absurd g0 ft
    · intro g0
      exact seg_walk [.c (output_Encode_ai12bi3bi3bi3bi3bi3bi3bi3b_t0 x2 x3 x4 (tbE h1)), .b (tbE h2)] (by kernel_rfl)
theorem output_Decode_o_S5_t1 (x0 : List Int) (x1 : List R_i64_i64_i64_bool) (x2 : Int) (x3 : List Int) (x4 : List R_i64_i64_i64_bool) (x6 : Bool) (x7 : Bool) (x8 : List Int) : output_Decode_o_S5_c0 x2 x3 x4 x8 = false → output_Decode_o_S5_c1 x2 x3 x4 x8 = true → segG (runC E0 (cl E0) S21_5) [0, 2, 4] [2, 3] [2, 4] 2 ([(V.d (slD (encI .u8) true 1 x7 x8)), (V.ptr 0 1 0 0), (V.ptr 1 1 0 0)], [(Blk.flat 55 41 [([(.int .i64 0)] ++ arrD .i64 x0 8 ++ arrE enc_R_i64_i64_i64_bool x1 8)] false), (Blk.flat 55 41 [([(.int .i64 x2)] ++ arrD .i64 x3 8 ++ arrE enc_R_i64_i64_i64_bool x4 8)] x6)]) = some (.normal, ([(V.ptr 0 1 0 0), (V.ptr 1 1 0 0)], [(Blk.flat 55 41 [([(.int .i64 0)] ++ arrD .i64 x0 8 ++ arrE enc_R_i64_i64_i64_bool x1 8)] false), (Blk.flat 55 41 [([(.int .i64 x2)] ++ arrD .i64 x3 8 ++ arrE enc_R_i64_i64_i64_bool x4 8)] x6)])) := by
  unfold output_Decode_o_S5_c0 output_Decode_o_S5_c1
  cases h1 : tb (output_Encode_ai12bi3bi3bi3bi3bi3bi3bi3b_c0 x2 x3 x4)
  · intro g0 g1
    exact absurd g1 ft
  · cases h2 : tb (((output_Encode_ai12bi3bi3bi3bi3bi3bi3bi3b_r0_1 x2 x3 x4) : Int) != 0)
    · cases h3 : tb (slices_Equal_byte_oo_c0 (output_Encode_ai12bi3bi3bi3bi3bi3bi3bi3b_r0_2 x2 x3 x4) x8)
      · intro g0 g1
        exact absurd g1 ft
      · cases h4 : tb (slices_Equal_byte_oo_r0_0 (output_Encode_ai12bi3bi3bi3bi3bi3bi3bi3b_r0_2 x2 x3 x4) x8)
        · intro g0 g1
          exact absurd g0 tf
        · intro g0 g1
          exact seg_walk [.c (output_Encode_ai12bi3bi3bi3bi3bi3bi3bi3b_t0 x2 x3 x4 (tbE h1)), .b (tbE h2), .y (mm := [(Blk.flat 55 41 [([(.int .i64 0)] ++ arrD .i64 x0 8 ++ arrE enc_R_i64_i64_i64_bool x1 8)] false), (Blk.flat 55 41 [([(.int .i64 x2)] ++ arrD .i64 x3 8 ++ arrE enc_R_i64_i64_i64_bool x4 8)] x6), (Blk.flat 5 1 (List.map (encI .u8) (output_Encode_ai12bi3bi3bi3bi3bi3bi3bi3b_r0_2 x2 x3 x4)) false)]) (args := [(V.so (output_Encode_ai12bi3bi3bi3bi3bi3bi3bi3b_r0_0 x2 x3 x4) 2 ((output_Encode_ai12bi3bi3bi3bi3bi3bi3bi3b_r0_2 x2 x3 x4).length)), (V.d (slD (encI .u8) true 1 x7 x8))]) (args1 := [(V.d (slD (encI .u8) true 1 (output_Encode_ai12bi3bi3bi3bi3bi3bi3bi3b_r0_0 x2 x3 x4) (output_Encode_ai12bi3bi3bi3bi3bi3bi3bi3b_r0_2 x2 x3 x4))), (V.d (slD (encI .u8) true 1 x7 x8))]) (byvals_cons (byval_so (enc := (encI .u8)) (l := (output_Encode_ai12bi3bi3bi3bi3bi3bi3bi3b_r0_2 x2 x3 x4)) (b := (output_Encode_ai12bi3bi3bi3bi3bi3bi3bi3b_r0_0 x2 x3 x4)) (e := 5) (s := 1) (p := false) (n := ((output_Encode_ai12bi3bi3bi3bi3bi3bi3bi3b_r0_2 x2 x3 x4).length)) (Nat.beq_refl _) (by kernel_rfl)) (by kernel_rfl)), .c (slices_Equal_byte_oo_t0 (output_Encode_ai12bi3bi3bi3bi3bi3bi3bi3b_r0_0 x2 x3 x4) (output_Encode_ai12bi3bi3bi3bi3bi3bi3bi3b_r0_2 x2 x3 x4) x7 x8 (tbE h3)), .b (notT (tbE h4))] (by kernel_rfl)
    · intro g0 g1
      exact absurd g0 tf
def output_Decode_o_e0  : List R_i64_i64_i64_bool := ([⟨0, 0, 0, false⟩, ⟨0, 0, 0, false⟩, ⟨0, 0, 0, false⟩, ⟨0, 0, 0, false⟩, ⟨0, 0, 0, false⟩, ⟨0, 0, 0, false⟩, ⟨0, 0, 0, false⟩, ⟨0, 0, 0, false⟩] : List R_i64_i64_i64_bool)
def output_Decode_o_c0 (x0 : Bool) (x1 : List Int) : Bool := (bif tb (output_Decode_o_S0_c0 x1) then true else (bif tb (output_Decode_o_S1_c0 x1) then (bif tb (output_Decode_o_S2_c0 x0 x1) then (bif tb (output_Decode_o_S4_c0 output_Decode_o_e0 x1) then (bif tb (output_Decode_o_S5_c0 (word_Get2_o_r0_0 (sub x1 2 4)) (word_GetAll_o_r0_2 (x0 && x1.isEmpty) (sub x1 4 36)) (output_Decode_o_S4_e0 output_Decode_o_e0 x1) x1) then true else (bif tb (output_Decode_o_S5_c1 (word_Get2_o_r0_0 (sub x1 2 4)) (word_GetAll_o_r0_2 (x0 && x1.isEmpty) (sub x1 4 36)) (output_Decode_o_S4_e0 output_Decode_o_e0 x1) x1) then true else false)) else false) else false) else false))
def output_Decode_o_r0_0 (x0 : Bool) (x1 : List Int) : Int := (bif tb (output_Decode_o_S0_c0 x1) then 0 else (bif tb (output_Decode_o_S5_c0 (word_Get2_o_r0_0 (sub x1 2 4)) (word_GetAll_o_r0_2 (x0 && x1.isEmpty) (sub x1 4 36)) (output_Decode_o_S4_e0 output_Decode_o_e0 x1) x1) then 0 else (word_Get2_o_r0_0 (sub x1 2 4))))
def output_Decode_o_r0_1 (x0 : Bool) (x1 : List Int) : List Int := (bif tb (output_Decode_o_S0_c0 x1) then [0, 0, 0, 0, 0, 0, 0, 0] else (bif tb (output_Decode_o_S5_c0 (word_Get2_o_r0_0 (sub x1 2 4)) (word_GetAll_o_r0_2 (x0 && x1.isEmpty) (sub x1 4 36)) (output_Decode_o_S4_e0 output_Decode_o_e0 x1) x1) then [0, 0, 0, 0, 0, 0, 0, 0] else (word_GetAll_o_r0_2 (x0 && x1.isEmpty) (sub x1 4 36))))
def output_Decode_o_r0_2 (x0 : Bool) (x1 : List Int) : List R_i64_i64_i64_bool := (bif tb (output_Decode_o_S0_c0 x1) then output_Decode_o_e0 else (bif tb (output_Decode_o_S5_c0 (word_Get2_o_r0_0 (sub x1 2 4)) (word_GetAll_o_r0_2 (x0 && x1.isEmpty) (sub x1 4 36)) (output_Decode_o_S4_e0 output_Decode_o_e0 x1) x1) then output_Decode_o_e0 else (output_Decode_o_S4_e0 output_Decode_o_e0 x1)))
def output_Decode_o_r0_3 (x0 : Bool) (x1 : List Int) : Int := (bif tb (output_Decode_o_S0_c0 x1) then 3 else (bif tb (output_Decode_o_S5_c0 (word_Get2_o_r0_0 (sub x1 2 4)) (word_GetAll_o_r0_2 (x0 && x1.isEmpty) (sub x1 4 36)) (output_Decode_o_S4_e0 output_Decode_o_e0 x1) x1) then 3 else 0))
theorem output_Decode_o_t0 (x0 : Bool) (x1 : List Int) : output_Decode_o_c0 x0 x1 = true → cl E0 21 [(V.d (slD (encI .u8) true 1 x0 x1))] [] = some ([(V.agg (List.map V.d ([(.int .i64 (output_Decode_o_r0_0 x0 x1))] ++ arrD .i64 (output_Decode_o_r0_1 x0 x1) 8 ++ arrE enc_R_i64_i64_i64_bool (output_Decode_o_r0_2 x0 x1) 8))), (V.d (.int .i64 (output_Decode_o_r0_3 x0 x1)))], []) := by
  unfold output_Decode_o_c0 output_Decode_o_r0_0 output_Decode_o_r0_1 output_Decode_o_r0_2 output_Decode_o_r0_3
  cases h1 : tb (output_Decode_o_S0_c0 x1)
  · cases h2 : tb (output_Decode_o_S1_c0 x1)
    · intro g0
      exact absurd g0 ft
    · cases h3 : tb (output_Decode_o_S2_c0 x0 x1)
      · intro g0
        exact absurd g0 ft
      · cases h4 : tb (output_Decode_o_S4_c0 output_Decode_o_e0 x1)
        · intro g0
          exact absurd g0 ft
        · cases h5 : tb (output_Decode_o_S5_c0 (word_Get2_o_r0_0 (sub x1 2 4)) (word_GetAll_o_r0_2 (x0 && x1.isEmpty) (sub x1 4 36)) (output_Decode_o_S4_e0 output_Decode_o_e0 x1) x1)
          · cases h6 : tb (output_Decode_o_S5_c1 (word_Get2_o_r0_0 (sub x1 2 4)) (word_GetAll_o_r0_2 (x0 && x1.isEmpty) (sub x1 4 36)) (output_Decode_o_S4_e0 output_Decode_o_e0 x1) x1)
            · intro g0
              exact absurd g0 ft
            · intro g0
              exact w21 [.s (output_Decode_o_S0_t1 [0, 0, 0, 0, 0, 0, 0, 0] output_Decode_o_e0 x0 x1 (tbE h1)), .s (output_Decode_o_S1_t0 [0, 0, 0, 0, 0, 0, 0, 0] output_Decode_o_e0 [0, 0, 0, 0, 0, 0, 0, 0] output_Decode_o_e0 false x0 x1 (tbE h2)), .s (output_Decode_o_S2_t0 [0, 0, 0, 0, 0, 0, 0, 0] output_Decode_o_e0 (word_Get2_o_r0_0 (sub x1 2 4)) [0, 0, 0, 0, 0, 0, 0, 0] output_Decode_o_e0 false x0 x1 (tbE h3)), .s (output_Decode_o_S4_t0 [0, 0, 0, 0, 0, 0, 0, 0] output_Decode_o_e0 (word_Get2_o_r0_0 (sub x1 2 4)) (word_GetAll_o_r0_2 (x0 && x1.isEmpty) (sub x1 4 36)) output_Decode_o_e0 false x0 x1 (tbE h4)), .s (output_Decode_o_S5_t1 [0, 0, 0, 0, 0, 0, 0, 0] output_Decode_o_e0 (word_Get2_o_r0_0 (sub x1 2 4)) (word_GetAll_o_r0_2 (x0 && x1.isEmpty) (sub x1 4 36)) (output_Decode_o_S4_e0 output_Decode_o_e0 x1) false x0 x1 (tbE h5) (tbE h6))] (by kernel_rfl)
          · intro g0
            exact w21 [.s (output_Decode_o_S0_t1 [0, 0, 0, 0, 0, 0, 0, 0] output_Decode_o_e0 x0 x1 (tbE h1)), .s (output_Decode_o_S1_t0 [0, 0, 0, 0, 0, 0, 0, 0] output_Decode_o_e0 [0, 0, 0, 0, 0, 0, 0, 0] output_Decode_o_e0 false x0 x1 (tbE h2)), .s (output_Decode_o_S2_t0 [0, 0, 0, 0, 0, 0, 0, 0] output_Decode_o_e0 (word_Get2_o_r0_0 (sub x1 2 4)) [0, 0, 0, 0, 0, 0, 0, 0] output_Decode_o_e0 false x0 x1 (tbE h3)), .s (output_Decode_o_S4_t0 [0, 0, 0, 0, 0, 0, 0, 0] output_Decode_o_e0 (word_Get2_o_r0_0 (sub x1 2 4)) (word_GetAll_o_r0_2 (x0 && x1.isEmpty) (sub x1 4 36)) output_Decode_o_e0 false x0 x1 (tbE h4)), .s (output_Decode_o_S5_t0 [0, 0, 0, 0, 0, 0, 0, 0] output_Decode_o_e0 (word_Get2_o_r0_0 (sub x1 2 4)) (word_GetAll_o_r0_2 (x0 && x1.isEmpty) (sub x1 4 36)) (output_Decode_o_S4_e0 output_Decode_o_e0 x1) false x0 x1 (tbE h5))] (by kernel_rfl)
  · intro g0
    exact w21 [.s (output_Decode_o_S0_t0 [0, 0, 0, 0, 0, 0, 0, 0] output_Decode_o_e0 x0 x1 (tbE h1))] (by kernel_rfl)
end Go.Proofs.Ytkipngagfiaddaa.Den

namespace Go.Proofs.Ytkipngagfiaddaa.Den
open Go Go.Proofs
set_option linter.unusedVariables false
set_option linter.unusedSimpArgs false
theorem arr8S {x : List St4} (h : x.length = 8) : ([⟨((gt x 0).c0), ((gt x 0).c1), ((gt x 0).c2), ((gt x 0).c3)⟩, ⟨((gt x 1).c0), ((gt x 1).c1), ((gt x 1).c2), ((gt x 1).c3)⟩, ⟨((gt x 2).c0), ((gt x 2).c1), ((gt x 2).c2), ((gt x 2).c3)⟩, ⟨((gt x 3).c0), ((gt x 3).c1), ((gt x 3).c2), ((gt x 3).c3)⟩, ⟨((gt x 4).c0), ((gt x 4).c1), ((gt x 4).c2), ((gt x 4).c3)⟩, ⟨((gt x 5).c0), ((gt x 5).c1), ((gt x 5).c2), ((gt x 5).c3)⟩, ⟨((gt x 6).c0), ((gt x 6).c1), ((gt x 6).c2), ((gt x 6).c3)⟩, ⟨((gt x 7).c0), ((gt x 7).c1), ((gt x 7).c2), ((gt x 7).c3)⟩] : List St4) = x := by
  match x, h with
  | [a, b, c, d, e, f, g, i], _ => rfl
theorem bad_eqO (n : Int) : output_Right_c1_i_r0_0 n = !(n32 n) := by
  simp only [output_Right_c1_i_r0_0, n32, tb_eq]
  by_cases h1 : n < -2147483648
  · have : ¬ (-2147483648 ≤ n) := by omega
    simp [h1, this]
  · have h2 : -2147483648 ≤ n := by omega
    by_cases h3 : 2147483647 < n
    · have : ¬ (n ≤ 2147483647) := by omega
      simp [h1, h2, h3, this]
    · have : n ≤ 2147483647 := by omega
      simp [h1, h2, h3, this]
theorem index_badO {l : List Int} (hl : l.length < 1152921504606846976) : slices_IndexFunc_int_o_output_Right_c1_c0 l = true ∧ decide (0 ≤ slices_IndexFunc_int_o_output_Right_c1_r0_0 l) = !(all32 l) := by
  obtain ⟨s1, e, _, a1, a2⟩ := all_loop (sel := slices_IndexFunc_int_o_output_Right_c1_L0_sel l l.length) (nx := slices_IndexFunc_int_o_output_Right_c1_L0_nx l l.length) (s0 := ⟨0⟩) l (fun s => s.c3) n32 (fun _ => True) hl rfl trivial
    (fun s _ b1 b2 _ => ⟨by show wi _ = _; exact wi_eq (by omega) (by omega), trivial⟩)
    (fun s _ b1 b2 => by
      by_cases hi : s.c3 < l.length
      · have i1 := inb_of b1 hi
        simp only [slices_IndexFunc_int_o_output_Right_c1_L0_sel, i1, hi, bad_eqO, tb_eq, decide_true, cond_true, Bool.true_and]
        cases n32 (gt l s.c3) <;> rfl
      · simp [slices_IndexFunc_int_o_output_Right_c1_L0_sel, hi])
  have he : slices_IndexFunc_int_o_output_Right_c1_e0 l = s1 := by simp only [slices_IndexFunc_int_o_output_Right_c1_e0, slices_IndexFunc_int_o_output_Right_c1_L0_end, e, Option.getD_some]
  simp only [slices_IndexFunc_int_o_output_Right_c1_c0, slices_IndexFunc_int_o_output_Right_c1_r0_0, slices_IndexFunc_int_o_output_Right_c1_L0_ok, e, he, tb_eq, Option.isSome_some, cond_true]
  rcases a2 with ⟨b1, b2⟩ | ⟨b1, b2, b3⟩
  · have h0 : slices_IndexFunc_int_o_output_Right_c1_L0_c0 l l.length s1 = false := by simp [slices_IndexFunc_int_o_output_Right_c1_L0_c0, b1]
    have h1 : slices_IndexFunc_int_o_output_Right_c1_L0_c1 l.length s1 = true := by simp [slices_IndexFunc_int_o_output_Right_c1_L0_c1, b1]
    have : all32 l = true := b2
    rw [h0, h1, this]; simp
  · have i1 := inb_of a1 b1
    have h0 : slices_IndexFunc_int_o_output_Right_c1_L0_c0 l l.length s1 = true := by simp [slices_IndexFunc_int_o_output_Right_c1_L0_c0, b1, i1]
    have : all32 l = false := b3
    rw [h0, this]; simp [a1]
theorem index_badS {l : List St4} (hl : l.length < 1152921504606846976) : slices_IndexFunc_api_Status_o_output_Right_c2_c0 l = true ∧ decide (0 ≤ slices_IndexFunc_api_Status_o_output_Right_c2_r0_0 l) = !(l.all rightS) := by
  have hr : ∀ s : St4, status_Right_ai3b_S1_r0_0 s.c0 s.c1 s.c3 (status_Right_ai3b_S0_r0_0 s.c0 s.c2) = rightS s := fun s => rfl
  obtain ⟨s1, e, _, a1, a2⟩ := all_loop (sel := slices_IndexFunc_api_Status_o_output_Right_c2_L0_sel l l.length) (nx := slices_IndexFunc_api_Status_o_output_Right_c2_L0_nx l l.length) (s0 := ⟨0⟩) l (fun s => s.c3) rightS (fun _ => True) hl rfl trivial
    (fun s _ b1 b2 _ => ⟨by show wi _ = _; exact wi_eq (by omega) (by omega), trivial⟩)
    (fun s _ b1 b2 => by
      by_cases hi : s.c3 < l.length
      · have i1 := inb_of b1 hi
        simp only [slices_IndexFunc_api_Status_o_output_Right_c2_L0_sel, i1, hi, hr, tb_eq, decide_true, cond_true, Bool.true_and]
        cases rightS (gt l s.c3) <;> rfl
      · simp [slices_IndexFunc_api_Status_o_output_Right_c2_L0_sel, hi])
  have he : slices_IndexFunc_api_Status_o_output_Right_c2_e0 l = s1 := by simp only [slices_IndexFunc_api_Status_o_output_Right_c2_e0, slices_IndexFunc_api_Status_o_output_Right_c2_L0_end, e, Option.getD_some]
  simp only [slices_IndexFunc_api_Status_o_output_Right_c2_c0, slices_IndexFunc_api_Status_o_output_Right_c2_r0_0, slices_IndexFunc_api_Status_o_output_Right_c2_L0_ok, e, he, tb_eq, Option.isSome_some, cond_true]
  rcases a2 with ⟨b1, b2⟩ | ⟨b1, b2, b3⟩
  · have h0 : slices_IndexFunc_api_Status_o_output_Right_c2_L0_c0 l l.length s1 = false := by simp [slices_IndexFunc_api_Status_o_output_Right_c2_L0_c0, b1]
    have h1 : slices_IndexFunc_api_Status_o_output_Right_c2_L0_c1 l.length s1 = true := by simp [slices_IndexFunc_api_Status_o_output_Right_c2_L0_c1, b1]
    rw [h0, h1, b2]; simp
  · have i1 := inb_of a1 b1
    have h0 : slices_IndexFunc_api_Status_o_output_Right_c2_L0_c0 l l.length s1 = true := by simp [slices_IndexFunc_api_Status_o_output_Right_c2_L0_c0, b1, i1]
    rw [h0, b3]; simp [a1]
def okO (s : Int) (x : List Int) (t : List St4) : Bool := n16 s && all32 x && t.all rightS
theorem right_eqO (s : Int) {x : List Int} {t : List St4} (h : x.length = 8) (ht : t.length = 8) : output_Right_ai12bi3bi3bi3bi3bi3bi3bi3b_c0 s x t = true ∧ output_Right_ai12bi3bi3bi3bi3bi3bi3bi3b_r0_0 s x t = okO s x t := by
  obtain ⟨i1, i2⟩ := index_badO (l := x) (by omega)
  obtain ⟨j1, j2⟩ := index_badS (l := t) (by omega)
  have e1 : output_Right_ai12bi3bi3bi3bi3bi3bi3bi3b_e1 t = t := arr8S ht
  simp only [output_Right_ai12bi3bi3bi3bi3bi3bi3bi3b_c0, output_Right_ai12bi3bi3bi3bi3bi3bi3bi3b_r0_0, output_Right_ai12bi3bi3bi3bi3bi3bi3bi3b_e0, e1, arr8 h, slices_ContainsFunc_int_o_output_Right_c1_c0, slices_ContainsFunc_api_Status_o_output_Right_c2_c0, i1, i2, j1, j2, n16, tb_eq, okO]
  by_cases h1 : 0 ≤ s
  · by_cases h2 : s < 65536
    · cases all32 x <;> cases t.all rightS <;> simp [h1, h2]
    · simp [h1, h2]
  · simp [h1]
def failN (t : List St4) : Int := ((t.countP (·.c3) : Nat) : Int)
theorem count_succ {t : List St4} {k : Nat} (h : k < t.length) : (t.take (k + 1)).countP (·.c3) = (t.take k).countP (·.c3) + (if (gt t (k : Int)).c3 = true then 1 else 0) := by
  rw [take_succ_gt h, List.countP_append]
  simp [List.countP_cons, List.countP_nil]
theorem count_le (t : List St4) (k : Nat) : (t.take k).countP (·.c3) ≤ k := Nat.le_trans List.countP_le_length (by rw [List.length_take]; omega)
theorem failed_eqO {t : List St4} (ht : t.length = 8) : output_Failed_ai12bi3bi3bi3bi3bi3bi3bi3b_c0 t = true ∧ (output_Failed_ai12bi3bi3bi3bi3bi3bi3bi3b_e0 t).c0 = failN t := by
  have run : itS (output_Failed_ai12bi3bi3bi3bi3bi3bi3bi3b_L0_sel t) (output_Failed_ai12bi3bi3bi3bi3bi3bi3bi3b_L0_nx t) bound ⟨0, 0⟩ = some ⟨(((t.take 8).countP (·.c3) : Nat) : Int), ((8 : Nat) : Int)⟩ := by
    refine loop_seq (sel := output_Failed_ai12bi3bi3bi3bi3bi3bi3bi3b_L0_sel t) (nx := output_Failed_ai12bi3bi3bi3bi3bi3bi3bi3b_L0_nx t) (fun k => (⟨(((t.take k).countP (·.c3) : Nat) : Int), (k : Int)⟩ : output_Failed_ai12bi3bi3bi3bi3bi3bi3bi3b_L0_s0)) 8 (by omega) (fun k hk => ?_) rfl
    have i1 : inb 8 (k : Int) = true := inb_of (by omega) (by omega)
    have hc := count_le t k
    have hw : wi ((k : Int) + 1) = ((k + 1 : Nat) : Int) := by rw [wi_eq (by omega) (by omega)]; omega
    constructor
    · show (bif tb (decide ((k : Int) < 8)) then (bif tb (inb 8 (k : Int)) then true else false) else false) = true
      rw [i1, decide_eq_true (by omega)]; rfl
    · show (bif tb ((gt t (k : Int)).c3) then (⟨(wi ((((t.take k).countP (·.c3) : Nat) : Int) + 1)), (wi ((k : Int) + 1))⟩ : output_Failed_ai12bi3bi3bi3bi3bi3bi3bi3b_L0_s0) else ⟨(((t.take k).countP (·.c3) : Nat) : Int), (wi ((k : Int) + 1))⟩) = _
      rw [hw, count_succ (by omega), wi_eq (by omega) (by omega)]
      cases (gt t (k : Int)).c3 <;> simp [tb_eq]
  have e0 : output_Failed_ai12bi3bi3bi3bi3bi3bi3bi3b_e0 t = ⟨failN t, 8⟩ := by
    simp only [output_Failed_ai12bi3bi3bi3bi3bi3bi3bi3b_e0, output_Failed_ai12bi3bi3bi3bi3bi3bi3bi3b_L0_end, run, Option.getD_some]
    rw [List.take_of_length_le (by omega)]; rfl
  simp only [output_Failed_ai12bi3bi3bi3bi3bi3bi3bi3b_c0, e0, output_Failed_ai12bi3bi3bi3bi3bi3bi3bi3b_L0_ok, run, Option.isSome_some, tb_eq, output_Failed_ai12bi3bi3bi3bi3bi3bi3bi3b_L0_c0]
  exact ⟨rfl, trivial⟩
theorem failN_bound {t : List St4} (ht : t.length = 8) : 0 ≤ failN t ∧ failN t ≤ 8 := by
  have : t.countP (·.c3) ≤ t.length := List.countP_le_length
  unfold failN; omega
def pw (s : St4) : List Int := p2 (wordS s)
def bodyO (s : Int) (x : List Int) (t : List St4) : List Int := [90, failN t] ++ p2 s ++ x.flatMap p4 ++ t.flatMap pw
theorem flat2_len : ∀ t : List St4, (t.flatMap pw).length = 2 * t.length
  | [] => rfl
  | a :: t => by
    rw [List.flatMap_cons, List.length_append, flat2_len t]
    show 2 + _ = _
    rw [List.length_cons]; omega
theorem flat2_byts : ∀ t : List St4, Byts (t.flatMap pw)
  | [] => fun z hz => by simp at hz
  | a :: t => fun z hz => by
    rw [List.flatMap_cons, List.mem_append] at hz
    rcases hz with hz | hz
    · exact p2_byts _ z hz
    · exact flat2_byts t z hz
theorem bodyO_len {s : Int} {x : List Int} {t : List St4} (h : x.length = 8) (ht : t.length = 8) : (bodyO s x t).length = 52 := by
  simp only [bodyO, List.length_append, flat_len, flat2_len, h, ht]; rfl
theorem bodyO_byts {s : Int} {x : List Int} {t : List St4} (ht : t.length = 8) : Byts (bodyO s x t) := fun z hz => by
  have hf := failN_bound ht
  simp only [bodyO, List.mem_append] at hz
  rcases hz with ((hz | hz) | hz) | hz
  · simp at hz; omega
  · exact p2_byts s z hz
  · exact flat_byts x z hz
  · exact flat2_byts t z hz
theorem bodyO_sm {s : Int} {x : List Int} {t : List St4} (h : x.length = 8) (ht : t.length = 8) : Sm (bodyO s x t) :=
  ⟨fun z hz => wf_u8 (bodyO_byts ht z hz), by rw [bodyO_len h ht]; omega⟩
theorem pairs_run {b0 : List Int} {t : List St4} (nl : Bool) (ht : t.length = 8) (hb : b0.length ≤ 1000) (hok : t.all rightS = true) :
    itS (output_pairs_c1_yp_Y18_1pGvLFi12bi3bi3bi3bi3bi3bi3bi3b_L0_sel t) (output_pairs_c1_yp_Y18_1pGvLFi12bi3bi3bi3bi3bi3bi3bi3b_L0_nx t) bound ⟨0, nl, b0⟩ = some ⟨8, false, b0 ++ t.flatMap pw⟩ := by
  have key : ∀ k : Nat, k < 8 → (output_pairs_c1_yp_Y18_1pGvLFi12bi3bi3bi3bi3bi3bi3bi3b_L0_h0_e2 t ⟨(k : Int), (if k = 0 then nl else false), b0 ++ (t.take k).flatMap pw⟩) = pw (gt t (k : Int)) := fun k hk => by
    show word_Put2_i_r0_1 (wordS (gt t (k : Int))) = _
    have hm : rightS (gt t (k : Int)) = true := List.all_eq_true.1 hok _ (gt_mem (by omega) (by omega))
    obtain ⟨w1, w2, _⟩ := word_back hm
    rw [Put2_r]; simp only [q2, pw, n16_iff.2 (show 0 ≤ wordS (gt t (k : Int)) ∧ wordS (gt t (k : Int)) < 65536 by omega), if_true]
  have run := loop_seq (sel := output_pairs_c1_yp_Y18_1pGvLFi12bi3bi3bi3bi3bi3bi3bi3b_L0_sel t) (nx := output_pairs_c1_yp_Y18_1pGvLFi12bi3bi3bi3bi3bi3bi3bi3b_L0_nx t) (fun k => (⟨(k : Int), (if k = 0 then nl else false), b0 ++ (t.take k).flatMap pw⟩ : output_pairs_c1_yp_Y18_1pGvLFi12bi3bi3bi3bi3bi3bi3bi3b_L0_s0)) 8 (by omega) (fun k hk => by
    have i1 : inb 8 (k : Int) = true := inb_of (by omega) (by omega)
    have hw : wi ((k : Int) + 1) = ((k + 1 : Nat) : Int) := by rw [wi_eq (by omega) (by omega)]; omega
    have hl : ((t.take k).flatMap pw).length = 2 * k := by rw [flat2_len, List.length_take]; omega
    have hk' := key k hk
    constructor
    · simp only [output_pairs_c1_yp_Y18_1pGvLFi12bi3bi3bi3bi3bi3bi3bi3b_L0_sel, hk', i1, tb_eq]
      show (bif decide ((k : Int) < 8) then (bif true then (bif (output_Encode_Y1_o_Y18_1pGvL_c0 (b0 ++ (t.take k).flatMap pw) (pw (gt t (k : Int)))) then true else false) else false) else false) = true
      have : output_Encode_Y1_o_Y18_1pGvL_c0 (b0 ++ (t.take k).flatMap pw) (pw (gt t (k : Int))) = true := by
        simp only [output_Encode_Y1_o_Y18_1pGvL_c0, tb_eq]
        rw [decide_eq_true (by rw [List.length_append, hl]; show (b0.length + 2 * k + 2) * 1 ≤ _; omega)]; rfl
      rw [this, decide_eq_true (by omega)]; rfl
    · simp only [output_pairs_c1_yp_Y18_1pGvLFi12bi3bi3bi3bi3bi3bi3bi3b_L0_nx, hk', hw]
      rw [take_succ_gt (by omega), List.flatMap_append]
      simp [pw, p2]) rfl
  simp only [if_true, List.take_zero, List.flatMap_nil, List.append_nil] at run
  rw [show ((0 : Nat) : Int) = 0 from rfl] at run
  rw [run, List.take_of_length_le (by omega)]
  rfl
theorem encode_eqO (s : Int) {x : List Int} {t : List St4} (h : x.length = 8) (ht : t.length = 8) : output_Encode_ai12bi3bi3bi3bi3bi3bi3bi3b_c0 s x t = true ∧ output_Encode_ai12bi3bi3bi3bi3bi3bi3bi3b_r0_0 s x t = !(okO s x t) ∧ output_Encode_ai12bi3bi3bi3bi3bi3bi3bi3b_r0_1 s x t = (if okO s x t = true then 0 else 1) ∧
    output_Encode_ai12bi3bi3bi3bi3bi3bi3bi3b_r0_2 s x t = (if okO s x t = true then sealed (bodyO s x t) else []) := by
  obtain ⟨r1, r2⟩ := right_eqO s h ht
  simp only [output_Encode_ai12bi3bi3bi3bi3bi3bi3bi3b_c0, output_Encode_ai12bi3bi3bi3bi3bi3bi3bi3b_r0_0, output_Encode_ai12bi3bi3bi3bi3bi3bi3bi3b_r0_1, output_Encode_ai12bi3bi3bi3bi3bi3bi3bi3b_r0_2, r1, r2]
  cases hk : okO s x t with
  | false => simp [tb_eq]
  | true =>
    have hk' := hk
    simp only [okO, Bool.and_eq_true] at hk'
    obtain ⟨⟨k3, k4⟩, k5⟩ := hk'
    obtain ⟨p1, p2'⟩ := PutAll_r (l := x) (by omega)
    obtain ⟨f1, f2⟩ := failed_eqO ht
    have hfb := failN_bound ht
    have hw : output_Encode_ai12bi3bi3bi3bi3bi3bi3bi3b_e0 t = failN t := by simp only [output_Encode_ai12bi3bi3bi3bi3bi3bi3bi3b_e0, f2]; rw [u8w]; omega
    have hpa : putAll x = x.flatMap p4 := by simp [putAll, k4]
    have hq : q2 s = p2 s := by simp [q2, k3]
    have e1 : output_Encode_ai12bi3bi3bi3bi3bi3bi3bi3b_e1 x = x := arr8 h
    have e2 : output_Encode_ai12bi3bi3bi3bi3bi3bi3bi3b_e2 x = x.flatMap p4 := by simp only [output_Encode_ai12bi3bi3bi3bi3bi3bi3bi3b_e2, e1, p2', hpa]
    have e4 : output_Encode_ai12bi3bi3bi3bi3bi3bi3bi3b_e4 s x t = [90, failN t] ++ p2 s ++ x.flatMap p4 := by simp only [output_Encode_ai12bi3bi3bi3bi3bi3bi3bi3b_e4, hw, Put2_r, hq, e2]
    have cc : slices_Concat_byte_v_GvvvLLL_c0 [90, failN t] (p2 s) (x.flatMap p4) = true := concat_c (by simp) (by simp [p2]) (by rw [flat_len]; omega)
    have hl4 : ([90, failN t] ++ p2 s ++ x.flatMap p4).length ≤ 1000 := by simp only [List.length_append, flat_len, h]; simp [p2]
    have run := pairs_run (output_Encode_ai12bi3bi3bi3bi3bi3bi3bi3b_e5 s x t) ht hl4 k5
    have pe : output_pairs_c1_yp_Y18_1pGvLFi12bi3bi3bi3bi3bi3bi3bi3b_e0 (output_Encode_ai12bi3bi3bi3bi3bi3bi3bi3b_e4 s x t) t (output_Encode_ai12bi3bi3bi3bi3bi3bi3bi3b_e5 s x t) = ⟨8, false, bodyO s x t⟩ := by
      simp only [output_pairs_c1_yp_Y18_1pGvLFi12bi3bi3bi3bi3bi3bi3bi3b_e0, output_pairs_c1_yp_Y18_1pGvLFi12bi3bi3bi3bi3bi3bi3bi3b_L0_end, e4, run, Option.getD_some]; rfl
    have pc : output_pairs_c1_yp_Y18_1pGvLFi12bi3bi3bi3bi3bi3bi3bi3b_c0 (output_Encode_ai12bi3bi3bi3bi3bi3bi3bi3b_e4 s x t) t (output_Encode_ai12bi3bi3bi3bi3bi3bi3bi3b_e5 s x t) = true := by
      rw [e4] at pe; simp only [output_pairs_c1_yp_Y18_1pGvLFi12bi3bi3bi3bi3bi3bi3bi3b_c0, output_pairs_c1_yp_Y18_1pGvLFi12bi3bi3bi3bi3bi3bi3bi3b_L0_ok, e4, pe, run, Option.isSome_some, tb_eq]; rfl
    have e7 : output_Encode_ai12bi3bi3bi3bi3bi3bi3bi3b_e7 s x t = bodyO s x t := by simp only [output_Encode_ai12bi3bi3bi3bi3bi3bi3bi3b_e7, pe]
    have s2 : output_Encode_ai12bi3bi3bi3bi3bi3bi3bi3b_S2_c0 t (output_Encode_ai12bi3bi3bi3bi3bi3bi3bi3b_e4 s x t) (output_Encode_ai12bi3bi3bi3bi3bi3bi3bi3b_e5 s x t) = true := by simp only [output_Encode_ai12bi3bi3bi3bi3bi3bi3bi3b_S2_c0, pc, tb_eq]; rfl
    obtain ⟨t1, t2⟩ := seal_r (output_Encode_ai12bi3bi3bi3bi3bi3bi3bi3b_e6 s x t) (bodyO_sm (s := s) h ht)
    simp only [f1, e1, p1, hw, Put2_r, hq, e2, cc, s2, e7, t1, t2, tb_eq, cond_true, Bool.not_true, if_true, and_self]
end Go.Proofs.Ytkipngagfiaddaa.Den

namespace Go.Proofs.Ytkipngagfiaddaa.Den
open Go Go.Proofs
set_option linter.unusedVariables false
set_option linter.unusedSimpArgs false
def seqO (l : List Int) : Int := g2 ((l.drop 2).take 2)
def valsO (l : List Int) : List Int := fours ((l.drop 4).take 32) 8
def wO (l : List Int) (i : Nat) : Int := g2 ((l.drop (36 + 2 * i)).take 2)
def stsN (l : List Int) (k : Nat) : List St4 := (List.range k).map fun i => parseS (wO l i)
def stsO (l : List Int) : List St4 := stsN l 8
def zS : St4 := ⟨0, 0, 0, false⟩
def zS8 : List St4 := [zS, zS, zS, zS, zS, zS, zS, zS]
theorem stsN_len (l : List Int) (k : Nat) : (stsN l k).length = k := by simp [stsN]
theorem stsN_succ (l : List Int) (k : Nat) : stsN l (k + 1) = stsN l k ++ [parseS (wO l k)] := by simp [stsN, List.range_succ]
theorem valsO_len (l : List Int) : (valsO l).length = 8 := fours_len _ _
theorem stsO_len (l : List Int) : (stsO l).length = 8 := stsN_len _ _
theorem staE_fill {l : List Int} {k : Nat} (hk : k < 8) : staE (stsN l k ++ List.replicate (8 - k) zS) 8 (k : Int) (parseS (wO l k)) = stsN l (k + 1) ++ List.replicate (8 - (k + 1)) zS := by
  have hl : (stsN l k ++ List.replicate (8 - k) zS).length = 8 := by simp [stsN_len]; omega
  unfold staE st
  rw [tabE_id hl, stsN_succ]
  obtain ⟨m, hm⟩ : ∃ m, 8 - k = m + 1 := ⟨8 - k - 1, by omega⟩
  have hm2 : 8 - (k + 1) = m := by omega
  rw [hm, hm2, List.replicate_succ, Int.toNat_natCast, List.set_append_right _ _ (by rw [stsN_len]; omega), stsN_len, Nat.sub_self]
  simp
theorem byt_b {l : List Int} (h : Sm l) : Byts l := byts_of h.b
theorem dec_run {l : List Int} (hs : Sm l) (hl : l.length = 54) : itS (output_Decode_o_L3_sel l) (output_Decode_o_L3_nx l) bound ⟨0, zS8⟩ = some ⟨8, stsO l⟩ := by
  have run := loop_seq (sel := output_Decode_o_L3_sel l) (nx := output_Decode_o_L3_nx l) (fun k => (⟨(k : Int), stsN l k ++ List.replicate (8 - k) zS⟩ : output_Decode_o_L3_s0)) 8 (by omega) (fun k hk => by
    have w0 : wi (2 * (k : Int)) = ((2 * k : Nat) : Int) := by rw [wi_eq (by omega) (by omega)]; omega
    have w1 : wi (36 + wi (2 * (k : Int))) = ((36 + 2 * k : Nat) : Int) := by rw [w0, wi_eq (by omega) (by omega)]; omega
    have w2 : wi (wi (36 + wi (2 * (k : Int))) + 2) = ((38 + 2 * k : Nat) : Int) := by rw [w1, wi_eq (by omega) (by omega)]; omega
    have w3 : wi ((k : Int) + 1) = ((k + 1 : Nat) : Int) := by rw [wi_eq (by omega) (by omega)]; omega
    have i1 : ins l.length ((36 + 2 * k : Nat) : Int) ((38 + 2 * k : Nat) : Int) = true := by simp only [ins, hl, Bool.and_eq_true, decide_eq_true_eq]; omega
    have i3 : inb 8 (k : Int) = true := inb_of (by omega) (by omega)
    have e0 : ∀ t, output_Decode_o_L3_h0_e0 l ⟨(k : Int), t⟩ = (l.drop (36 + 2 * k)).take 2 := fun t => by
      simp only [output_Decode_o_L3_h0_e0, w1]
      rw [show wi (((36 + 2 * k : Nat) : Int) + 2) = ((38 + 2 * k : Nat) : Int) by rw [wi_eq (by omega) (by omega)]; omega, sub_nat]; congr 1; omega
    obtain ⟨g1, _, g3, _⟩ := Get2_eq (l := (l.drop (36 + 2 * k)).take 2) (byts_take (byts_drop (byt_b hs) _) 2)
    have e1 : ∀ t, output_Decode_o_L3_h0_e1 l ⟨(k : Int), t⟩ = parseS (wO l k) := fun t => by
      simp only [output_Decode_o_L3_h0_e1, e0, g3]; rfl
    constructor
    · simp only [output_Decode_o_L3_sel, w1, w2, i1, i3, e0, g1, tb_eq]
      rw [show wi (((36 + 2 * k : Nat) : Int) + 2) = ((38 + 2 * k : Nat) : Int) by rw [wi_eq (by omega) (by omega)]; omega, i1, decide_eq_true (by omega)]; rfl
    · simp only [output_Decode_o_L3_nx, e1, w3, staE_fill hk]) rfl
  exact run
def goodO (l : List Int) : Bool := decide (l.length = 54) && (okO (seqO l) (valsO l) (stsO l) && decide (sealed (bodyO (seqO l) (valsO l) (stsO l)) = l))
theorem decode_eqO (nl : Bool) {l : List Int} (hs : Sm l) : output_Decode_o_c0 nl l = true ∧ output_Decode_o_r0_0 nl l = (if goodO l = true then seqO l else 0) ∧ output_Decode_o_r0_1 nl l = (if goodO l = true then valsO l else z8) ∧
    output_Decode_o_r0_2 nl l = (if goodO l = true then stsO l else zS8) ∧ output_Decode_o_r0_3 nl l = (if goodO l = true then 0 else 3) := by
  have hz : ([0, 0, 0, 0, 0, 0, 0, 0] : List Int) = z8 := rfl
  have hz' : output_Decode_o_e0 = zS8 := rfl
  by_cases hl : l.length = 54
  · have s0 : output_Decode_o_S0_c0 l = false := by simp [output_Decode_o_S0_c0, hl, tb_eq]
    have hb := byt_b hs
    have sub1 : sub l 2 4 = (l.drop 2).take 2 := rfl
    have sub2 : sub l 4 36 = (l.drop 4).take 32 := rfl
    have l32 : ((l.drop 4).take 32).length = 32 := by simp [hl]
    obtain ⟨g1, _, g3, _⟩ := Get2_eq (l := (l.drop 2).take 2) (byts_take (byts_drop hb _) 2)
    have hb4 : Byts ((l.drop 4).take 32) := byts_take (byts_drop hb 4) 32
    have ga : ∀ x, word_GetAll_o_c0 x ((l.drop 4).take 32) = true ∧ word_GetAll_o_r0_2 x ((l.drop 4).take 32) = valsO l := fun x => by
      obtain ⟨a1, _, a3⟩ := GetAll_r hb4 (by omega) x
      refine ⟨a1, ?_⟩
      rw [a3]; simp only [getAll, l32]; rfl
    have gn : ∀ x, word_GetAll_o_r0_0 x ((l.drop 4).take 32) = false := fun x => by rw [GetAll_n hb4 (by omega) x, l32]; rfl
    have s1 : output_Decode_o_S1_c0 l = true := by
      have : ins l.length 2 4 = true := by rw [hl]; rfl
      simp only [output_Decode_o_S1_c0, sub1, g1, this, tb_eq]; rfl
    have s2 : output_Decode_o_S2_c0 nl l = true := by
      have : ins l.length 4 36 = true := by rw [hl]; rfl
      simp only [output_Decode_o_S2_c0, sub2, (ga _).1, (ga _).2, gn, valsO_len, this, tb_eq]; rfl
    have run := dec_run hs hl
    have e4 : output_Decode_o_S4_e0 zS8 l = stsO l := by simp only [output_Decode_o_S4_e0, output_Decode_o_L3_end, run, Option.getD_some]
    have s4 : output_Decode_o_S4_c0 zS8 l = true := by simp only [output_Decode_o_S4_c0, output_Decode_o_L3_ok, output_Decode_o_L3_end, run, Option.isSome_some, Option.getD_some, tb_eq]; rfl
    obtain ⟨n1, _, n3, n4⟩ := encode_eqO (seqO l) (valsO_len l) (stsO_len l)
    have s5 : output_Decode_o_S5_c0 (seqO l) (valsO l) (stsO l) l = !(goodO l) ∧ output_Decode_o_S5_c1 (seqO l) (valsO l) (stsO l) l = goodO l := by
      simp only [output_Decode_o_S5_c0, output_Decode_o_S5_c1, n1, n3, n4, goodO, hl, tb_eq]
      cases hk : okO (seqO l) (valsO l) (stsO l) with
      | false => simp
      | true =>
        have hsl : (sealed (bodyO (seqO l) (valsO l) (stsO l))).length < 1152921504606846976 := by
          simp [sealed, tail2, bodyO_len (valsO_len l) (stsO_len l)]
        obtain ⟨q1, q2⟩ := equal_eq (k := l) hsl
        simp only [if_true, q1, q2]
        by_cases he : sealed (bodyO (seqO l) (valsO l) (stsO l)) = l
        · simp [he]
        · simp [he]
    simp only [output_Decode_o_c0, output_Decode_o_r0_0, output_Decode_o_r0_1, output_Decode_o_r0_2, output_Decode_o_r0_3, s0, s1, s2, hz', sub1, sub2, g3, (ga _).2, s4, e4, tb_eq, cond_true, cond_false, hz]
    have hse : g2 ((l.drop 2).take 2) = seqO l := rfl
    rw [hse, s5.1, s5.2]
    cases goodO l <;> simp
  · have s0 : output_Decode_o_S0_c0 l = true := by
      simp only [output_Decode_o_S0_c0, tb_eq]
      have : ((((l.length : Nat) : Int) : Int) != 54) = true := by rw [bne_iff_ne]; omega
      rw [this]; rfl
    have hg : goodO l = false := by simp [goodO, hl]
    simp only [output_Decode_o_c0, output_Decode_o_r0_0, output_Decode_o_r0_1, output_Decode_o_r0_2, output_Decode_o_r0_3, s0, hg, hz, hz', tb_eq, cond_true]
    simp
theorem flat2_at : ∀ (t : List St4) (i : Nat) (h : i < t.length), ((t.flatMap pw).drop (2 * i)).take 2 = pw t[i]
  | a :: t, 0, _ => by simp [pw, p2]
  | a :: t, i + 1, h => by
    rw [List.flatMap_cons, show 2 * (i + 1) = 2 + 2 * i by omega, ← List.drop_drop]
    show (((t.flatMap pw)).drop (2 * i)).take 2 = _
    rw [flat2_at t i (by simpa using h)]; rfl
theorem sealed_good {s : Int} {x : List Int} {t : List St4} (h : x.length = 8) (ht : t.length = 8) (hk : okO s x t = true) :
    (sealed (bodyO s x t)).length = 54 ∧ seqO (sealed (bodyO s x t)) = s ∧ valsO (sealed (bodyO s x t)) = x ∧ stsO (sealed (bodyO s x t)) = t ∧ goodO (sealed (bodyO s x t)) = true := by
  have hk' := hk
  simp only [okO, Bool.and_eq_true] at hk'
  obtain ⟨⟨k3, k4⟩, k5⟩ := hk'
  have hbl := bodyO_len (s := s) h ht
  have hsl : (sealed (bodyO s x t)).length = 54 := by simp [sealed, tail2, hbl]
  have d4 : (sealed (bodyO s x t)).drop 4 = x.flatMap p4 ++ (t.flatMap pw ++ tail2 (bodyO s x t)) := by
    show (x.flatMap p4 ++ t.flatMap pw) ++ tail2 (bodyO s x t) = _
    rw [List.append_assoc]
  have l4 : (x.flatMap p4).length = 32 := by rw [flat_len, h]
  have l2 : (t.flatMap pw).length = 16 := by rw [flat2_len, ht]
  have e1 : seqO (sealed (bodyO s x t)) = s := by
    show g2 (p2 s) = s
    exact g2_p2 k3
  have e2 : valsO (sealed (bodyO s x t)) = x := by
    unfold valsO
    rw [d4, List.take_append_of_le_length (by omega), List.take_of_length_le (by omega), ← h]
    exact fours_flat x k4
  have e3 : stsO (sealed (bodyO s x t)) = t := by
    unfold stsO stsN
    apply List.ext_getElem
    · simp [ht]
    · intro i h1 h2
      simp only [List.getElem_map, List.getElem_range]
      have hw : wO (sealed (bodyO s x t)) i = wordS t[i] := by
        unfold wO
        have hr : rightS t[i] = true := List.all_eq_true.1 k5 _ (List.getElem_mem h2)
        obtain ⟨w1, w2, _⟩ := word_back hr
        rw [show 36 + 2 * i = 4 + (32 + 2 * i) by omega, ← List.drop_drop, d4, ← List.drop_drop, List.drop_left' l4, List.drop_append_of_le_length (by omega), List.take_append_of_le_length (by rw [List.length_drop, l2]; omega), flat2_at t i h2]
        exact g2_p2 (n16_iff.2 (by omega))
      rw [hw]
      exact (word_back (List.all_eq_true.1 k5 _ (List.getElem_mem h2))).2.2.2
  refine ⟨hsl, e1, e2, e3, ?_⟩
  unfold goodO
  rw [e1, e2, e3, hsl, hk]
  simp
end Go.Proofs.Ytkipngagfiaddaa.Den

namespace Go.Proofs.Ytkipngagfiaddaa.Den
open Go Go.Proofs
set_option linter.unusedVariables false
set_option linter.unusedSimpArgs false
theorem same_eq {l k : List Int} (hl : l.length < 1152921504606846976) : ref03_Same_oo_c0 l k = true ∧ ref03_Same_oo_r0_0 l k = decide (l = k) := by
  by_cases h : l.length = k.length
  · obtain ⟨s1, e, g0, g⟩ := eq_loop (sel := ref03_Same_oo_L0_sel l k) (nx := ref03_Same_oo_L0_nx l k) (s0 := ⟨0⟩) h (fun s => s.c4) hl rfl
      (fun s a1 a2 => by show wi _ = _; exact wi_eq (by omega) (by omega))
      (fun s a1 a2 => by
        by_cases hi : s.c4 < l.length
        · have i1 := inb_of a1 hi
          have i2 : inb k.length s.c4 = true := by rw [← h]; exact i1
          by_cases q : gt l s.c4 = gt k s.c4
          · simp [ref03_Same_oo_L0_sel, hi, i1, i2, q]
          · simp [ref03_Same_oo_L0_sel, hi, i1, i2, q, bne]
        · simp [ref03_Same_oo_L0_sel, hi])
    have hne : ((((l.length : Nat) : Int) : Int) != ((k.length : Nat) : Int)) = false := by simp [h]
    simp only [ref03_Same_oo_c0, ref03_Same_oo_r0_0, ref03_Same_oo_L0_ok, ref03_Same_oo_L0_end, e, hne, tb_eq, cond_false, Option.isSome_some, cond_true, Option.getD_some]
    rcases g with ⟨a, b⟩ | ⟨a, b, c⟩
    · simp [ref03_Same_oo_L0_c0, ref03_Same_oo_L0_c1, a, b]
    · have i1 := inb_of g0 a
      have i2 : inb k.length s1.c4 = true := by rw [← h]; exact i1
      simp [ref03_Same_oo_L0_c0, ref03_Same_oo_L0_c1, a, c, i1, i2]
  · have hne : ((((l.length : Nat) : Int) : Int) != ((k.length : Nat) : Int)) = true := by simp; omega
    have : l ≠ k := fun e => h (by rw [e])
    simp [ref03_Same_oo_c0, ref03_Same_oo_r0_0, hne, this]
end Go.Proofs.Ytkipngagfiaddaa.Den

namespace Go.Proofs.Ytkipngagfiaddaa.Den
open Go Go.Proofs
set_option maxRecDepth 100000
set_option maxHeartbeats 4000000
set_option linter.unusedVariables false
set_option linter.unusedSimpArgs false
structure ref19_Right_ai12bi3bi3bi3bi3bi3bi3bi3b_L0_s0 where
  c0 : Int
  deriving Inhabited
structure ref19_Failed_ai12bi3bi3bi3bi3bi3bi3bi3b_L0_s0 where
  c0 : Int
  c1 : Int
  deriving Inhabited
structure ref19_Encode_ai12bi3bi3bi3bi3bi3bi3bi3b_L1_s0 where
  c0 : Bool
  c1 : Int
  c7 : List Int
  deriving Inhabited
structure ref19_Encode_ai12bi3bi3bi3bi3bi3bi3bi3b_L2_s0 where
  c0 : Bool
  c1 : Int
  c7 : List Int
  deriving Inhabited
structure ref19_Decode_o_L0_s0 where
  c1 : Int
  c7 : List Int
  c8 : List R_i64_i64_i64_bool
  deriving Inhabited
end Go.Proofs.Ytkipngagfiaddaa.Den

namespace Go.Proofs.Ytkipngagfiaddaa.Den
open Go Go.Proofs
set_option linter.unusedVariables false
set_option linter.unusedSimpArgs false
end Go.Proofs.Ytkipngagfiaddaa.Den

namespace Go.Proofs.Ytkipngagfiaddaa.Den
open Go Go.Proofs
set_option linter.unusedVariables false
set_option linter.unusedSimpArgs false
set_option maxHeartbeats 1000000
def perr (l : List Int) (i : Nat) : Int := status_Parse_i_r0_4 (wO l i)
theorem perr_cases (l : List Int) (i : Nat) : (perr l i = 0 ∧ rightS (parseS (wO l i)) = true ∧ wordS (parseS (wO l i)) = wO l i) ∨ (perr l i = 3 ∧ rightS (parseS (wO l i)) = false) := parse_back (wO l i)
theorem okS_sealed {b : List Int} (h : b.length = 52) : okS (sealed b) = true := by
  have hsl : (sealed b).length = 54 := by simp [sealed, tail2, h]
  have ht : (sealed b).take 52 = b := by unfold sealed; rw [List.take_append_of_le_length (by omega), List.take_of_length_le (by omega)]
  simp only [okS, hsl, Bool.and_eq_true, decide_eq_true_eq]
  exact ⟨by omega, by rw [show 54 - 2 = 52 from rfl, ht]⟩
theorem good_facts {l : List Int} (h : goodO l = true) : l.length = 54 ∧ okS l = true ∧ gt l 0 = 90 ∧ gt l 1 = failN (stsO l) ∧ ∀ i, i < 8 → perr l i = 0 := by
  simp only [goodO, Bool.and_eq_true, decide_eq_true_eq] at h
  obtain ⟨hl, hk, he⟩ := h
  refine ⟨hl, ?_, ?_, ?_, fun i hi => ?_⟩
  · rw [← he]; exact okS_sealed (bodyO_len (valsO_len l) (stsO_len l))
  · exact (congrArg (fun z => gt z 0) he).symm.trans rfl
  · exact (congrArg (fun z => gt z 1) he).symm.trans rfl
  · simp only [okO, Bool.and_eq_true] at hk
    rcases perr_cases l i with ⟨h1, _⟩ | ⟨_, h2⟩
    · exact h1
    · have : rightS (parseS (wO l i)) = true := by
        refine List.all_eq_true.1 hk.2 _ ?_
        unfold stsO stsN
        exact List.mem_map.2 ⟨i, List.mem_range.2 hi, rfl⟩
      rw [this] at h2; cases h2
end Go.Proofs.Ytkipngagfiaddaa.Den

namespace Go.Proofs.Ytkipngagfiaddaa.Den
open Go Go.Proofs
set_option linter.unusedVariables false
set_option linter.unusedSimpArgs false
theorem u8_wrap_int (z : Int) : IntKind.u8.wrap z = z % 256 := by
  unfold IntKind.wrap; simp [IntKind.bits, IntKind.signed]
theorem nats_app (l k : List Int) : nats (l ++ k) = nats l ++ nats k := by simp [nats]
theorem crc_sealed {l : List Int} (h : Sm l) : crcI 65535 (sealed l) = 0 := by
  have hc := h.crc
  unfold sealed
  have e : nats (tail2 l) = [crcI 65535 l / 256, crcI 65535 l % 256] := rfl
  show crcN 65535 (nats (l ++ tail2 l)) = 0
  rw [nats_app, e, crcN_app]
  exact (two_zero hc (by omega) (by omega)).2 (by show crcI 65535 l = _; omega)
theorem okS_crc {l : List Int} (h : Sm l) (ok : okS l = true) : crcI 65535 l = 0 := by
  simp only [okS, Bool.and_eq_true, decide_eq_true_eq] at ok
  have := crc_sealed (h.take (l.length - 2))
  rwa [ok.2] at this
theorem crc_two (p q : List Int) (u v : Int) : crcI 65535 (p ++ u :: v :: q) = crcN 65535 (nats p ++ u.toNat :: v.toNat :: nats q) := by
  unfold crcI; rw [nats_app]; rfl
theorem set_bad {s : List Int} (hs : Sm s) (h2 : 2 ≤ s.length) (hk : okS s = true) {i : Nat} (hi : i < s.length) {v : Int} (hv : 0 ≤ v ∧ v ≤ 255) (hne : v ≠ s[i]) : Sm (s.set i v) ∧ okS (s.set i v) = false := by
  have h0 := okS_crc hs hk
  have hn := hs.n
  have hsm : Sm (s.set i v) := by
    refine ⟨fun z hz => ?_, by simpa using hn⟩
    rcases List.mem_or_eq_of_mem_set hz with h | rfl
    · exact hs.b z h
    · exact wf_u8 hv
  refine ⟨hsm, ?_⟩
  cases hk' : okS (s.set i v)
  · rfl
  exfalso
  have hz := okS_crc hsm hk'
  have bi := wfI_u8 (hs.b _ (List.getElem_mem hi))
  by_cases hl : i + 1 < s.length
  · have b1 := wfI_u8 (hs.b _ (List.getElem_mem hl))
    have e1 : s = s.take i ++ s[i] :: s[i + 1] :: s.drop (i + 2) := by
      conv => lhs; rw [← List.take_append_drop i s, List.drop_eq_getElem_cons (by omega), List.drop_eq_getElem_cons (by omega)]
    have e2 : s.set i v = s.take i ++ v :: s[i + 1] :: s.drop (i + 2) := by
      rw [List.set_eq_take_append_cons_drop, if_pos hi, List.drop_eq_getElem_cons (by omega)]
    rw [e1, crc_two] at h0
    rw [e2, crc_two] at hz
    obtain ⟨q1, _⟩ := crcN_seen (by omega) (nats_lt (hs.b.take i)) (nats_lt (hs.b.drop (i + 2))) (by omega) (by omega) (by omega) (by omega) (h0.trans hz.symm)
    omega
  · obtain ⟨j, rfl⟩ : ∃ j, i = j + 1 := ⟨i - 1, by omega⟩
    have b1 := wfI_u8 (hs.b _ (List.getElem_mem (show j < s.length by omega)))
    have e1 : s = s.take j ++ s[j] :: s[j + 1] :: s.drop (j + 2) := by
      conv => lhs; rw [← List.take_append_drop j s, List.drop_eq_getElem_cons (by omega), List.drop_eq_getElem_cons (by omega)]
    have e2 : s.set (j + 1) v = s.take j ++ s[j] :: v :: s.drop (j + 2) := by
      have e3 : s.take (j + 1) = s.take j ++ [s[j]] := by rw [List.take_add_one, List.getElem?_eq_getElem (by omega)]; rfl
      rw [List.set_eq_take_append_cons_drop, if_pos hi, e3, List.append_assoc]; rfl
    rw [e1, crc_two] at h0
    rw [e2, crc_two] at hz
    obtain ⟨_, q1⟩ := crcN_seen (by omega) (nats_lt (hs.b.take j)) (nats_lt (hs.b.drop (j + 2))) (by omega) (by omega) (by omega) (by omega) (h0.trans hz.symm)
    omega
end Go.Proofs.Ytkipngagfiaddaa.Den

namespace Go.Proofs.Ytkipngagfiaddaa.Den
open Go Go.Proofs
set_option maxRecDepth 100000
set_option maxHeartbeats 4000000
set_option linter.unusedVariables false
set_option linter.unusedSimpArgs false
theorem law19_alive_t0 : cl E0 17 [] [] = some ([(V.d (.bool true))], []) := cl_of (n := 60) (by kernel_rfl)
end Go.Proofs.Ytkipngagfiaddaa.Den

namespace Go.Proofs.Ytkipngagfiaddaa.Den
open Go Go.Proofs
set_option maxRecDepth 100000
set_option maxHeartbeats 4000000
set_option linter.unusedVariables false
set_option linter.unusedSimpArgs false
def law19_OutputBack_S0_c0 (x8 : List Int) : Bool := (bif tb (decide (300 < ((x8.length : Nat) : Int))) then true else false)
theorem law19_OutputBack_S0_t0 (x0 : Int) (x1 : List Int) (x2 : List R_i64_i64_i64_bool) (x3 : Int) (x4 : Int) (x5 : Bool) (x6 : Bool) (x7 : Bool) (x8 : List Int) : law19_OutputBack_S0_c0 x8 = true → segG (runC E0 (cl E0) S6_0) [1, 3, 5] [6] [1, 3, 5] 2 ([(V.d (slD (encI .u8) true 1 x7 x8)), (V.ptr 0 1 0 0), (V.ptr 1 1 0 0)], [(Blk.flat 55 41 [([(.int .i64 x0)] ++ arrD .i64 x1 8 ++ arrE enc_R_i64_i64_i64_bool x2 8)] x5), (Blk.flat 64 2 [[(.int .u8 x3), (.int .u8 x4)]] x6)]) = some (.ret, ([(V.d (.bool true))], [(Blk.flat 55 41 [([(.int .i64 x0)] ++ arrD .i64 x1 8 ++ arrE enc_R_i64_i64_i64_bool x2 8)] x5), (Blk.flat 64 2 [[(.int .u8 x3), (.int .u8 x4)]] x6)])) := by
  unfold law19_OutputBack_S0_c0
  cases h1 : tb (decide (300 < ((x8.length : Nat) : Int)))
  · intro g0
    exact absurd g0 ft
  · intro g0
    exact seg_walk [.o 20 (fun _ => o_len_os (enc := (encI .u8)) (l := x8) (fl := true) (n := x7) (s := 1)), .b (tbE h1), .c (law19_alive_t0)] (by kernel_rfl)
theorem law19_OutputBack_S0_t1 (x0 : Int) (x1 : List Int) (x2 : List R_i64_i64_i64_bool) (x3 : Int) (x4 : Int) (x5 : Bool) (x6 : Bool) (x7 : Bool) (x8 : List Int) : law19_OutputBack_S0_c0 x8 = false → segG (runC E0 (cl E0) S6_0) [1, 3, 5] [6] [1, 3, 5] 2 ([(V.d (slD (encI .u8) true 1 x7 x8)), (V.ptr 0 1 0 0), (V.ptr 1 1 0 0)], [(Blk.flat 55 41 [([(.int .i64 x0)] ++ arrD .i64 x1 8 ++ arrE enc_R_i64_i64_i64_bool x2 8)] x5), (Blk.flat 64 2 [[(.int .u8 x3), (.int .u8 x4)]] x6)]) = some (.normal, ([(V.d (slD (encI .u8) true 1 x7 x8)), (V.ptr 0 1 0 0), (V.ptr 1 1 0 0)], [(Blk.flat 55 41 [([(.int .i64 x0)] ++ arrD .i64 x1 8 ++ arrE enc_R_i64_i64_i64_bool x2 8)] x5), (Blk.flat 64 2 [[(.int .u8 x3), (.int .u8 x4)]] x6)])) := by
  unfold law19_OutputBack_S0_c0
  cases h1 : tb (decide (300 < ((x8.length : Nat) : Int)))
  · intro g0
    exact seg_walk [.o 20 (fun _ => o_len_os (enc := (encI .u8)) (l := x8) (fl := true) (n := x7) (s := 1)), .b (tbE h1)] (by kernel_rfl)
  · intro g0
    exact absurd g0 tf
def law19_OutputBack_S1_e0 (x0 : Int) (x1 : List Int) (x2 : List R_i64_i64_i64_bool) (x5 : List Int) (x11 : Bool) : Bool := (true != ((((output_Decode_o_r0_0 x11 x5) : Int) == x0) && ((((gt (output_Decode_o_r0_1 x11 x5) 0) : Int) == (gt x1 0)) && ((((gt (output_Decode_o_r0_1 x11 x5) 1) : Int) == (gt x1 1)) && ((((gt (output_Decode_o_r0_1 x11 x5) 2) : Int) == (gt x1 2)) && ((((gt (output_Decode_o_r0_1 x11 x5) 3) : Int) == (gt x1 3)) && ((((gt (output_Decode_o_r0_1 x11 x5) 4) : Int) == (gt x1 4)) && ((((gt (output_Decode_o_r0_1 x11 x5) 5) : Int) == (gt x1 5)) && ((((gt (output_Decode_o_r0_1 x11 x5) 6) : Int) == (gt x1 6)) && ((((gt (output_Decode_o_r0_1 x11 x5) 7) : Int) == (gt x1 7)) && (((((gt (output_Decode_o_r0_2 x11 x5) 0).c0) : Int) == ((gt x2 0).c0)) && (((((gt (output_Decode_o_r0_2 x11 x5) 0).c1) : Int) == ((gt x2 0).c1)) && (((((gt (output_Decode_o_r0_2 x11 x5) 0).c2) : Int) == ((gt x2 0).c2)) && ((((gt (output_Decode_o_r0_2 x11 x5) 0).c3) == ((gt x2 0).c3)) && (((((gt (output_Decode_o_r0_2 x11 x5) 1).c0) : Int) == ((gt x2 1).c0)) && (((((gt (output_Decode_o_r0_2 x11 x5) 1).c1) : Int) == ((gt x2 1).c1)) && (((((gt (output_Decode_o_r0_2 x11 x5) 1).c2) : Int) == ((gt x2 1).c2)) && ((((gt (output_Decode_o_r0_2 x11 x5) 1).c3) == ((gt x2 1).c3)) && (((((gt (output_Decode_o_r0_2 x11 x5) 2).c0) : Int) == ((gt x2 2).c0)) && (((((gt (output_Decode_o_r0_2 x11 x5) 2).c1) : Int) == ((gt x2 2).c1)) && (((((gt (output_Decode_o_r0_2 x11 x5) 2).c2) : Int) == ((gt x2 2).c2)) && ((((gt (output_Decode_o_r0_2 x11 x5) 2).c3) == ((gt x2 2).c3)) && (((((gt (output_Decode_o_r0_2 x11 x5) 3).c0) : Int) == ((gt x2 3).c0)) && (((((gt (output_Decode_o_r0_2 x11 x5) 3).c1) : Int) == ((gt x2 3).c1)) && (((((gt (output_Decode_o_r0_2 x11 x5) 3).c2) : Int) == ((gt x2 3).c2)) && ((((gt (output_Decode_o_r0_2 x11 x5) 3).c3) == ((gt x2 3).c3)) && (((((gt (output_Decode_o_r0_2 x11 x5) 4).c0) : Int) == ((gt x2 4).c0)) && (((((gt (output_Decode_o_r0_2 x11 x5) 4).c1) : Int) == ((gt x2 4).c1)) && (((((gt (output_Decode_o_r0_2 x11 x5) 4).c2) : Int) == ((gt x2 4).c2)) && ((((gt (output_Decode_o_r0_2 x11 x5) 4).c3) == ((gt x2 4).c3)) && (((((gt (output_Decode_o_r0_2 x11 x5) 5).c0) : Int) == ((gt x2 5).c0)) && (((((gt (output_Decode_o_r0_2 x11 x5) 5).c1) : Int) == ((gt x2 5).c1)) && (((((gt (output_Decode_o_r0_2 x11 x5) 5).c2) : Int) == ((gt x2 5).c2)) && ((((gt (output_Decode_o_r0_2 x11 x5) 5).c3) == ((gt x2 5).c3)) && (((((gt (output_Decode_o_r0_2 x11 x5) 6).c0) : Int) == ((gt x2 6).c0)) && (((((gt (output_Decode_o_r0_2 x11 x5) 6).c1) : Int) == ((gt x2 6).c1)) && (((((gt (output_Decode_o_r0_2 x11 x5) 6).c2) : Int) == ((gt x2 6).c2)) && ((((gt (output_Decode_o_r0_2 x11 x5) 6).c3) == ((gt x2 6).c3)) && (((((gt (output_Decode_o_r0_2 x11 x5) 7).c0) : Int) == ((gt x2 7).c0)) && (((((gt (output_Decode_o_r0_2 x11 x5) 7).c1) : Int) == ((gt x2 7).c1)) && (((((gt (output_Decode_o_r0_2 x11 x5) 7).c2) : Int) == ((gt x2 7).c2)) && ((((gt (output_Decode_o_r0_2 x11 x5) 7).c3) == ((gt x2 7).c3)) && true))))))))))))))))))))))))))))))))))))))))))
def law19_OutputBack_S1_c0 (x0 : Int) (x1 : List Int) (x2 : List R_i64_i64_i64_bool) (x5 : List Int) (x11 : Bool) : Bool := (bif tb (output_Decode_o_c0 x11 x5) then (bif tb (((output_Decode_o_r0_3 x11 x5) : Int) != 0) then true else (bif tb (law19_OutputBack_S1_e0 x0 x1 x2 x5 x11) then true else (bif tb ((((x5.length : Nat) : Int) : Int) != 54) then true else false))) else false)
def law19_OutputBack_S1_c1 (x0 : Int) (x1 : List Int) (x2 : List R_i64_i64_i64_bool) (x5 : List Int) (x11 : Bool) : Bool := (bif tb (output_Decode_o_c0 x11 x5) then (bif tb (((output_Decode_o_r0_3 x11 x5) : Int) != 0) then false else (bif tb (law19_OutputBack_S1_e0 x0 x1 x2 x5 x11) then false else (bif tb ((((x5.length : Nat) : Int) : Int) != 54) then false else true))) else false)
theorem law19_OutputBack_S1_t0 (x0 : Int) (x1 : List Int) (x2 : List R_i64_i64_i64_bool) (x3 : Int) (x4 : Int) (x5 : List Int) (x6 : Bool) (x7 : Bool) (x8 : Bool) (x9 : Bool) (x10 : List Int) (x11 : Bool) : law19_OutputBack_S1_c0 x0 x1 x2 x5 x11 = true → segG (runC E0 (cl E0) S6_1) [1, 3, 5, 7] [6] [1, 5, 7] 3 ([(V.d (slD (encI .u8) true 1 x9 x10)), (V.ptr 0 1 0 0), (V.ptr 1 1 0 0), (V.so x11 2 x5.length)], [(Blk.flat 55 41 [([(.int .i64 x0)] ++ arrD .i64 x1 8 ++ arrE enc_R_i64_i64_i64_bool x2 8)] x6), (Blk.flat 64 2 [[(.int .u8 x3), (.int .u8 x4)]] x7), (Blk.flat 5 1 (List.map (encI .u8) x5) x8)]) = some (.ret, ([(V.d (.bool false))], [(Blk.flat 55 41 [([(.int .i64 x0)] ++ arrD .i64 x1 8 ++ arrE enc_R_i64_i64_i64_bool x2 8)] x6), (Blk.flat 64 2 [[(.int .u8 x3), (.int .u8 x4)]] x7), (Blk.flat 5 1 (List.map (encI .u8) x5) x8)])) := by
  unfold law19_OutputBack_S1_c0
  cases h1 : tb (output_Decode_o_c0 x11 x5)
  · intro g0
    exact absurd g0 ft
  · cases h2 : tb (((output_Decode_o_r0_3 x11 x5) : Int) != 0)
    · cases h3 : tb (law19_OutputBack_S1_e0 x0 x1 x2 x5 x11)
      · cases h4 : tb ((((x5.length : Nat) : Int) : Int) != 54)
        · intro g0
          exact absurd g0 ft
        · intro g0
          exact seg_walk [.y (mm := [(Blk.flat 55 41 [([(.int .i64 x0)] ++ arrD .i64 x1 8 ++ arrE enc_R_i64_i64_i64_bool x2 8)] x6), (Blk.flat 64 2 [[(.int .u8 x3), (.int .u8 x4)]] x7), (Blk.flat 5 1 (List.map (encI .u8) x5) x8)]) (args := [(V.so x11 2 x5.length)]) (args1 := [(V.d (slD (encI .u8) true 1 x11 x5))]) (byvals_cons (byval_so (enc := (encI .u8)) (l := x5) (b := x11) (e := 5) (s := 1) (p := x8) (n := x5.length) (Nat.beq_refl _) (by kernel_rfl)) (by kernel_rfl)), .c (output_Decode_o_t0 x11 x5 (tbE h1)), .b (tbE h2), .b (tbE h3), .b (tbE h4)] (by kernel_rfl)
      · intro g0
        exact seg_walk [.y (mm := [(Blk.flat 55 41 [([(.int .i64 x0)] ++ arrD .i64 x1 8 ++ arrE enc_R_i64_i64_i64_bool x2 8)] x6), (Blk.flat 64 2 [[(.int .u8 x3), (.int .u8 x4)]] x7), (Blk.flat 5 1 (List.map (encI .u8) x5) x8)]) (args := [(V.so x11 2 x5.length)]) (args1 := [(V.d (slD (encI .u8) true 1 x11 x5))]) (byvals_cons (byval_so (enc := (encI .u8)) (l := x5) (b := x11) (e := 5) (s := 1) (p := x8) (n := x5.length) (Nat.beq_refl _) (by kernel_rfl)) (by kernel_rfl)), .c (output_Decode_o_t0 x11 x5 (tbE h1)), .b (tbE h2), .b (tbE h3)] (by kernel_rfl)
    · intro g0
      exact seg_walk [.y (mm := [(Blk.flat 55 41 [([(.int .i64 x0)] ++ arrD .i64 x1 8 ++ arrE enc_R_i64_i64_i64_bool x2 8)] x6), (Blk.flat 64 2 [[(.int .u8 x3), (.int .u8 x4)]] x7), (Blk.flat 5 1 (List.map (encI .u8) x5) x8)]) (args := [(V.so x11 2 x5.length)]) (args1 := [(V.d (slD (encI .u8) true 1 x11 x5))]) (byvals_cons (byval_so (enc := (encI .u8)) (l := x5) (b := x11) (e := 5) (s := 1) (p := x8) (n := x5.length) (Nat.beq_refl _) (by kernel_rfl)) (by kernel_rfl)), .c (output_Decode_o_t0 x11 x5 (tbE h1)), .b (tbE h2)] (by kernel_rfl)
theorem law19_OutputBack_S1_t1 (x0 : Int) (x1 : List Int) (x2 : List R_i64_i64_i64_bool) (x3 : Int) (x4 : Int) (x5 : List Int) (x6 : Bool) (x7 : Bool) (x8 : Bool) (x9 : Bool) (x10 : List Int) (x11 : Bool) : law19_OutputBack_S1_c0 x0 x1 x2 x5 x11 = false → law19_OutputBack_S1_c1 x0 x1 x2 x5 x11 = true → segG (runC E0 (cl E0) S6_1) [1, 3, 5, 7] [6] [1, 5, 7] 3 ([(V.d (slD (encI .u8) true 1 x9 x10)), (V.ptr 0 1 0 0), (V.ptr 1 1 0 0), (V.so x11 2 x5.length)], [(Blk.flat 55 41 [([(.int .i64 x0)] ++ arrD .i64 x1 8 ++ arrE enc_R_i64_i64_i64_bool x2 8)] x6), (Blk.flat 64 2 [[(.int .u8 x3), (.int .u8 x4)]] x7), (Blk.flat 5 1 (List.map (encI .u8) x5) x8)]) = some (.normal, ([(V.d (slD (encI .u8) true 1 x9 x10)), (V.ptr 1 1 0 0), (V.so x11 2 x5.length)], [(Blk.flat 55 41 [([(.int .i64 x0)] ++ arrD .i64 x1 8 ++ arrE enc_R_i64_i64_i64_bool x2 8)] x6), (Blk.flat 64 2 [[(.int .u8 x3), (.int .u8 x4)]] x7), (Blk.flat 5 1 (List.map (encI .u8) x5) x8)])) := by
  unfold law19_OutputBack_S1_c0 law19_OutputBack_S1_c1
  cases h1 : tb (output_Decode_o_c0 x11 x5)
  · intro g0 g1
    exact absurd g1 ft
  · cases h2 : tb (((output_Decode_o_r0_3 x11 x5) : Int) != 0)
    · cases h3 : tb (law19_OutputBack_S1_e0 x0 x1 x2 x5 x11)
      · cases h4 : tb ((((x5.length : Nat) : Int) : Int) != 54)
        · intro g0 g1
          exact seg_walk [.y (mm := [(Blk.flat 55 41 [([(.int .i64 x0)] ++ arrD .i64 x1 8 ++ arrE enc_R_i64_i64_i64_bool x2 8)] x6), (Blk.flat 64 2 [[(.int .u8 x3), (.int .u8 x4)]] x7), (Blk.flat 5 1 (List.map (encI .u8) x5) x8)]) (args := [(V.so x11 2 x5.length)]) (args1 := [(V.d (slD (encI .u8) true 1 x11 x5))]) (byvals_cons (byval_so (enc := (encI .u8)) (l := x5) (b := x11) (e := 5) (s := 1) (p := x8) (n := x5.length) (Nat.beq_refl _) (by kernel_rfl)) (by kernel_rfl)), .c (output_Decode_o_t0 x11 x5 (tbE h1)), .b (tbE h2), .b (tbE h3), .b (tbE h4)] (by kernel_rfl)
        · intro g0 g1
          exact absurd g0 tf
      · intro g0 g1
        exact absurd g0 tf
    · intro g0 g1
      exact absurd g0 tf
def law19_OutputBack_S2_e0 (x3 : Int) (x4 : Int) (x5 : List Int) : List Int := st x5 (remI .i64 (wi (x3)) 54) (IntKind.u8.wrap ((gt x5 (remI .i64 (wi (x3)) 54)) + x4))
def law19_OutputBack_S2_c0 (x3 : Int) (x4 : Int) (x5 : List Int) : Bool := (bif tb (decide ((([] : List Int).length + x5.length) * 1 ≤ 140737488355328)) then (bif tb (inb x5.length (remI .i64 (wi (x3)) 54)) then (bif tb (output_Decode_o_c0 false (law19_OutputBack_S2_e0 x3 x4 x5)) then true else false) else false) else false)
theorem law19_OutputBack_S2_t0 (x0 : Int) (x1 : List Int) (x2 : List R_i64_i64_i64_bool) (x3 : Int) (x4 : Int) (x5 : List Int) (x6 : Bool) (x7 : Bool) (x8 : Bool) (x9 : Bool) (x10 : List Int) (x11 : Bool) : law19_OutputBack_S2_c0 x3 x4 x5 = true → segG (runC E0 (cl E0) S6_2) [1, 5, 7] [] [1, 5, 13] 3 ([(V.d (slD (encI .u8) true 1 x9 x10)), (V.ptr 1 1 0 0), (V.so x11 2 x5.length)], [(Blk.flat 55 41 [([(.int .i64 x0)] ++ arrD .i64 x1 8 ++ arrE enc_R_i64_i64_i64_bool x2 8)] x6), (Blk.flat 64 2 [[(.int .u8 x3), (.int .u8 x4)]] x7), (Blk.flat 5 1 (List.map (encI .u8) x5) x8)]) = some (.normal, ([(V.d (slD (encI .u8) true 1 x9 x10)), (V.ptr 1 1 0 0), (V.d (.int .i64 (output_Decode_o_r0_3 false (law19_OutputBack_S2_e0 x3 x4 x5))))], [(Blk.flat 55 41 [([(.int .i64 x0)] ++ arrD .i64 x1 8 ++ arrE enc_R_i64_i64_i64_bool x2 8)] x6), (Blk.flat 64 2 [[(.int .u8 x3), (.int .u8 x4)]] x7), (Blk.flat 5 1 (List.map (encI .u8) x5) x8)])) := by
  unfold law19_OutputBack_S2_c0
  cases h1 : tb (decide ((([] : List Int).length + x5.length) * 1 ≤ 140737488355328))
  · intro g0
    exact absurd g0 ft
  · cases h2 : tb (inb x5.length (remI .i64 (wi (x3)) 54))
    · intro g0
      exact absurd g0 ft
    · cases h3 : tb (output_Decode_o_c0 false (law19_OutputBack_S2_e0 x3 x4 x5))
      · intro g0
        exact absurd g0 ft
      · intro g0
        exact seg_walk [.m 54 (o_app_sf (m := [(Blk.flat 55 41 [([(.int .i64 x0)] ++ arrD .i64 x1 8 ++ arrE enc_R_i64_i64_i64_bool x2 8)] x6), (Blk.flat 64 2 [[(.int .u8 x3), (.int .u8 x4)]] x7), (Blk.flat 5 1 (List.map (encI .u8) x5) x8), (Blk.flat 5 1 [] false)]) (enc := (encI .u8)) (l0 := ([] : List Int)) (l1 := x5) (id := 3) (e := 5) (s := 1) (bytes := 1) (x := (V.so x11 2 x5.length)) (n := 0) (by kernel_rfl) (by kernel_rfl) (flatRowsOf_so' (b := x11) (e := 5) (s := 1) (p := x8) (Nat.beq_refl _) (by kernel_rfl)) (by kernel_rfl) (tbE h1)), .m 65 (o_idx_so (m := [(Blk.flat 55 41 [([(.int .i64 x0)] ++ arrD .i64 x1 8 ++ arrE enc_R_i64_i64_i64_bool x2 8)] true), (Blk.flat 64 2 [[(.int .u8 x3), (.int .u8 x4)]] true), (Blk.flat 5 1 (List.map (encI .u8) x5) true), (Blk.flat 5 1 (List.map (encI .u8) x5) true)]) (b := false) (id := 3) (n := x5.length) (s := 1) (k := .i64) (by kernel_rfl) (tbE h2)), .m 66 (o_load_L (m := [(Blk.flat 55 41 [([(.int .i64 x0)] ++ arrD .i64 x1 8 ++ arrE enc_R_i64_i64_i64_bool x2 8)] true), (Blk.flat 64 2 [[(.int .u8 x3), (.int .u8 x4)]] true), (Blk.flat 5 1 (List.map (encI .u8) x5) true), (Blk.flat 5 1 (List.map (encI .u8) x5) true)]) (enc := (encI .u8)) (l := x5) (id := 3) (e := 5) (s := 1) (off := 0) (size := 1) (p := true) (agg := false) (i := (remI .i64 (wi (x3)) 54)) (v := (V.d (.int .u8 (gt x5 (remI .i64 (wi (x3)) 54))))) (n := x5.length) (Nat.beq_refl _) (by kernel_rfl) (tbE h2) (by kernel_rfl)), .m 70 (o_idx_so (m := [(Blk.flat 55 41 [([(.int .i64 x0)] ++ arrD .i64 x1 8 ++ arrE enc_R_i64_i64_i64_bool x2 8)] x6), (Blk.flat 64 2 [[(.int .u8 x3), (.int .u8 x4)]] x7), (Blk.flat 5 1 (List.map (encI .u8) x5) x8), (Blk.flat 5 1 (List.map (encI .u8) x5) false)]) (b := false) (id := 3) (n := x5.length) (s := 1) (k := .i64) (by kernel_rfl) (tbE h2)), .m 100070 (o_store_L (m := [(Blk.flat 55 41 [([(.int .i64 x0)] ++ arrD .i64 x1 8 ++ arrE enc_R_i64_i64_i64_bool x2 8)] x6), (Blk.flat 64 2 [[(.int .u8 x3), (.int .u8 x4)]] x7), (Blk.flat 5 1 (List.map (encI .u8) x5) x8), (Blk.flat 5 1 (List.map (encI .u8) x5) false)]) (enc := (encI .u8)) (l := x5) (id := 3) (e := 5) (s := 1) (size := 1) (off := 0) (i := (remI .i64 (wi (x3)) 54)) (v := (V.d (.int .u8 (IntKind.u8.wrap ((gt x5 (remI .i64 (wi (x3)) 54)) + x4))))) (x := (IntKind.u8.wrap ((gt x5 (remI .i64 (wi (x3)) 54)) + x4))) (ys := [(.int .u8 (IntKind.u8.wrap ((gt x5 (remI .i64 (wi (x3)) 54)) + x4)))]) (n := x5.length) (Nat.beq_refl _) (by kernel_rfl) (tbE h2) ⟨by kernel_rfl, by kernel_rfl⟩ (by kernel_rfl) (by kernel_rfl)), .y (mm := [(Blk.flat 55 41 [([(.int .i64 x0)] ++ arrD .i64 x1 8 ++ arrE enc_R_i64_i64_i64_bool x2 8)] x6), (Blk.flat 64 2 [[(.int .u8 x3), (.int .u8 x4)]] x7), (Blk.flat 5 1 (List.map (encI .u8) x5) x8), (Blk.flat 5 1 (List.map (encI .u8) (law19_OutputBack_S2_e0 x3 x4 x5)) false)]) (args := [(V.so false 3 x5.length)]) (args1 := [(V.d (.rs true 1 (List.map (encI .u8) (law19_OutputBack_S2_e0 x3 x4 x5)) false))]) (byvals_cons (byval_so (enc := (encI .u8)) (l := (law19_OutputBack_S2_e0 x3 x4 x5)) (b := false) (e := 5) (s := 1) (p := false) (n := x5.length) (st_len (Nat.beq_refl _)) (by kernel_rfl)) (by kernel_rfl)), .c (output_Decode_o_t0 false (law19_OutputBack_S2_e0 x3 x4 x5) (tbE h3))] (by kernel_rfl)
def law19_OutputBack_S3_r0_2 (x4 : Int) (x11 : Int) : Bool := (bif tb ((x4 : Int) != 0) then ((x11 : Int) != 3) else false)
theorem law19_OutputBack_S3_t0 (x0 : Int) (x1 : List Int) (x2 : List R_i64_i64_i64_bool) (x3 : Int) (x4 : Int) (x5 : List Int) (x6 : Bool) (x7 : Bool) (x8 : Bool) (x9 : Bool) (x10 : List Int) (x11 : Int) : segG (runC E0 (cl E0) S6_3) [1, 5, 13] [] [1, 82] 3 ([(V.d (slD (encI .u8) true 1 x9 x10)), (V.ptr 1 1 0 0), (V.d (.int .i64 x11))], [(Blk.flat 55 41 [([(.int .i64 x0)] ++ arrD .i64 x1 8 ++ arrE enc_R_i64_i64_i64_bool x2 8)] x6), (Blk.flat 64 2 [[(.int .u8 x3), (.int .u8 x4)]] x7), (Blk.flat 5 1 (List.map (encI .u8) x5) x8)]) = some (.normal, ([(V.d (slD (encI .u8) true 1 x9 x10)), (V.d (.bool (law19_OutputBack_S3_r0_2 x4 x11)))], [(Blk.flat 55 41 [([(.int .i64 x0)] ++ arrD .i64 x1 8 ++ arrE enc_R_i64_i64_i64_bool x2 8)] x6), (Blk.flat 64 2 [[(.int .u8 x3), (.int .u8 x4)]] x7), (Blk.flat 5 1 (List.map (encI .u8) x5) x8)])) := by
  unfold law19_OutputBack_S3_r0_2
  cases h1 : tb ((x4 : Int) != 0)
  · exact seg_walk [.b (tbE h1)] (by kernel_rfl)
  · exact seg_walk [.b (tbE h1)] (by kernel_rfl)
def law19_OutputBack_S4_e0 (x0 : Int) (x1 : List Int) (x2 : List R_i64_i64_i64_bool) (x3 : Int) (x4 : Int) : Int := (output_Decode_o_r0_3 false (law19_OutputBack_S2_e0 x3 x4 (output_Encode_ai12bi3bi3bi3bi3bi3bi3bi3b_r0_2 x0 x1 x2)))
def law19_OutputBack_S4_c0 (x0 : Int) (x1 : List Int) (x2 : List R_i64_i64_i64_bool) (x3 : Int) (x4 : Int) : Bool := (bif tb (output_Encode_ai12bi3bi3bi3bi3bi3bi3bi3b_c0 x0 x1 x2) then (bif tb (output_Right_ai12bi3bi3bi3bi3bi3bi3bi3b_c0 x0 x1 x2) then (bif tb (true != ((((output_Encode_ai12bi3bi3bi3bi3bi3bi3bi3b_r0_1 x0 x1 x2) : Int) == 0) == (output_Right_ai12bi3bi3bi3bi3bi3bi3bi3b_r0_0 x0 x1 x2))) then true else (bif tb (((output_Encode_ai12bi3bi3bi3bi3bi3bi3bi3b_r0_1 x0 x1 x2) : Int) == 0) then (bif tb (law19_OutputBack_S1_c0 x0 x1 x2 (output_Encode_ai12bi3bi3bi3bi3bi3bi3bi3b_r0_2 x0 x1 x2) (output_Encode_ai12bi3bi3bi3bi3bi3bi3bi3b_r0_0 x0 x1 x2)) then true else (bif tb (law19_OutputBack_S1_c1 x0 x1 x2 (output_Encode_ai12bi3bi3bi3bi3bi3bi3bi3b_r0_2 x0 x1 x2) (output_Encode_ai12bi3bi3bi3bi3bi3bi3bi3b_r0_0 x0 x1 x2)) then (bif tb (law19_OutputBack_S2_c0 x3 x4 (output_Encode_ai12bi3bi3bi3bi3bi3bi3bi3b_r0_2 x0 x1 x2)) then (bif tb (law19_OutputBack_S3_r0_2 x4 (law19_OutputBack_S4_e0 x0 x1 x2 x3 x4)) then true else false) else false) else false)) else false)) else false) else false)
def law19_OutputBack_S4_c1 (x0 : Int) (x1 : List Int) (x2 : List R_i64_i64_i64_bool) (x3 : Int) (x4 : Int) : Bool := (bif tb (output_Encode_ai12bi3bi3bi3bi3bi3bi3bi3b_c0 x0 x1 x2) then (bif tb (output_Right_ai12bi3bi3bi3bi3bi3bi3bi3b_c0 x0 x1 x2) then (bif tb (true != ((((output_Encode_ai12bi3bi3bi3bi3bi3bi3bi3b_r0_1 x0 x1 x2) : Int) == 0) == (output_Right_ai12bi3bi3bi3bi3bi3bi3bi3b_r0_0 x0 x1 x2))) then false else (bif tb (((output_Encode_ai12bi3bi3bi3bi3bi3bi3bi3b_r0_1 x0 x1 x2) : Int) == 0) then (bif tb (law19_OutputBack_S1_c0 x0 x1 x2 (output_Encode_ai12bi3bi3bi3bi3bi3bi3bi3b_r0_2 x0 x1 x2) (output_Encode_ai12bi3bi3bi3bi3bi3bi3bi3b_r0_0 x0 x1 x2)) then false else (bif tb (law19_OutputBack_S1_c1 x0 x1 x2 (output_Encode_ai12bi3bi3bi3bi3bi3bi3bi3b_r0_2 x0 x1 x2) (output_Encode_ai12bi3bi3bi3bi3bi3bi3bi3b_r0_0 x0 x1 x2)) then (bif tb (law19_OutputBack_S2_c0 x3 x4 (output_Encode_ai12bi3bi3bi3bi3bi3bi3bi3b_r0_2 x0 x1 x2)) then (bif tb (law19_OutputBack_S3_r0_2 x4 (law19_OutputBack_S4_e0 x0 x1 x2 x3 x4)) then false else true) else false) else false)) else true)) else false) else false)
theorem law19_OutputBack_S4_t0 (x0 : Int) (x1 : List Int) (x2 : List R_i64_i64_i64_bool) (x3 : Int) (x4 : Int) (x5 : Bool) (x6 : Bool) (x7 : Bool) (x8 : List Int) : law19_OutputBack_S4_c0 x0 x1 x2 x3 x4 = true → segG (runC E0 (cl E0) S6_4) [1, 3, 5] [6] [1] 2 ([(V.d (slD (encI .u8) true 1 x7 x8)), (V.ptr 0 1 0 0), (V.ptr 1 1 0 0)], [(Blk.flat 55 41 [([(.int .i64 x0)] ++ arrD .i64 x1 8 ++ arrE enc_R_i64_i64_i64_bool x2 8)] x5), (Blk.flat 64 2 [[(.int .u8 x3), (.int .u8 x4)]] x6)]) = some (.ret, ([(V.d (.bool false))], [(Blk.flat 55 41 [([(.int .i64 x0)] ++ arrD .i64 x1 8 ++ arrE enc_R_i64_i64_i64_bool x2 8)] x5), (Blk.flat 64 2 [[(.int .u8 x3), (.int .u8 x4)]] x6)])) := by
  unfold law19_OutputBack_S4_c0
  cases h1 : tb (output_Encode_ai12bi3bi3bi3bi3bi3bi3bi3b_c0 x0 x1 x2)
  · intro g0
    exact absurd g0 ft
  · cases h2 : tb (output_Right_ai12bi3bi3bi3bi3bi3bi3bi3b_c0 x0 x1 x2)
    · intro g0
      exact absurd g0 ft
    · cases h3 : tb (true != ((((output_Encode_ai12bi3bi3bi3bi3bi3bi3bi3b_r0_1 x0 x1 x2) : Int) == 0) == (output_Right_ai12bi3bi3bi3bi3bi3bi3bi3b_r0_0 x0 x1 x2)))
      · cases h4 : tb (((output_Encode_ai12bi3bi3bi3bi3bi3bi3bi3b_r0_1 x0 x1 x2) : Int) == 0)
        · intro g0
          exact absurd g0 ft
        · cases h5 : tb (law19_OutputBack_S1_c0 x0 x1 x2 (output_Encode_ai12bi3bi3bi3bi3bi3bi3bi3b_r0_2 x0 x1 x2) (output_Encode_ai12bi3bi3bi3bi3bi3bi3bi3b_r0_0 x0 x1 x2))
          · cases h6 : tb (law19_OutputBack_S1_c1 x0 x1 x2 (output_Encode_ai12bi3bi3bi3bi3bi3bi3bi3b_r0_2 x0 x1 x2) (output_Encode_ai12bi3bi3bi3bi3bi3bi3bi3b_r0_0 x0 x1 x2))
            · intro g0
              exact absurd g0 ft
            · cases h7 : tb (law19_OutputBack_S2_c0 x3 x4 (output_Encode_ai12bi3bi3bi3bi3bi3bi3bi3b_r0_2 x0 x1 x2))
              · intro g0
                exact absurd g0 ft
              · cases h8 : tb (law19_OutputBack_S3_r0_2 x4 (law19_OutputBack_S4_e0 x0 x1 x2 x3 x4))
                · intro g0
                  exact absurd g0 ft
                · intro g0
                  exact seg_walk [.c (output_Encode_ai12bi3bi3bi3bi3bi3bi3bi3b_t0 x0 x1 x2 (tbE h1)), .c (output_Right_ai12bi3bi3bi3bi3bi3bi3bi3b_t0 x0 x1 x2 (tbE h2)), .b (tbE h3), .b (tbE h4), .s (law19_OutputBack_S1_t1 x0 x1 x2 x3 x4 (output_Encode_ai12bi3bi3bi3bi3bi3bi3bi3b_r0_2 x0 x1 x2) x5 x6 false x7 x8 (output_Encode_ai12bi3bi3bi3bi3bi3bi3bi3b_r0_0 x0 x1 x2) (tbE h5) (tbE h6)), .s (law19_OutputBack_S2_t0 x0 x1 x2 x3 x4 (output_Encode_ai12bi3bi3bi3bi3bi3bi3bi3b_r0_2 x0 x1 x2) x5 x6 false x7 x8 (output_Encode_ai12bi3bi3bi3bi3bi3bi3bi3b_r0_0 x0 x1 x2) (tbE h7)), .s (law19_OutputBack_S3_t0 x0 x1 x2 x3 x4 (output_Encode_ai12bi3bi3bi3bi3bi3bi3bi3b_r0_2 x0 x1 x2) x5 x6 false x7 x8 (law19_OutputBack_S4_e0 x0 x1 x2 x3 x4)), .b (tbE h8)] (by kernel_rfl)
          · intro g0
            exact seg_walk [.c (output_Encode_ai12bi3bi3bi3bi3bi3bi3bi3b_t0 x0 x1 x2 (tbE h1)), .c (output_Right_ai12bi3bi3bi3bi3bi3bi3bi3b_t0 x0 x1 x2 (tbE h2)), .b (tbE h3), .b (tbE h4), .s (law19_OutputBack_S1_t0 x0 x1 x2 x3 x4 (output_Encode_ai12bi3bi3bi3bi3bi3bi3bi3b_r0_2 x0 x1 x2) x5 x6 false x7 x8 (output_Encode_ai12bi3bi3bi3bi3bi3bi3bi3b_r0_0 x0 x1 x2) (tbE h5))] (by kernel_rfl)
      · intro g0
        exact seg_walk [.c (output_Encode_ai12bi3bi3bi3bi3bi3bi3bi3b_t0 x0 x1 x2 (tbE h1)), .c (output_Right_ai12bi3bi3bi3bi3bi3bi3bi3b_t0 x0 x1 x2 (tbE h2)), .b (tbE h3)] (by kernel_rfl)
theorem law19_OutputBack_S4_t1 (x0 : Int) (x1 : List Int) (x2 : List R_i64_i64_i64_bool) (x3 : Int) (x4 : Int) (x5 : Bool) (x6 : Bool) (x7 : Bool) (x8 : List Int) : law19_OutputBack_S4_c0 x0 x1 x2 x3 x4 = false → law19_OutputBack_S4_c1 x0 x1 x2 x3 x4 = true → segG (runC E0 (cl E0) S6_4) [1, 3, 5] [6] [1] 2 ([(V.d (slD (encI .u8) true 1 x7 x8)), (V.ptr 0 1 0 0), (V.ptr 1 1 0 0)], [(Blk.flat 55 41 [([(.int .i64 x0)] ++ arrD .i64 x1 8 ++ arrE enc_R_i64_i64_i64_bool x2 8)] x5), (Blk.flat 64 2 [[(.int .u8 x3), (.int .u8 x4)]] x6)]) = some (.normal, ([(V.d (slD (encI .u8) true 1 x7 x8))], [(Blk.flat 55 41 [([(.int .i64 x0)] ++ arrD .i64 x1 8 ++ arrE enc_R_i64_i64_i64_bool x2 8)] x5), (Blk.flat 64 2 [[(.int .u8 x3), (.int .u8 x4)]] x6)])) := by
  unfold law19_OutputBack_S4_c0 law19_OutputBack_S4_c1
  cases h1 : tb (output_Encode_ai12bi3bi3bi3bi3bi3bi3bi3b_c0 x0 x1 x2)
  · intro g0 g1
    exact absurd g1 ft
  · cases h2 : tb (output_Right_ai12bi3bi3bi3bi3bi3bi3bi3b_c0 x0 x1 x2)
    · intro g0 g1
      exact absurd g1 ft
    · cases h3 : tb (true != ((((output_Encode_ai12bi3bi3bi3bi3bi3bi3bi3b_r0_1 x0 x1 x2) : Int) == 0) == (output_Right_ai12bi3bi3bi3bi3bi3bi3bi3b_r0_0 x0 x1 x2)))
      · cases h4 : tb (((output_Encode_ai12bi3bi3bi3bi3bi3bi3bi3b_r0_1 x0 x1 x2) : Int) == 0)
        · intro g0 g1
          exact seg_walk [.c (output_Encode_ai12bi3bi3bi3bi3bi3bi3bi3b_t0 x0 x1 x2 (tbE h1)), .c (output_Right_ai12bi3bi3bi3bi3bi3bi3bi3b_t0 x0 x1 x2 (tbE h2)), .b (tbE h3), .b (tbE h4)] (by kernel_rfl)
        · cases h5 : tb (law19_OutputBack_S1_c0 x0 x1 x2 (output_Encode_ai12bi3bi3bi3bi3bi3bi3bi3b_r0_2 x0 x1 x2) (output_Encode_ai12bi3bi3bi3bi3bi3bi3bi3b_r0_0 x0 x1 x2))
          · cases h6 : tb (law19_OutputBack_S1_c1 x0 x1 x2 (output_Encode_ai12bi3bi3bi3bi3bi3bi3bi3b_r0_2 x0 x1 x2) (output_Encode_ai12bi3bi3bi3bi3bi3bi3bi3b_r0_0 x0 x1 x2))
            · intro g0 g1
              exact absurd g1 ft
            · cases h7 : tb (law19_OutputBack_S2_c0 x3 x4 (output_Encode_ai12bi3bi3bi3bi3bi3bi3bi3b_r0_2 x0 x1 x2))
              · intro g0 g1
                exact absurd g1 ft
              · cases h8 : tb (law19_OutputBack_S3_r0_2 x4 (law19_OutputBack_S4_e0 x0 x1 x2 x3 x4))
                · intro g0 g1
                  exact seg_walk [.c (output_Encode_ai12bi3bi3bi3bi3bi3bi3bi3b_t0 x0 x1 x2 (tbE h1)), .c (output_Right_ai12bi3bi3bi3bi3bi3bi3bi3b_t0 x0 x1 x2 (tbE h2)), .b (tbE h3), .b (tbE h4), .s (law19_OutputBack_S1_t1 x0 x1 x2 x3 x4 (output_Encode_ai12bi3bi3bi3bi3bi3bi3bi3b_r0_2 x0 x1 x2) x5 x6 false x7 x8 (output_Encode_ai12bi3bi3bi3bi3bi3bi3bi3b_r0_0 x0 x1 x2) (tbE h5) (tbE h6)), .s (law19_OutputBack_S2_t0 x0 x1 x2 x3 x4 (output_Encode_ai12bi3bi3bi3bi3bi3bi3bi3b_r0_2 x0 x1 x2) x5 x6 false x7 x8 (output_Encode_ai12bi3bi3bi3bi3bi3bi3bi3b_r0_0 x0 x1 x2) (tbE h7)), .s (law19_OutputBack_S3_t0 x0 x1 x2 x3 x4 (output_Encode_ai12bi3bi3bi3bi3bi3bi3bi3b_r0_2 x0 x1 x2) x5 x6 false x7 x8 (law19_OutputBack_S4_e0 x0 x1 x2 x3 x4)), .b (tbE h8)] (by kernel_rfl)
                · intro g0 g1
                  exact absurd g0 tf
          · intro g0 g1
            exact absurd g0 tf
      · intro g0 g1
        exact absurd g0 tf
def law19_OutputBack_S5_e0 (x7 : Bool) (x8 : List Int) : Bool := (false != ((((output_Decode_o_r0_0 x7 x8) : Int) == 0) && ((((gt (output_Decode_o_r0_1 x7 x8) 0) : Int) == 0) && ((((gt (output_Decode_o_r0_1 x7 x8) 1) : Int) == 0) && ((((gt (output_Decode_o_r0_1 x7 x8) 2) : Int) == 0) && ((((gt (output_Decode_o_r0_1 x7 x8) 3) : Int) == 0) && ((((gt (output_Decode_o_r0_1 x7 x8) 4) : Int) == 0) && ((((gt (output_Decode_o_r0_1 x7 x8) 5) : Int) == 0) && ((((gt (output_Decode_o_r0_1 x7 x8) 6) : Int) == 0) && ((((gt (output_Decode_o_r0_1 x7 x8) 7) : Int) == 0) && (((((gt (output_Decode_o_r0_2 x7 x8) 0).c0) : Int) == 0) && (((((gt (output_Decode_o_r0_2 x7 x8) 0).c1) : Int) == 0) && (((((gt (output_Decode_o_r0_2 x7 x8) 0).c2) : Int) == 0) && ((((gt (output_Decode_o_r0_2 x7 x8) 0).c3) == false) && (((((gt (output_Decode_o_r0_2 x7 x8) 1).c0) : Int) == 0) && (((((gt (output_Decode_o_r0_2 x7 x8) 1).c1) : Int) == 0) && (((((gt (output_Decode_o_r0_2 x7 x8) 1).c2) : Int) == 0) && ((((gt (output_Decode_o_r0_2 x7 x8) 1).c3) == false) && (((((gt (output_Decode_o_r0_2 x7 x8) 2).c0) : Int) == 0) && (((((gt (output_Decode_o_r0_2 x7 x8) 2).c1) : Int) == 0) && (((((gt (output_Decode_o_r0_2 x7 x8) 2).c2) : Int) == 0) && ((((gt (output_Decode_o_r0_2 x7 x8) 2).c3) == false) && (((((gt (output_Decode_o_r0_2 x7 x8) 3).c0) : Int) == 0) && (((((gt (output_Decode_o_r0_2 x7 x8) 3).c1) : Int) == 0) && (((((gt (output_Decode_o_r0_2 x7 x8) 3).c2) : Int) == 0) && ((((gt (output_Decode_o_r0_2 x7 x8) 3).c3) == false) && (((((gt (output_Decode_o_r0_2 x7 x8) 4).c0) : Int) == 0) && (((((gt (output_Decode_o_r0_2 x7 x8) 4).c1) : Int) == 0) && (((((gt (output_Decode_o_r0_2 x7 x8) 4).c2) : Int) == 0) && ((((gt (output_Decode_o_r0_2 x7 x8) 4).c3) == false) && (((((gt (output_Decode_o_r0_2 x7 x8) 5).c0) : Int) == 0) && (((((gt (output_Decode_o_r0_2 x7 x8) 5).c1) : Int) == 0) && (((((gt (output_Decode_o_r0_2 x7 x8) 5).c2) : Int) == 0) && ((((gt (output_Decode_o_r0_2 x7 x8) 5).c3) == false) && (((((gt (output_Decode_o_r0_2 x7 x8) 6).c0) : Int) == 0) && (((((gt (output_Decode_o_r0_2 x7 x8) 6).c1) : Int) == 0) && (((((gt (output_Decode_o_r0_2 x7 x8) 6).c2) : Int) == 0) && ((((gt (output_Decode_o_r0_2 x7 x8) 6).c3) == false) && (((((gt (output_Decode_o_r0_2 x7 x8) 7).c0) : Int) == 0) && (((((gt (output_Decode_o_r0_2 x7 x8) 7).c1) : Int) == 0) && (((((gt (output_Decode_o_r0_2 x7 x8) 7).c2) : Int) == 0) && ((((gt (output_Decode_o_r0_2 x7 x8) 7).c3) == false) && true))))))))))))))))))))))))))))))))))))))))))
def law19_OutputBack_S5_e1 (x7 : Bool) (x8 : List Int) : Bool := (output_Encode_ai12bi3bi3bi3bi3bi3bi3bi3b_r0_0 (output_Decode_o_r0_0 x7 x8) (output_Decode_o_r0_1 x7 x8) (output_Decode_o_r0_2 x7 x8))
def law19_OutputBack_S5_e2 (x7 : Bool) (x8 : List Int) : List Int := (output_Encode_ai12bi3bi3bi3bi3bi3bi3bi3b_r0_2 (output_Decode_o_r0_0 x7 x8) (output_Decode_o_r0_1 x7 x8) (output_Decode_o_r0_2 x7 x8))
def law19_OutputBack_S5_c0 (x7 : Bool) (x8 : List Int) : Bool := (bif tb (output_Decode_o_c0 x7 x8) then (bif tb (((output_Decode_o_r0_3 x7 x8) : Int) != 0) then true else false) else false)
def law19_OutputBack_S5_c1 (x7 : Bool) (x8 : List Int) : Bool := (bif tb (output_Decode_o_c0 x7 x8) then (bif tb (((output_Decode_o_r0_3 x7 x8) : Int) != 0) then false else (bif tb (output_Encode_ai12bi3bi3bi3bi3bi3bi3bi3b_c0 (output_Decode_o_r0_0 x7 x8) (output_Decode_o_r0_1 x7 x8) (output_Decode_o_r0_2 x7 x8)) then (bif tb (ref03_Same_oo_c0 (law19_OutputBack_S5_e2 x7 x8) x8) then true else false) else false)) else false)
theorem law19_OutputBack_S5_t0 (x0 : Int) (x1 : List Int) (x2 : List R_i64_i64_i64_bool) (x3 : Int) (x4 : Int) (x5 : Bool) (x6 : Bool) (x7 : Bool) (x8 : List Int) : law19_OutputBack_S5_c0 x7 x8 = true → segG (runC E0 (cl E0) S6_5) [1] [6] [17, 18] 2 ([(V.d (slD (encI .u8) true 1 x7 x8))], [(Blk.flat 55 41 [([(.int .i64 x0)] ++ arrD .i64 x1 8 ++ arrE enc_R_i64_i64_i64_bool x2 8)] x5), (Blk.flat 64 2 [[(.int .u8 x3), (.int .u8 x4)]] x6)]) = some (.ret, ([(V.d (.bool (law19_OutputBack_S5_e0 x7 x8)))], [(Blk.flat 55 41 [([(.int .i64 x0)] ++ arrD .i64 x1 8 ++ arrE enc_R_i64_i64_i64_bool x2 8)] x5), (Blk.flat 64 2 [[(.int .u8 x3), (.int .u8 x4)]] x6)])) := by
  unfold law19_OutputBack_S5_c0
  cases h1 : tb (output_Decode_o_c0 x7 x8)
  · intro g0
    exact absurd g0 ft
  · cases h2 : tb (((output_Decode_o_r0_3 x7 x8) : Int) != 0)
    · cases h3 : tb (output_Encode_ai12bi3bi3bi3bi3bi3bi3bi3b_c0 (output_Decode_o_r0_0 x7 x8) (output_Decode_o_r0_1 x7 x8) (output_Decode_o_r0_2 x7 x8))
      · intro g0
        exact absurd g0 ft
      · cases h4 : tb (ref03_Same_oo_c0 (law19_OutputBack_S5_e2 x7 x8) x8)
        · intro g0
          exact absurd g0 ft
        · intro g0
          exact absurd g0 ft
    · intro g0
      exact seg_walk [.c (output_Decode_o_t0 x7 x8 (tbE h1)), .b (tbE h2), .c (law19_alive_t0), .k true] (by kernel_rfl)
theorem law19_OutputBack_S5_t1 (x0 : Int) (x1 : List Int) (x2 : List R_i64_i64_i64_bool) (x3 : Int) (x4 : Int) (x5 : Bool) (x6 : Bool) (x7 : Bool) (x8 : List Int) : law19_OutputBack_S5_c0 x7 x8 = false → law19_OutputBack_S5_c1 x7 x8 = true → segG (runC E0 (cl E0) S6_5) [1] [6] [17, 18] 2 ([(V.d (slD (encI .u8) true 1 x7 x8))], [(Blk.flat 55 41 [([(.int .i64 x0)] ++ arrD .i64 x1 8 ++ arrE enc_R_i64_i64_i64_bool x2 8)] x5), (Blk.flat 64 2 [[(.int .u8 x3), (.int .u8 x4)]] x6)]) = some (.normal, ([(V.d (.int .i64 (output_Encode_ai12bi3bi3bi3bi3bi3bi3bi3b_r0_1 (output_Decode_o_r0_0 x7 x8) (output_Decode_o_r0_1 x7 x8) (output_Decode_o_r0_2 x7 x8)))), (V.d (.bool (ref03_Same_oo_r0_0 (law19_OutputBack_S5_e2 x7 x8) x8)))], [(Blk.flat 55 41 [([(.int .i64 x0)] ++ arrD .i64 x1 8 ++ arrE enc_R_i64_i64_i64_bool x2 8)] x5), (Blk.flat 64 2 [[(.int .u8 x3), (.int .u8 x4)]] x6)])) := by
  unfold law19_OutputBack_S5_c0 law19_OutputBack_S5_c1
  cases h1 : tb (output_Decode_o_c0 x7 x8)
  · intro g0 g1
    exact absurd g1 ft
  · cases h2 : tb (((output_Decode_o_r0_3 x7 x8) : Int) != 0)
    · cases h3 : tb (output_Encode_ai12bi3bi3bi3bi3bi3bi3bi3b_c0 (output_Decode_o_r0_0 x7 x8) (output_Decode_o_r0_1 x7 x8) (output_Decode_o_r0_2 x7 x8))
      · intro g0 g1
        exact absurd g1 ft
      · cases h4 : tb (ref03_Same_oo_c0 (law19_OutputBack_S5_e2 x7 x8) x8)
        · intro g0 g1
          exact absurd g1 ft
        · intro g0 g1
          exact seg_walk [.c (output_Decode_o_t0 x7 x8 (tbE h1)), .b (tbE h2), .c (output_Encode_ai12bi3bi3bi3bi3bi3bi3bi3b_t0 (output_Decode_o_r0_0 x7 x8) (output_Decode_o_r0_1 x7 x8) (output_Decode_o_r0_2 x7 x8) (tbE h3)), .y (mm := [(Blk.flat 55 41 [([(.int .i64 x0)] ++ arrD .i64 x1 8 ++ arrE enc_R_i64_i64_i64_bool x2 8)] x5), (Blk.flat 64 2 [[(.int .u8 x3), (.int .u8 x4)]] x6), (Blk.flat 55 41 [([(.int .i64 (output_Decode_o_r0_0 x7 x8))] ++ arrD .i64 (output_Decode_o_r0_1 x7 x8) 8 ++ arrE enc_R_i64_i64_i64_bool (output_Decode_o_r0_2 x7 x8) 8)] false), (Blk.flat 5 1 (List.map (encI .u8) (output_Encode_ai12bi3bi3bi3bi3bi3bi3bi3b_r0_2 (output_Decode_o_r0_0 x7 x8) (output_Decode_o_r0_1 x7 x8) (output_Decode_o_r0_2 x7 x8))) false)]) (args := [(V.so (output_Encode_ai12bi3bi3bi3bi3bi3bi3bi3b_r0_0 (output_Decode_o_r0_0 x7 x8) (output_Decode_o_r0_1 x7 x8) (output_Decode_o_r0_2 x7 x8)) 3 ((output_Encode_ai12bi3bi3bi3bi3bi3bi3bi3b_r0_2 (output_Decode_o_r0_0 x7 x8) (output_Decode_o_r0_1 x7 x8) (output_Decode_o_r0_2 x7 x8)).length)), (V.d (slD (encI .u8) true 1 x7 x8))]) (args1 := [(V.d (slD (encI .u8) true 1 (output_Encode_ai12bi3bi3bi3bi3bi3bi3bi3b_r0_0 (output_Decode_o_r0_0 x7 x8) (output_Decode_o_r0_1 x7 x8) (output_Decode_o_r0_2 x7 x8)) (output_Encode_ai12bi3bi3bi3bi3bi3bi3bi3b_r0_2 (output_Decode_o_r0_0 x7 x8) (output_Decode_o_r0_1 x7 x8) (output_Decode_o_r0_2 x7 x8)))), (V.d (slD (encI .u8) true 1 x7 x8))]) (byvals_cons (byval_so (enc := (encI .u8)) (l := (output_Encode_ai12bi3bi3bi3bi3bi3bi3bi3b_r0_2 (output_Decode_o_r0_0 x7 x8) (output_Decode_o_r0_1 x7 x8) (output_Decode_o_r0_2 x7 x8))) (b := (output_Encode_ai12bi3bi3bi3bi3bi3bi3bi3b_r0_0 (output_Decode_o_r0_0 x7 x8) (output_Decode_o_r0_1 x7 x8) (output_Decode_o_r0_2 x7 x8))) (e := 5) (s := 1) (p := false) (n := ((output_Encode_ai12bi3bi3bi3bi3bi3bi3bi3b_r0_2 (output_Decode_o_r0_0 x7 x8) (output_Decode_o_r0_1 x7 x8) (output_Decode_o_r0_2 x7 x8)).length)) (Nat.beq_refl _) (by kernel_rfl)) (by kernel_rfl)), .c (ref03_Same_oo_t0 (law19_OutputBack_S5_e1 x7 x8) (law19_OutputBack_S5_e2 x7 x8) x7 x8 (tbE h4))] (by kernel_rfl)
    · intro g0 g1
      exact absurd g0 tf
def law19_OutputBack_S6_r0_0 (x7 : Int) (x8 : Bool) : Bool := (bif tb ((x7 : Int) == 0) then x8 else false)
theorem law19_OutputBack_S6_t0 (x0 : Int) (x1 : List Int) (x2 : List R_i64_i64_i64_bool) (x3 : Int) (x4 : Int) (x5 : Bool) (x6 : Bool) (x7 : Int) (x8 : Bool) : segG (runC E0 (cl E0) S6_6) [17, 18] [] [6] 2 ([(V.d (.int .i64 x7)), (V.d (.bool x8))], [(Blk.flat 55 41 [([(.int .i64 x0)] ++ arrD .i64 x1 8 ++ arrE enc_R_i64_i64_i64_bool x2 8)] x5), (Blk.flat 64 2 [[(.int .u8 x3), (.int .u8 x4)]] x6)]) = some (.normal, ([(V.d (.bool (law19_OutputBack_S6_r0_0 x7 x8)))], [(Blk.flat 55 41 [([(.int .i64 x0)] ++ arrD .i64 x1 8 ++ arrE enc_R_i64_i64_i64_bool x2 8)] x5), (Blk.flat 64 2 [[(.int .u8 x3), (.int .u8 x4)]] x6)])) := by
  unfold law19_OutputBack_S6_r0_0
  cases h1 : tb ((x7 : Int) == 0)
  · exact seg_walk [.c (law19_alive_t0), .k true, .b (tbE h1)] (by kernel_rfl)
  · exact seg_walk [.c (law19_alive_t0), .k true, .b (tbE h1)] (by kernel_rfl)
def law19_OutputBack_e0 (x3 : Bool) (x4 : List Int) : Int := (output_Encode_ai12bi3bi3bi3bi3bi3bi3bi3b_r0_1 (output_Decode_o_r0_0 x3 x4) (output_Decode_o_r0_1 x3 x4) (output_Decode_o_r0_2 x3 x4))
def law19_OutputBack_c0 (x0 : Int) (x1 : List Int) (x2 : List R_i64_i64_i64_bool) (x3 : Bool) (x4 : List Int) (x5 : Int) (x6 : Int) : Bool := (bif tb (law19_OutputBack_S0_c0 x4) then true else (bif tb (law19_OutputBack_S4_c0 x0 x1 x2 x5 x6) then true else (bif tb (law19_OutputBack_S4_c1 x0 x1 x2 x5 x6) then (bif tb (law19_OutputBack_S5_c0 x3 x4) then true else (bif tb (law19_OutputBack_S5_c1 x3 x4) then true else false)) else false)))
def law19_OutputBack_r0_0 (x0 : Int) (x1 : List Int) (x2 : List R_i64_i64_i64_bool) (x3 : Bool) (x4 : List Int) (x5 : Int) (x6 : Int) : Bool := (bif tb (law19_OutputBack_S0_c0 x4) then true else (bif tb (law19_OutputBack_S4_c0 x0 x1 x2 x5 x6) then false else (bif tb (law19_OutputBack_S5_c0 x3 x4) then (law19_OutputBack_S5_e0 x3 x4) else (law19_OutputBack_S6_r0_0 (law19_OutputBack_e0 x3 x4) (ref03_Same_oo_r0_0 (law19_OutputBack_S5_e2 x3 x4) x4)))))
theorem law19_OutputBack_t0 (x0 : Int) (x1 : List Int) (x2 : List R_i64_i64_i64_bool) (x3 : Bool) (x4 : List Int) (x5 : Int) (x6 : Int) : law19_OutputBack_c0 x0 x1 x2 x3 x4 x5 x6 = true → cl E0 6 [(V.agg (List.map V.d ([(.int .i64 x0)] ++ arrD .i64 x1 8 ++ arrE enc_R_i64_i64_i64_bool x2 8))), (V.d (slD (encI .u8) true 1 x3 x4)), (V.agg [(V.d (.int .u8 x5)), (V.d (.int .u8 x6))])] [] = some ([(V.d (.bool (law19_OutputBack_r0_0 x0 x1 x2 x3 x4 x5 x6)))], []) := by
  unfold law19_OutputBack_c0 law19_OutputBack_r0_0
  cases h1 : tb (law19_OutputBack_S0_c0 x4)
  · cases h2 : tb (law19_OutputBack_S4_c0 x0 x1 x2 x5 x6)
    · cases h3 : tb (law19_OutputBack_S4_c1 x0 x1 x2 x5 x6)
      · intro g0
        exact absurd g0 ft
      · cases h4 : tb (law19_OutputBack_S5_c0 x3 x4)
        · cases h5 : tb (law19_OutputBack_S5_c1 x3 x4)
          · intro g0
            exact absurd g0 ft
          · intro g0
            exact w6 [.s (law19_OutputBack_S0_t1 x0 x1 x2 x5 x6 false false x3 x4 (tbE h1)), .s (law19_OutputBack_S4_t1 x0 x1 x2 x5 x6 false false x3 x4 (tbE h2) (tbE h3)), .s (law19_OutputBack_S5_t1 x0 x1 x2 x5 x6 false false x3 x4 (tbE h4) (tbE h5)), .s (law19_OutputBack_S6_t0 x0 x1 x2 x5 x6 false false (law19_OutputBack_e0 x3 x4) (ref03_Same_oo_r0_0 (law19_OutputBack_S5_e2 x3 x4) x4))] (by kernel_rfl)
        · intro g0
          exact w6 [.s (law19_OutputBack_S0_t1 x0 x1 x2 x5 x6 false false x3 x4 (tbE h1)), .s (law19_OutputBack_S4_t1 x0 x1 x2 x5 x6 false false x3 x4 (tbE h2) (tbE h3)), .s (law19_OutputBack_S5_t0 x0 x1 x2 x5 x6 false false x3 x4 (tbE h4))] (by kernel_rfl)
    · intro g0
      exact w6 [.s (law19_OutputBack_S0_t1 x0 x1 x2 x5 x6 false false x3 x4 (tbE h1)), .s (law19_OutputBack_S4_t0 x0 x1 x2 x5 x6 false false x3 x4 (tbE h2))] (by kernel_rfl)
  · intro g0
    exact w6 [.s (law19_OutputBack_S0_t0 x0 x1 x2 x5 x6 false false x3 x4 (tbE h1))] (by kernel_rfl)
end Go.Proofs.Ytkipngagfiaddaa.Den

namespace Go.Proofs.Ytkipngagfiaddaa.Den
open Go Go.Proofs
set_option linter.unusedVariables false
set_option linter.unusedSimpArgs false
set_option maxHeartbeats 1000000
theorem changedO {B : List Int} (hs : Sm B) (hl : B.length = 54) (ho : okS B = true) {i v : Int} (h0 : 0 ≤ i) (h1 : i < 54) (hv : 0 ≤ v ∧ v ≤ 255) (hne : v ≠ 0) : Sm (st B i (IntKind.u8.wrap (gt B i + v))) ∧ goodO (st B i (IntKind.u8.wrap (gt B i + v))) = false := by
  obtain ⟨k, rfl⟩ : ∃ k : Nat, i = k := ⟨i.toNat, by omega⟩
  have hkl : k < B.length := by omega
  have bk := wfI_u8 (hs.b _ (List.getElem_mem hkl))
  rw [gt_nat hkl, u8_wrap_int]
  have hst : st B (k : Int) ((B[k] + v) % 256) = B.set k ((B[k] + v) % 256) := rfl
  rw [hst]
  obtain ⟨c1, c2⟩ := set_bad hs (by omega) ho hkl (v := (B[k] + v) % 256) (by omega) (by omega)
  refine ⟨c1, ?_⟩
  cases hg : goodO (B.set k ((B[k] + v) % 256)) with
  | false => rfl
  | true => rw [(good_facts hg).2.1] at c2; cases c2
theorem sm_sealed {b : List Int} (h : Sm b) (hl : b.length ≤ 900) : Sm (sealed b) := by
  have hcrc := h.crc
  refine ⟨fun z hz => ?_, by simp [sealed, tail2]; omega⟩
  rcases List.mem_append.1 hz with hz | hz
  · exact h.b z hz
  · simp only [tail2, List.mem_cons, List.not_mem_nil, or_false] at hz
    exact wf_u8 (by rcases hz with rfl | rfl <;> omega)
theorem same8 (x0 : Int) (x1 : List Int) (x2 : List St4) (x : Bool) (l : List Int) (e1 : output_Decode_o_r0_0 x l = x0) (e2 : output_Decode_o_r0_1 x l = x1) (e3 : output_Decode_o_r0_2 x l = x2) : law19_OutputBack_S1_e0 x0 x1 x2 l x = false := by
  simp only [law19_OutputBack_S1_e0, e1, e2, e3, beq_self_eq_true, Bool.and_self, Bool.and_true]; rfl
theorem pure_OutputBack (x0 : Int) (x1 : List Int) (x2 : List R_i64_i64_i64_bool) (x3 : Bool) (x4 : List Int) (x5 : Int) (x6 : Int) (wx0 : WfI .i64 x0) (wx1 : x1.length = 8 ∧ ∀ z ∈ x1, WfI .i64 z) (wx2 : x2.length = 8 ∧ ∀ z ∈ x2, WfI .i64 z.c0 ∧ WfI .i64 z.c1 ∧ WfI .i64 z.c2 ∧ True) (wx4 : (x4.length ≤ maxLen ∧ x4.length * 1 ≤ 140737488351232 ∧ ∀ z ∈ x4, WfI .u8 z)) (wx5 : WfI .u8 x5) (wx6 : WfI .u8 x6) : law19_OutputBack_c0 x0 x1 x2 x3 x4 x5 x6 = true ∧ (law19_OutputBack_r0_0 x0 x1 x2 x3 x4 x5 x6) = true := by
  obtain ⟨h1, _⟩ := wx1
  obtain ⟨h2, _⟩ := wx2
  obtain ⟨_, _, hb⟩ := wx4
  have b5 := wfI_u8 wx5
  have b6 := wfI_u8 wx6
  by_cases hl : x4.length ≤ 300
  · have s0 : law19_OutputBack_S0_c0 x4 = false := by simp [law19_OutputBack_S0_c0, tb_eq]; omega
    have hs : Sm x4 := ⟨hb, by omega⟩
    obtain ⟨e1, e2, e3, e4⟩ := encode_eqO x0 h1 h2
    obtain ⟨g1, g2⟩ := right_eqO x0 h1 h2
    have s4 : law19_OutputBack_S4_c0 x0 x1 x2 x5 x6 = false ∧ law19_OutputBack_S4_c1 x0 x1 x2 x5 x6 = true := by
      cases hk : okO x0 x1 x2 with
      | false =>
        rw [hk] at e2 e3 e4 g2
        simp only [Bool.false_eq_true, if_false] at e3 e4
        have z : ((1 : Int) == 0) = false := rfl
        simp only [law19_OutputBack_S4_c0, law19_OutputBack_S4_c1, e1, g1, g2, e3, z, tb_eq]
        exact ⟨rfl, rfl⟩
      | true =>
        rw [hk] at e2 e3 e4 g2
        simp only [if_true] at e3 e4
        obtain ⟨k1, k2, k3, k4, k5⟩ := sealed_good h1 h2 hk
        have hsb := sm_sealed (bodyO_sm (s := x0) h1 h2) (by rw [bodyO_len h1 h2]; omega)
        have hoB := (good_facts k5).2.1
        generalize hB : sealed (bodyO x0 x1 x2) = B at *
        obtain ⟨d1, d2, d3, d4, d5⟩ := decode_eqO (!true) hsb
        rw [k5] at d2 d3 d4 d5
        simp only [if_true] at d2 d3 d4 d5
        have q0 : law19_OutputBack_S1_e0 x0 x1 x2 B (!true) = false := same8 x0 x1 x2 _ B (by rw [d2, k2]) (by rw [d3, k3]) (by rw [d4, k4])
        have q1 : law19_OutputBack_S1_c0 x0 x1 x2 B (!true) = false := by
          simp only [law19_OutputBack_S1_c0, d1, d5, q0, k1, tb_eq]; rfl
        have q2 : law19_OutputBack_S1_c1 x0 x1 x2 B (!true) = true := by
          simp only [law19_OutputBack_S1_c1, d1, d5, q0, k1, tb_eq]; rfl
        have hi : remI .i64 (wi x5) 54 = x5 % 54 := by rw [wi_eq (by omega) (by omega), rem_i64 (by omega)]
        have hin : inb B.length (x5 % 54) = true := inb_of (by omega) (by omega)
        have hz : ((0 : Int) == 0) = true := rfl
        have q3 : law19_OutputBack_S2_c0 x5 x6 B = true ∧ (x6 ≠ 0 → output_Decode_o_r0_3 false (law19_OutputBack_S2_e0 x5 x6 B) = 3) := by
          have hsz : decide ((([] : List Int).length + B.length) * 1 ≤ 140737488355328) = true := decide_eq_true (by simp; omega)
          have hsm : Sm (law19_OutputBack_S2_e0 x5 x6 B) ∧ (x6 ≠ 0 → goodO (law19_OutputBack_S2_e0 x5 x6 B) = false) := by
            by_cases h6 : x6 = 0
            · subst h6
              refine ⟨?_, fun h => absurd rfl h⟩
              have : law19_OutputBack_S2_e0 x5 0 B = B := by
                simp only [law19_OutputBack_S2_e0, hi, Int.add_zero]
                have hm := wfI_u8 (hsb.b _ (gt_mem (l := B) (i := x5 % 54) (by omega) (by omega)))
                rw [u8w, show gt B (x5 % 54) % 256 = gt B (x5 % 54) by omega]
                unfold st
                rw [gt_getElem (by omega) (by omega)]
                simp
              rw [this]; exact hsb
            · obtain ⟨c1, c2⟩ := changedO hsb k1 hoB (i := x5 % 54) (by omega) (by omega) b6 h6
              simp only [law19_OutputBack_S2_e0, hi]
              exact ⟨c1, fun _ => c2⟩
          obtain ⟨m1, _, _, _, m5⟩ := decode_eqO false hsm.1
          refine ⟨?_, fun h6 => ?_⟩
          · simp only [law19_OutputBack_S2_c0, hsz, hi, hin, m1, tb_eq]; rfl
          · rw [m5, hsm.2 h6]; rfl
        have q4 : law19_OutputBack_S3_r0_2 x6 (law19_OutputBack_S4_e0 x0 x1 x2 x5 x6) = false := by
          simp only [law19_OutputBack_S3_r0_2, law19_OutputBack_S4_e0, e4, tb_eq]
          by_cases h6 : x6 = 0
          · subst h6; rfl
          · rw [q3.2 h6]
            cases ((x6 : Int) != 0) <;> rfl
        simp only [law19_OutputBack_S4_c0, law19_OutputBack_S4_c1, e1, e2, e3, e4, g1, g2, hz, q1, q2, q3.1, q4, tb_eq]
        exact ⟨rfl, rfl⟩
    obtain ⟨d1, d2, d3, d4, d5⟩ := decode_eqO x3 hs
    simp only [law19_OutputBack_c0, law19_OutputBack_r0_0, s0, s4.1, s4.2, tb_eq, cond_true, cond_false]
    cases hg : goodO x4 with
    | false =>
      rw [hg] at d2 d3 d4 d5
      simp only [Bool.false_eq_true, if_false] at d2 d3 d4 d5
      have c5 : law19_OutputBack_S5_c0 x3 x4 = true := by simp only [law19_OutputBack_S5_c0, d1, d5, tb_eq]; rfl
      have r5 : law19_OutputBack_S5_e0 x3 x4 = true := by simp only [law19_OutputBack_S5_e0, d2, d3, d4]; rfl
      simp only [c5, r5, cond_true, and_self]
    | true =>
      rw [hg] at d2 d3 d4 d5
      simp only [if_true] at d2 d3 d4 d5
      have hg' := hg
      simp only [goodO, Bool.and_eq_true, decide_eq_true_eq] at hg'
      obtain ⟨_, hk, he⟩ := hg'
      obtain ⟨n1, n2, n3, n4⟩ := encode_eqO (seqO x4) (valsO_len x4) (stsO_len x4)
      rw [hk] at n2 n3 n4
      simp only [if_true] at n3 n4
      rw [he] at n4
      obtain ⟨q1, q2⟩ := same_eq (l := x4) (k := x4) hs.n'
      have e2' : law19_OutputBack_S5_e2 x3 x4 = x4 := by simp only [law19_OutputBack_S5_e2, d2, d3, d4, n4]
      have c5 : law19_OutputBack_S5_c0 x3 x4 = false := by simp only [law19_OutputBack_S5_c0, d1, d5, tb_eq]; rfl
      have c6 : law19_OutputBack_S5_c1 x3 x4 = true := by simp only [law19_OutputBack_S5_c1, d1, d5, d2, d3, d4, n1, e2', q1, tb_eq]; rfl
      have r6 : law19_OutputBack_S6_r0_0 (law19_OutputBack_e0 x3 x4) (ref03_Same_oo_r0_0 (law19_OutputBack_S5_e2 x3 x4) x4) = true := by
        simp only [law19_OutputBack_S6_r0_0, law19_OutputBack_e0, d2, d3, d4, n3, e2', q2, tb_eq]; simp
      simp only [c5, c6, r6, cond_true, cond_false, and_self]
  · have s0 : law19_OutputBack_S0_c0 x4 = true := by
      simp only [law19_OutputBack_S0_c0, tb_eq]
      rw [decide_eq_true (by omega)]; rfl
    simp only [law19_OutputBack_c0, law19_OutputBack_r0_0, s0, tb_eq, cond_true, and_self]
end Go.Proofs.Ytkipngagfiaddaa.Den

namespace Go.Proofs.Ytkipngagfiaddaa.Den
open Go Go.Proofs
set_option maxRecDepth 100000
theorem own : ownKnob Try.prog.godebug = none := by kernel_rfl
theorem laidOut : laidOutB Try.prog = true := by kernel_rfl
theorem mixed : Try.prog.follows .mixedOrders = true := by kernel_rfl
theorem envOK : EnvOK Try.prog E0 := ⟨e0_cf, ext_ok rfl e0_x, e0_del⟩
theorem glOK (w : World) : GlOK E0 (cx0 w) := fun g cs h => by simp [E0] at h
end Go.Proofs.Ytkipngagfiaddaa.Den

namespace Go.Proofs.Ytkipngagfiaddaa.Den
open Go Go.Proofs Go.ChangeShapes Go.WideShapes Go.ChangeAt Go.RowKit
open Go.Proofs.Ytkipngagfiaddaa (Rows.outputBackSpec Rows.outputBackRow Rows.OutputBackSaid)
set_option maxRecDepth 100000
set_option linter.unusedSimpArgs false
set_option linter.unusedVariables false
theorem row6 (rs : List (List D)) (h : TyAll Try.prog 20 Try.f6.params.toList rs) : ∃ k m', callD E0 k 6 (argsV Try.prog Try.f6.params.toList rs) [] = some ([.d (.bool true)], m') := by
  rw [Try.params6] at h ⊢
  simp only [TyAll] at h
  obtain ⟨_, _, rfl, q0, _, _, rfl, q1, _, _, rfl, q2, rfl⟩ := h
  have k0 := flatK_ok 20 _ _ _ (show flatK Try.prog 20 55 = some [.i .i64, .i .i64, .i .i64, .i .i64, .i .i64, .i .i64, .i .i64, .i .i64, .i .i64, .i .i64, .i .i64, .i .i64, .b, .i .i64, .i .i64, .i .i64, .b, .i .i64, .i .i64, .i .i64, .b, .i .i64, .i .i64, .i .i64, .b, .i .i64, .i .i64, .i .i64, .b, .i .i64, .i .i64, .i .i64, .b, .i .i64, .i .i64, .i .i64, .b, .i .i64, .i .i64, .i .i64, .b] by kernel_rfl) q0
  simp only [CellsK, CellK] at k0
  obtain ⟨_, _, rfl, ⟨a0_0, rfl, w0_0⟩, _, _, rfl, ⟨a0_1, rfl, w0_1⟩, _, _, rfl, ⟨a0_2, rfl, w0_2⟩, _, _, rfl, ⟨a0_3, rfl, w0_3⟩, _, _, rfl, ⟨a0_4, rfl, w0_4⟩, _, _, rfl, ⟨a0_5, rfl, w0_5⟩, _, _, rfl, ⟨a0_6, rfl, w0_6⟩, _, _, rfl, ⟨a0_7, rfl, w0_7⟩, _, _, rfl, ⟨a0_8, rfl, w0_8⟩, _, _, rfl, ⟨a0_9, rfl, w0_9⟩, _, _, rfl, ⟨a0_10, rfl, w0_10⟩, _, _, rfl, ⟨a0_11, rfl, w0_11⟩, _, _, rfl, ⟨a0_12, rfl⟩, _, _, rfl, ⟨a0_13, rfl, w0_13⟩, _, _, rfl, ⟨a0_14, rfl, w0_14⟩, _, _, rfl, ⟨a0_15, rfl, w0_15⟩, _, _, rfl, ⟨a0_16, rfl⟩, _, _, rfl, ⟨a0_17, rfl, w0_17⟩, _, _, rfl, ⟨a0_18, rfl, w0_18⟩, _, _, rfl, ⟨a0_19, rfl, w0_19⟩, _, _, rfl, ⟨a0_20, rfl⟩, _, _, rfl, ⟨a0_21, rfl, w0_21⟩, _, _, rfl, ⟨a0_22, rfl, w0_22⟩, _, _, rfl, ⟨a0_23, rfl, w0_23⟩, _, _, rfl, ⟨a0_24, rfl⟩, _, _, rfl, ⟨a0_25, rfl, w0_25⟩, _, _, rfl, ⟨a0_26, rfl, w0_26⟩, _, _, rfl, ⟨a0_27, rfl, w0_27⟩, _, _, rfl, ⟨a0_28, rfl⟩, _, _, rfl, ⟨a0_29, rfl, w0_29⟩, _, _, rfl, ⟨a0_30, rfl, w0_30⟩, _, _, rfl, ⟨a0_31, rfl, w0_31⟩, _, _, rfl, ⟨a0_32, rfl⟩, _, _, rfl, ⟨a0_33, rfl, w0_33⟩, _, _, rfl, ⟨a0_34, rfl, w0_34⟩, _, _, rfl, ⟨a0_35, rfl, w0_35⟩, _, _, rfl, ⟨a0_36, rfl⟩, _, _, rfl, ⟨a0_37, rfl, w0_37⟩, _, _, rfl, ⟨a0_38, rfl, w0_38⟩, _, _, rfl, ⟨a0_39, rfl, w0_39⟩, _, _, rfl, ⟨a0_40, rfl⟩, rfl⟩ := k0
  have k1 := flatK_ok 20 _ _ _ (show flatK Try.prog 20 37 = some [.l 5] by kernel_rfl) q1
  simp only [CellsK, CellK] at k1
  obtain ⟨d1_0, _, rfl, y1_0, rfl⟩ := k1
  obtain ⟨n1_0, a1_0, rfl, v1_0⟩ : ∃ n l, d1_0 = slD (encI .u8) true 1 n l ∧ (l.length ≤ maxLen ∧ l.length * 1 ≤ 140737488351232 ∧ ∀ z ∈ l, WfI .u8 z) := by
    rcases y1_0 with rfl | ⟨rows1, rfl, hl1, hb1, m1, hr1⟩
    · exact ⟨true, [], rfl, by simp [maxLen], by simp, fun z hz => by simp at hz⟩
    · obtain ⟨l2, rfl, hw2⟩ : ∃ l : List Int, rows1 = l.map (encI .u8) ∧ ∀ z ∈ l, WfI .u8 z := rows_of (T := Ty Try.prog m1 5) (fun r hr => by
          have q := flatK_any (show flatK Try.prog 20 5 = some [.i .u8] by kernel_rfl) hr
          simp only [CellsK, CellK] at q
          obtain ⟨_, _, rfl, ⟨b0, rfl, w0⟩, rfl⟩ := q
          exact ⟨b0, rfl, w0⟩) rows1 hr1
      rw [List.length_map, show Try.prog.bytesOf 5 = 1 by kernel_rfl] at hb1
      rw [show isFlat Try.prog 5 = true by kernel_rfl, show Try.prog.cellsOf 5 = 1 by kernel_rfl]
      exact ⟨false, l2, slD_rs _ _ _ _, by simpa using hl1, hb1, hw2⟩
  have k2 := flatK_ok 20 _ _ _ (show flatK Try.prog 20 64 = some [.i .u8, .i .u8] by kernel_rfl) q2
  simp only [CellsK, CellK] at k2
  obtain ⟨_, _, rfl, ⟨a2_0, rfl, w2_0⟩, _, _, rfl, ⟨a2_1, rfl, w2_1⟩, rfl⟩ := k2
  simp only [argsV, argV, Try.underlying37, Try.underlying55, Try.underlying64, List.map_cons, List.map_nil]
  obtain ⟨g1, g2⟩ := pure_OutputBack a0_0 [a0_1, a0_2, a0_3, a0_4, a0_5, a0_6, a0_7, a0_8] [⟨a0_9, a0_10, a0_11, a0_12⟩, ⟨a0_13, a0_14, a0_15, a0_16⟩, ⟨a0_17, a0_18, a0_19, a0_20⟩, ⟨a0_21, a0_22, a0_23, a0_24⟩, ⟨a0_25, a0_26, a0_27, a0_28⟩, ⟨a0_29, a0_30, a0_31, a0_32⟩, ⟨a0_33, a0_34, a0_35, a0_36⟩, ⟨a0_37, a0_38, a0_39, a0_40⟩] n1_0 a1_0 a2_0 a2_1 w0_0 ⟨rfl, (List.forall_mem_cons.2 ⟨w0_1, (List.forall_mem_cons.2 ⟨w0_2, (List.forall_mem_cons.2 ⟨w0_3, (List.forall_mem_cons.2 ⟨w0_4, (List.forall_mem_cons.2 ⟨w0_5, (List.forall_mem_cons.2 ⟨w0_6, (List.forall_mem_cons.2 ⟨w0_7, (List.forall_mem_cons.2 ⟨w0_8, (fun z hz => by cases hz)⟩)⟩)⟩)⟩)⟩)⟩)⟩)⟩)⟩ ⟨rfl, (List.forall_mem_cons.2 ⟨⟨w0_9, w0_10, w0_11, trivial⟩, (List.forall_mem_cons.2 ⟨⟨w0_13, w0_14, w0_15, trivial⟩, (List.forall_mem_cons.2 ⟨⟨w0_17, w0_18, w0_19, trivial⟩, (List.forall_mem_cons.2 ⟨⟨w0_21, w0_22, w0_23, trivial⟩, (List.forall_mem_cons.2 ⟨⟨w0_25, w0_26, w0_27, trivial⟩, (List.forall_mem_cons.2 ⟨⟨w0_29, w0_30, w0_31, trivial⟩, (List.forall_mem_cons.2 ⟨⟨w0_33, w0_34, w0_35, trivial⟩, (List.forall_mem_cons.2 ⟨⟨w0_37, w0_38, w0_39, trivial⟩, (fun z hz => by cases hz)⟩)⟩)⟩)⟩)⟩)⟩)⟩)⟩)⟩ v1_0 w2_0 w2_1
  have hc := law19_OutputBack_t0 a0_0 [a0_1, a0_2, a0_3, a0_4, a0_5, a0_6, a0_7, a0_8] [⟨a0_9, a0_10, a0_11, a0_12⟩, ⟨a0_13, a0_14, a0_15, a0_16⟩, ⟨a0_17, a0_18, a0_19, a0_20⟩, ⟨a0_21, a0_22, a0_23, a0_24⟩, ⟨a0_25, a0_26, a0_27, a0_28⟩, ⟨a0_29, a0_30, a0_31, a0_32⟩, ⟨a0_33, a0_34, a0_35, a0_36⟩, ⟨a0_37, a0_38, a0_39, a0_40⟩] n1_0 a1_0 a2_0 a2_1 g1
  rw [g2] at hc
  obtain ⟨k, hk⟩ := of_cl hc
  exact ⟨k, _, hk⟩
theorem outputBack_lifted (os : Os) (started : os.Started) (H : Type) (enc : TypeId × Value → H) :
    ReturnsInHanded {} Try.checked os 6 .any (Rows.outputBackSpec.pre6 enc Try.prog Try.f6 Rows.outputBackRow.domain false) (Rows.outputBackSpec.post enc Try.prog Try.f6 false true false false) :=
  law_lifted (C := Try.checked) (fn := Try.f6) mixed envOK glOK own started (by kernel_rfl) Try.func6 laidOut
    (ChangeSpec.witness6 (enc := enc) (C := Try.checked) false ⟨#[], #[.agg #[.int .i64 0, .int .i64 0, .int .i64 0, .int .i64 0, .int .i64 0, .int .i64 0, .int .i64 0, .int .i64 0, .int .i64 0, .int .i64 0, .int .i64 0, .int .i64 0, .bool false, .int .i64 0, .int .i64 0, .int .i64 0, .bool false, .int .i64 0, .int .i64 0, .int .i64 0, .bool false, .int .i64 0, .int .i64 0, .int .i64 0, .bool false, .int .i64 0, .int .i64 0, .int .i64 0, .bool false, .int .i64 0, .int .i64 0, .int .i64 0, .bool false, .int .i64 0, .int .i64 0, .int .i64 0, .bool false, .int .i64 0, .int .i64 0, .int .i64 0, .bool false], .slice none 0 0, .agg #[.int .u8 0, .int .u8 0]], []⟩ 8 (by kernel_rfl) (by kernel_rfl) (by kernel_rfl) (by kernel_rfl))
    (by kernel_rfl) (rt := 4) rfl Try.underlying4 rfl
    (fun ds h => by
      match ds, h with
      | [_, _, _], _ => rfl)
    row6
theorem outputBack_holds : Rows.OutputBackSaid :=
  OpenClaim.holds_of_wide 6 Try.f6 rfl rfl rfl rfl rfl rfl rfl ⟨rfl, rfl, rfl, rfl, rfl⟩ rfl rfl rfl rfl rfl (by kernel_rfl) Try.func6 (by kernel_rfl)
    (of_decide_eq_true (by kernel_rfl)) (by unfold Func.isWrapper; first | (rw [if_pos (by decide +kernel)]; kernel_rfl) | (rw [if_neg (by decide +kernel)]; exact ⟨rfl, rfl⟩))
    (fun os started H enc _ => outputBack_lifted os started H enc)
end Go.Proofs.Ytkipngagfiaddaa.Den
