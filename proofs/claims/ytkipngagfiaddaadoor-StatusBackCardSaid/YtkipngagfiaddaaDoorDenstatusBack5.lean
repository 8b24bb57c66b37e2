/- StatusBackCard: part 5 of what its proof rests on: an evaluator of the program's code, proved sound; plain functions printed from the code by a program of this session, with proofs; plain laws. No condition. -/
import Derived.Test.YtkipngagfiaddaaDoorDenstatusBack4
import Derived.Handed
import Derived.Lay
import Derived.MakeChecks
import Derived.FnData
import Derived.Stop.Joined
import Derived.SevenTiedAt
import Derived.Test.YtkipngagfiaddaaDoorRows
import Derived.Test.YtkipngagfiaddaaDoorCards
import Derived.Test.YtkipngagfiaddaaDoorTie

namespace Go.Proofs.YtkipngagfiaddaaDoor.Den
open Go Go.Proofs
set_option maxRecDepth 100000
set_option maxHeartbeats 4000000
set_option linter.unusedVariables false
set_option linter.unusedSimpArgs false
def status_Right_ai3b_S0_r0_0 (x0 : Int) (x2 : Int) : Bool := (bif tb ((x2 : Int) == (-1)) then true else (bif tb (decide (0 ≤ x2)) then (bif tb (decide (x2 < 4)) then (fix_Has_ii_r0_0 x0 x2) else false) else false))
theorem status_Right_ai3b_S0_t0 (x0 : Int) (x1 : Int) (x2 : Int) (x3 : Bool) (x4 : Bool) : segG (runC E0 (cl E0) S25_0) [1] [] [1, 3] 1 ([(V.ptr 0 1 0 0)], [(Blk.flat 42 4 [[(.int .i64 x0), (.int .i64 x1), (.int .i64 x2), (.bool x3)]] x4)]) = some (.normal, ([(V.ptr 0 1 0 0), (V.d (.bool (status_Right_ai3b_S0_r0_0 x0 x2)))], [(Blk.flat 42 4 [[(.int .i64 x0), (.int .i64 x1), (.int .i64 x2), (.bool x3)]] x4)])) := by
  unfold status_Right_ai3b_S0_r0_0
  cases h1 : tb ((x2 : Int) == (-1))
  · cases h2 : tb (decide (0 ≤ x2))
    · exact seg_walk [.b (tbE h1), .b (tbE h2)] (by kernel_rfl)
    · cases h3 : tb (decide (x2 < 4))
      · exact seg_walk [.b (tbE h1), .b (tbE h2), .b (tbE h3)] (by kernel_rfl)
      · exact seg_walk [.b (tbE h1), .b (tbE h2), .b (tbE h3), .c (fix_Has_ii_t0 x0 x2)] (by kernel_rfl)
  · exact seg_walk [.b (tbE h1)] (by kernel_rfl)
def status_masked_i_r0_0 (x0 : Int) : Bool := (bif tb (decide (0 ≤ x0)) then (decide (x0 ≤ 15)) else false)
theorem status_masked_i_t0 (x0 : Int) : cl E0 60 [(V.d (.int .i64 x0))] [] = some ([(V.d (.bool (status_masked_i_r0_0 x0)))], []) := by
  unfold status_masked_i_r0_0
  cases h1 : tb (decide (0 ≤ x0))
  · exact w60 [.b (tbE h1)] (by kernel_rfl)
  · exact w60 [.b (tbE h1)] (by kernel_rfl)
def status_Right_ai3b_S1_r0_0 (x0 : Int) (x1 : Int) (x3 : Bool) (x5 : Bool) : Bool := (bif tb (status_masked_i_r0_0 x0) then (bif tb (status_masked_i_r0_0 x1) then (bif tb (false != (x3 == ((x0 : Int) == 0))) then x5 else false) else false) else false)
theorem status_Right_ai3b_S1_t0 (x0 : Int) (x1 : Int) (x2 : Int) (x3 : Bool) (x4 : Bool) (x5 : Bool) : segG (runC E0 (cl E0) S25_1) [1, 3] [] [2] 1 ([(V.ptr 0 1 0 0), (V.d (.bool x5))], [(Blk.flat 42 4 [[(.int .i64 x0), (.int .i64 x1), (.int .i64 x2), (.bool x3)]] x4)]) = some (.normal, ([(V.d (.bool (status_Right_ai3b_S1_r0_0 x0 x1 x3 x5)))], [(Blk.flat 42 4 [[(.int .i64 x0), (.int .i64 x1), (.int .i64 x2), (.bool x3)]] x4)])) := by
  unfold status_Right_ai3b_S1_r0_0
  cases h1 : tb (status_masked_i_r0_0 x0)
  · exact seg_walk [.c (status_masked_i_t0 x0), .b (tbE h1)] (by kernel_rfl)
  · cases h2 : tb (status_masked_i_r0_0 x1)
    · exact seg_walk [.c (status_masked_i_t0 x0), .b (tbE h1), .c (status_masked_i_t0 x1), .b (tbE h2)] (by kernel_rfl)
    · cases h3 : tb (false != (x3 == ((x0 : Int) == 0)))
      · exact seg_walk [.c (status_masked_i_t0 x0), .b (tbE h1), .c (status_masked_i_t0 x1), .b (tbE h2), .b (tbE h3)] (by kernel_rfl)
      · exact seg_walk [.c (status_masked_i_t0 x0), .b (tbE h1), .c (status_masked_i_t0 x1), .b (tbE h2), .b (tbE h3)] (by kernel_rfl)
theorem status_Right_ai3b_t0 (x0 : Int) (x1 : Int) (x2 : Int) (x3 : Bool) : cl E0 25 [(V.agg [(V.d (.int .i64 x0)), (V.d (.int .i64 x1)), (V.d (.int .i64 x2)), (V.d (.bool x3))])] [] = some ([(V.d (.bool (status_Right_ai3b_S1_r0_0 x0 x1 x3 (status_Right_ai3b_S0_r0_0 x0 x2))))], []) := by
  exact w25 [.s (status_Right_ai3b_S0_t0 x0 x1 x2 x3 false), .s (status_Right_ai3b_S1_t0 x0 x1 x2 x3 false (status_Right_ai3b_S0_r0_0 x0 x2))] (by kernel_rfl)
def status_Word_ai3b_e0 (x0 : Int) (x1 : Int) : Int := orI .i64 (orI .i64 (orI .i64 x0 (shlI .i64 x1 4)) 1792) 2048
def status_Word_ai3b_e1 (x0 : Int) (x1 : Int) (x2 : Int) : Int := orI .i64 (orI .i64 (orI .i64 x0 (shlI .i64 x1 4)) (shlI .i64 x2 8)) 2048
def status_Word_ai3b_r0_0 (x0 : Int) (x1 : Int) (x2 : Int) (x3 : Bool) : Int := (bif tb (status_Right_ai3b_S1_r0_0 x0 x1 x3 (status_Right_ai3b_S0_r0_0 x0 x2)) then (bif tb (decide (x2 < 0)) then (bif tb (x3) then (status_Word_ai3b_e0 x0 x1) else (orI .i64 (orI .i64 x0 (shlI .i64 x1 4)) 1792)) else (bif tb (x3) then (status_Word_ai3b_e1 x0 x1 x2) else (orI .i64 (orI .i64 x0 (shlI .i64 x1 4)) (shlI .i64 x2 8)))) else 0)
def status_Word_ai3b_r0_1 (x0 : Int) (x1 : Int) (x2 : Int) (x3 : Bool) : Int := (bif tb (status_Right_ai3b_S1_r0_0 x0 x1 x3 (status_Right_ai3b_S0_r0_0 x0 x2)) then 0 else 1)
theorem status_Word_ai3b_t0 (x0 : Int) (x1 : Int) (x2 : Int) (x3 : Bool) : cl E0 20 [(V.agg [(V.d (.int .i64 x0)), (V.d (.int .i64 x1)), (V.d (.int .i64 x2)), (V.d (.bool x3))])] [] = some ([(V.d (.int .i64 (status_Word_ai3b_r0_0 x0 x1 x2 x3))), (V.d (.int .i64 (status_Word_ai3b_r0_1 x0 x1 x2 x3)))], []) := by
  unfold status_Word_ai3b_r0_0 status_Word_ai3b_r0_1
  cases h1 : tb (status_Right_ai3b_S1_r0_0 x0 x1 x3 (status_Right_ai3b_S0_r0_0 x0 x2))
  · exact w20 [.c (status_Right_ai3b_t0 x0 x1 x2 x3), .b (notF (tbE h1))] (by kernel_rfl)
  · cases h2 : tb (decide (x2 < 0))
    · cases h3 : tb (x3)
      · exact w20 [.c (status_Right_ai3b_t0 x0 x1 x2 x3), .b (notT (tbE h1)), .b (tbE h2), .o 16 (fun _ => o_shl (k := .i64) (k2 := .u64) (x := x1) (y := 4) rfl), .o 19 (fun _ => o_shl (k := .i64) (k2 := .u64) (x := x2) (y := 8) rfl), .b (tbE h3)] (by kernel_rfl)
      · exact w20 [.c (status_Right_ai3b_t0 x0 x1 x2 x3), .b (notT (tbE h1)), .b (tbE h2), .o 16 (fun _ => o_shl (k := .i64) (k2 := .u64) (x := x1) (y := 4) rfl), .o 19 (fun _ => o_shl (k := .i64) (k2 := .u64) (x := x2) (y := 8) rfl), .b (tbE h3)] (by kernel_rfl)
    · cases h3 : tb (x3)
      · exact w20 [.c (status_Right_ai3b_t0 x0 x1 x2 x3), .b (notT (tbE h1)), .b (tbE h2), .o 16 (fun _ => o_shl (k := .i64) (k2 := .u64) (x := x1) (y := 4) rfl), .b (tbE h3)] (by kernel_rfl)
      · exact w20 [.c (status_Right_ai3b_t0 x0 x1 x2 x3), .b (notT (tbE h1)), .b (tbE h2), .o 16 (fun _ => o_shl (k := .i64) (k2 := .u64) (x := x1) (y := 4) rfl), .b (tbE h3)] (by kernel_rfl)
def status_Parse_i_r0_0 (x0 : Int) : Int := (bif tb (decide (x0 < 0)) then 0 else (bif tb (decide (4096 ≤ x0)) then 0 else (bif tb (((andI .i64 (shrI .i64 x0 8) 7) : Int) == 7) then (bif tb (status_Right_ai3b_S1_r0_0 (andI .i64 x0 15) (andI .i64 (shrI .i64 x0 4) 15) (fix_Has_ii_r0_0 x0 11) (status_Right_ai3b_S0_r0_0 (andI .i64 x0 15) (-1))) then (andI .i64 x0 15) else 0) else (bif tb (status_Right_ai3b_S1_r0_0 (andI .i64 x0 15) (andI .i64 (shrI .i64 x0 4) 15) (fix_Has_ii_r0_0 x0 11) (status_Right_ai3b_S0_r0_0 (andI .i64 x0 15) (andI .i64 (shrI .i64 x0 8) 7))) then (andI .i64 x0 15) else 0))))
def status_Parse_i_r0_1 (x0 : Int) : Int := (bif tb (decide (x0 < 0)) then 0 else (bif tb (decide (4096 ≤ x0)) then 0 else (bif tb (((andI .i64 (shrI .i64 x0 8) 7) : Int) == 7) then (bif tb (status_Right_ai3b_S1_r0_0 (andI .i64 x0 15) (andI .i64 (shrI .i64 x0 4) 15) (fix_Has_ii_r0_0 x0 11) (status_Right_ai3b_S0_r0_0 (andI .i64 x0 15) (-1))) then (andI .i64 (shrI .i64 x0 4) 15) else 0) else (bif tb (status_Right_ai3b_S1_r0_0 (andI .i64 x0 15) (andI .i64 (shrI .i64 x0 4) 15) (fix_Has_ii_r0_0 x0 11) (status_Right_ai3b_S0_r0_0 (andI .i64 x0 15) (andI .i64 (shrI .i64 x0 8) 7))) then (andI .i64 (shrI .i64 x0 4) 15) else 0))))
def status_Parse_i_r0_2 (x0 : Int) : Int := (bif tb (decide (x0 < 0)) then 0 else (bif tb (decide (4096 ≤ x0)) then 0 else (bif tb (((andI .i64 (shrI .i64 x0 8) 7) : Int) == 7) then (bif tb (status_Right_ai3b_S1_r0_0 (andI .i64 x0 15) (andI .i64 (shrI .i64 x0 4) 15) (fix_Has_ii_r0_0 x0 11) (status_Right_ai3b_S0_r0_0 (andI .i64 x0 15) (-1))) then (-1) else 0) else (bif tb (status_Right_ai3b_S1_r0_0 (andI .i64 x0 15) (andI .i64 (shrI .i64 x0 4) 15) (fix_Has_ii_r0_0 x0 11) (status_Right_ai3b_S0_r0_0 (andI .i64 x0 15) (andI .i64 (shrI .i64 x0 8) 7))) then (andI .i64 (shrI .i64 x0 8) 7) else 0))))
def status_Parse_i_r0_3 (x0 : Int) : Bool := (bif tb (decide (x0 < 0)) then false else (bif tb (decide (4096 ≤ x0)) then false else (bif tb (((andI .i64 (shrI .i64 x0 8) 7) : Int) == 7) then (bif tb (status_Right_ai3b_S1_r0_0 (andI .i64 x0 15) (andI .i64 (shrI .i64 x0 4) 15) (fix_Has_ii_r0_0 x0 11) (status_Right_ai3b_S0_r0_0 (andI .i64 x0 15) (-1))) then (fix_Has_ii_r0_0 x0 11) else false) else (bif tb (status_Right_ai3b_S1_r0_0 (andI .i64 x0 15) (andI .i64 (shrI .i64 x0 4) 15) (fix_Has_ii_r0_0 x0 11) (status_Right_ai3b_S0_r0_0 (andI .i64 x0 15) (andI .i64 (shrI .i64 x0 8) 7))) then (fix_Has_ii_r0_0 x0 11) else false))))
def status_Parse_i_r0_4 (x0 : Int) : Int := (bif tb (decide (x0 < 0)) then 3 else (bif tb (decide (4096 ≤ x0)) then 3 else (bif tb (((andI .i64 (shrI .i64 x0 8) 7) : Int) == 7) then (bif tb (status_Right_ai3b_S1_r0_0 (andI .i64 x0 15) (andI .i64 (shrI .i64 x0 4) 15) (fix_Has_ii_r0_0 x0 11) (status_Right_ai3b_S0_r0_0 (andI .i64 x0 15) (-1))) then 0 else 3) else (bif tb (status_Right_ai3b_S1_r0_0 (andI .i64 x0 15) (andI .i64 (shrI .i64 x0 4) 15) (fix_Has_ii_r0_0 x0 11) (status_Right_ai3b_S0_r0_0 (andI .i64 x0 15) (andI .i64 (shrI .i64 x0 8) 7))) then 0 else 3))))
theorem status_Parse_i_t0 (x0 : Int) : cl E0 22 [(V.d (.int .i64 x0))] [] = some ([(V.agg [(V.d (.int .i64 (status_Parse_i_r0_0 x0))), (V.d (.int .i64 (status_Parse_i_r0_1 x0))), (V.d (.int .i64 (status_Parse_i_r0_2 x0))), (V.d (.bool (status_Parse_i_r0_3 x0)))]), (V.d (.int .i64 (status_Parse_i_r0_4 x0)))], []) := by
  unfold status_Parse_i_r0_0 status_Parse_i_r0_1 status_Parse_i_r0_2 status_Parse_i_r0_3 status_Parse_i_r0_4
  cases h1 : tb (decide (x0 < 0))
  · cases h2 : tb (decide (4096 ≤ x0))
    · cases h3 : tb (((andI .i64 (shrI .i64 x0 8) 7) : Int) == 7)
      · cases h4 : tb (status_Right_ai3b_S1_r0_0 (andI .i64 x0 15) (andI .i64 (shrI .i64 x0 4) 15) (fix_Has_ii_r0_0 x0 11) (status_Right_ai3b_S0_r0_0 (andI .i64 x0 15) (andI .i64 (shrI .i64 x0 8) 7)))
        · exact w22 [.b (tbE h1), .b (tbE h2), .o 15 (fun _ => o_shr (k := .i64) (k2 := .u64) (x := x0) (y := 4) rfl), .o 18 (fun _ => o_shr (k := .i64) (k2 := .u64) (x := x0) (y := 8) rfl), .c (fix_Has_ii_t0 x0 11), .b (tbE h3), .c (status_Right_ai3b_t0 (andI .i64 x0 15) (andI .i64 (shrI .i64 x0 4) 15) (andI .i64 (shrI .i64 x0 8) 7) (fix_Has_ii_r0_0 x0 11)), .b (notF (tbE h4))] (by kernel_rfl)
        · exact w22 [.b (tbE h1), .b (tbE h2), .o 15 (fun _ => o_shr (k := .i64) (k2 := .u64) (x := x0) (y := 4) rfl), .o 18 (fun _ => o_shr (k := .i64) (k2 := .u64) (x := x0) (y := 8) rfl), .c (fix_Has_ii_t0 x0 11), .b (tbE h3), .c (status_Right_ai3b_t0 (andI .i64 x0 15) (andI .i64 (shrI .i64 x0 4) 15) (andI .i64 (shrI .i64 x0 8) 7) (fix_Has_ii_r0_0 x0 11)), .b (notT (tbE h4))] (by kernel_rfl)
      · cases h4 : tb (status_Right_ai3b_S1_r0_0 (andI .i64 x0 15) (andI .i64 (shrI .i64 x0 4) 15) (fix_Has_ii_r0_0 x0 11) (status_Right_ai3b_S0_r0_0 (andI .i64 x0 15) (-1)))
        · exact w22 [.b (tbE h1), .b (tbE h2), .o 15 (fun _ => o_shr (k := .i64) (k2 := .u64) (x := x0) (y := 4) rfl), .o 18 (fun _ => o_shr (k := .i64) (k2 := .u64) (x := x0) (y := 8) rfl), .c (fix_Has_ii_t0 x0 11), .b (tbE h3), .c (status_Right_ai3b_t0 (andI .i64 x0 15) (andI .i64 (shrI .i64 x0 4) 15) (-1) (fix_Has_ii_r0_0 x0 11)), .b (notF (tbE h4))] (by kernel_rfl)
        · exact w22 [.b (tbE h1), .b (tbE h2), .o 15 (fun _ => o_shr (k := .i64) (k2 := .u64) (x := x0) (y := 4) rfl), .o 18 (fun _ => o_shr (k := .i64) (k2 := .u64) (x := x0) (y := 8) rfl), .c (fix_Has_ii_t0 x0 11), .b (tbE h3), .c (status_Right_ai3b_t0 (andI .i64 x0 15) (andI .i64 (shrI .i64 x0 4) 15) (-1) (fix_Has_ii_r0_0 x0 11)), .b (notT (tbE h4))] (by kernel_rfl)
    · exact w22 [.b (tbE h1), .b (tbE h2)] (by kernel_rfl)
  · exact w22 [.b (tbE h1)] (by kernel_rfl)
def status_Mode_ai3b_e0 (x0 : Int) : ByteArray := gt ([⟨#[104, 111, 108, 100]⟩, ⟨#[115, 105, 110, 103, 108, 101]⟩, ⟨#[100, 117, 112, 108, 101, 120]⟩, ⟨#[116, 114, 105, 112, 108, 101]⟩, ⟨#[113, 117, 97, 100]⟩] : List ByteArray) (fix_Count_i_r0_0 x0)
def status_Mode_ai3b_c0 (x0 : Int) (x1 : Int) (x2 : Int) (x3 : Bool) : Bool := (bif tb (status_Right_ai3b_S1_r0_0 x0 x1 x3 (status_Right_ai3b_S0_r0_0 x0 x2)) then (bif tb (inb 5 (fix_Count_i_r0_0 x0)) then true else false) else true)
def status_Mode_ai3b_r0_0 (x0 : Int) (x1 : Int) (x2 : Int) (x3 : Bool) : ByteArray := (bif tb (status_Right_ai3b_S1_r0_0 x0 x1 x3 (status_Right_ai3b_S0_r0_0 x0 x2)) then (status_Mode_ai3b_e0 x0) else ⟨#[]⟩)
theorem status_Mode_ai3b_t0 (x0 : Int) (x1 : Int) (x2 : Int) (x3 : Bool) : status_Mode_ai3b_c0 x0 x1 x2 x3 = true → cl E0 27 [(V.agg [(V.d (.int .i64 x0)), (V.d (.int .i64 x1)), (V.d (.int .i64 x2)), (V.d (.bool x3))])] [] = some ([(V.d (.str (status_Mode_ai3b_r0_0 x0 x1 x2 x3)))], []) := by
  unfold status_Mode_ai3b_c0 status_Mode_ai3b_r0_0
  cases h1 : tb (status_Right_ai3b_S1_r0_0 x0 x1 x3 (status_Right_ai3b_S0_r0_0 x0 x2))
  · intro g0
    exact w27 [.c (status_Right_ai3b_t0 x0 x1 x2 x3), .b (notF (tbE h1))] (by kernel_rfl)
  · cases h2 : tb (inb 5 (fix_Count_i_r0_0 x0))
    · intro g0
      exact absurd g0 ft
    · intro g0
      exact w27 [.c (status_Right_ai3b_t0 x0 x1 x2 x3), .b (notT (tbE h1)), .c (fix_Count_i_t0 x0), .o 10 (fun _ => o_idx_arrs (ss := ([⟨#[104, 111, 108, 100]⟩, ⟨#[115, 105, 110, 103, 108, 101]⟩, ⟨#[100, 117, 112, 108, 101, 120]⟩, ⟨#[116, 114, 105, 112, 108, 101]⟩, ⟨#[113, 117, 97, 100]⟩] : List ByteArray)) (n := 5) (k := .i64) (i := (fix_Count_i_r0_0 x0)) rfl (tbE h2))] (by kernel_rfl)
structure status_channels_i_L0_s0 where
  c1 : ByteArray
  c2 : Int
  deriving Inhabited
def status_channels_i_L0_enc (x0 : Int) (x1 : ByteArray) (x2 : Int) (s0 : status_channels_i_L0_s0) : List V × Mem := ([(V.d (.int .i64 x0)), (V.d (.str s0.c1)), (V.d (.int .i64 s0.c2))], [])
def status_channels_i_L0_sel (x0 : Int) (s0 : status_channels_i_L0_s0) : Bool := (bif tb (decide (s0.c2 < 4)) then (bif tb (fix_Has_ii_r0_0 x0 s0.c2) then (bif tb (strconv_Itoa_i_c0 s0.c2) then (bif tb (decide (s0.c1.size + (⟨(digs (s0.c2 : Int).toNat).toArray⟩ : ByteArray).size ≤ 9223372036854775807)) then true else false) else false) else true) else false)
def status_channels_i_L0_nx (x0 : Int) (s0 : status_channels_i_L0_s0) : status_channels_i_L0_s0 := (bif tb (fix_Has_ii_r0_0 x0 s0.c2) then ⟨(s0.c1 ++ (⟨(digs (s0.c2 : Int).toNat).toArray⟩ : ByteArray)), (wi (s0.c2 + 1))⟩ else ⟨s0.c1, (wi (s0.c2 + 1))⟩)
def status_channels_i_L0_ok (x0 : Int) (s0 : status_channels_i_L0_s0) : Bool := (itS (status_channels_i_L0_sel x0) (status_channels_i_L0_nx x0) bound s0).isSome
def status_channels_i_L0_end (x0 : Int) (s0 : status_channels_i_L0_s0) : status_channels_i_L0_s0 := (itS (status_channels_i_L0_sel x0) (status_channels_i_L0_nx x0) bound s0).getD default
theorem status_channels_i_L0_go (x0 : Int) (x1 : ByteArray) (x2 : Int) (s0 : status_channels_i_L0_s0) : status_channels_i_L0_sel x0 s0 = true → (roundG (runC E0 (cl E0) L64_0) [0, 3, 5] [3] 0) (status_channels_i_L0_enc x0 x1 x2 s0) = some (.normal, status_channels_i_L0_enc x0 x1 x2 (status_channels_i_L0_nx x0 s0)) := by
  unfold status_channels_i_L0_sel status_channels_i_L0_nx
  cases h1 : tb (decide (s0.c2 < 4))
  · intro g0
    exact absurd g0 ft
  · cases h2 : tb (fix_Has_ii_r0_0 x0 s0.c2)
    · intro _
      exact round_walk [.b (tbE h1), .c (fix_Has_ii_t0 x0 s0.c2), .b (tbE h2)] (by kernel_rfl)
    · cases h3 : tb (strconv_Itoa_i_c0 s0.c2)
      · intro g0
        exact absurd g0 ft
      · cases h4 : tb (decide (s0.c1.size + (⟨(digs (s0.c2 : Int).toNat).toArray⟩ : ByteArray).size ≤ 9223372036854775807))
        · intro g0
          exact absurd g0 ft
        · intro _
          exact round_walk [.b (tbE h1), .c (fix_Has_ii_t0 x0 s0.c2), .b (tbE h2), .c (strconv_Itoa_i_t0 s0.c2 (tbE h3)), .o 14 (fun _ => o_addstr (x := s0.c1) (y := (⟨(digs (s0.c2 : Int).toNat).toArray⟩ : ByteArray)) (tbE h4))] (by kernel_rfl)
def status_channels_i_L0_c0 (s0 : status_channels_i_L0_s0) : Bool := (bif tb (decide (s0.c2 < 4)) then false else true)
theorem status_channels_i_L0_x0 (x0 : Int) (x1 : ByteArray) (x2 : Int) (s0 : status_channels_i_L0_s0) : status_channels_i_L0_sel x0 s0 = false → status_channels_i_L0_c0 s0 = true → (roundG (runC E0 (cl E0) L64_0) [0, 3, 5] [3] 0) (status_channels_i_L0_enc x0 x1 x2 s0) = some ((.exit 0), ([(V.d (.str s0.c1))], [])) := by
  unfold status_channels_i_L0_sel status_channels_i_L0_c0
  cases h1 : tb (decide (s0.c2 < 4))
  · intro g0 g1
    exact round_walk [.b (tbE h1)] (by kernel_rfl)
  · cases h2 : tb (fix_Has_ii_r0_0 x0 s0.c2)
    · intro g0 g1
      exact absurd g0 tf
    · cases h3 : tb (strconv_Itoa_i_c0 s0.c2)
      · intro g0 g1
        exact absurd g1 ft
      · cases h4 : tb (decide (s0.c1.size + (⟨(digs (s0.c2 : Int).toNat).toArray⟩ : ByteArray).size ≤ 9223372036854775807))
        · intro g0 g1
          exact absurd g1 ft
        · intro g0 g1
          exact absurd g0 tf
theorem status_channels_i_L0_f0_0 (x0 : Int) (x1 : ByteArray) (x2 : Int) (s : status_channels_i_L0_s0) (hok : status_channels_i_L0_ok x0 s = true) (c0 : status_channels_i_L0_c0 (status_channels_i_L0_end x0 s) = true) : loopG (roundG (runC E0 (cl E0) L64_0) [0, 3, 5] [3] 0) bound (status_channels_i_L0_enc x0 x1 x2 s) = some ((.exit 0), ([(V.d (.str ((status_channels_i_L0_end x0 s).c1)))], [])) := by
  have e : itS (status_channels_i_L0_sel x0) (status_channels_i_L0_nx x0) bound s = some (status_channels_i_L0_end x0 s) := itS_get hok
  have f := itS_false e
  exact loop_it (status_channels_i_L0_go x0 x1 x2) bound s _ _ _ e (fun h => by cases h) (status_channels_i_L0_x0 x0 x1 x2 (status_channels_i_L0_end x0 s) f c0)
def status_channels_i_e0 (x0 : Int) : status_channels_i_L0_s0 := status_channels_i_L0_end x0 (⟨⟨#[]⟩, 0⟩ : status_channels_i_L0_s0)
def status_channels_i_c0 (x0 : Int) : Bool := (bif tb (status_channels_i_L0_ok x0 (⟨⟨#[]⟩, 0⟩ : status_channels_i_L0_s0)) then (bif tb (status_channels_i_L0_c0 (status_channels_i_e0 x0)) then true else false) else false)
def status_channels_i_r0_0 (x0 : Int) : ByteArray := (bif tb (((status_channels_i_e0 x0).c1).toList == (⟨#[]⟩ : ByteArray).toList) then ⟨#[45]⟩ else ((status_channels_i_e0 x0).c1))
theorem status_channels_i_t0 (x0 : Int) : status_channels_i_c0 x0 = true → cl E0 64 [(V.d (.int .i64 x0))] [] = some ([(V.d (.str (status_channels_i_r0_0 x0)))], []) := by
  unfold status_channels_i_c0 status_channels_i_r0_0
  cases h1 : tb (status_channels_i_L0_ok x0 (⟨⟨#[]⟩, 0⟩ : status_channels_i_L0_s0))
  · intro g0
    exact absurd g0 ft
  · cases h2 : tb (status_channels_i_L0_c0 (status_channels_i_e0 x0))
    · intro g0
      exact absurd g0 ft
    · cases h3 : tb (((status_channels_i_e0 x0).c1).toList == (⟨#[]⟩ : ByteArray).toList)
      · intro g0
        exact w64 [.l (status_channels_i_L0_f0_0 x0 ⟨#[]⟩ 0 (⟨⟨#[]⟩, 0⟩ : status_channels_i_L0_s0) (tbE h1) (tbE h2)), .b (tbE h3)] (by kernel_rfl)
      · intro g0
        exact w64 [.l (status_channels_i_L0_f0_0 x0 ⟨#[]⟩ 0 (⟨⟨#[]⟩, 0⟩ : status_channels_i_L0_s0) (tbE h1) (tbE h2)), .b (tbE h3)] (by kernel_rfl)
def status_Text_ai3b_e0 (x0 : Int) : ByteArray := (⟨#[105, 110, 32]⟩ : ByteArray) ++ (status_channels_i_r0_0 x0)
def status_Text_ai3b_e1 (x0 : Int) : ByteArray := (status_Text_ai3b_e0 x0) ++ (⟨#[32, 108, 97, 116, 99, 104, 101, 100, 32]⟩ : ByteArray)
def status_Text_ai3b_e2 (x0 : Int) (x1 : Int) : ByteArray := ((status_Text_ai3b_e1 x0) ++ (status_channels_i_r0_0 x1)) ++ (⟨#[32, 115, 117, 115, 112, 101, 99, 116, 32]⟩ : ByteArray)
def status_Text_ai3b_e3 (x0 : Int) (x1 : Int) (x2 : Int) : ByteArray := (status_Text_ai3b_e2 x0 x1) ++ (⟨(digs (x2 : Int).toNat).toArray⟩ : ByteArray)
def status_Text_ai3b_e4 (x0 : Int) (x1 : Int) (x2 : Int) (x3 : Bool) : ByteArray := ((status_Text_ai3b_e3 x0 x1 x2) ++ (⟨#[32]⟩ : ByteArray)) ++ (status_Mode_ai3b_r0_0 x0 x1 x2 x3)
def status_Text_ai3b_e5 (x0 : Int) (x1 : Int) : ByteArray := ((status_Text_ai3b_e2 x0 x1) ++ (⟨#[45]⟩ : ByteArray)) ++ (⟨#[32]⟩ : ByteArray)
def status_Text_ai3b_e6 (x0 : Int) (x1 : Int) (x2 : Int) (x3 : Bool) : ByteArray := (status_Text_ai3b_e5 x0 x1) ++ (status_Mode_ai3b_r0_0 x0 x1 x2 x3)
def status_Text_ai3b_c0 (x0 : Int) (x1 : Int) (x2 : Int) (x3 : Bool) : Bool := (bif tb (status_Right_ai3b_S1_r0_0 x0 x1 x3 (status_Right_ai3b_S0_r0_0 x0 x2)) then (bif tb (decide (0 ≤ x2)) then (bif tb (strconv_Itoa_i_c0 x2) then (bif tb (status_channels_i_c0 x0) then (bif tb (decide ((⟨#[105, 110, 32]⟩ : ByteArray).size + (status_channels_i_r0_0 x0).size ≤ 9223372036854775807)) then (bif tb (decide ((status_Text_ai3b_e0 x0).size + (⟨#[32, 108, 97, 116, 99, 104, 101, 100, 32]⟩ : ByteArray).size ≤ 9223372036854775807)) then (bif tb (status_channels_i_c0 x1) then (bif tb (decide ((status_Text_ai3b_e1 x0).size + (status_channels_i_r0_0 x1).size ≤ 9223372036854775807)) then (bif tb (decide (((status_Text_ai3b_e1 x0) ++ (status_channels_i_r0_0 x1)).size + (⟨#[32, 115, 117, 115, 112, 101, 99, 116, 32]⟩ : ByteArray).size ≤ 9223372036854775807)) then (bif tb (decide ((status_Text_ai3b_e2 x0 x1).size + (⟨(digs (x2 : Int).toNat).toArray⟩ : ByteArray).size ≤ 9223372036854775807)) then (bif tb (decide ((status_Text_ai3b_e3 x0 x1 x2).size + (⟨#[32]⟩ : ByteArray).size ≤ 9223372036854775807)) then (bif tb (status_Mode_ai3b_c0 x0 x1 x2 x3) then (bif tb (decide (((status_Text_ai3b_e3 x0 x1 x2) ++ (⟨#[32]⟩ : ByteArray)).size + (status_Mode_ai3b_r0_0 x0 x1 x2 x3).size ≤ 9223372036854775807)) then true else false) else false) else false) else false) else false) else false) else false) else false) else false) else false) else false) else (bif tb (status_channels_i_c0 x0) then (bif tb (decide ((⟨#[105, 110, 32]⟩ : ByteArray).size + (status_channels_i_r0_0 x0).size ≤ 9223372036854775807)) then (bif tb (decide ((status_Text_ai3b_e0 x0).size + (⟨#[32, 108, 97, 116, 99, 104, 101, 100, 32]⟩ : ByteArray).size ≤ 9223372036854775807)) then (bif tb (status_channels_i_c0 x1) then (bif tb (decide ((status_Text_ai3b_e1 x0).size + (status_channels_i_r0_0 x1).size ≤ 9223372036854775807)) then (bif tb (decide (((status_Text_ai3b_e1 x0) ++ (status_channels_i_r0_0 x1)).size + (⟨#[32, 115, 117, 115, 112, 101, 99, 116, 32]⟩ : ByteArray).size ≤ 9223372036854775807)) then (bif tb (decide ((status_Text_ai3b_e2 x0 x1).size + (⟨#[45]⟩ : ByteArray).size ≤ 9223372036854775807)) then (bif tb (decide (((status_Text_ai3b_e2 x0 x1) ++ (⟨#[45]⟩ : ByteArray)).size + (⟨#[32]⟩ : ByteArray).size ≤ 9223372036854775807)) then (bif tb (status_Mode_ai3b_c0 x0 x1 x2 x3) then (bif tb (decide ((status_Text_ai3b_e5 x0 x1).size + (status_Mode_ai3b_r0_0 x0 x1 x2 x3).size ≤ 9223372036854775807)) then true else false) else false) else false) else false) else false) else false) else false) else false) else false) else false)) else true)
def status_Text_ai3b_r0_0 (x0 : Int) (x1 : Int) (x2 : Int) (x3 : Bool) : ByteArray := (bif tb (status_Right_ai3b_S1_r0_0 x0 x1 x3 (status_Right_ai3b_S0_r0_0 x0 x2)) then (bif tb (decide (0 ≤ x2)) then (status_Text_ai3b_e4 x0 x1 x2 x3) else (status_Text_ai3b_e6 x0 x1 x2 x3)) else ⟨#[]⟩)
theorem status_Text_ai3b_t0 (x0 : Int) (x1 : Int) (x2 : Int) (x3 : Bool) : status_Text_ai3b_c0 x0 x1 x2 x3 = true → cl E0 29 [(V.agg [(V.d (.int .i64 x0)), (V.d (.int .i64 x1)), (V.d (.int .i64 x2)), (V.d (.bool x3))])] [] = some ([(V.d (.str (status_Text_ai3b_r0_0 x0 x1 x2 x3)))], []) := by
  unfold status_Text_ai3b_c0 status_Text_ai3b_r0_0
  cases h1 : tb (status_Right_ai3b_S1_r0_0 x0 x1 x3 (status_Right_ai3b_S0_r0_0 x0 x2))
  · intro g0
    exact w29 [.c (status_Right_ai3b_t0 x0 x1 x2 x3), .b (notF (tbE h1))] (by kernel_rfl)
  · cases h2 : tb (decide (0 ≤ x2))
    · cases h3 : tb (status_channels_i_c0 x0)
      · intro g0
        exact absurd g0 ft
      · cases h4 : tb (decide ((⟨#[105, 110, 32]⟩ : ByteArray).size + (status_channels_i_r0_0 x0).size ≤ 9223372036854775807))
        · intro g0
          exact absurd g0 ft
        · cases h5 : tb (decide ((status_Text_ai3b_e0 x0).size + (⟨#[32, 108, 97, 116, 99, 104, 101, 100, 32]⟩ : ByteArray).size ≤ 9223372036854775807))
          · intro g0
            exact absurd g0 ft
          · cases h6 : tb (status_channels_i_c0 x1)
            · intro g0
              exact absurd g0 ft
            · cases h7 : tb (decide ((status_Text_ai3b_e1 x0).size + (status_channels_i_r0_0 x1).size ≤ 9223372036854775807))
              · intro g0
                exact absurd g0 ft
              · cases h8 : tb (decide (((status_Text_ai3b_e1 x0) ++ (status_channels_i_r0_0 x1)).size + (⟨#[32, 115, 117, 115, 112, 101, 99, 116, 32]⟩ : ByteArray).size ≤ 9223372036854775807))
                · intro g0
                  exact absurd g0 ft
                · cases h9 : tb (decide ((status_Text_ai3b_e2 x0 x1).size + (⟨#[45]⟩ : ByteArray).size ≤ 9223372036854775807))
                  · intro g0
                    exact absurd g0 ft
                  · cases h10 : tb (decide (((status_Text_ai3b_e2 x0 x1) ++ (⟨#[45]⟩ : ByteArray)).size + (⟨#[32]⟩ : ByteArray).size ≤ 9223372036854775807))
                    · intro g0
                      exact absurd g0 ft
                    · cases h11 : tb (status_Mode_ai3b_c0 x0 x1 x2 x3)
                      · intro g0
                        exact absurd g0 ft
                      · cases h12 : tb (decide ((status_Text_ai3b_e5 x0 x1).size + (status_Mode_ai3b_r0_0 x0 x1 x2 x3).size ≤ 9223372036854775807))
                        · intro g0
                          exact absurd g0 ft
                        · intro g0
                          exact w29 [.c (status_Right_ai3b_t0 x0 x1 x2 x3), .b (notT (tbE h1)), .b (tbE h2), .c (status_channels_i_t0 x0 (tbE h3)), .o 16 (fun _ => o_addstr (x := (⟨#[105, 110, 32]⟩ : ByteArray)) (y := (status_channels_i_r0_0 x0)) (tbE h4)), .o 17 (fun _ => o_addstr (x := (status_Text_ai3b_e0 x0)) (y := (⟨#[32, 108, 97, 116, 99, 104, 101, 100, 32]⟩ : ByteArray)) (tbE h5)), .c (status_channels_i_t0 x1 (tbE h6)), .o 21 (fun _ => o_addstr (x := (status_Text_ai3b_e1 x0)) (y := (status_channels_i_r0_0 x1)) (tbE h7)), .o 22 (fun _ => o_addstr (x := ((status_Text_ai3b_e1 x0) ++ (status_channels_i_r0_0 x1))) (y := (⟨#[32, 115, 117, 115, 112, 101, 99, 116, 32]⟩ : ByteArray)) (tbE h8)), .o 24 (fun _ => o_addstr (x := (status_Text_ai3b_e2 x0 x1)) (y := (⟨#[45]⟩ : ByteArray)) (tbE h9)), .o 25 (fun _ => o_addstr (x := ((status_Text_ai3b_e2 x0 x1) ++ (⟨#[45]⟩ : ByteArray))) (y := (⟨#[32]⟩ : ByteArray)) (tbE h10)), .c (status_Mode_ai3b_t0 x0 x1 x2 x3 (tbE h11)), .o 28 (fun _ => o_addstr (x := (status_Text_ai3b_e5 x0 x1)) (y := (status_Mode_ai3b_r0_0 x0 x1 x2 x3)) (tbE h12))] (by kernel_rfl)
    · cases h3 : tb (strconv_Itoa_i_c0 x2)
      · intro g0
        exact absurd g0 ft
      · cases h4 : tb (status_channels_i_c0 x0)
        · intro g0
          exact absurd g0 ft
        · cases h5 : tb (decide ((⟨#[105, 110, 32]⟩ : ByteArray).size + (status_channels_i_r0_0 x0).size ≤ 9223372036854775807))
          · intro g0
            exact absurd g0 ft
          · cases h6 : tb (decide ((status_Text_ai3b_e0 x0).size + (⟨#[32, 108, 97, 116, 99, 104, 101, 100, 32]⟩ : ByteArray).size ≤ 9223372036854775807))
            · intro g0
              exact absurd g0 ft
            · cases h7 : tb (status_channels_i_c0 x1)
              · intro g0
                exact absurd g0 ft
              · cases h8 : tb (decide ((status_Text_ai3b_e1 x0).size + (status_channels_i_r0_0 x1).size ≤ 9223372036854775807))
                · intro g0
                  exact absurd g0 ft
                · cases h9 : tb (decide (((status_Text_ai3b_e1 x0) ++ (status_channels_i_r0_0 x1)).size + (⟨#[32, 115, 117, 115, 112, 101, 99, 116, 32]⟩ : ByteArray).size ≤ 9223372036854775807))
                  · intro g0
                    exact absurd g0 ft
                  · cases h10 : tb (decide ((status_Text_ai3b_e2 x0 x1).size + (⟨(digs (x2 : Int).toNat).toArray⟩ : ByteArray).size ≤ 9223372036854775807))
                    · intro g0
                      exact absurd g0 ft
                    · cases h11 : tb (decide ((status_Text_ai3b_e3 x0 x1 x2).size + (⟨#[32]⟩ : ByteArray).size ≤ 9223372036854775807))
                      · intro g0
                        exact absurd g0 ft
                      · cases h12 : tb (status_Mode_ai3b_c0 x0 x1 x2 x3)
                        · intro g0
                          exact absurd g0 ft
                        · cases h13 : tb (decide (((status_Text_ai3b_e3 x0 x1 x2) ++ (⟨#[32]⟩ : ByteArray)).size + (status_Mode_ai3b_r0_0 x0 x1 x2 x3).size ≤ 9223372036854775807))
                          · intro g0
                            exact absurd g0 ft
                          · intro g0
                            exact w29 [.c (status_Right_ai3b_t0 x0 x1 x2 x3), .b (notT (tbE h1)), .b (tbE h2), .c (strconv_Itoa_i_t0 x2 (tbE h3)), .c (status_channels_i_t0 x0 (tbE h4)), .o 16 (fun _ => o_addstr (x := (⟨#[105, 110, 32]⟩ : ByteArray)) (y := (status_channels_i_r0_0 x0)) (tbE h5)), .o 17 (fun _ => o_addstr (x := (status_Text_ai3b_e0 x0)) (y := (⟨#[32, 108, 97, 116, 99, 104, 101, 100, 32]⟩ : ByteArray)) (tbE h6)), .c (status_channels_i_t0 x1 (tbE h7)), .o 21 (fun _ => o_addstr (x := (status_Text_ai3b_e1 x0)) (y := (status_channels_i_r0_0 x1)) (tbE h8)), .o 22 (fun _ => o_addstr (x := ((status_Text_ai3b_e1 x0) ++ (status_channels_i_r0_0 x1))) (y := (⟨#[32, 115, 117, 115, 112, 101, 99, 116, 32]⟩ : ByteArray)) (tbE h9)), .o 24 (fun _ => o_addstr (x := (status_Text_ai3b_e2 x0 x1)) (y := (⟨(digs (x2 : Int).toNat).toArray⟩ : ByteArray)) (tbE h10)), .o 25 (fun _ => o_addstr (x := (status_Text_ai3b_e3 x0 x1 x2)) (y := (⟨#[32]⟩ : ByteArray)) (tbE h11)), .c (status_Mode_ai3b_t0 x0 x1 x2 x3 (tbE h12)), .o 28 (fun _ => o_addstr (x := ((status_Text_ai3b_e3 x0 x1 x2) ++ (⟨#[32]⟩ : ByteArray))) (y := (status_Mode_ai3b_r0_0 x0 x1 x2 x3)) (tbE h13))] (by kernel_rfl)
end Go.Proofs.YtkipngagfiaddaaDoor.Den

namespace Go.Proofs.YtkipngagfiaddaaDoor.Den
open Go Go.Proofs
set_option maxRecDepth 100000
set_option maxHeartbeats 4000000
set_option linter.unusedVariables false
set_option linter.unusedSimpArgs false
def word_seq_i_r0_0 (x0 : Int) : Bool := (bif tb (decide (0 ≤ x0)) then (decide (x0 < 65536)) else false)
theorem word_seq_i_t0 (x0 : Int) : cl E0 66 [(V.d (.int .i64 x0))] [] = some ([(V.d (.bool (word_seq_i_r0_0 x0)))], []) := by
  unfold word_seq_i_r0_0
  cases h1 : tb (decide (0 ≤ x0))
  · exact w66 [.b (tbE h1)] (by kernel_rfl)
  · exact w66 [.b (tbE h1)] (by kernel_rfl)
def word_Put2_i_r0_0 (x0 : Int) : Bool := (bif tb (word_seq_i_r0_0 x0) then false else true)
def word_Put2_i_r0_1 (x0 : Int) : List Int := (bif tb (word_seq_i_r0_0 x0) then [(IntKind.u8.wrap (shrI .i64 x0 8)), (IntKind.u8.wrap (x0))] else ([] : List Int))
theorem word_Put2_i_t0 (x0 : Int) : cl E0 31 [(V.d (.int .i64 x0))] [] = some ([(V.so (word_Put2_i_r0_0 x0) 0 ((word_Put2_i_r0_1 x0).length))], [(Blk.flat 5 1 (List.map (encI .u8) (word_Put2_i_r0_1 x0)) false)]) := by
  unfold word_Put2_i_r0_0 word_Put2_i_r0_1
  cases h1 : tb (word_seq_i_r0_0 x0)
  · exact w31 [.c (word_seq_i_t0 x0), .b (notF (tbE h1))] (by kernel_rfl)
  · exact w31 [.c (word_seq_i_t0 x0), .b (notT (tbE h1)), .o 7 (fun _ => o_shr (k := .i64) (k2 := .u64) (x := x0) (y := 8) rfl)] (by kernel_rfl)
end Go.Proofs.YtkipngagfiaddaaDoor.Den

namespace Go.Proofs.YtkipngagfiaddaaDoor.Den
open Go Go.Proofs
set_option maxRecDepth 100000
set_option maxHeartbeats 4000000
set_option linter.unusedVariables false
set_option linter.unusedSimpArgs false
theorem law16_StatusBack_S0_t0 (x0 : Int) (x1 : Int) (x2 : Int) (x3 : Bool) (x4 : Bool) (x5 : Int) : segG (runC E0 (cl E0) S7_0) [1, 2] [] [1, 2, 5, 6] 1 ([(V.d (.int .i64 x5)), (V.ptr 0 1 0 0)], [(Blk.flat 42 4 [[(.int .i64 x0), (.int .i64 x1), (.int .i64 x2), (.bool x3)]] x4)]) = some (.normal, ([(V.d (.int .i64 x5)), (V.ptr 0 1 0 0), (V.d (.int .i64 (status_Word_ai3b_r0_0 x0 x1 x2 x3))), (V.d (.int .i64 (status_Word_ai3b_r0_1 x0 x1 x2 x3)))], [(Blk.flat 42 4 [[(.int .i64 x0), (.int .i64 x1), (.int .i64 x2), (.bool x3)]] x4)])) := by
  exact seg_walk [.c (status_Word_ai3b_t0 x0 x1 x2 x3)] (by kernel_rfl)
def law16_StatusBack_S1_e0 (x0 : Int) (x1 : Int) (x2 : Int) (x3 : Bool) (x6 : Int) : Bool := (true != ((((status_Parse_i_r0_0 x6) : Int) == x0) && ((((status_Parse_i_r0_1 x6) : Int) == x1) && ((((status_Parse_i_r0_2 x6) : Int) == x2) && (((status_Parse_i_r0_3 x6) == x3) && true)))))
def law16_StatusBack_S1_c0 (x0 : Int) (x1 : Int) (x2 : Int) (x3 : Bool) (x6 : Int) : Bool := (bif tb (((status_Parse_i_r0_4 x6) : Int) != 0) then true else (bif tb (law16_StatusBack_S1_e0 x0 x1 x2 x3 x6) then true else (bif tb (((((word_Put2_i_r0_1 x6).length : Nat) : Int) : Int) != 2) then true else (bif tb (status_Mode_ai3b_c0 x0 x1 x2 x3) then (bif tb ((status_Mode_ai3b_r0_0 x0 x1 x2 x3).toList == (⟨#[]⟩ : ByteArray).toList) then true else (bif tb (status_Text_ai3b_c0 x0 x1 x2 x3) then true else false)) else false))))
def law16_StatusBack_S1_r0_1 (x0 : Int) (x1 : Int) (x2 : Int) (x3 : Bool) (x6 : Int) : Bool := (bif tb (((status_Parse_i_r0_4 x6) : Int) != 0) then true else (bif tb (law16_StatusBack_S1_e0 x0 x1 x2 x3 x6) then true else (bif tb (((((word_Put2_i_r0_1 x6).length : Nat) : Int) : Int) != 2) then true else (bif tb ((status_Mode_ai3b_r0_0 x0 x1 x2 x3).toList == (⟨#[]⟩ : ByteArray).toList) then true else ((status_Text_ai3b_r0_0 x0 x1 x2 x3).toList == (⟨#[]⟩ : ByteArray).toList)))))
theorem law16_StatusBack_S1_t0 (x0 : Int) (x1 : Int) (x2 : Int) (x3 : Bool) (x4 : Bool) (x5 : Int) (x6 : Int) : law16_StatusBack_S1_c0 x0 x1 x2 x3 x6 = true → segG (runC E0 (cl E0) S7_1) [1, 2, 5] [] [1, 52] 1 ([(V.d (.int .i64 x5)), (V.ptr 0 1 0 0), (V.d (.int .i64 x6))], [(Blk.flat 42 4 [[(.int .i64 x0), (.int .i64 x1), (.int .i64 x2), (.bool x3)]] x4)]) = some (.normal, ([(V.d (.int .i64 x5)), (V.d (.bool (law16_StatusBack_S1_r0_1 x0 x1 x2 x3 x6)))], [(Blk.flat 42 4 [[(.int .i64 x0), (.int .i64 x1), (.int .i64 x2), (.bool x3)]] x4)])) := by
  unfold law16_StatusBack_S1_c0 law16_StatusBack_S1_r0_1
  cases h1 : tb (((status_Parse_i_r0_4 x6) : Int) != 0)
  · cases h2 : tb (law16_StatusBack_S1_e0 x0 x1 x2 x3 x6)
    · cases h3 : tb (((((word_Put2_i_r0_1 x6).length : Nat) : Int) : Int) != 2)
      · cases h4 : tb (status_Mode_ai3b_c0 x0 x1 x2 x3)
        · intro g0
          exact absurd g0 ft
        · cases h5 : tb ((status_Mode_ai3b_r0_0 x0 x1 x2 x3).toList == (⟨#[]⟩ : ByteArray).toList)
          · cases h6 : tb (status_Text_ai3b_c0 x0 x1 x2 x3)
            · intro g0
              exact absurd g0 ft
            · intro g0
              exact seg_walk [.c (status_Parse_i_t0 x6), .b (tbE h1), .b (tbE h2), .c (word_Put2_i_t0 x6), .b (tbE h3), .c (status_Mode_ai3b_t0 x0 x1 x2 x3 (tbE h4)), .b (tbE h5), .c (status_Text_ai3b_t0 x0 x1 x2 x3 (tbE h6))] (by kernel_rfl)
          · intro g0
            exact seg_walk [.c (status_Parse_i_t0 x6), .b (tbE h1), .b (tbE h2), .c (word_Put2_i_t0 x6), .b (tbE h3), .c (status_Mode_ai3b_t0 x0 x1 x2 x3 (tbE h4)), .b (tbE h5)] (by kernel_rfl)
      · intro g0
        exact seg_walk [.c (status_Parse_i_t0 x6), .b (tbE h1), .b (tbE h2), .c (word_Put2_i_t0 x6), .b (tbE h3)] (by kernel_rfl)
    · intro g0
      exact seg_walk [.c (status_Parse_i_t0 x6), .b (tbE h1), .b (tbE h2)] (by kernel_rfl)
  · intro g0
    exact seg_walk [.c (status_Parse_i_t0 x6), .b (tbE h1)] (by kernel_rfl)
def law16_StatusBack_S2_c0 (x0 : Int) (x1 : Int) (x2 : Int) (x3 : Bool) (x6 : Int) (x7 : Int) : Bool := (bif tb ((x7 : Int) == 0) then (bif tb (law16_StatusBack_S1_c0 x0 x1 x2 x3 x6) then (bif tb (law16_StatusBack_S1_r0_1 x0 x1 x2 x3 x6) then true else false) else false) else false)
def law16_StatusBack_S2_c1 (x0 : Int) (x1 : Int) (x2 : Int) (x3 : Bool) (x6 : Int) (x7 : Int) : Bool := (bif tb ((x7 : Int) == 0) then (bif tb (law16_StatusBack_S1_c0 x0 x1 x2 x3 x6) then (bif tb (law16_StatusBack_S1_r0_1 x0 x1 x2 x3 x6) then false else true) else false) else true)
theorem law16_StatusBack_S2_t0 (x0 : Int) (x1 : Int) (x2 : Int) (x3 : Bool) (x4 : Bool) (x5 : Int) (x6 : Int) (x7 : Int) : law16_StatusBack_S2_c0 x0 x1 x2 x3 x6 x7 = true → segG (runC E0 (cl E0) S7_2) [1, 2, 5, 6] [4] [1] 1 ([(V.d (.int .i64 x5)), (V.ptr 0 1 0 0), (V.d (.int .i64 x6)), (V.d (.int .i64 x7))], [(Blk.flat 42 4 [[(.int .i64 x0), (.int .i64 x1), (.int .i64 x2), (.bool x3)]] x4)]) = some (.ret, ([(V.d (.bool false))], [(Blk.flat 42 4 [[(.int .i64 x0), (.int .i64 x1), (.int .i64 x2), (.bool x3)]] x4)])) := by
  unfold law16_StatusBack_S2_c0
  cases h1 : tb ((x7 : Int) == 0)
  · intro g0
    exact absurd g0 ft
  · cases h2 : tb (law16_StatusBack_S1_c0 x0 x1 x2 x3 x6)
    · intro g0
      exact absurd g0 ft
    · cases h3 : tb (law16_StatusBack_S1_r0_1 x0 x1 x2 x3 x6)
      · intro g0
        exact absurd g0 ft
      · intro g0
        exact seg_walk [.b (tbE h1), .s (law16_StatusBack_S1_t0 x0 x1 x2 x3 x4 x5 x6 (tbE h2)), .b (tbE h3)] (by kernel_rfl)
theorem law16_StatusBack_S2_t1 (x0 : Int) (x1 : Int) (x2 : Int) (x3 : Bool) (x4 : Bool) (x5 : Int) (x6 : Int) (x7 : Int) : law16_StatusBack_S2_c0 x0 x1 x2 x3 x6 x7 = false → law16_StatusBack_S2_c1 x0 x1 x2 x3 x6 x7 = true → segG (runC E0 (cl E0) S7_2) [1, 2, 5, 6] [4] [1] 1 ([(V.d (.int .i64 x5)), (V.ptr 0 1 0 0), (V.d (.int .i64 x6)), (V.d (.int .i64 x7))], [(Blk.flat 42 4 [[(.int .i64 x0), (.int .i64 x1), (.int .i64 x2), (.bool x3)]] x4)]) = some (.normal, ([(V.d (.int .i64 x5))], [(Blk.flat 42 4 [[(.int .i64 x0), (.int .i64 x1), (.int .i64 x2), (.bool x3)]] x4)])) := by
  unfold law16_StatusBack_S2_c0 law16_StatusBack_S2_c1
  cases h1 : tb ((x7 : Int) == 0)
  · intro g0 g1
    exact seg_walk [.b (tbE h1)] (by kernel_rfl)
  · cases h2 : tb (law16_StatusBack_S1_c0 x0 x1 x2 x3 x6)
    · intro g0 g1
      exact absurd g1 ft
    · cases h3 : tb (law16_StatusBack_S1_r0_1 x0 x1 x2 x3 x6)
      · intro g0 g1
        exact seg_walk [.b (tbE h1), .s (law16_StatusBack_S1_t0 x0 x1 x2 x3 x4 x5 x6 (tbE h2)), .b (tbE h3)] (by kernel_rfl)
      · intro g0 g1
        exact absurd g0 tf
def law16_StatusBack_S3_e0 (x5 : Int) : Bool := (false != ((((status_Parse_i_r0_0 x5) : Int) == 0) && ((((status_Parse_i_r0_1 x5) : Int) == 0) && ((((status_Parse_i_r0_2 x5) : Int) == 0) && (((status_Parse_i_r0_3 x5) == false) && true)))))
def law16_StatusBack_S3_c0 (x5 : Int) : Bool := (bif tb (((status_Parse_i_r0_4 x5) : Int) != 0) then true else false)
def law16_StatusBack_S3_c1 (x5 : Int) : Bool := (bif tb (((status_Parse_i_r0_4 x5) : Int) != 0) then false else (bif tb (((status_Word_ai3b_r0_1 (status_Parse_i_r0_0 x5) (status_Parse_i_r0_1 x5) (status_Parse_i_r0_2 x5) (status_Parse_i_r0_3 x5)) : Int) == 0) then (bif tb (((status_Word_ai3b_r0_0 (status_Parse_i_r0_0 x5) (status_Parse_i_r0_1 x5) (status_Parse_i_r0_2 x5) (status_Parse_i_r0_3 x5)) : Int) == x5) then (bif tb (false != ((status_Parse_i_r0_3 x5) == (((fix_Count_i_r0_0 (status_Parse_i_r0_0 x5)) : Int) == 0))) then (bif tb (((status_Parse_i_r0_2 x5) : Int) == (-1)) then (bif tb (status_Mode_ai3b_c0 (status_Parse_i_r0_0 x5) (status_Parse_i_r0_1 x5) (status_Parse_i_r0_2 x5) (status_Parse_i_r0_3 x5)) then true else false) else (bif tb (fix_Has_ii_r0_0 (status_Parse_i_r0_0 x5) (status_Parse_i_r0_2 x5)) then (bif tb (status_Mode_ai3b_c0 (status_Parse_i_r0_0 x5) (status_Parse_i_r0_1 x5) (status_Parse_i_r0_2 x5) (status_Parse_i_r0_3 x5)) then true else false) else true)) else true) else true) else true))
def law16_StatusBack_S3_r1_0 (x5 : Int) : Bool := (bif tb (((status_Word_ai3b_r0_1 (status_Parse_i_r0_0 x5) (status_Parse_i_r0_1 x5) (status_Parse_i_r0_2 x5) (status_Parse_i_r0_3 x5)) : Int) == 0) then (bif tb (((status_Word_ai3b_r0_0 (status_Parse_i_r0_0 x5) (status_Parse_i_r0_1 x5) (status_Parse_i_r0_2 x5) (status_Parse_i_r0_3 x5)) : Int) == x5) then (bif tb (false != ((status_Parse_i_r0_3 x5) == (((fix_Count_i_r0_0 (status_Parse_i_r0_0 x5)) : Int) == 0))) then (bif tb (((status_Parse_i_r0_2 x5) : Int) == (-1)) then (false != (((status_Mode_ai3b_r0_0 (status_Parse_i_r0_0 x5) (status_Parse_i_r0_1 x5) (status_Parse_i_r0_2 x5) (status_Parse_i_r0_3 x5)).toList == (⟨#[104, 111, 108, 100]⟩ : ByteArray).toList) == (status_Parse_i_r0_3 x5))) else (bif tb (fix_Has_ii_r0_0 (status_Parse_i_r0_0 x5) (status_Parse_i_r0_2 x5)) then (false != (((status_Mode_ai3b_r0_0 (status_Parse_i_r0_0 x5) (status_Parse_i_r0_1 x5) (status_Parse_i_r0_2 x5) (status_Parse_i_r0_3 x5)).toList == (⟨#[104, 111, 108, 100]⟩ : ByteArray).toList) == (status_Parse_i_r0_3 x5))) else false)) else false) else false) else false)
theorem law16_StatusBack_S3_t0 (x0 : Int) (x1 : Int) (x2 : Int) (x3 : Bool) (x4 : Bool) (x5 : Int) : law16_StatusBack_S3_c0 x5 = true → segG (runC E0 (cl E0) S7_3) [1] [4] [4] 1 ([(V.d (.int .i64 x5))], [(Blk.flat 42 4 [[(.int .i64 x0), (.int .i64 x1), (.int .i64 x2), (.bool x3)]] x4)]) = some (.ret, ([(V.d (.bool (law16_StatusBack_S3_e0 x5)))], [(Blk.flat 42 4 [[(.int .i64 x0), (.int .i64 x1), (.int .i64 x2), (.bool x3)]] x4)])) := by
  unfold law16_StatusBack_S3_c0
  cases h1 : tb (((status_Parse_i_r0_4 x5) : Int) != 0)
  · cases h2 : tb (((status_Word_ai3b_r0_1 (status_Parse_i_r0_0 x5) (status_Parse_i_r0_1 x5) (status_Parse_i_r0_2 x5) (status_Parse_i_r0_3 x5)) : Int) == 0)
    · intro g0
      exact absurd g0 ft
    · cases h3 : tb (((status_Word_ai3b_r0_0 (status_Parse_i_r0_0 x5) (status_Parse_i_r0_1 x5) (status_Parse_i_r0_2 x5) (status_Parse_i_r0_3 x5)) : Int) == x5)
      · intro g0
        exact absurd g0 ft
      · cases h4 : tb (false != ((status_Parse_i_r0_3 x5) == (((fix_Count_i_r0_0 (status_Parse_i_r0_0 x5)) : Int) == 0)))
        · intro g0
          exact absurd g0 ft
        · cases h5 : tb (((status_Parse_i_r0_2 x5) : Int) == (-1))
          · cases h6 : tb (fix_Has_ii_r0_0 (status_Parse_i_r0_0 x5) (status_Parse_i_r0_2 x5))
            · intro g0
              exact absurd g0 ft
            · cases h7 : tb (status_Mode_ai3b_c0 (status_Parse_i_r0_0 x5) (status_Parse_i_r0_1 x5) (status_Parse_i_r0_2 x5) (status_Parse_i_r0_3 x5))
              · intro g0
                exact absurd g0 ft
              · intro g0
                exact absurd g0 ft
          · cases h6 : tb (status_Mode_ai3b_c0 (status_Parse_i_r0_0 x5) (status_Parse_i_r0_1 x5) (status_Parse_i_r0_2 x5) (status_Parse_i_r0_3 x5))
            · intro g0
              exact absurd g0 ft
            · intro g0
              exact absurd g0 ft
  · intro g0
    exact seg_walk [.c (status_Parse_i_t0 x5), .b (tbE h1), .c (law16_alive_t0), .k true] (by kernel_rfl)
theorem law16_StatusBack_S3_t1 (x0 : Int) (x1 : Int) (x2 : Int) (x3 : Bool) (x4 : Bool) (x5 : Int) : law16_StatusBack_S3_c0 x5 = false → law16_StatusBack_S3_c1 x5 = true → segG (runC E0 (cl E0) S7_3) [1] [4] [4] 1 ([(V.d (.int .i64 x5))], [(Blk.flat 42 4 [[(.int .i64 x0), (.int .i64 x1), (.int .i64 x2), (.bool x3)]] x4)]) = some (.normal, ([(V.d (.bool (law16_StatusBack_S3_r1_0 x5)))], [(Blk.flat 42 4 [[(.int .i64 x0), (.int .i64 x1), (.int .i64 x2), (.bool x3)]] x4)])) := by
  unfold law16_StatusBack_S3_c0 law16_StatusBack_S3_c1 law16_StatusBack_S3_r1_0
  cases h1 : tb (((status_Parse_i_r0_4 x5) : Int) != 0)
  · cases h2 : tb (((status_Word_ai3b_r0_1 (status_Parse_i_r0_0 x5) (status_Parse_i_r0_1 x5) (status_Parse_i_r0_2 x5) (status_Parse_i_r0_3 x5)) : Int) == 0)
    · intro g0 g1
      exact seg_walk [.c (status_Parse_i_t0 x5), .b (tbE h1), .c (status_Word_ai3b_t0 (status_Parse_i_r0_0 x5) (status_Parse_i_r0_1 x5) (status_Parse_i_r0_2 x5) (status_Parse_i_r0_3 x5)), .c (law16_alive_t0), .k true, .b (tbE h2)] (by kernel_rfl)
    · cases h3 : tb (((status_Word_ai3b_r0_0 (status_Parse_i_r0_0 x5) (status_Parse_i_r0_1 x5) (status_Parse_i_r0_2 x5) (status_Parse_i_r0_3 x5)) : Int) == x5)
      · intro g0 g1
        exact seg_walk [.c (status_Parse_i_t0 x5), .b (tbE h1), .c (status_Word_ai3b_t0 (status_Parse_i_r0_0 x5) (status_Parse_i_r0_1 x5) (status_Parse_i_r0_2 x5) (status_Parse_i_r0_3 x5)), .c (law16_alive_t0), .k true, .b (tbE h2), .b (tbE h3)] (by kernel_rfl)
      · cases h4 : tb (false != ((status_Parse_i_r0_3 x5) == (((fix_Count_i_r0_0 (status_Parse_i_r0_0 x5)) : Int) == 0)))
        · intro g0 g1
          exact seg_walk [.c (status_Parse_i_t0 x5), .b (tbE h1), .c (status_Word_ai3b_t0 (status_Parse_i_r0_0 x5) (status_Parse_i_r0_1 x5) (status_Parse_i_r0_2 x5) (status_Parse_i_r0_3 x5)), .c (law16_alive_t0), .k true, .b (tbE h2), .b (tbE h3), .c (fix_Count_i_t0 (status_Parse_i_r0_0 x5)), .b (tbE h4)] (by kernel_rfl)
        · cases h5 : tb (((status_Parse_i_r0_2 x5) : Int) == (-1))
          · cases h6 : tb (fix_Has_ii_r0_0 (status_Parse_i_r0_0 x5) (status_Parse_i_r0_2 x5))
            · intro g0 g1
              exact seg_walk [.c (status_Parse_i_t0 x5), .b (tbE h1), .c (status_Word_ai3b_t0 (status_Parse_i_r0_0 x5) (status_Parse_i_r0_1 x5) (status_Parse_i_r0_2 x5) (status_Parse_i_r0_3 x5)), .c (law16_alive_t0), .k true, .b (tbE h2), .b (tbE h3), .c (fix_Count_i_t0 (status_Parse_i_r0_0 x5)), .b (tbE h4), .b (tbE h5), .c (fix_Has_ii_t0 (status_Parse_i_r0_0 x5) (status_Parse_i_r0_2 x5)), .b (tbE h6)] (by kernel_rfl)
            · cases h7 : tb (status_Mode_ai3b_c0 (status_Parse_i_r0_0 x5) (status_Parse_i_r0_1 x5) (status_Parse_i_r0_2 x5) (status_Parse_i_r0_3 x5))
              · intro g0 g1
                exact absurd g1 ft
              · intro g0 g1
                exact seg_walk [.c (status_Parse_i_t0 x5), .b (tbE h1), .c (status_Word_ai3b_t0 (status_Parse_i_r0_0 x5) (status_Parse_i_r0_1 x5) (status_Parse_i_r0_2 x5) (status_Parse_i_r0_3 x5)), .c (law16_alive_t0), .k true, .b (tbE h2), .b (tbE h3), .c (fix_Count_i_t0 (status_Parse_i_r0_0 x5)), .b (tbE h4), .b (tbE h5), .c (fix_Has_ii_t0 (status_Parse_i_r0_0 x5) (status_Parse_i_r0_2 x5)), .b (tbE h6), .c (status_Mode_ai3b_t0 (status_Parse_i_r0_0 x5) (status_Parse_i_r0_1 x5) (status_Parse_i_r0_2 x5) (status_Parse_i_r0_3 x5) (tbE h7))] (by kernel_rfl)
          · cases h6 : tb (status_Mode_ai3b_c0 (status_Parse_i_r0_0 x5) (status_Parse_i_r0_1 x5) (status_Parse_i_r0_2 x5) (status_Parse_i_r0_3 x5))
            · intro g0 g1
              exact absurd g1 ft
            · intro g0 g1
              exact seg_walk [.c (status_Parse_i_t0 x5), .b (tbE h1), .c (status_Word_ai3b_t0 (status_Parse_i_r0_0 x5) (status_Parse_i_r0_1 x5) (status_Parse_i_r0_2 x5) (status_Parse_i_r0_3 x5)), .c (law16_alive_t0), .k true, .b (tbE h2), .b (tbE h3), .c (fix_Count_i_t0 (status_Parse_i_r0_0 x5)), .b (tbE h4), .b (tbE h5), .c (status_Mode_ai3b_t0 (status_Parse_i_r0_0 x5) (status_Parse_i_r0_1 x5) (status_Parse_i_r0_2 x5) (status_Parse_i_r0_3 x5) (tbE h6))] (by kernel_rfl)
  · intro g0 g1
    exact absurd g0 tf
def law16_StatusBack_c0 (x0 : Int) (x1 : Int) (x2 : Int) (x3 : Bool) (x4 : Int) : Bool := (bif tb (true != ((((status_Word_ai3b_r0_1 x0 x1 x2 x3) : Int) == 0) == (status_Right_ai3b_S1_r0_0 x0 x1 x3 (status_Right_ai3b_S0_r0_0 x0 x2)))) then true else (bif tb (law16_StatusBack_S2_c0 x0 x1 x2 x3 (status_Word_ai3b_r0_0 x0 x1 x2 x3) (status_Word_ai3b_r0_1 x0 x1 x2 x3)) then true else (bif tb (law16_StatusBack_S2_c1 x0 x1 x2 x3 (status_Word_ai3b_r0_0 x0 x1 x2 x3) (status_Word_ai3b_r0_1 x0 x1 x2 x3)) then (bif tb (law16_StatusBack_S3_c0 x4) then true else (bif tb (law16_StatusBack_S3_c1 x4) then true else false)) else false)))
def law16_StatusBack_r0_0 (x0 : Int) (x1 : Int) (x2 : Int) (x3 : Bool) (x4 : Int) : Bool := (bif tb (true != ((((status_Word_ai3b_r0_1 x0 x1 x2 x3) : Int) == 0) == (status_Right_ai3b_S1_r0_0 x0 x1 x3 (status_Right_ai3b_S0_r0_0 x0 x2)))) then false else (bif tb (law16_StatusBack_S2_c0 x0 x1 x2 x3 (status_Word_ai3b_r0_0 x0 x1 x2 x3) (status_Word_ai3b_r0_1 x0 x1 x2 x3)) then false else (bif tb (law16_StatusBack_S3_c0 x4) then (law16_StatusBack_S3_e0 x4) else (law16_StatusBack_S3_r1_0 x4))))
theorem law16_StatusBack_t0 (x0 : Int) (x1 : Int) (x2 : Int) (x3 : Bool) (x4 : Int) : law16_StatusBack_c0 x0 x1 x2 x3 x4 = true → cl E0 7 [(V.agg [(V.d (.int .i64 x0)), (V.d (.int .i64 x1)), (V.d (.int .i64 x2)), (V.d (.bool x3))]), (V.d (.int .i64 x4))] [] = some ([(V.d (.bool (law16_StatusBack_r0_0 x0 x1 x2 x3 x4)))], []) := by
  unfold law16_StatusBack_c0 law16_StatusBack_r0_0
  cases h1 : tb (true != ((((status_Word_ai3b_r0_1 x0 x1 x2 x3) : Int) == 0) == (status_Right_ai3b_S1_r0_0 x0 x1 x3 (status_Right_ai3b_S0_r0_0 x0 x2))))
  · cases h2 : tb (law16_StatusBack_S2_c0 x0 x1 x2 x3 (status_Word_ai3b_r0_0 x0 x1 x2 x3) (status_Word_ai3b_r0_1 x0 x1 x2 x3))
    · cases h3 : tb (law16_StatusBack_S2_c1 x0 x1 x2 x3 (status_Word_ai3b_r0_0 x0 x1 x2 x3) (status_Word_ai3b_r0_1 x0 x1 x2 x3))
      · intro g0
        exact absurd g0 ft
      · cases h4 : tb (law16_StatusBack_S3_c0 x4)
        · cases h5 : tb (law16_StatusBack_S3_c1 x4)
          · intro g0
            exact absurd g0 ft
          · intro g0
            exact w7 [.s (law16_StatusBack_S0_t0 x0 x1 x2 x3 false x4), .c (status_Right_ai3b_t0 x0 x1 x2 x3), .b (tbE h1), .s (law16_StatusBack_S2_t1 x0 x1 x2 x3 false x4 (status_Word_ai3b_r0_0 x0 x1 x2 x3) (status_Word_ai3b_r0_1 x0 x1 x2 x3) (tbE h2) (tbE h3)), .s (law16_StatusBack_S3_t1 x0 x1 x2 x3 false x4 (tbE h4) (tbE h5))] (by kernel_rfl)
        · intro g0
          exact w7 [.s (law16_StatusBack_S0_t0 x0 x1 x2 x3 false x4), .c (status_Right_ai3b_t0 x0 x1 x2 x3), .b (tbE h1), .s (law16_StatusBack_S2_t1 x0 x1 x2 x3 false x4 (status_Word_ai3b_r0_0 x0 x1 x2 x3) (status_Word_ai3b_r0_1 x0 x1 x2 x3) (tbE h2) (tbE h3)), .s (law16_StatusBack_S3_t0 x0 x1 x2 x3 false x4 (tbE h4))] (by kernel_rfl)
    · intro g0
      exact w7 [.s (law16_StatusBack_S0_t0 x0 x1 x2 x3 false x4), .c (status_Right_ai3b_t0 x0 x1 x2 x3), .b (tbE h1), .s (law16_StatusBack_S2_t0 x0 x1 x2 x3 false x4 (status_Word_ai3b_r0_0 x0 x1 x2 x3) (status_Word_ai3b_r0_1 x0 x1 x2 x3) (tbE h2))] (by kernel_rfl)
  · intro g0
    exact w7 [.s (law16_StatusBack_S0_t0 x0 x1 x2 x3 false x4), .c (status_Right_ai3b_t0 x0 x1 x2 x3), .b (tbE h1)] (by kernel_rfl)
end Go.Proofs.YtkipngagfiaddaaDoor.Den

namespace Go.Proofs.YtkipngagfiaddaaDoor.Den
open Go Go.Proofs
set_option linter.unusedVariables false
set_option linter.unusedSimpArgs false
set_option maxRecDepth 100000
def chkT (x0 x1 x2 : Int) (x3 : Bool) : Bool :=
  (!(true != ((((status_Word_ai3b_r0_1 x0 x1 x2 x3) : Int) == 0) == (status_Right_ai3b_S1_r0_0 x0 x1 x3 (status_Right_ai3b_S0_r0_0 x0 x2)))) &&
   !(law16_StatusBack_S2_c0 x0 x1 x2 x3 (status_Word_ai3b_r0_0 x0 x1 x2 x3) (status_Word_ai3b_r0_1 x0 x1 x2 x3))) && law16_StatusBack_S2_c1 x0 x1 x2 x3 (status_Word_ai3b_r0_0 x0 x1 x2 x3) (status_Word_ai3b_r0_1 x0 x1 x2 x3)
def chkTK (k : Nat) : Bool := chkT ((k / 160 : Nat) : Int) ((k / 10 % 16 : Nat) : Int) (((k / 2 % 5 : Nat) : Int) - 1) (k % 2 == 1)
def chkTB (a : Nat) : Bool := (List.range 160).all fun k => chkTK (160 * a + k)
def chkW (n : Nat) : Bool := cond (law16_StatusBack_S3_c0 (n : Int)) (law16_StatusBack_S3_e0 (n : Int)) (law16_StatusBack_S3_c1 (n : Int) && law16_StatusBack_S3_r1_0 (n : Int))
end Go.Proofs.YtkipngagfiaddaaDoor.Den

namespace Go.Proofs.YtkipngagfiaddaaDoor.Den
open Go Go.Proofs
set_option maxRecDepth 100000
theorem chkTB_0 : chkTB 0 = true := by kernel_rfl
theorem chkTB_1 : chkTB 1 = true := by kernel_rfl
theorem chkTB_2 : chkTB 2 = true := by kernel_rfl
theorem chkTB_3 : chkTB 3 = true := by kernel_rfl
theorem chkW_all : (List.range 4096).all chkW = true := by kernel_rfl
end Go.Proofs.YtkipngagfiaddaaDoor.Den

namespace Go.Proofs.YtkipngagfiaddaaDoor.Den
open Go Go.Proofs
set_option maxRecDepth 100000
theorem chkTB_4 : chkTB 4 = true := by kernel_rfl
theorem chkTB_5 : chkTB 5 = true := by kernel_rfl
theorem chkTB_6 : chkTB 6 = true := by kernel_rfl
theorem chkTB_7 : chkTB 7 = true := by kernel_rfl
end Go.Proofs.YtkipngagfiaddaaDoor.Den

namespace Go.Proofs.YtkipngagfiaddaaDoor.Den
open Go Go.Proofs
set_option maxRecDepth 100000
theorem chkTB_8 : chkTB 8 = true := by kernel_rfl
theorem chkTB_9 : chkTB 9 = true := by kernel_rfl
theorem chkTB_10 : chkTB 10 = true := by kernel_rfl
theorem chkTB_11 : chkTB 11 = true := by kernel_rfl
end Go.Proofs.YtkipngagfiaddaaDoor.Den

namespace Go.Proofs.YtkipngagfiaddaaDoor.Den
open Go Go.Proofs
set_option maxRecDepth 100000
theorem chkTB_12 : chkTB 12 = true := by kernel_rfl
theorem chkTB_13 : chkTB 13 = true := by kernel_rfl
theorem chkTB_14 : chkTB 14 = true := by kernel_rfl
theorem chkTB_15 : chkTB 15 = true := by kernel_rfl
end Go.Proofs.YtkipngagfiaddaaDoor.Den

namespace Go.Proofs.YtkipngagfiaddaaDoor.Den
open Go Go.Proofs
set_option linter.unusedVariables false
set_option linter.unusedSimpArgs false
set_option maxRecDepth 100000
theorem all_belowT {n : Nat} {f : Nat → Bool} (h : (List.range n).all f = true) {k : Nat} (hk : k < n) : f k = true := List.all_eq_true.1 h k (List.mem_range.2 hk)
theorem chkTB_all {a : Nat} (h : a < 16) : chkTB a = true := by
  rcases (by omega : a = 0 ∨ a = 1 ∨ a = 2 ∨ a = 3 ∨ a = 4 ∨ a = 5 ∨ a = 6 ∨ a = 7 ∨ a = 8 ∨ a = 9 ∨ a = 10 ∨ a = 11 ∨ a = 12 ∨ a = 13 ∨ a = 14 ∨ a = 15) with rfl | rfl | rfl | rfl | rfl | rfl | rfl | rfl | rfl | rfl | rfl | rfl | rfl | rfl | rfl | rfl
  · exact chkTB_0
  · exact chkTB_1
  · exact chkTB_2
  · exact chkTB_3
  · exact chkTB_4
  · exact chkTB_5
  · exact chkTB_6
  · exact chkTB_7
  · exact chkTB_8
  · exact chkTB_9
  · exact chkTB_10
  · exact chkTB_11
  · exact chkTB_12
  · exact chkTB_13
  · exact chkTB_14
  · exact chkTB_15
theorem chkT_in {x0 x1 x2 : Int} {x3 : Bool} (h0 : 0 ≤ x0 ∧ x0 ≤ 15) (h1 : 0 ≤ x1 ∧ x1 ≤ 15) (h2 : -1 ≤ x2 ∧ x2 ≤ 3) : chkT x0 x1 x2 x3 = true := by
  obtain ⟨b, hb, hb3⟩ : ∃ b : Nat, b < 2 ∧ (b == 1) = x3 := by cases x3 with | false => exact ⟨0, by omega, rfl⟩ | true => exact ⟨1, by omega, rfl⟩
  have h := all_belowT (chkTB_all (a := x0.toNat) (by omega)) (k := x1.toNat * 10 + (x2 + 1).toNat * 2 + b) (by omega)
  rw [show 160 * x0.toNat + (x1.toNat * 10 + (x2 + 1).toNat * 2 + b) = x0.toNat * 160 + x1.toNat * 10 + (x2 + 1).toNat * 2 + b by omega] at h
  unfold chkTK at h
  rw [show (x0.toNat * 160 + x1.toNat * 10 + (x2 + 1).toNat * 2 + b) / 160 = x0.toNat by omega, show (x0.toNat * 160 + x1.toNat * 10 + (x2 + 1).toNat * 2 + b) / 10 % 16 = x1.toNat by omega,
    show (x0.toNat * 160 + x1.toNat * 10 + (x2 + 1).toNat * 2 + b) / 2 % 5 = (x2 + 1).toNat by omega, show (x0.toNat * 160 + x1.toNat * 10 + (x2 + 1).toNat * 2 + b) % 2 = b by omega, hb3,
    show ((x0.toNat : Nat) : Int) = x0 by omega, show ((x1.toNat : Nat) : Int) = x1 by omega, show (((x2 + 1).toNat : Nat) : Int) - 1 = x2 by omega] at h
  exact h
theorem right_outT {x0 x1 x2 : Int} (x3 : Bool) (h : ¬ ((0 ≤ x0 ∧ x0 ≤ 15) ∧ (0 ≤ x1 ∧ x1 ≤ 15) ∧ (-1 ≤ x2 ∧ x2 ≤ 3))) :
    status_Right_ai3b_S1_r0_0 x0 x1 x3 (status_Right_ai3b_S0_r0_0 x0 x2) = false := by
  have hm : ∀ x : Int, status_masked_i_r0_0 x = (decide (0 ≤ x) && decide (x ≤ 15)) := fun x => by
    simp only [status_masked_i_r0_0, tb_eq]; cases decide (0 ≤ x) <;> rfl
  have hr : status_Right_ai3b_S1_r0_0 x0 x1 x3 (status_Right_ai3b_S0_r0_0 x0 x2) = false := by
    simp only [status_Right_ai3b_S1_r0_0, hm, tb_eq]
    by_cases a1 : 0 ≤ x0 ∧ x0 ≤ 15
    · by_cases a2 : 0 ≤ x1 ∧ x1 ≤ 15
      · have h0 : status_Right_ai3b_S0_r0_0 x0 x2 = false := by
          have n1 : (x2 == -1) = false := by rw [beq_eq_false_iff_ne]; omega
          simp only [status_Right_ai3b_S0_r0_0, n1, tb_eq, cond_false]
          by_cases a3 : 0 ≤ x2
          · have : ¬ x2 < 4 := by omega
            simp [a3, this]
          · simp [a3]
        rw [h0]
        cases (decide (0 ≤ x0) && decide (x0 ≤ 15)) <;> cases (decide (0 ≤ x1) && decide (x1 ≤ 15)) <;> cases (false != (x3 == (x0 == 0))) <;> rfl
      · have : (decide (0 ≤ x1) && decide (x1 ≤ 15)) = false := by
          rw [← Bool.decide_and]; exact decide_eq_false a2
        rw [this]; cases (decide (0 ≤ x0) && decide (x0 ≤ 15)) <;> rfl
    · have : (decide (0 ≤ x0) && decide (x0 ≤ 15)) = false := by
        rw [← Bool.decide_and]; exact decide_eq_false a1
      rw [this]; rfl
  exact hr
theorem chkT_every (x0 x1 x2 : Int) (x3 : Bool) : chkT x0 x1 x2 x3 = true := by
  by_cases h : (0 ≤ x0 ∧ x0 ≤ 15) ∧ (0 ≤ x1 ∧ x1 ≤ 15) ∧ (-1 ≤ x2 ∧ x2 ≤ 3)
  · exact chkT_in h.1 h.2.1 h.2.2
  · have r1 := right_outT x3 h
    have e1 : status_Word_ai3b_r0_1 x0 x1 x2 x3 = 1 := by simp only [status_Word_ai3b_r0_1, r1, tb_eq, cond_false]
    have z : ((1 : Int) == 0) = false := rfl
    simp only [chkT, e1, r1, z, law16_StatusBack_S2_c0, law16_StatusBack_S2_c1, tb_eq, cond_false]
    rfl
theorem word_every (x : Int) : cond (law16_StatusBack_S3_c0 x) (law16_StatusBack_S3_e0 x) (law16_StatusBack_S3_c1 x && law16_StatusBack_S3_r1_0 x) = true := by
  by_cases h : 0 ≤ x ∧ x ≤ 4095
  · have hc := all_belowT chkW_all (k := x.toNat) (by omega)
    unfold chkW at hc
    rw [show ((x.toNat : Nat) : Int) = x by omega] at hc
    exact hc
  · have hp : status_Parse_i_r0_0 x = 0 ∧ status_Parse_i_r0_1 x = 0 ∧ status_Parse_i_r0_2 x = 0 ∧ status_Parse_i_r0_3 x = false ∧ status_Parse_i_r0_4 x = 3 := by
      by_cases h0 : x < 0
      · simp [status_Parse_i_r0_0, status_Parse_i_r0_1, status_Parse_i_r0_2, status_Parse_i_r0_3, status_Parse_i_r0_4, h0]
      · have h1 : 4096 ≤ x := by omega
        simp [status_Parse_i_r0_0, status_Parse_i_r0_1, status_Parse_i_r0_2, status_Parse_i_r0_3, status_Parse_i_r0_4, h0, h1]
    obtain ⟨p0, p1, p2, p3, p4⟩ := hp
    have c0 : law16_StatusBack_S3_c0 x = true := by simp only [law16_StatusBack_S3_c0, p4, tb_eq]; rfl
    have e0 : law16_StatusBack_S3_e0 x = true := by simp only [law16_StatusBack_S3_e0, p0, p1, p2, p3]; rfl
    simp only [c0, e0, cond_true]
theorem pure_StatusBack (x0 : Int) (x1 : Int) (x2 : Int) (x3 : Bool) (x4 : Int) (wx0 : WfI .i64 x0) (wx1 : WfI .i64 x1) (wx2 : WfI .i64 x2) (wx4 : WfI .i64 x4) : law16_StatusBack_c0 x0 x1 x2 x3 x4 = true ∧ (law16_StatusBack_r0_0 x0 x1 x2 x3 x4) = true := by
  have hc := chkT_every x0 x1 x2 x3
  simp only [chkT, Bool.and_eq_true, Bool.not_eq_true'] at hc
  obtain ⟨⟨a1, a2⟩, a3⟩ := hc
  have hw := word_every x4
  simp only [law16_StatusBack_c0, law16_StatusBack_r0_0, a1, a2, a3, tb_eq, cond_true, cond_false]
  revert hw
  cases law16_StatusBack_S3_c0 x4 <;> cases law16_StatusBack_S3_c1 x4 <;> simp
end Go.Proofs.YtkipngagfiaddaaDoor.Den

namespace Go.Proofs.YtkipngagfiaddaaDoor.Den
open Go Go.ChangeShapes Go.WideShapes Go.ChangeAt Go.RowKit
set_option linter.unusedVariables false
set_option linter.unusedSimpArgs false
theorem law_laid {C : Checked} (hm : C.prog.follows .mixedOrders = true) {E : Env} (hE : EnvOK C.prog E) {laid : List (String × DataW Unit)} (hgl : ∀ w, laidMetH C.prog laid w → GlOK E (cx0 w)) {os : Os} {f : FuncId} {fn : Func} {s : ChangeSpec} {H : Type} {enc : TypeId × Value → H}
    (own : ownKnob C.prog.godebug = none) (started : os.Started) (noInit : C.prog.inits.idxOf? f = none) (hfn : C.prog.funcs[f]? = some fn) (hl : laidOutB C.prog = true)
    (witness : ∃ (w : World) (tape : Tape) (i : Input), w.os = os ∧ (w.forCall tape i).Shaped C.prog ∧ i.vars = [] ∧ Input.okWide C.prog (w.forCall tape i) .any w.heap.size f i ∧
      ((s.pre enc C.prog fn [] false (w.forCall tape i).memory i.args ∧ laidMetH C.prog laid (w.forCall tape i).memory) ∧ sizedMet enc C.prog fn (OpenSpec.ofChange s) false (w.forCall tape i).memory i.args) ∧
        Assume.holds {} C.prog (lone (Frame.enter C.prog f i.args .normal) [] (w.forCall tape i)))
    (hgood : (fn.params.toList.all fun t => goodT C.prog 20 t && C.prog.readableRec t && decide (t < C.prog.types.size)) = true) {rt : TypeId} (hres : fn.resultTypes = #[rt]) (hrt : C.prog.underlying rt = some .bool)
    (hvars : s.vars = []) (hspec : ∀ ds : List (DataW H), ds.length = fn.params.toList.length → s.fn H ds = { results := [.lit (.bool true)], args := ds })
    (hlaw : ∀ rs, TyAll C.prog 20 fn.params.toList rs → ∃ k m', callD E k f (argsV C.prog fn.params.toList rs) [] = some ([.d (.bool true)], m')) :
    ReturnsInHanded {} C os f .any (fun w args => (s.pre enc C.prog fn [] false w args ∧ laidMetH C.prog laid w) ∧ sizedMet enc C.prog fn (OpenSpec.ofChange s) false w args) (s.post enc C.prog fn false true false false) := by
  refine returnsInHanded_of_change_and (X := fun w _ => laidMetH C.prog laid w) (fun _ _ _ hh h => h.of_heap hh) own started noInit hfn witness ?_
  intro W base args ds gs before hval hW _ hsz hL _
  have hW' := hW
  obtain ⟨p, q, hA, hV, rfl, hfz, hnd⟩ := hW
  rw [hvars] at hV
  obtain ⟨rfl, rfl⟩ := trodVars_none hV
  have hgd : ∀ t, t ∈ fn.params.toList → goodT C.prog 20 t = true ∧ C.prog.readableRec t = true ∧ t < C.prog.types.size := fun t ht => by
    have := List.all_eq_true.1 hgood t ht
    simpa [Bool.and_eq_true, and_assoc] using this
  obtain ⟨rs, h1, h2⟩ := open_args (n := 20) fn.params.toList args.toList ds p (List.all_eq_true.2 fun t ht => (hgd t ht).1) (fun j t v ht hv => hval j t v (by simpa using ht) (by simpa using hv)) (fun m hm => of_decide_eq_true (List.all_eq_true.1 hsz m (weightsEach_app hm))) hA
  obtain ⟨k, m', hk⟩ := hlaw rs h1
  refine (calls_law hm hE (hgl W hL) h2 hk).mono fun e W' ⟨he, bel⟩ => ?_
  subst he
  have hlen : ds.length = fn.params.toList.length := by
    have : ∀ (ts : List TypeId) (vs : List Value) (ds : List (DataW H)) (ps : List MemPlace), DataW.TrodAll enc C.prog W 0 (fun _ => true) true ts vs ds ps → ds.length = ts.length := by
      intro ts
      induction ts with
      | nil => intro vs ds ps h; obtain ⟨_, rfl, _⟩ := trodAll_nil h; rfl
      | cons t ts ih => intro vs ds ps h; obtain ⟨v, vs', d, ds', p, q, rfl, rfl, rfl, _, h2⟩ := trodAll_cons h; simp [ih _ _ _ h2]
    exact this _ _ _ _ hA
  have hs := hspec ds hlen
  refine ⟨_, rfl, ds, [], _, [], p, [], hW', ?_, ?_, ?_, bel.frame _, fun h => by cases h⟩
  · rw [List.append_nil, hs, hres]
    exact trodAll_mk1 (shut_bool hrt _)
  · rw [List.append_nil, hs]
    exact args_back hl bel _ _ _ _ (fun t ht => (hgd t ht).2) (fun x hx => by simpa using hW'.lt x (by simpa using hx)) hA
  · rw [hvars, List.append_nil, hs]; rfl
end Go.Proofs.YtkipngagfiaddaaDoor.Den

namespace Go.Proofs.YtkipngagfiaddaaDoor.Den
open Go Go.Proofs
open Go.Proofs.YtkipngagfiaddaaDoor (Rows.laid_math_bits_deBruijn32tab Rows.laid_math_bits_deBruijn64tab Rows.laid_internal_strconv_uint64pow10)
set_option maxRecDepth 100000
theorem own : ownKnob Tryd.prog.godebug = none := by kernel_rfl
theorem laidOut : laidOutB Tryd.prog = true := by kernel_rfl
theorem mixed : Tryd.prog.follows .mixedOrders = true := by kernel_rfl
theorem envOK : EnvOK Tryd.prog E0 := ⟨e0_cf, ext_ok rfl e0_x, e0_del⟩
theorem glOK (w : World) (h : laidMetH Tryd.prog [("math/bits.deBruijn32tab", Rows.laid_math_bits_deBruijn32tab), ("math/bits.deBruijn64tab", Rows.laid_math_bits_deBruijn64tab), ("internal/strconv.uint64pow10", Rows.laid_internal_strconv_uint64pow10)] w) : GlOK E0 (cx0 w) := fun g cs hg => by simp [E0] at hg
end Go.Proofs.YtkipngagfiaddaaDoor.Den

namespace Go.Proofs.YtkipngagfiaddaaDoor.Den
open Go Go.Proofs Go.ChangeShapes Go.WideShapes Go.ChangeAt Go.RowKit
open Go.Proofs.YtkipngagfiaddaaDoor (Rows.statusBackSpec Rows.statusBackRow Rows.StatusBackSaid Rows.StatusBackCardSaid Rows.statusBackCard statusBack_row_tie Rows.laid_math_bits_deBruijn32tab Rows.laid_math_bits_deBruijn64tab Rows.laid_internal_strconv_uint64pow10)
set_option maxRecDepth 100000
set_option linter.unusedSimpArgs false
set_option linter.unusedVariables false
theorem row7 (rs : List (List D)) (h : TyAll Tryd.prog 20 Tryd.f7.params.toList rs) : ∃ k m', callD E0 k 7 (argsV Tryd.prog Tryd.f7.params.toList rs) [] = some ([.d (.bool true)], m') := by
  rw [Tryd.params7] at h ⊢
  simp only [TyAll] at h
  obtain ⟨_, _, rfl, q0, _, _, rfl, q1, rfl⟩ := h
  have k0 := flatK_ok 20 _ _ _ (show flatK Tryd.prog 20 42 = some [.i .i64, .i .i64, .i .i64, .b] by kernel_rfl) q0
  simp only [CellsK, CellK] at k0
  obtain ⟨_, _, rfl, ⟨a0_0, rfl, w0_0⟩, _, _, rfl, ⟨a0_1, rfl, w0_1⟩, _, _, rfl, ⟨a0_2, rfl, w0_2⟩, _, _, rfl, ⟨a0_3, rfl⟩, rfl⟩ := k0
  have k1 := flatK_ok 20 _ _ _ (show flatK Tryd.prog 20 3 = some [.i .i64] by kernel_rfl) q1
  simp only [CellsK, CellK] at k1
  obtain ⟨_, _, rfl, ⟨a1_0, rfl, w1_0⟩, rfl⟩ := k1
  simp only [argsV, argV, Tryd.underlying3, Tryd.underlying42, List.map_cons, List.map_nil]
  obtain ⟨g1, g2⟩ := pure_StatusBack a0_0 a0_1 a0_2 a0_3 a1_0 w0_0 w0_1 w0_2 w1_0
  have hc := law16_StatusBack_t0 a0_0 a0_1 a0_2 a0_3 a1_0 g1
  rw [g2] at hc
  obtain ⟨k, hk⟩ := of_cl hc
  exact ⟨k, _, hk⟩
theorem statusBack_lifted (os : Os) (started : os.Started) (H : Type) (enc : TypeId × Value → H) :
    ReturnsInHanded {} Tryd.checked os 7 .any (fun w args => (Rows.statusBackSpec.pre enc Tryd.prog Tryd.f7 [] false w args ∧ laidMetH Tryd.prog [("math/bits.deBruijn32tab", Rows.laid_math_bits_deBruijn32tab), ("math/bits.deBruijn64tab", Rows.laid_math_bits_deBruijn64tab), ("internal/strconv.uint64pow10", Rows.laid_internal_strconv_uint64pow10)] w) ∧ sizedMet enc Tryd.prog Tryd.f7 (OpenSpec.ofChange Rows.statusBackSpec) false w args) (Rows.statusBackSpec.post enc Tryd.prog Tryd.f7 false true false false) :=
  law_laid (C := Tryd.checked) (fn := Tryd.f7) mixed envOK glOK own started (by kernel_rfl) Tryd.func7 laidOut
    (ChangeSpec.witness_at (enc := enc) (C := Tryd.checked) (os := os) (X := fun w _ => laidMetH Tryd.prog [("math/bits.deBruijn32tab", Rows.laid_math_bits_deBruijn32tab), ("math/bits.deBruijn64tab", Rows.laid_math_bits_deBruijn64tab), ("internal/strconv.uint64pow10", Rows.laid_internal_strconv_uint64pow10)] w) false (World.laidAll Tryd.prog os [("math/bits.deBruijn32tab", Rows.laid_math_bits_deBruijn32tab), ("math/bits.deBruijn64tab", Rows.laid_math_bits_deBruijn64tab), ("internal/strconv.uint64pow10", Rows.laid_internal_strconv_uint64pow10)]) #[.agg #[.int .i64 0, .int .i64 0, .int .i64 0, .bool false], .int .i64 0] 8 (World.laidAll_os _ _ _) (by kernel_rfl) (by kernel_rfl) (by kernel_rfl) (by kernel_rfl) (by kernel_rfl)
      (by rw [MakeChecks.laidMetH_plain _ _ _ (by kernel_rfl)]; exact laidMet_laidAll _ (by kernel_rfl) (by kernel_rfl)))
    (by kernel_rfl) (rt := 4) rfl Tryd.underlying4 rfl
    (fun ds h => by
      match ds, h with
      | [_, _], _ => rfl)
    row7
theorem statusBack_row : Rows.StatusBackSaid :=
  OpenClaim.holds_of_wide 7 Tryd.f7 rfl rfl rfl rfl rfl rfl rfl ⟨rfl, rfl, rfl, rfl, rfl⟩ rfl rfl rfl rfl rfl (by kernel_rfl) Tryd.func7 (by kernel_rfl)
    (of_decide_eq_true (by kernel_rfl)) (by unfold Func.isWrapper; first | (rw [if_pos (by decide +kernel)]; kernel_rfl) | (rw [if_neg (by decide +kernel)]; exact ⟨rfl, rfl⟩))
    (fun os started H enc _ => statusBack_lifted os started H enc)
theorem statusBack_holds : Rows.StatusBackCardSaid :=
  Claim7.holds_tied_plain_at .later [] [.data, .data, .data] true (true, "de0f8e2e583c2ca3011efa0872d658fafa250bb71daf0ce9d9802f694a3174c7") false statusBack_row (fun _ h => by cases h) (by kernel_rfl) (fun _ h => by cases h) statusBack_row_tie rfl ⟨rfl, rfl⟩ (by kernel_rfl) rfl
    (fun f fn hf hfn => by
      obtain rfl : f = 7 := Option.some.inj ((show Tryd.prog.funcNamed "rudder/rudderlaw16.StatusBack" = some 7 by kernel_rfl).symm.trans hf) |>.symm
      obtain rfl : fn = Tryd.f7 := (Option.some.inj (Tryd.func7.symm.trans hfn)).symm
      exact ⟨by kernel_rfl, fun j t ht => by
        rw [Tryd.params7] at ht
        have hm : t ∈ [42, 3] := by simpa using Array.mem_of_getElem? ht
        have hall : ([42, 3].all fun u => !Tryd.prog.wantsStandIn u) = true := by kernel_rfl
        exact (show Tryd.prog.wantsStandIn t = false by simpa using List.all_eq_true.1 hall t hm)⟩)
    (by kernel_rfl)
end Go.Proofs.YtkipngagfiaddaaDoor.Den
