/- LatchUnharmed: part 5 of what its proof rests on: an evaluator of the program's code, proved sound; plain functions printed from the code by a program of this session, with proofs; plain laws. No condition. -/
import Derived.Test.YtdjmfcdopaejcaaDenlatchUnharmed4
import Derived.Test.YtdjmfcdopaejcaaRows

namespace Go.Proofs.Ytdjmfcdopaejcaa.Den
open Go Go.Proofs
set_option maxRecDepth 100000
set_option maxHeartbeats 4000000
set_option linter.unusedVariables false
set_option linter.unusedSimpArgs false
def latch_of_ab2i3_c0 (x0 : Bool) (x1 : Bool) : Bool := (bif tb (x1) then (bif tb (x0) then true else false) else false)
def latch_of_ab2i3_c1 (x0 : Bool) (x1 : Bool) : Bool := (bif tb (x1) then (bif tb (x0) then false else true) else false)
def latch_of_ab2i3_c2 (x0 : Bool) (x1 : Bool) : Bool := (bif tb (x1) then false else (bif tb (x0) then true else false))
theorem latch_of_ab2i3_t0 (x0 : Bool) (x1 : Bool) (x2 : Int) (x3 : Int) (x4 : Int) : latch_of_ab2i3_c0 x0 x1 = true → cl E0 51 [(V.agg [(V.d (.bool x0)), (V.d (.bool x1)), (V.d (.int .i64 x2)), (V.d (.int .i64 x3)), (V.d (.int .i64 x4))])] [] = some ([(V.ifc 100 (V.agg [(V.d (.bool x0)), (V.d (.bool x1)), (V.d (.int .i64 x2)), (V.d (.int .i64 x3)), (V.d (.int .i64 x4))]))], []) := by
  unfold latch_of_ab2i3_c0
  cases h1 : tb (x1)
  · cases h2 : tb (x0)
    · intro g0
      exact absurd g0 ft
    · intro g0
      exact absurd g0 ft
  · cases h2 : tb (x0)
    · intro g0
      exact absurd g0 ft
    · intro g0
      exact w51 [.b (tbE h1), .b (notT (tbE h2)), .b (tbE h1)] (by kernel_rfl)
theorem latch_of_ab2i3_t1 (x0 : Bool) (x1 : Bool) (x2 : Int) (x3 : Int) (x4 : Int) : latch_of_ab2i3_c0 x0 x1 = false → latch_of_ab2i3_c1 x0 x1 = true → cl E0 51 [(V.agg [(V.d (.bool x0)), (V.d (.bool x1)), (V.d (.int .i64 x2)), (V.d (.int .i64 x3)), (V.d (.int .i64 x4))])] [] = some ([(V.d .nili)], []) := by
  unfold latch_of_ab2i3_c0 latch_of_ab2i3_c1
  cases h1 : tb (x1)
  · cases h2 : tb (x0)
    · intro g0 g1
      exact absurd g1 ft
    · intro g0 g1
      exact absurd g1 ft
  · cases h2 : tb (x0)
    · intro g0 g1
      exact w51 [.b (tbE h1), .b (notF (tbE h2))] (by kernel_rfl)
    · intro g0 g1
      exact absurd g0 tf
theorem latch_of_ab2i3_t2 (x0 : Bool) (x1 : Bool) (x2 : Int) (x3 : Int) (x4 : Int) : latch_of_ab2i3_c0 x0 x1 = false → latch_of_ab2i3_c1 x0 x1 = false → latch_of_ab2i3_c2 x0 x1 = true → cl E0 51 [(V.agg [(V.d (.bool x0)), (V.d (.bool x1)), (V.d (.int .i64 x2)), (V.d (.int .i64 x3)), (V.d (.int .i64 x4))])] [] = some ([(V.ifc 101 (V.agg [(V.d (.bool x0)), (V.d (.bool x1)), (V.d (.int .i64 x2)), (V.d (.int .i64 x3)), (V.d (.int .i64 x4))]))], []) := by
  unfold latch_of_ab2i3_c0 latch_of_ab2i3_c1 latch_of_ab2i3_c2
  cases h1 : tb (x1)
  · cases h2 : tb (x0)
    · intro g0 g1 g2
      exact absurd g2 ft
    · intro g0 g1 g2
      exact w51 [.b (tbE h1), .b (tbE h1), .b (tbE h2)] (by kernel_rfl)
  · cases h2 : tb (x0)
    · intro g0 g1 g2
      exact absurd g1 tf
    · intro g0 g1 g2
      exact absurd g0 tf
theorem latch_of_ab2i3_t3 (x0 : Bool) (x1 : Bool) (x2 : Int) (x3 : Int) (x4 : Int) : latch_of_ab2i3_c0 x0 x1 = false → latch_of_ab2i3_c1 x0 x1 = false → latch_of_ab2i3_c2 x0 x1 = false → cl E0 51 [(V.agg [(V.d (.bool x0)), (V.d (.bool x1)), (V.d (.int .i64 x2)), (V.d (.int .i64 x3)), (V.d (.int .i64 x4))])] [] = some ([(V.ifc 102 (V.agg [(V.d (.bool x0)), (V.d (.bool x1)), (V.d (.int .i64 x2)), (V.d (.int .i64 x3)), (V.d (.int .i64 x4))]))], []) := by
  unfold latch_of_ab2i3_c0 latch_of_ab2i3_c1 latch_of_ab2i3_c2
  cases h1 : tb (x1)
  · cases h2 : tb (x0)
    · intro g0 g1 g2
      exact w51 [.b (tbE h1), .b (tbE h1), .b (tbE h2)] (by kernel_rfl)
    · intro g0 g1 g2
      exact absurd g2 tf
  · cases h2 : tb (x0)
    · intro g0 g1 g2
      exact absurd g1 tf
    · intro g0 g1 g2
      exact absurd g0 tf
def latch_within_iii_r0_0 (x0 : Int) (x1 : Int) (x2 : Int) : Bool := (bif tb (decide (x1 ≤ x0)) then (decide (x0 ≤ x2)) else false)
theorem latch_within_iii_t0 (x0 : Int) (x1 : Int) (x2 : Int) : cl E0 52 [(V.d (.int .i64 x0)), (V.d (.int .i64 x1)), (V.d (.int .i64 x2))] [] = some ([(V.d (.bool (latch_within_iii_r0_0 x0 x1 x2)))], []) := by
  unfold latch_within_iii_r0_0
  cases h1 : tb (decide (x1 ≤ x0))
  · exact w52 [.b (tbE h1)] (by kernel_rfl)
  · exact w52 [.b (tbE h1)] (by kernel_rfl)
def latch_Right_ai3_r0_0 (x0 : Int) (x1 : Int) (x2 : Int) : Bool := (bif tb (latch_within_iii_r0_0 x0 1 100) then (bif tb (latch_within_iii_r0_0 x1 1 1000) then (latch_within_iii_r0_0 x2 0 10) else false) else false)
theorem latch_Right_ai3_t0 (x0 : Int) (x1 : Int) (x2 : Int) : cl E0 36 [(V.agg [(V.d (.int .i64 x0)), (V.d (.int .i64 x1)), (V.d (.int .i64 x2))])] [] = some ([(V.d (.bool (latch_Right_ai3_r0_0 x0 x1 x2)))], []) := by
  unfold latch_Right_ai3_r0_0
  cases h1 : tb (latch_within_iii_r0_0 x0 1 100)
  · exact w36 [.c (latch_within_iii_t0 x0 1 100), .b (tbE h1)] (by kernel_rfl)
  · cases h2 : tb (latch_within_iii_r0_0 x1 1 1000)
    · exact w36 [.c (latch_within_iii_t0 x0 1 100), .b (tbE h1), .c (latch_within_iii_t0 x1 1 1000), .b (tbE h2)] (by kernel_rfl)
    · exact w36 [.c (latch_within_iii_t0 x0 1 100), .b (tbE h1), .c (latch_within_iii_t0 x1 1 1000), .b (tbE h2), .c (latch_within_iii_t0 x2 0 10)] (by kernel_rfl)
def latch_out_fine_ab2i3ai3_r0_0 (x2 : Int) (x3 : Int) (x4 : Int) (x5 : Int) (x7 : Int) : Bool := (bif tb ((x2 : Int) == x5) then (bif tb ((x3 : Int) == 0) then ((x4 : Int) == x7) else false) else false)
theorem latch_out_fine_ab2i3ai3_t0 (x0 : Bool) (x1 : Bool) (x2 : Int) (x3 : Int) (x4 : Int) (x5 : Int) (x6 : Int) (x7 : Int) : cl E0 87 [(V.agg [(V.d (.bool x0)), (V.d (.bool x1)), (V.d (.int .i64 x2)), (V.d (.int .i64 x3)), (V.d (.int .i64 x4))]), (V.agg [(V.d (.int .i64 x5)), (V.d (.int .i64 x6)), (V.d (.int .i64 x7))])] [] = some ([(V.d (.bool (latch_out_fine_ab2i3ai3_r0_0 x2 x3 x4 x5 x7)))], []) := by
  unfold latch_out_fine_ab2i3ai3_r0_0
  cases h1 : tb ((x2 : Int) == x5)
  · exact w87 [.b (tbE h1)] (by kernel_rfl)
  · cases h2 : tb ((x3 : Int) == 0)
    · exact w87 [.b (tbE h1), .b (tbE h2)] (by kernel_rfl)
    · exact w87 [.b (tbE h1), .b (tbE h2)] (by kernel_rfl)
def latch_latched_fine_ab2i3ai3_r0_0 (x2 : Int) (x3 : Int) (x4 : Int) (x5 : Int) (x6 : Int) (x7 : Int) : Bool := (bif tb ((x2 : Int) == x5) then (bif tb (latch_within_iii_r0_0 x3 0 (wi (x6 - 1))) then (latch_within_iii_r0_0 x4 0 (wi (x7 - 1))) else false) else false)
theorem latch_latched_fine_ab2i3ai3_t0 (x0 : Bool) (x1 : Bool) (x2 : Int) (x3 : Int) (x4 : Int) (x5 : Int) (x6 : Int) (x7 : Int) : cl E0 89 [(V.agg [(V.d (.bool x0)), (V.d (.bool x1)), (V.d (.int .i64 x2)), (V.d (.int .i64 x3)), (V.d (.int .i64 x4))]), (V.agg [(V.d (.int .i64 x5)), (V.d (.int .i64 x6)), (V.d (.int .i64 x7))])] [] = some ([(V.d (.bool (latch_latched_fine_ab2i3ai3_r0_0 x2 x3 x4 x5 x6 x7)))], []) := by
  unfold latch_latched_fine_ab2i3ai3_r0_0
  cases h1 : tb ((x2 : Int) == x5)
  · exact w89 [.b (tbE h1)] (by kernel_rfl)
  · cases h2 : tb (latch_within_iii_r0_0 x3 0 (wi (x6 - 1)))
    · exact w89 [.b (tbE h1), .c (latch_within_iii_t0 x3 0 (wi (x6 - 1))), .b (tbE h2)] (by kernel_rfl)
    · exact w89 [.b (tbE h1), .c (latch_within_iii_t0 x3 0 (wi (x6 - 1))), .b (tbE h2), .c (latch_within_iii_t0 x4 0 (wi (x7 - 1)))] (by kernel_rfl)
def latch_in_fine_ab2i3ai3_r0_0 (x2 : Int) (x3 : Int) (x4 : Int) (x5 : Int) (x7 : Int) : Bool := (bif tb (latch_within_iii_r0_0 x2 0 (wi (x5 - 1))) then (bif tb ((x3 : Int) == 0) then (latch_within_iii_r0_0 x4 0 x7) else false) else false)
theorem latch_in_fine_ab2i3ai3_t0 (x0 : Bool) (x1 : Bool) (x2 : Int) (x3 : Int) (x4 : Int) (x5 : Int) (x6 : Int) (x7 : Int) : cl E0 91 [(V.agg [(V.d (.bool x0)), (V.d (.bool x1)), (V.d (.int .i64 x2)), (V.d (.int .i64 x3)), (V.d (.int .i64 x4))]), (V.agg [(V.d (.int .i64 x5)), (V.d (.int .i64 x6)), (V.d (.int .i64 x7))])] [] = some ([(V.d (.bool (latch_in_fine_ab2i3ai3_r0_0 x2 x3 x4 x5 x7)))], []) := by
  unfold latch_in_fine_ab2i3ai3_r0_0
  cases h1 : tb (latch_within_iii_r0_0 x2 0 (wi (x5 - 1)))
  · exact w91 [.c (latch_within_iii_t0 x2 0 (wi (x5 - 1))), .b (tbE h1)] (by kernel_rfl)
  · cases h2 : tb ((x3 : Int) == 0)
    · exact w91 [.c (latch_within_iii_t0 x2 0 (wi (x5 - 1))), .b (tbE h1), .b (tbE h2)] (by kernel_rfl)
    · exact w91 [.c (latch_within_iii_t0 x2 0 (wi (x5 - 1))), .b (tbE h1), .b (tbE h2), .c (latch_within_iii_t0 x4 0 x7)] (by kernel_rfl)
def latch_Fine_ai3ab2i3_r0_0 (x0 : Int) (x1 : Int) (x2 : Int) (x3 : Bool) (x4 : Bool) (x5 : Int) (x6 : Int) (x7 : Int) : Bool := (bif tb (latch_of_ab2i3_c0 x3 x4) then (bif tb (latch_Right_ai3_r0_0 x0 x1 x2) then (latch_out_fine_ab2i3ai3_r0_0 x5 x6 x7 x0 x2) else false) else (bif tb (latch_of_ab2i3_c1 x3 x4) then false else (bif tb (latch_of_ab2i3_c2 x3 x4) then (bif tb (latch_Right_ai3_r0_0 x0 x1 x2) then (latch_latched_fine_ab2i3ai3_r0_0 x5 x6 x7 x0 x1 x2) else false) else (bif tb (latch_Right_ai3_r0_0 x0 x1 x2) then (latch_in_fine_ab2i3ai3_r0_0 x5 x6 x7 x0 x2) else false))))
theorem latch_Fine_ai3ab2i3_t0 (x0 : Int) (x1 : Int) (x2 : Int) (x3 : Bool) (x4 : Bool) (x5 : Int) (x6 : Int) (x7 : Int) : cl E0 38 [(V.agg [(V.d (.int .i64 x0)), (V.d (.int .i64 x1)), (V.d (.int .i64 x2))]), (V.agg [(V.d (.bool x3)), (V.d (.bool x4)), (V.d (.int .i64 x5)), (V.d (.int .i64 x6)), (V.d (.int .i64 x7))])] [] = some ([(V.d (.bool (latch_Fine_ai3ab2i3_r0_0 x0 x1 x2 x3 x4 x5 x6 x7)))], []) := by
  unfold latch_Fine_ai3ab2i3_r0_0
  cases h1 : tb (latch_of_ab2i3_c0 x3 x4)
  · cases h2 : tb (latch_of_ab2i3_c1 x3 x4)
    · cases h3 : tb (latch_of_ab2i3_c2 x3 x4)
      · cases h4 : tb (latch_Right_ai3_r0_0 x0 x1 x2)
        · exact w38 [.c (latch_of_ab2i3_t3 x3 x4 x5 x6 x7 (tbE h1) (tbE h2) (tbE h3)), .c (latch_Right_ai3_t0 x0 x1 x2), .b (tbE h4)] (by kernel_rfl)
        · exact w38 [.c (latch_of_ab2i3_t3 x3 x4 x5 x6 x7 (tbE h1) (tbE h2) (tbE h3)), .c (latch_Right_ai3_t0 x0 x1 x2), .b (tbE h4), .k true, .c (latch_in_fine_ab2i3ai3_t0 x3 x4 x5 x6 x7 x0 x1 x2)] (by kernel_rfl)
      · cases h4 : tb (latch_Right_ai3_r0_0 x0 x1 x2)
        · exact w38 [.c (latch_of_ab2i3_t2 x3 x4 x5 x6 x7 (tbE h1) (tbE h2) (tbE h3)), .c (latch_Right_ai3_t0 x0 x1 x2), .b (tbE h4)] (by kernel_rfl)
        · exact w38 [.c (latch_of_ab2i3_t2 x3 x4 x5 x6 x7 (tbE h1) (tbE h2) (tbE h3)), .c (latch_Right_ai3_t0 x0 x1 x2), .b (tbE h4), .k true, .c (latch_latched_fine_ab2i3ai3_t0 x3 x4 x5 x6 x7 x0 x1 x2)] (by kernel_rfl)
    · cases h3 : tb (latch_Right_ai3_r0_0 x0 x1 x2)
      · exact w38 [.c (latch_of_ab2i3_t1 x3 x4 x5 x6 x7 (tbE h1) (tbE h2)), .c (latch_Right_ai3_t0 x0 x1 x2), .b (tbE h3)] (by kernel_rfl)
      · exact w38 [.c (latch_of_ab2i3_t1 x3 x4 x5 x6 x7 (tbE h1) (tbE h2)), .c (latch_Right_ai3_t0 x0 x1 x2), .b (tbE h3), .k false] (by kernel_rfl)
  · cases h2 : tb (latch_Right_ai3_r0_0 x0 x1 x2)
    · exact w38 [.c (latch_of_ab2i3_t0 x3 x4 x5 x6 x7 (tbE h1)), .c (latch_Right_ai3_t0 x0 x1 x2), .b (tbE h2)] (by kernel_rfl)
    · exact w38 [.c (latch_of_ab2i3_t0 x3 x4 x5 x6 x7 (tbE h1)), .c (latch_Right_ai3_t0 x0 x1 x2), .b (tbE h2), .k true, .c (latch_out_fine_ab2i3ai3_t0 x3 x4 x5 x6 x7 x0 x1 x2)] (by kernel_rfl)
theorem latch_out_next_ab2i3ai3b_t0 (x0 : Bool) (x1 : Bool) (x2 : Int) (x3 : Int) (x4 : Int) (x5 : Int) (x6 : Int) (x7 : Int) (x8 : Bool) : cl E0 88 [(V.agg [(V.d (.bool x0)), (V.d (.bool x1)), (V.d (.int .i64 x2)), (V.d (.int .i64 x3)), (V.d (.int .i64 x4))]), (V.agg [(V.d (.int .i64 x5)), (V.d (.int .i64 x6)), (V.d (.int .i64 x7))]), (V.d (.bool x8))] [] = some ([(V.agg [(V.d (.bool x0)), (V.d (.bool x1)), (V.d (.int .i64 x2)), (V.d (.int .i64 x3)), (V.d (.int .i64 x4))]), (V.d (.int .i64 0))], []) := by
  exact w88 [] (by kernel_rfl)
def latch_latched_next_ab2i3ai3b_r0_0 (x0 : Bool) (x3 : Int) (x6 : Int) (x8 : Bool) : Bool := (bif tb (x8) then x0 else (bif tb (((wi (x3 + 1)) : Int) == x6) then false else x0))
def latch_latched_next_ab2i3ai3b_r0_1 (x1 : Bool) (x3 : Int) (x6 : Int) (x8 : Bool) : Bool := (bif tb (x8) then x1 else (bif tb (((wi (x3 + 1)) : Int) == x6) then false else x1))
def latch_latched_next_ab2i3ai3b_r0_2 (x2 : Int) (x3 : Int) (x6 : Int) (x8 : Bool) : Int := (bif tb (x8) then x2 else (bif tb (((wi (x3 + 1)) : Int) == x6) then 0 else x2))
def latch_latched_next_ab2i3ai3b_r0_3 (x3 : Int) (x6 : Int) (x8 : Bool) : Int := (bif tb (x8) then 0 else (bif tb (((wi (x3 + 1)) : Int) == x6) then 0 else (wi (x3 + 1))))
def latch_latched_next_ab2i3ai3b_r0_4 (x3 : Int) (x4 : Int) (x6 : Int) (x8 : Bool) : Int := (bif tb (x8) then x4 else (bif tb (((wi (x3 + 1)) : Int) == x6) then (wi (x4 + 1)) else x4))
def latch_latched_next_ab2i3ai3b_r0_5 (x3 : Int) (x6 : Int) (x8 : Bool) : Int := (bif tb (x8) then 0 else (bif tb (((wi (x3 + 1)) : Int) == x6) then 2 else 0))
theorem latch_latched_next_ab2i3ai3b_t0 (x0 : Bool) (x1 : Bool) (x2 : Int) (x3 : Int) (x4 : Int) (x5 : Int) (x6 : Int) (x7 : Int) (x8 : Bool) : cl E0 90 [(V.agg [(V.d (.bool x0)), (V.d (.bool x1)), (V.d (.int .i64 x2)), (V.d (.int .i64 x3)), (V.d (.int .i64 x4))]), (V.agg [(V.d (.int .i64 x5)), (V.d (.int .i64 x6)), (V.d (.int .i64 x7))]), (V.d (.bool x8))] [] = some ([(V.agg [(V.d (.bool (latch_latched_next_ab2i3ai3b_r0_0 x0 x3 x6 x8))), (V.d (.bool (latch_latched_next_ab2i3ai3b_r0_1 x1 x3 x6 x8))), (V.d (.int .i64 (latch_latched_next_ab2i3ai3b_r0_2 x2 x3 x6 x8))), (V.d (.int .i64 (latch_latched_next_ab2i3ai3b_r0_3 x3 x6 x8))), (V.d (.int .i64 (latch_latched_next_ab2i3ai3b_r0_4 x3 x4 x6 x8)))]), (V.d (.int .i64 (latch_latched_next_ab2i3ai3b_r0_5 x3 x6 x8)))], []) := by
  unfold latch_latched_next_ab2i3ai3b_r0_0 latch_latched_next_ab2i3ai3b_r0_1 latch_latched_next_ab2i3ai3b_r0_2 latch_latched_next_ab2i3ai3b_r0_3 latch_latched_next_ab2i3ai3b_r0_4 latch_latched_next_ab2i3ai3b_r0_5
  cases h1 : tb (x8)
  · cases h2 : tb (((wi (x3 + 1)) : Int) == x6)
    · exact w90 [.b (tbE h1), .b (tbE h2)] (by kernel_rfl)
    · exact w90 [.b (tbE h1), .b (tbE h2)] (by kernel_rfl)
  · exact w90 [.b (tbE h1)] (by kernel_rfl)
def latch_in_next_ab2i3ai3b_r0_0 (x0 : Bool) (x2 : Int) (x5 : Int) (x8 : Bool) : Bool := (bif tb (x8) then (bif tb (decide ((wi (x2 + 1)) < x5)) then x0 else true) else x0)
def latch_in_next_ab2i3ai3b_r0_1 (x1 : Bool) (x2 : Int) (x4 : Int) (x5 : Int) (x7 : Int) (x8 : Bool) : Bool := (bif tb (x8) then (bif tb (decide ((wi (x2 + 1)) < x5)) then x1 else ((x4 : Int) == x7)) else x1)
def latch_in_next_ab2i3ai3b_r0_2 (x2 : Int) (x8 : Bool) : Int := (bif tb (x8) then (wi (x2 + 1)) else 0)
def latch_in_next_ab2i3ai3b_r0_5 (x2 : Int) (x4 : Int) (x5 : Int) (x7 : Int) (x8 : Bool) : Int := (bif tb (x8) then (bif tb (decide ((wi (x2 + 1)) < x5)) then 0 else (bif tb ((x4 : Int) == x7) then 3 else 1)) else 0)
theorem latch_in_next_ab2i3ai3b_t0 (x0 : Bool) (x1 : Bool) (x2 : Int) (x3 : Int) (x4 : Int) (x5 : Int) (x6 : Int) (x7 : Int) (x8 : Bool) : cl E0 92 [(V.agg [(V.d (.bool x0)), (V.d (.bool x1)), (V.d (.int .i64 x2)), (V.d (.int .i64 x3)), (V.d (.int .i64 x4))]), (V.agg [(V.d (.int .i64 x5)), (V.d (.int .i64 x6)), (V.d (.int .i64 x7))]), (V.d (.bool x8))] [] = some ([(V.agg [(V.d (.bool (latch_in_next_ab2i3ai3b_r0_0 x0 x2 x5 x8))), (V.d (.bool (latch_in_next_ab2i3ai3b_r0_1 x1 x2 x4 x5 x7 x8))), (V.d (.int .i64 (latch_in_next_ab2i3ai3b_r0_2 x2 x8))), (V.d (.int .i64 x3)), (V.d (.int .i64 x4))]), (V.d (.int .i64 (latch_in_next_ab2i3ai3b_r0_5 x2 x4 x5 x7 x8)))], []) := by
  unfold latch_in_next_ab2i3ai3b_r0_0 latch_in_next_ab2i3ai3b_r0_1 latch_in_next_ab2i3ai3b_r0_2 latch_in_next_ab2i3ai3b_r0_5
  cases h1 : tb (x8)
  · exact w92 [.b (notF (tbE h1))] (by kernel_rfl)
  · cases h2 : tb (decide ((wi (x2 + 1)) < x5))
    · cases h3 : tb ((x4 : Int) == x7)
      · exact w92 [.b (notT (tbE h1)), .b (tbE h2), .b (tbE h3)] (by kernel_rfl)
      · exact w92 [.b (notT (tbE h1)), .b (tbE h2), .b (tbE h3)] (by kernel_rfl)
    · exact w92 [.b (notT (tbE h1)), .b (tbE h2)] (by kernel_rfl)
def latch_Next_ai3ab2i3b_c0 (x0 : Int) (x1 : Int) (x2 : Int) (x3 : Bool) (x4 : Bool) (x5 : Int) (x6 : Int) (x7 : Int) : Bool := (bif tb (latch_Fine_ai3ab2i3_r0_0 x0 x1 x2 x3 x4 x5 x6 x7) then (bif tb (latch_of_ab2i3_c0 x3 x4) then true else (bif tb (latch_of_ab2i3_c1 x3 x4) then false else true)) else true)
def latch_Next_ai3ab2i3b_r0_0 (x0 : Int) (x1 : Int) (x2 : Int) (x3 : Bool) (x4 : Bool) (x5 : Int) (x6 : Int) (x7 : Int) (x8 : Bool) : Bool := (bif tb (latch_Fine_ai3ab2i3_r0_0 x0 x1 x2 x3 x4 x5 x6 x7) then (bif tb (latch_of_ab2i3_c0 x3 x4) then x3 else (bif tb (latch_of_ab2i3_c2 x3 x4) then (latch_latched_next_ab2i3ai3b_r0_0 x3 x6 x1 x8) else (latch_in_next_ab2i3ai3b_r0_0 x3 x5 x0 x8))) else false)
def latch_Next_ai3ab2i3b_r0_1 (x0 : Int) (x1 : Int) (x2 : Int) (x3 : Bool) (x4 : Bool) (x5 : Int) (x6 : Int) (x7 : Int) (x8 : Bool) : Bool := (bif tb (latch_Fine_ai3ab2i3_r0_0 x0 x1 x2 x3 x4 x5 x6 x7) then (bif tb (latch_of_ab2i3_c0 x3 x4) then x4 else (bif tb (latch_of_ab2i3_c2 x3 x4) then (latch_latched_next_ab2i3ai3b_r0_1 x4 x6 x1 x8) else (latch_in_next_ab2i3ai3b_r0_1 x4 x5 x7 x0 x2 x8))) else false)
def latch_Next_ai3ab2i3b_r0_2 (x0 : Int) (x1 : Int) (x2 : Int) (x3 : Bool) (x4 : Bool) (x5 : Int) (x6 : Int) (x7 : Int) (x8 : Bool) : Int := (bif tb (latch_Fine_ai3ab2i3_r0_0 x0 x1 x2 x3 x4 x5 x6 x7) then (bif tb (latch_of_ab2i3_c0 x3 x4) then x5 else (bif tb (latch_of_ab2i3_c2 x3 x4) then (latch_latched_next_ab2i3ai3b_r0_2 x5 x6 x1 x8) else (latch_in_next_ab2i3ai3b_r0_2 x5 x8))) else 0)
def latch_Next_ai3ab2i3b_r0_3 (x0 : Int) (x1 : Int) (x2 : Int) (x3 : Bool) (x4 : Bool) (x5 : Int) (x6 : Int) (x7 : Int) (x8 : Bool) : Int := (bif tb (latch_Fine_ai3ab2i3_r0_0 x0 x1 x2 x3 x4 x5 x6 x7) then (bif tb (latch_of_ab2i3_c0 x3 x4) then x6 else (bif tb (latch_of_ab2i3_c2 x3 x4) then (latch_latched_next_ab2i3ai3b_r0_3 x6 x1 x8) else x6)) else 0)
def latch_Next_ai3ab2i3b_r0_4 (x0 : Int) (x1 : Int) (x2 : Int) (x3 : Bool) (x4 : Bool) (x5 : Int) (x6 : Int) (x7 : Int) (x8 : Bool) : Int := (bif tb (latch_Fine_ai3ab2i3_r0_0 x0 x1 x2 x3 x4 x5 x6 x7) then (bif tb (latch_of_ab2i3_c0 x3 x4) then x7 else (bif tb (latch_of_ab2i3_c2 x3 x4) then (latch_latched_next_ab2i3ai3b_r0_4 x6 x7 x1 x8) else x7)) else 0)
def latch_Next_ai3ab2i3b_r0_5 (x0 : Int) (x1 : Int) (x2 : Int) (x3 : Bool) (x4 : Bool) (x5 : Int) (x6 : Int) (x7 : Int) (x8 : Bool) : Int := (bif tb (latch_Fine_ai3ab2i3_r0_0 x0 x1 x2 x3 x4 x5 x6 x7) then (bif tb (latch_of_ab2i3_c0 x3 x4) then 0 else (bif tb (latch_of_ab2i3_c2 x3 x4) then (latch_latched_next_ab2i3ai3b_r0_5 x6 x1 x8) else (latch_in_next_ab2i3ai3b_r0_5 x5 x7 x0 x2 x8))) else 0)
def latch_Next_ai3ab2i3b_r0_6 (x0 : Int) (x1 : Int) (x2 : Int) (x3 : Bool) (x4 : Bool) (x5 : Int) (x6 : Int) (x7 : Int) : Int := (bif tb (latch_Fine_ai3ab2i3_r0_0 x0 x1 x2 x3 x4 x5 x6 x7) then 0 else 1)
theorem latch_Next_ai3ab2i3b_t0 (x0 : Int) (x1 : Int) (x2 : Int) (x3 : Bool) (x4 : Bool) (x5 : Int) (x6 : Int) (x7 : Int) (x8 : Bool) : latch_Next_ai3ab2i3b_c0 x0 x1 x2 x3 x4 x5 x6 x7 = true → cl E0 31 [(V.agg [(V.d (.int .i64 x0)), (V.d (.int .i64 x1)), (V.d (.int .i64 x2))]), (V.agg [(V.d (.bool x3)), (V.d (.bool x4)), (V.d (.int .i64 x5)), (V.d (.int .i64 x6)), (V.d (.int .i64 x7))]), (V.d (.bool x8))] [] = some ([(V.agg [(V.d (.bool (latch_Next_ai3ab2i3b_r0_0 x0 x1 x2 x3 x4 x5 x6 x7 x8))), (V.d (.bool (latch_Next_ai3ab2i3b_r0_1 x0 x1 x2 x3 x4 x5 x6 x7 x8))), (V.d (.int .i64 (latch_Next_ai3ab2i3b_r0_2 x0 x1 x2 x3 x4 x5 x6 x7 x8))), (V.d (.int .i64 (latch_Next_ai3ab2i3b_r0_3 x0 x1 x2 x3 x4 x5 x6 x7 x8))), (V.d (.int .i64 (latch_Next_ai3ab2i3b_r0_4 x0 x1 x2 x3 x4 x5 x6 x7 x8)))]), (V.d (.int .i64 (latch_Next_ai3ab2i3b_r0_5 x0 x1 x2 x3 x4 x5 x6 x7 x8))), (V.d (.int .i64 (latch_Next_ai3ab2i3b_r0_6 x0 x1 x2 x3 x4 x5 x6 x7)))], []) := by
  unfold latch_Next_ai3ab2i3b_c0 latch_Next_ai3ab2i3b_r0_0 latch_Next_ai3ab2i3b_r0_1 latch_Next_ai3ab2i3b_r0_2 latch_Next_ai3ab2i3b_r0_3 latch_Next_ai3ab2i3b_r0_4 latch_Next_ai3ab2i3b_r0_5 latch_Next_ai3ab2i3b_r0_6
  cases h1 : tb (latch_Fine_ai3ab2i3_r0_0 x0 x1 x2 x3 x4 x5 x6 x7)
  · intro g0
    exact w31 [.c (latch_Fine_ai3ab2i3_t0 x0 x1 x2 x3 x4 x5 x6 x7), .b (notF (tbE h1))] (by kernel_rfl)
  · cases h2 : tb (latch_of_ab2i3_c0 x3 x4)
    · cases h3 : tb (latch_of_ab2i3_c1 x3 x4)
      · cases h4 : tb (latch_of_ab2i3_c2 x3 x4)
        · intro g0
          exact w31 [.c (latch_Fine_ai3ab2i3_t0 x0 x1 x2 x3 x4 x5 x6 x7), .b (notT (tbE h1)), .c (latch_of_ab2i3_t3 x3 x4 x5 x6 x7 (tbE h2) (tbE h3) (tbE h4)), .c (latch_in_next_ab2i3ai3b_t0 x3 x4 x5 x6 x7 x0 x1 x2 x8)] (by kernel_rfl)
        · intro g0
          exact w31 [.c (latch_Fine_ai3ab2i3_t0 x0 x1 x2 x3 x4 x5 x6 x7), .b (notT (tbE h1)), .c (latch_of_ab2i3_t2 x3 x4 x5 x6 x7 (tbE h2) (tbE h3) (tbE h4)), .c (latch_latched_next_ab2i3ai3b_t0 x3 x4 x5 x6 x7 x0 x1 x2 x8)] (by kernel_rfl)
      · intro g0
        exact absurd g0 ft
    · intro g0
      exact w31 [.c (latch_Fine_ai3ab2i3_t0 x0 x1 x2 x3 x4 x5 x6 x7), .b (notT (tbE h1)), .c (latch_of_ab2i3_t0 x3 x4 x5 x6 x7 (tbE h2)), .c (latch_out_next_ab2i3ai3b_t0 x3 x4 x5 x6 x7 x0 x1 x2 x8)] (by kernel_rfl)
structure latch_Run_ai3o_L0_s0 where
  c0 : Bool
  c4 : Int
  c16 : Bool
  c17 : Bool
  c18 : Int
  c19 : Int
  c20 : Int
  c22 : List Int
  deriving Inhabited
def latch_Run_ai3o_L0_enc (x0 : Int) (x1 : Int) (x2 : Int) (x3 : Bool) (x4 : Bool) (x5 : Int) (x6 : Int) (x7 : Int) (x8 : Bool) (x9 : Bool) (x10 : Int) (x11 : Int) (x12 : Int) (x13 : List Int) (x14 : Bool) (x15 : Bool) (x16 : Bool) (x17 : Bool) (x18 : Bool) (x19 : Bool) (x20 : Bool) (x21 : List Bool) (x22 : Int) (x23 : Int) (s0 : latch_Run_ai3o_L0_s0) : List V × Mem := ([(V.ptr 0 1 0 0), (V.ptr 1 1 0 0), (V.ptr 3 1 0 0), (V.so s0.c0 4 s0.c22.length), (V.d (slD encB true 1 x20 x21)), (V.d (.int .i64 x22)), (V.d (.int .i64 s0.c4))], [(Blk.flat 40 3 [[(.int .i64 x0), (.int .i64 x1), (.int .i64 x2)]] x14), (Blk.flat 42 5 [[(.bool x3), (.bool x4), (.int .i64 x5), (.int .i64 x6), (.int .i64 x7)]] x15), (Blk.flat 3 1 [] x16), (Blk.flat 42 5 [[(.bool s0.c16), (.bool s0.c17), (.int .i64 s0.c18), (.int .i64 s0.c19), (.int .i64 s0.c20)]] false), (Blk.flat 3 1 (List.map (encI .i64) s0.c22) false)])
def latch_Run_ai3o_L0_h0_e0 (x0 : Int) (x1 : Int) (x2 : Int) (x21 : List Bool) (s0 : latch_Run_ai3o_L0_s0) : List Int := (s0.c22 ++ [(latch_Next_ai3ab2i3b_r0_5 x0 x1 x2 s0.c16 s0.c17 s0.c18 s0.c19 s0.c20 (gt x21 s0.c4))])
def latch_Run_ai3o_L0_sel (x0 : Int) (x1 : Int) (x2 : Int) (x21 : List Bool) (x22 : Int) (s0 : latch_Run_ai3o_L0_s0) : Bool := (bif tb (decide (s0.c4 < x22)) then (bif tb (inb x21.length s0.c4) then (bif tb (latch_Next_ai3ab2i3b_c0 x0 x1 x2 s0.c16 s0.c17 s0.c18 s0.c19 s0.c20) then (bif tb (decide ((s0.c22.length + [(latch_Next_ai3ab2i3b_r0_5 x0 x1 x2 s0.c16 s0.c17 s0.c18 s0.c19 s0.c20 (gt x21 s0.c4))].length) * 8 ≤ 140737488355328)) then true else false) else false) else false) else false)
def latch_Run_ai3o_L0_nx (x0 : Int) (x1 : Int) (x2 : Int) (x21 : List Bool) (x22 : Int) (s0 : latch_Run_ai3o_L0_s0) : latch_Run_ai3o_L0_s0 := ⟨false, (wi (s0.c4 + 1)), (latch_Next_ai3ab2i3b_r0_0 x0 x1 x2 s0.c16 s0.c17 s0.c18 s0.c19 s0.c20 (gt x21 s0.c4)), (latch_Next_ai3ab2i3b_r0_1 x0 x1 x2 s0.c16 s0.c17 s0.c18 s0.c19 s0.c20 (gt x21 s0.c4)), (latch_Next_ai3ab2i3b_r0_2 x0 x1 x2 s0.c16 s0.c17 s0.c18 s0.c19 s0.c20 (gt x21 s0.c4)), (latch_Next_ai3ab2i3b_r0_3 x0 x1 x2 s0.c16 s0.c17 s0.c18 s0.c19 s0.c20 (gt x21 s0.c4)), (latch_Next_ai3ab2i3b_r0_4 x0 x1 x2 s0.c16 s0.c17 s0.c18 s0.c19 s0.c20 (gt x21 s0.c4)), (latch_Run_ai3o_L0_h0_e0 x0 x1 x2 x21 s0)⟩
def latch_Run_ai3o_L0_ok (x0 : Int) (x1 : Int) (x2 : Int) (x21 : List Bool) (x22 : Int) (s0 : latch_Run_ai3o_L0_s0) : Bool := (itS (latch_Run_ai3o_L0_sel x0 x1 x2 x21 x22) (latch_Run_ai3o_L0_nx x0 x1 x2 x21 x22) bound s0).isSome
def latch_Run_ai3o_L0_end (x0 : Int) (x1 : Int) (x2 : Int) (x21 : List Bool) (x22 : Int) (s0 : latch_Run_ai3o_L0_s0) : latch_Run_ai3o_L0_s0 := (itS (latch_Run_ai3o_L0_sel x0 x1 x2 x21 x22) (latch_Run_ai3o_L0_nx x0 x1 x2 x21 x22) bound s0).getD default
theorem latch_Run_ai3o_L0_go (x0 : Int) (x1 : Int) (x2 : Int) (x3 : Bool) (x4 : Bool) (x5 : Int) (x6 : Int) (x7 : Int) (x8 : Bool) (x9 : Bool) (x10 : Int) (x11 : Int) (x12 : Int) (x13 : List Int) (x14 : Bool) (x15 : Bool) (x16 : Bool) (x17 : Bool) (x18 : Bool) (x19 : Bool) (x20 : Bool) (x21 : List Bool) (x22 : Int) (x23 : Int) (s0 : latch_Run_ai3o_L0_s0) : latch_Run_ai3o_L0_sel x0 x1 x2 x21 x22 s0 = true → (roundG (runC E0 (cl E0) L40_0) [2, 4, 7, 8, 18, 19, 20] [4, 7, 8] 5) (latch_Run_ai3o_L0_enc x0 x1 x2 x3 x4 x5 x6 x7 x8 x9 x10 x11 x12 x13 x14 x15 x16 x17 x18 x19 x20 x21 x22 x23 s0) = some (.normal, latch_Run_ai3o_L0_enc x0 x1 x2 x3 x4 x5 x6 x7 x8 x9 x10 x11 x12 x13 x14 x15 x16 x17 x18 x19 x20 x21 x22 x23 (latch_Run_ai3o_L0_nx x0 x1 x2 x21 x22 s0)) := by
  unfold latch_Run_ai3o_L0_sel latch_Run_ai3o_L0_nx
  cases h1 : tb (decide (s0.c4 < x22))
  · intro g0
    exact absurd g0 ft
  · cases h2 : tb (inb x21.length s0.c4)
    · intro g0
      exact absurd g0 ft
    · cases h3 : tb (latch_Next_ai3ab2i3b_c0 x0 x1 x2 s0.c16 s0.c17 s0.c18 s0.c19 s0.c20)
      · intro g0
        exact absurd g0 ft
      · cases h4 : tb (decide ((s0.c22.length + [(latch_Next_ai3ab2i3b_r0_5 x0 x1 x2 s0.c16 s0.c17 s0.c18 s0.c19 s0.c20 (gt x21 s0.c4))].length) * 8 ≤ 140737488355328))
        · intro g0
          exact absurd g0 ft
        · intro _
          exact round_walk [.b (tbE h1), .o 22 (fun _ => o_idx_os (enc := encB) (l := x21) (fl := true) (n := x20) (s := 1) (k := .i64) (tbE h2)), .c (latch_Next_ai3ab2i3b_t0 x0 x1 x2 s0.c16 s0.c17 s0.c18 s0.c19 s0.c20 (gt x21 s0.c4) (tbE h3)), .m 36 (o_app_so (nl := s0.c0) (m := [(Blk.flat 40 3 [[(.int .i64 x0), (.int .i64 x1), (.int .i64 x2)]] x14), (Blk.flat 42 5 [[(.bool x3), (.bool x4), (.int .i64 x5), (.int .i64 x6), (.int .i64 x7)]] x15), (Blk.flat 3 1 [] x16), (Blk.flat 42 5 [[(.bool (latch_Next_ai3ab2i3b_r0_0 x0 x1 x2 s0.c16 s0.c17 s0.c18 s0.c19 s0.c20 (gt x21 s0.c4))), (.bool (latch_Next_ai3ab2i3b_r0_1 x0 x1 x2 s0.c16 s0.c17 s0.c18 s0.c19 s0.c20 (gt x21 s0.c4))), (.int .i64 (latch_Next_ai3ab2i3b_r0_2 x0 x1 x2 s0.c16 s0.c17 s0.c18 s0.c19 s0.c20 (gt x21 s0.c4))), (.int .i64 (latch_Next_ai3ab2i3b_r0_3 x0 x1 x2 s0.c16 s0.c17 s0.c18 s0.c19 s0.c20 (gt x21 s0.c4))), (.int .i64 (latch_Next_ai3ab2i3b_r0_4 x0 x1 x2 s0.c16 s0.c17 s0.c18 s0.c19 s0.c20 (gt x21 s0.c4)))]] false), (Blk.flat 3 1 (List.map (encI .i64) s0.c22) false), (Blk.flat 42 5 [[(.bool (latch_Next_ai3ab2i3b_r0_0 x0 x1 x2 s0.c16 s0.c17 s0.c18 s0.c19 s0.c20 (gt x21 s0.c4))), (.bool (latch_Next_ai3ab2i3b_r0_1 x0 x1 x2 s0.c16 s0.c17 s0.c18 s0.c19 s0.c20 (gt x21 s0.c4))), (.int .i64 (latch_Next_ai3ab2i3b_r0_2 x0 x1 x2 s0.c16 s0.c17 s0.c18 s0.c19 s0.c20 (gt x21 s0.c4))), (.int .i64 (latch_Next_ai3ab2i3b_r0_3 x0 x1 x2 s0.c16 s0.c17 s0.c18 s0.c19 s0.c20 (gt x21 s0.c4))), (.int .i64 (latch_Next_ai3ab2i3b_r0_4 x0 x1 x2 s0.c16 s0.c17 s0.c18 s0.c19 s0.c20 (gt x21 s0.c4)))]] false), (Blk.flat 3 1 [[(.int .i64 (latch_Next_ai3ab2i3b_r0_5 x0 x1 x2 s0.c16 s0.c17 s0.c18 s0.c19 s0.c20 (gt x21 s0.c4)))]] false)]) (enc := (encI .i64)) (l0 := s0.c22) (l1 := [(latch_Next_ai3ab2i3b_r0_5 x0 x1 x2 s0.c16 s0.c17 s0.c18 s0.c19 s0.c20 (gt x21 s0.c4))]) (id := 4) (e := 3) (s := 1) (bytes := 8) (x := (V.so false 6 1)) (n := s0.c22.length) (Nat.beq_refl _) (by kernel_rfl) (by kernel_rfl) (by kernel_rfl) (tbE h4))] (by kernel_rfl)
def latch_Run_ai3o_L0_c0 (x22 : Int) (s0 : latch_Run_ai3o_L0_s0) : Bool := (bif tb (decide (s0.c4 < x22)) then false else true)
theorem latch_Run_ai3o_L0_x0 (x0 : Int) (x1 : Int) (x2 : Int) (x3 : Bool) (x4 : Bool) (x5 : Int) (x6 : Int) (x7 : Int) (x8 : Bool) (x9 : Bool) (x10 : Int) (x11 : Int) (x12 : Int) (x13 : List Int) (x14 : Bool) (x15 : Bool) (x16 : Bool) (x17 : Bool) (x18 : Bool) (x19 : Bool) (x20 : Bool) (x21 : List Bool) (x22 : Int) (x23 : Int) (s0 : latch_Run_ai3o_L0_s0) : latch_Run_ai3o_L0_sel x0 x1 x2 x21 x22 s0 = false → latch_Run_ai3o_L0_c0 x22 s0 = true → (roundG (runC E0 (cl E0) L40_0) [2, 4, 7, 8, 18, 19, 20] [4, 7, 8] 5) (latch_Run_ai3o_L0_enc x0 x1 x2 x3 x4 x5 x6 x7 x8 x9 x10 x11 x12 x13 x14 x15 x16 x17 x18 x19 x20 x21 x22 x23 s0) = some ((.exit 0), ([(V.ptr 1 1 0 0), (V.ptr 3 1 0 0), (V.so s0.c0 4 s0.c22.length)], [(Blk.flat 40 3 [[(.int .i64 x0), (.int .i64 x1), (.int .i64 x2)]] x14), (Blk.flat 42 5 [[(.bool x3), (.bool x4), (.int .i64 x5), (.int .i64 x6), (.int .i64 x7)]] x15), (Blk.flat 3 1 [] x16), (Blk.flat 42 5 [[(.bool s0.c16), (.bool s0.c17), (.int .i64 s0.c18), (.int .i64 s0.c19), (.int .i64 s0.c20)]] false), (Blk.flat 3 1 (List.map (encI .i64) s0.c22) false)])) := by
  unfold latch_Run_ai3o_L0_sel latch_Run_ai3o_L0_c0
  cases h1 : tb (decide (s0.c4 < x22))
  · intro g0 g1
    exact round_walk [.b (tbE h1)] (by kernel_rfl)
  · cases h2 : tb (inb x21.length s0.c4)
    · intro g0 g1
      exact absurd g1 ft
    · cases h3 : tb (latch_Next_ai3ab2i3b_c0 x0 x1 x2 s0.c16 s0.c17 s0.c18 s0.c19 s0.c20)
      · intro g0 g1
        exact absurd g1 ft
      · cases h4 : tb (decide ((s0.c22.length + [(latch_Next_ai3ab2i3b_r0_5 x0 x1 x2 s0.c16 s0.c17 s0.c18 s0.c19 s0.c20 (gt x21 s0.c4))].length) * 8 ≤ 140737488355328))
        · intro g0 g1
          exact absurd g1 ft
        · intro g0 g1
          exact absurd g0 tf
theorem latch_Run_ai3o_L0_f0_0 (x0 : Int) (x1 : Int) (x2 : Int) (x3 : Bool) (x4 : Bool) (x5 : Int) (x6 : Int) (x7 : Int) (x8 : Bool) (x9 : Bool) (x10 : Int) (x11 : Int) (x12 : Int) (x13 : List Int) (x14 : Bool) (x15 : Bool) (x16 : Bool) (x17 : Bool) (x18 : Bool) (x19 : Bool) (x20 : Bool) (x21 : List Bool) (x22 : Int) (x23 : Int) (s : latch_Run_ai3o_L0_s0) (hok : latch_Run_ai3o_L0_ok x0 x1 x2 x21 x22 s = true) (c0 : latch_Run_ai3o_L0_c0 x22 (latch_Run_ai3o_L0_end x0 x1 x2 x21 x22 s) = true) : loopG (roundG (runC E0 (cl E0) L40_0) [2, 4, 7, 8, 18, 19, 20] [4, 7, 8] 5) bound (latch_Run_ai3o_L0_enc x0 x1 x2 x3 x4 x5 x6 x7 x8 x9 x10 x11 x12 x13 x14 x15 x16 x17 x18 x19 x20 x21 x22 x23 s) = some ((.exit 0), ([(V.ptr 1 1 0 0), (V.ptr 3 1 0 0), (V.so ((latch_Run_ai3o_L0_end x0 x1 x2 x21 x22 s).c0) 4 (((latch_Run_ai3o_L0_end x0 x1 x2 x21 x22 s).c22).length))], [(Blk.flat 40 3 [[(.int .i64 x0), (.int .i64 x1), (.int .i64 x2)]] x14), (Blk.flat 42 5 [[(.bool x3), (.bool x4), (.int .i64 x5), (.int .i64 x6), (.int .i64 x7)]] x15), (Blk.flat 3 1 [] x16), (Blk.flat 42 5 [[(.bool ((latch_Run_ai3o_L0_end x0 x1 x2 x21 x22 s).c16)), (.bool ((latch_Run_ai3o_L0_end x0 x1 x2 x21 x22 s).c17)), (.int .i64 ((latch_Run_ai3o_L0_end x0 x1 x2 x21 x22 s).c18)), (.int .i64 ((latch_Run_ai3o_L0_end x0 x1 x2 x21 x22 s).c19)), (.int .i64 ((latch_Run_ai3o_L0_end x0 x1 x2 x21 x22 s).c20))]] false), (Blk.flat 3 1 (List.map (encI .i64) ((latch_Run_ai3o_L0_end x0 x1 x2 x21 x22 s).c22)) false)])) := by
  have e : itS (latch_Run_ai3o_L0_sel x0 x1 x2 x21 x22) (latch_Run_ai3o_L0_nx x0 x1 x2 x21 x22) bound s = some (latch_Run_ai3o_L0_end x0 x1 x2 x21 x22 s) := itS_get hok
  have f := itS_false e
  exact loop_it (latch_Run_ai3o_L0_go x0 x1 x2 x3 x4 x5 x6 x7 x8 x9 x10 x11 x12 x13 x14 x15 x16 x17 x18 x19 x20 x21 x22 x23) bound s _ _ _ e (fun h => by cases h) (latch_Run_ai3o_L0_x0 x0 x1 x2 x3 x4 x5 x6 x7 x8 x9 x10 x11 x12 x13 x14 x15 x16 x17 x18 x19 x20 x21 x22 x23 (latch_Run_ai3o_L0_end x0 x1 x2 x21 x22 s) f c0)
def latch_Run_ai3o_e0 (x0 : Int) (x1 : Int) (x2 : Int) (x4 : List Bool) : latch_Run_ai3o_L0_s0 := latch_Run_ai3o_L0_end x0 x1 x2 x4 ((x4.length : Nat) : Int) (⟨true, 0, false, false, 0, 0, 0, ([] : List Int)⟩ : latch_Run_ai3o_L0_s0)
def latch_Run_ai3o_c0 (x0 : Int) (x1 : Int) (x2 : Int) (x4 : List Bool) : Bool := (bif tb (latch_Right_ai3_r0_0 x0 x1 x2) then (bif tb (latch_Run_ai3o_L0_ok x0 x1 x2 x4 ((x4.length : Nat) : Int) (⟨true, 0, false, false, 0, 0, 0, ([] : List Int)⟩ : latch_Run_ai3o_L0_s0)) then (bif tb (latch_Run_ai3o_L0_c0 ((x4.length : Nat) : Int) (latch_Run_ai3o_e0 x0 x1 x2 x4)) then true else false) else false) else true)
def latch_Run_ai3o_r0_0 (x0 : Int) (x1 : Int) (x2 : Int) (x4 : List Bool) : Bool := (bif tb (latch_Right_ai3_r0_0 x0 x1 x2) then ((latch_Run_ai3o_e0 x0 x1 x2 x4).c16) else false)
def latch_Run_ai3o_r0_1 (x0 : Int) (x1 : Int) (x2 : Int) (x4 : List Bool) : Bool := (bif tb (latch_Right_ai3_r0_0 x0 x1 x2) then ((latch_Run_ai3o_e0 x0 x1 x2 x4).c17) else false)
def latch_Run_ai3o_r0_2 (x0 : Int) (x1 : Int) (x2 : Int) (x4 : List Bool) : Int := (bif tb (latch_Right_ai3_r0_0 x0 x1 x2) then ((latch_Run_ai3o_e0 x0 x1 x2 x4).c18) else 0)
def latch_Run_ai3o_r0_3 (x0 : Int) (x1 : Int) (x2 : Int) (x4 : List Bool) : Int := (bif tb (latch_Right_ai3_r0_0 x0 x1 x2) then ((latch_Run_ai3o_e0 x0 x1 x2 x4).c19) else 0)
def latch_Run_ai3o_r0_4 (x0 : Int) (x1 : Int) (x2 : Int) (x4 : List Bool) : Int := (bif tb (latch_Right_ai3_r0_0 x0 x1 x2) then ((latch_Run_ai3o_e0 x0 x1 x2 x4).c20) else 0)
def latch_Run_ai3o_r0_5 (x0 : Int) (x1 : Int) (x2 : Int) (x4 : List Bool) : Bool := (bif tb (latch_Right_ai3_r0_0 x0 x1 x2) then ((latch_Run_ai3o_e0 x0 x1 x2 x4).c0) else true)
def latch_Run_ai3o_r0_6 (x0 : Int) (x1 : Int) (x2 : Int) : Int := (bif tb (latch_Right_ai3_r0_0 x0 x1 x2) then 0 else 1)
def latch_Run_ai3o_r0_7 (x0 : Int) (x1 : Int) (x2 : Int) (x4 : List Bool) : List Int := (bif tb (latch_Right_ai3_r0_0 x0 x1 x2) then ((latch_Run_ai3o_e0 x0 x1 x2 x4).c22) else ([] : List Int))
theorem latch_Run_ai3o_t0 (x0 : Int) (x1 : Int) (x2 : Int) (x3 : Bool) (x4 : List Bool) : latch_Run_ai3o_c0 x0 x1 x2 x4 = true → cl E0 40 [(V.agg [(V.d (.int .i64 x0)), (V.d (.int .i64 x1)), (V.d (.int .i64 x2))]), (V.d (slD encB true 1 x3 x4))] [] = some ([(V.agg [(V.d (.bool (latch_Run_ai3o_r0_0 x0 x1 x2 x4))), (V.d (.bool (latch_Run_ai3o_r0_1 x0 x1 x2 x4))), (V.d (.int .i64 (latch_Run_ai3o_r0_2 x0 x1 x2 x4))), (V.d (.int .i64 (latch_Run_ai3o_r0_3 x0 x1 x2 x4))), (V.d (.int .i64 (latch_Run_ai3o_r0_4 x0 x1 x2 x4)))]), (V.so (latch_Run_ai3o_r0_5 x0 x1 x2 x4) 0 ((latch_Run_ai3o_r0_7 x0 x1 x2 x4).length)), (V.d (.int .i64 (latch_Run_ai3o_r0_6 x0 x1 x2)))], [(Blk.flat 3 1 (List.map (encI .i64) (latch_Run_ai3o_r0_7 x0 x1 x2 x4)) false)]) := by
  unfold latch_Run_ai3o_c0 latch_Run_ai3o_r0_0 latch_Run_ai3o_r0_1 latch_Run_ai3o_r0_2 latch_Run_ai3o_r0_3 latch_Run_ai3o_r0_4 latch_Run_ai3o_r0_5 latch_Run_ai3o_r0_6 latch_Run_ai3o_r0_7
  cases h1 : tb (latch_Right_ai3_r0_0 x0 x1 x2)
  · intro g0
    exact w40 [.c (latch_Right_ai3_t0 x0 x1 x2), .b (notF (tbE h1))] (by kernel_rfl)
  · cases h2 : tb (latch_Run_ai3o_L0_ok x0 x1 x2 x4 ((x4.length : Nat) : Int) (⟨true, 0, false, false, 0, 0, 0, ([] : List Int)⟩ : latch_Run_ai3o_L0_s0))
    · intro g0
      exact absurd g0 ft
    · cases h3 : tb (latch_Run_ai3o_L0_c0 ((x4.length : Nat) : Int) (latch_Run_ai3o_e0 x0 x1 x2 x4))
      · intro g0
        exact absurd g0 ft
      · intro g0
        exact w40 [.c (latch_Right_ai3_t0 x0 x1 x2), .b (notT (tbE h1)), .o 19 (fun _ => o_len_os (enc := encB) (l := x4) (fl := true) (n := x3) (s := 1)), .l (latch_Run_ai3o_L0_f0_0 x0 x1 x2 false false 0 0 0 false false 0 0 0 ([] : List Int) false false false false false true x3 x4 ((x4.length : Nat) : Int) 0 (⟨true, 0, false, false, 0, 0, 0, ([] : List Int)⟩ : latch_Run_ai3o_L0_s0) (tbE h2) (tbE h3))] (by kernel_rfl)
end Go.Proofs.Ytdjmfcdopaejcaa.Den

namespace Go.Proofs.Ytdjmfcdopaejcaa.Den
open Go Go.Proofs
set_option maxRecDepth 100000
set_option maxHeartbeats 4000000
set_option linter.unusedVariables false
set_option linter.unusedSimpArgs false
structure ref15_Run_ai3o_L0_s0 where
  c2 : Bool
  c3 : Int
  c15 : Bool
  c16 : Bool
  c17 : Int
  c18 : Int
  c19 : Int
  c21 : List Int
  deriving Inhabited
end Go.Proofs.Ytdjmfcdopaejcaa.Den

namespace Go.Proofs.Ytdjmfcdopaejcaa.Den
open Go Go.Proofs
set_option linter.unusedVariables false
set_option linter.unusedSimpArgs false
def rightP (L C B : Int) : Prop := (1 ≤ L ∧ L ≤ 100) ∧ (1 ≤ C ∧ C ≤ 1000) ∧ (0 ≤ B ∧ B ≤ 10)
def fineP (L C B : Int) (l o : Bool) (st cl bk : Int) : Prop := rightP L C B ∧
  ((l = false ∧ o = false ∧ (0 ≤ st ∧ st < L) ∧ cl = 0 ∧ (0 ≤ bk ∧ bk ≤ B)) ∨ (l = true ∧ o = false ∧ st = L ∧ (0 ≤ cl ∧ cl < C) ∧ (0 ≤ bk ∧ bk < B)) ∨ (l = true ∧ o = true ∧ st = L ∧ cl = 0 ∧ bk = B))
theorem rightL (L C B : Int) : latch_Right_ai3_r0_0 L C B = true ↔ rightP L C B := by
  simp only [latch_Right_ai3_r0_0, latch_within_iii_r0_0, tb, rightP]
  by_cases h1 : 1 ≤ L <;> by_cases h2 : L ≤ 100 <;> by_cases h3 : 1 ≤ C <;> by_cases h4 : C ≤ 1000 <;> by_cases h5 : 0 ≤ B <;> by_cases h6 : B ≤ 10 <;> simp [h1, h2, h3, h4, h5, h6]
theorem fineL {L C B st cl bk : Int} {l o : Bool} : latch_Fine_ai3ab2i3_r0_0 L C B l o st cl bk = true ↔ fineP L C B l o st cl bk := by
  by_cases hr : rightP L C B
  · have e1 := (rightL L C B).2 hr
    unfold rightP at hr
    have w1 : wi (L - 1) = L - 1 := wi_eq (by omega) (by omega)
    have w2 : wi (C - 1) = C - 1 := wi_eq (by omega) (by omega)
    have w3 : wi (B - 1) = B - 1 := wi_eq (by omega) (by omega)
    have hr' : rightP L C B := hr
    simp only [latch_Fine_ai3ab2i3_r0_0, e1, latch_out_fine_ab2i3ai3_r0_0, latch_latched_fine_ab2i3ai3_r0_0, latch_in_fine_ab2i3ai3_r0_0, latch_within_iii_r0_0, latch_of_ab2i3_c0, latch_of_ab2i3_c1, latch_of_ab2i3_c2, tb, w1, w2, w3, fineP]
    cases l <;> cases o <;> simp [hr', Bool.cond_eq_ite] <;> omega
  · have e1 : latch_Right_ai3_r0_0 L C B = false := by cases h : latch_Right_ai3_r0_0 L C B with
      | false => rfl
      | true => exact absurd ((rightL L C B).1 h) hr
    simp only [latch_Fine_ai3ab2i3_r0_0, e1, tb, cond_false, fineP]
    cases latch_of_ab2i3_c0 l o <;> cases latch_of_ab2i3_c1 l o <;> cases latch_of_ab2i3_c2 l o <;> simp [hr]
structure LS where
  l : Bool
  o : Bool
  st : Int
  cl : Int
  bk : Int
def LS.fine (L C B : Int) (s : LS) : Prop := fineP L C B s.l s.o s.st s.cl s.bk
def lnext (L C B : Int) (s : LS) (t : Bool) : LS × Int :=
  if s.o then (s, 0)
  else if s.l then (if t then ({ s with cl := 0 }, 0) else if s.cl + 1 = C then (⟨false, false, 0, 0, s.bk + 1⟩, 2) else ({ s with cl := s.cl + 1 }, 0))
  else if t then (if s.st + 1 < L then ({ s with st := s.st + 1 }, 0) else if s.bk = B then (⟨true, true, s.st + 1, s.cl, s.bk⟩, 3) else (⟨true, false, s.st + 1, s.cl, s.bk⟩, 1))
  else ({ s with st := 0 }, 0)
theorem lnext_fine {L C B : Int} {s : LS} (h : s.fine L C B) (t : Bool) : (lnext L C B s t).1.fine L C B := by
  obtain ⟨l, o, st, cl, bk⟩ := s
  obtain ⟨hr, h⟩ := h
  have hr' := hr
  unfold rightP at hr
  simp only at h
  unfold lnext LS.fine fineP
  rcases h with ⟨rfl, rfl, h⟩ | ⟨rfl, rfl, h⟩ | ⟨rfl, rfl, h⟩ <;> cases t <;> simp only [Bool.false_eq_true, if_false, if_true] <;> (repeat' split) <;> simp [hr'] <;> omega
theorem lnext_L {L C B : Int} {s : LS} (h : s.fine L C B) (t : Bool) :
    latch_Next_ai3ab2i3b_c0 L C B s.l s.o s.st s.cl s.bk = true ∧
    (⟨latch_Next_ai3ab2i3b_r0_0 L C B s.l s.o s.st s.cl s.bk t, latch_Next_ai3ab2i3b_r0_1 L C B s.l s.o s.st s.cl s.bk t, latch_Next_ai3ab2i3b_r0_2 L C B s.l s.o s.st s.cl s.bk t,
      latch_Next_ai3ab2i3b_r0_3 L C B s.l s.o s.st s.cl s.bk t, latch_Next_ai3ab2i3b_r0_4 L C B s.l s.o s.st s.cl s.bk t⟩ : LS) = (lnext L C B s t).1 ∧
    latch_Next_ai3ab2i3b_r0_5 L C B s.l s.o s.st s.cl s.bk t = (lnext L C B s t).2 ∧ latch_Next_ai3ab2i3b_r0_6 L C B s.l s.o s.st s.cl s.bk = 0 := by
  have hf := fineL.2 h
  obtain ⟨l, o, st, cl, bk⟩ := s
  obtain ⟨hr, h⟩ := h
  unfold rightP at hr
  simp only at h hf
  have w1 : wi (st + 1) = st + 1 := wi_eq (by omega) (by omega)
  have w2 : wi (cl + 1) = cl + 1 := wi_eq (by omega) (by omega)
  have w3 : wi (bk + 1) = bk + 1 := wi_eq (by omega) (by omega)
  simp only [latch_Next_ai3ab2i3b_c0, latch_Next_ai3ab2i3b_r0_0, latch_Next_ai3ab2i3b_r0_1, latch_Next_ai3ab2i3b_r0_2, latch_Next_ai3ab2i3b_r0_3, latch_Next_ai3ab2i3b_r0_4, latch_Next_ai3ab2i3b_r0_5, latch_Next_ai3ab2i3b_r0_6,
    latch_latched_next_ab2i3ai3b_r0_0, latch_latched_next_ab2i3ai3b_r0_1, latch_latched_next_ab2i3ai3b_r0_2, latch_latched_next_ab2i3ai3b_r0_3, latch_latched_next_ab2i3ai3b_r0_4, latch_latched_next_ab2i3ai3b_r0_5,
    latch_in_next_ab2i3ai3b_r0_0, latch_in_next_ab2i3ai3b_r0_1, latch_in_next_ab2i3ai3b_r0_2, latch_in_next_ab2i3ai3b_r0_5, latch_of_ab2i3_c0, latch_of_ab2i3_c1, latch_of_ab2i3_c2, hf, tb, w1, w2, w3, cond_true, cond_false, lnext, Bool.cond_eq_ite]
  rcases h with ⟨rfl, rfl, h⟩ | ⟨rfl, rfl, h⟩ | ⟨rfl, rfl, h⟩ <;> cases t <;> simp <;> (repeat' split) <;> simp_all <;> omega
end Go.Proofs.Ytdjmfcdopaejcaa.Den

namespace Go.Proofs.Ytdjmfcdopaejcaa.Den
open Go Go.Proofs
set_option linter.unusedVariables false
set_option linter.unusedSimpArgs false
def lrun (L C B : Int) : LS → List Bool → LS × List Int
  | s, [] => (s, [])
  | s, t :: r => let n := lnext L C B s t; let q := lrun L C B n.1 r; (q.1, n.2 :: q.2)
theorem lrun_append {L C B : Int} : ∀ {a : List Bool} {b : List Bool} {s : LS}, lrun L C B s (a ++ b) = ((lrun L C B (lrun L C B s a).1 b).1, (lrun L C B s a).2 ++ (lrun L C B (lrun L C B s a).1 b).2)
  | [], b, s => by simp [lrun]
  | t :: a, b, s => by simp only [List.cons_append, lrun, lrun_append (a := a)]
theorem lrun_fine {L C B : Int} : ∀ {a : List Bool} {s : LS}, s.fine L C B → (lrun L C B s a).1.fine L C B
  | [], s, h => h
  | t :: a, s, h => lrun_fine (a := a) (lnext_fine h t)
theorem lrun_len {L C B : Int} : ∀ {a : List Bool} {s : LS}, (lrun L C B s a).2.length = a.length
  | [], s => rfl
  | t :: a, s => by simp [lrun, lrun_len (a := a)]
def LS0 : LS := ⟨false, false, 0, 0, 0⟩
theorem LS0_fine {L C B : Int} (h : rightP L C B) : LS0.fine L C B := ⟨h, .inl ⟨rfl, rfl, ⟨Int.le_refl _, by have := h.1.1; simp only [LS0]; omega⟩, rfl, ⟨Int.le_refl _, h.2.2.1⟩⟩⟩
def runSt (b : Bool) (i : Nat) (q : LS × List Int) : latch_Run_ai3o_L0_s0 := ⟨b, i, q.1.l, q.1.o, q.1.st, q.1.cl, q.1.bk, q.2⟩
theorem lrun_succ {L C B : Int} {l : List Bool} {k : Nat} (h : k < l.length) {s : LS} :
    lrun L C B s (l.take (k + 1)) = ((lnext L C B (lrun L C B s (l.take k)).1 (gt l (k : Int))).1, (lrun L C B s (l.take k)).2 ++ [(lnext L C B (lrun L C B s (l.take k)).1 (gt l (k : Int))).2]) := by
  rw [take_succ_gt h, lrun_append]; rfl
theorem runL {L C B : Int} (hr : rightP L C B) (l : List Bool) (hl : l.length ≤ 100000) : latch_Run_ai3o_c0 L C B l = true ∧ latch_Run_ai3o_e0 L C B l = runSt (l.length == 0) l.length (lrun L C B LS0 l) := by
  have e1 := (rightL L C B).2 hr
  let st : Nat → latch_Run_ai3o_L0_s0 := fun k => runSt (k == 0) k (lrun L C B LS0 (l.take k))
  have hit : itS (latch_Run_ai3o_L0_sel L C B l (l.length : Int)) (latch_Run_ai3o_L0_nx L C B l (l.length : Int)) bound (st 0) = some (st l.length) := by
    refine loop_seq st l.length (by omega) (fun k hk => ?_) ?_
    · have hf : (lrun L C B LS0 (l.take k)).1.fine L C B := lrun_fine (LS0_fine hr)
      obtain ⟨a1, a2, a3, _⟩ := lnext_L hf (gt l (k : Int))
      have hlen : (lrun L C B LS0 (l.take k)).2.length = k := by rw [lrun_len]; simp; omega
      constructor
      · simp only [st, runSt, latch_Run_ai3o_L0_sel, a1, inb_of (n := l.length) (i := (k : Int)) (by omega) (by omega), tb, hlen, List.length_singleton]
        have h2 : (k + 1) * 8 ≤ 140737488355328 := by omega
        simp [hk, h2]
      · simp only [st, runSt, latch_Run_ai3o_L0_nx, latch_Run_ai3o_L0_h0_e0, a3]
        rw [lrun_succ hk, ← a2, wi_eq (by omega) (by omega)]
        simp
    · simp [st, runSt, latch_Run_ai3o_L0_sel, tb]
  have h0 : st 0 = (⟨true, 0, false, false, 0, 0, 0, ([] : List Int)⟩ : latch_Run_ai3o_L0_s0) := rfl
  rw [h0] at hit
  have he : latch_Run_ai3o_e0 L C B l = st l.length := by
    simp only [latch_Run_ai3o_e0, latch_Run_ai3o_L0_end, hit]; rfl
  refine ⟨?_, by rw [he]; simp [st]⟩
  simp only [latch_Run_ai3o_c0, e1, latch_Run_ai3o_L0_ok, hit, he, tb, latch_Run_ai3o_L0_c0]
  simp [st, runSt]
end Go.Proofs.Ytdjmfcdopaejcaa.Den

namespace Go.Proofs.Ytdjmfcdopaejcaa.Den
open Go Go.Proofs
set_option maxRecDepth 100000
set_option maxHeartbeats 4000000
set_option linter.unusedVariables false
set_option linter.unusedSimpArgs false
theorem law15_alive_t0 : cl E0 35 [] [] = some ([(V.d (.bool true))], []) := cl_of (n := 60) (by kernel_rfl)
end Go.Proofs.Ytdjmfcdopaejcaa.Den

namespace Go.Proofs.Ytdjmfcdopaejcaa.Den
open Go Go.Proofs
set_option maxRecDepth 100000
set_option maxHeartbeats 4000000
set_option linter.unusedVariables false
set_option linter.unusedSimpArgs false
def law15_LatchUnharmed_S0_c0 (x0 : Int) (x1 : Int) (x2 : Int) (x5 : List Bool) : Bool := (bif tb (latch_Right_ai3_r0_0 x0 x1 x2) then (bif tb (decide (300 < ((x5.length : Nat) : Int))) then true else false) else true)
theorem law15_LatchUnharmed_S0_t0 (x0 : Int) (x1 : Int) (x2 : Int) (x3 : Bool) (x4 : Bool) (x5 : List Bool) (x6 : Int) : law15_LatchUnharmed_S0_c0 x0 x1 x2 x5 = true → segG (runC E0 (cl E0) S9_0) [1, 2, 3] [6] [1, 2, 3] 1 ([(V.d (slD encB true 1 x4 x5)), (V.d (.int .u8 x6)), (V.ptr 0 1 0 0)], [(Blk.flat 40 3 [[(.int .i64 x0), (.int .i64 x1), (.int .i64 x2)]] x3)]) = some (.ret, ([(V.d (.bool true))], [(Blk.flat 40 3 [[(.int .i64 x0), (.int .i64 x1), (.int .i64 x2)]] x3)])) := by
  unfold law15_LatchUnharmed_S0_c0
  cases h1 : tb (latch_Right_ai3_r0_0 x0 x1 x2)
  · intro g0
    exact seg_walk [.c (latch_Right_ai3_t0 x0 x1 x2), .b (notF (tbE h1)), .c (law15_alive_t0)] (by kernel_rfl)
  · cases h2 : tb (decide (300 < ((x5.length : Nat) : Int)))
    · intro g0
      exact absurd g0 ft
    · intro g0
      exact seg_walk [.c (latch_Right_ai3_t0 x0 x1 x2), .b (notT (tbE h1)), .o 26 (fun _ => o_len_os (enc := encB) (l := x5) (fl := true) (n := x4) (s := 1)), .b (tbE h2), .c (law15_alive_t0)] (by kernel_rfl)
theorem law15_LatchUnharmed_S0_t1 (x0 : Int) (x1 : Int) (x2 : Int) (x3 : Bool) (x4 : Bool) (x5 : List Bool) (x6 : Int) : law15_LatchUnharmed_S0_c0 x0 x1 x2 x5 = false → segG (runC E0 (cl E0) S9_0) [1, 2, 3] [6] [1, 2, 3] 1 ([(V.d (slD encB true 1 x4 x5)), (V.d (.int .u8 x6)), (V.ptr 0 1 0 0)], [(Blk.flat 40 3 [[(.int .i64 x0), (.int .i64 x1), (.int .i64 x2)]] x3)]) = some (.normal, ([(V.d (slD encB true 1 x4 x5)), (V.d (.int .u8 x6)), (V.ptr 0 1 0 0)], [(Blk.flat 40 3 [[(.int .i64 x0), (.int .i64 x1), (.int .i64 x2)]] x3)])) := by
  unfold law15_LatchUnharmed_S0_c0
  cases h1 : tb (latch_Right_ai3_r0_0 x0 x1 x2)
  · intro g0
    exact absurd g0 tf
  · cases h2 : tb (decide (300 < ((x5.length : Nat) : Int)))
    · intro g0
      exact seg_walk [.c (latch_Right_ai3_t0 x0 x1 x2), .b (notT (tbE h1)), .o 26 (fun _ => o_len_os (enc := encB) (l := x5) (fl := true) (n := x4) (s := 1)), .b (tbE h2)] (by kernel_rfl)
    · intro g0
      exact absurd g0 tf
def law15_LatchUnharmed_S1_e0 (x0 : Int) (x1 : Int) (x2 : Int) (x6 : Int) : Bool := (true != (((latch_Run_ai3o_r0_0 x0 x1 x2 (List.replicate (wi (x6)).toNat (false : Bool))) == false) && (((latch_Run_ai3o_r0_1 x0 x1 x2 (List.replicate (wi (x6)).toNat (false : Bool))) == false) && ((((latch_Run_ai3o_r0_2 x0 x1 x2 (List.replicate (wi (x6)).toNat (false : Bool))) : Int) == 0) && ((((latch_Run_ai3o_r0_3 x0 x1 x2 (List.replicate (wi (x6)).toNat (false : Bool))) : Int) == 0) && ((((latch_Run_ai3o_r0_4 x0 x1 x2 (List.replicate (wi (x6)).toNat (false : Bool))) : Int) == 0) && true))))))
def law15_LatchUnharmed_S1_c0 (x0 : Int) (x1 : Int) (x2 : Int) (x6 : Int) : Bool := (bif tb (decide (0 ≤ (wi (x6))) && decide ((wi (x6)) * 1 ≤ 140737488355328)) then (bif tb (latch_Run_ai3o_c0 x0 x1 x2 (List.replicate (wi (x6)).toNat (false : Bool))) then (bif tb (((latch_Run_ai3o_r0_6 x0 x1 x2) : Int) != 0) then true else (bif tb (law15_LatchUnharmed_S1_e0 x0 x1 x2 x6) then true else false)) else false) else false)
def law15_LatchUnharmed_S1_c1 (x0 : Int) (x1 : Int) (x2 : Int) (x6 : Int) : Bool := (bif tb (decide (0 ≤ (wi (x6))) && decide ((wi (x6)) * 1 ≤ 140737488355328)) then (bif tb (latch_Run_ai3o_c0 x0 x1 x2 (List.replicate (wi (x6)).toNat (false : Bool))) then (bif tb (((latch_Run_ai3o_r0_6 x0 x1 x2) : Int) != 0) then false else (bif tb (law15_LatchUnharmed_S1_e0 x0 x1 x2 x6) then false else true)) else false) else false)
theorem law15_LatchUnharmed_S1_t0 (x0 : Int) (x1 : Int) (x2 : Int) (x3 : Bool) (x4 : Bool) (x5 : List Bool) (x6 : Int) : law15_LatchUnharmed_S1_c0 x0 x1 x2 x6 = true → segG (runC E0 (cl E0) S9_1) [1, 2, 3] [6] [1, 3] 1 ([(V.d (slD encB true 1 x4 x5)), (V.d (.int .u8 x6)), (V.ptr 0 1 0 0)], [(Blk.flat 40 3 [[(.int .i64 x0), (.int .i64 x1), (.int .i64 x2)]] x3)]) = some (.ret, ([(V.d (.bool false))], [(Blk.flat 40 3 [[(.int .i64 x0), (.int .i64 x1), (.int .i64 x2)]] x3)])) := by
  unfold law15_LatchUnharmed_S1_c0
  cases h1 : tb (decide (0 ≤ (wi (x6))) && decide ((wi (x6)) * 1 ≤ 140737488355328))
  · intro g0
    exact absurd g0 ft
  · cases h2 : tb (latch_Run_ai3o_c0 x0 x1 x2 (List.replicate (wi (x6)).toNat (false : Bool)))
    · intro g0
      exact absurd g0 ft
    · cases h3 : tb (((latch_Run_ai3o_r0_6 x0 x1 x2) : Int) != 0)
      · cases h4 : tb (law15_LatchUnharmed_S1_e0 x0 x1 x2 x6)
        · intro g0
          exact absurd g0 ft
        · intro g0
          exact seg_walk [.m 34 (o_mksl (m := [(Blk.flat 40 3 [[(.int .i64 x0), (.int .i64 x1), (.int .i64 x2)]] x3)]) (enc := encB) (z := (false : Bool)) (e := 4) (bytes := 1) (zero := [(.bool false)]) (k := .i64) (k2 := .i64) (n := (wi (x6))) (by kernel_rfl) (by kernel_rfl) (tbE h1)), .y (mm := [(Blk.flat 40 3 [[(.int .i64 x0), (.int .i64 x1), (.int .i64 x2)]] x3), (Blk.flat 4 1 (List.map encB (List.replicate (wi (x6)).toNat (false : Bool))) false)]) (args := [(V.agg [(V.d (.int .i64 x0)), (V.d (.int .i64 x1)), (V.d (.int .i64 x2))]), (V.so false 1 ((List.replicate (wi (x6)).toNat (false : Bool)).length))]) (args1 := [(V.agg [(V.d (.int .i64 x0)), (V.d (.int .i64 x1)), (V.d (.int .i64 x2))]), (V.d (.rs true 1 (List.map encB (List.replicate (wi (x6)).toNat (false : Bool))) false))]) (byvals_cons (by kernel_rfl) (byvals_cons (byval_so (enc := encB) (l := (List.replicate (wi (x6)).toNat (false : Bool))) (b := false) (e := 4) (s := 1) (p := false) (n := ((List.replicate (wi (x6)).toNat (false : Bool)).length)) (Nat.beq_refl _) (by kernel_rfl)) (by kernel_rfl))), .c (latch_Run_ai3o_t0 x0 x1 x2 false (List.replicate (wi (x6)).toNat (false : Bool)) (tbE h2)), .b (tbE h3), .b (tbE h4)] (by kernel_rfl)
      · intro g0
        exact seg_walk [.m 34 (o_mksl (m := [(Blk.flat 40 3 [[(.int .i64 x0), (.int .i64 x1), (.int .i64 x2)]] x3)]) (enc := encB) (z := (false : Bool)) (e := 4) (bytes := 1) (zero := [(.bool false)]) (k := .i64) (k2 := .i64) (n := (wi (x6))) (by kernel_rfl) (by kernel_rfl) (tbE h1)), .y (mm := [(Blk.flat 40 3 [[(.int .i64 x0), (.int .i64 x1), (.int .i64 x2)]] x3), (Blk.flat 4 1 (List.map encB (List.replicate (wi (x6)).toNat (false : Bool))) false)]) (args := [(V.agg [(V.d (.int .i64 x0)), (V.d (.int .i64 x1)), (V.d (.int .i64 x2))]), (V.so false 1 ((List.replicate (wi (x6)).toNat (false : Bool)).length))]) (args1 := [(V.agg [(V.d (.int .i64 x0)), (V.d (.int .i64 x1)), (V.d (.int .i64 x2))]), (V.d (.rs true 1 (List.map encB (List.replicate (wi (x6)).toNat (false : Bool))) false))]) (byvals_cons (by kernel_rfl) (byvals_cons (byval_so (enc := encB) (l := (List.replicate (wi (x6)).toNat (false : Bool))) (b := false) (e := 4) (s := 1) (p := false) (n := ((List.replicate (wi (x6)).toNat (false : Bool)).length)) (Nat.beq_refl _) (by kernel_rfl)) (by kernel_rfl))), .c (latch_Run_ai3o_t0 x0 x1 x2 false (List.replicate (wi (x6)).toNat (false : Bool)) (tbE h2)), .b (tbE h3)] (by kernel_rfl)
theorem law15_LatchUnharmed_S1_t1 (x0 : Int) (x1 : Int) (x2 : Int) (x3 : Bool) (x4 : Bool) (x5 : List Bool) (x6 : Int) : law15_LatchUnharmed_S1_c0 x0 x1 x2 x6 = false → law15_LatchUnharmed_S1_c1 x0 x1 x2 x6 = true → segG (runC E0 (cl E0) S9_1) [1, 2, 3] [6] [1, 3] 1 ([(V.d (slD encB true 1 x4 x5)), (V.d (.int .u8 x6)), (V.ptr 0 1 0 0)], [(Blk.flat 40 3 [[(.int .i64 x0), (.int .i64 x1), (.int .i64 x2)]] x3)]) = some (.normal, ([(V.d (slD encB true 1 x4 x5)), (V.ptr 0 1 0 0)], [(Blk.flat 40 3 [[(.int .i64 x0), (.int .i64 x1), (.int .i64 x2)]] x3)])) := by
  unfold law15_LatchUnharmed_S1_c0 law15_LatchUnharmed_S1_c1
  cases h1 : tb (decide (0 ≤ (wi (x6))) && decide ((wi (x6)) * 1 ≤ 140737488355328))
  · intro g0 g1
    exact absurd g1 ft
  · cases h2 : tb (latch_Run_ai3o_c0 x0 x1 x2 (List.replicate (wi (x6)).toNat (false : Bool)))
    · intro g0 g1
      exact absurd g1 ft
    · cases h3 : tb (((latch_Run_ai3o_r0_6 x0 x1 x2) : Int) != 0)
      · cases h4 : tb (law15_LatchUnharmed_S1_e0 x0 x1 x2 x6)
        · intro g0 g1
          exact seg_walk [.m 34 (o_mksl (m := [(Blk.flat 40 3 [[(.int .i64 x0), (.int .i64 x1), (.int .i64 x2)]] x3)]) (enc := encB) (z := (false : Bool)) (e := 4) (bytes := 1) (zero := [(.bool false)]) (k := .i64) (k2 := .i64) (n := (wi (x6))) (by kernel_rfl) (by kernel_rfl) (tbE h1)), .y (mm := [(Blk.flat 40 3 [[(.int .i64 x0), (.int .i64 x1), (.int .i64 x2)]] x3), (Blk.flat 4 1 (List.map encB (List.replicate (wi (x6)).toNat (false : Bool))) false)]) (args := [(V.agg [(V.d (.int .i64 x0)), (V.d (.int .i64 x1)), (V.d (.int .i64 x2))]), (V.so false 1 ((List.replicate (wi (x6)).toNat (false : Bool)).length))]) (args1 := [(V.agg [(V.d (.int .i64 x0)), (V.d (.int .i64 x1)), (V.d (.int .i64 x2))]), (V.d (.rs true 1 (List.map encB (List.replicate (wi (x6)).toNat (false : Bool))) false))]) (byvals_cons (by kernel_rfl) (byvals_cons (byval_so (enc := encB) (l := (List.replicate (wi (x6)).toNat (false : Bool))) (b := false) (e := 4) (s := 1) (p := false) (n := ((List.replicate (wi (x6)).toNat (false : Bool)).length)) (Nat.beq_refl _) (by kernel_rfl)) (by kernel_rfl))), .c (latch_Run_ai3o_t0 x0 x1 x2 false (List.replicate (wi (x6)).toNat (false : Bool)) (tbE h2)), .b (tbE h3), .b (tbE h4)] (by kernel_rfl)
        · intro g0 g1
          exact absurd g0 tf
      · intro g0 g1
        exact absurd g0 tf
structure law15_LatchUnharmed_L2_s0 where
  c2 : Bool
  c3 : Int
  c4 : Int
  c9 : List Bool
  deriving Inhabited
def law15_LatchUnharmed_L2_enc (x0 : Int) (x1 : Int) (x2 : Int) (x3 : List Bool) (x4 : Bool) (x5 : Bool) (x6 : Bool) (x7 : List Bool) (x8 : Bool) (x9 : Int) (x10 : Int) (s0 : law15_LatchUnharmed_L2_s0) : List V × Mem := ([(V.d (slD encB true 1 x6 x7)), (V.ptr 0 1 0 0), (V.so s0.c2 1 s0.c9.length), (V.d (.int .i64 s0.c3)), (V.d (.int .i64 s0.c4))], [(Blk.flat 40 3 [[(.int .i64 x0), (.int .i64 x1), (.int .i64 x2)]] x4), (Blk.flat 4 1 (List.map encB s0.c9) false)])
def law15_LatchUnharmed_L2_sel (x0 : Int) (x7 : List Bool) (s0 : law15_LatchUnharmed_L2_s0) : Bool := (bif tb (decide (s0.c4 < ((x7.length : Nat) : Int))) then (bif tb (inb x7.length s0.c4) then (bif tb (gt x7 s0.c4) then (bif tb (decide ((s0.c9.length + [(decide ((wi (s0.c3 + 1)) < x0))].length) * 1 ≤ 140737488355328)) then true else false) else (bif tb (decide ((s0.c9.length + [false].length) * 1 ≤ 140737488355328)) then true else false)) else false) else false)
def law15_LatchUnharmed_L2_nx (x0 : Int) (x7 : List Bool) (s0 : law15_LatchUnharmed_L2_s0) : law15_LatchUnharmed_L2_s0 := ⟨false, (bif tb (gt x7 s0.c4) then (bif tb (decide ((wi (s0.c3 + 1)) < x0)) then (wi (s0.c3 + 1)) else 0) else 0), (wi (s0.c4 + 1)), (bif tb (gt x7 s0.c4) then (s0.c9 ++ [(decide ((wi (s0.c3 + 1)) < x0))]) else (s0.c9 ++ [false]))⟩
def law15_LatchUnharmed_L2_ok (x0 : Int) (x7 : List Bool) (s0 : law15_LatchUnharmed_L2_s0) : Bool := (itS (law15_LatchUnharmed_L2_sel x0 x7) (law15_LatchUnharmed_L2_nx x0 x7) bound s0).isSome
def law15_LatchUnharmed_L2_end (x0 : Int) (x7 : List Bool) (s0 : law15_LatchUnharmed_L2_s0) : law15_LatchUnharmed_L2_s0 := (itS (law15_LatchUnharmed_L2_sel x0 x7) (law15_LatchUnharmed_L2_nx x0 x7) bound s0).getD default
theorem law15_LatchUnharmed_L2_go (x0 : Int) (x1 : Int) (x2 : Int) (x3 : List Bool) (x4 : Bool) (x5 : Bool) (x6 : Bool) (x7 : List Bool) (x8 : Bool) (x9 : Int) (x10 : Int) (s0 : law15_LatchUnharmed_L2_s0) : law15_LatchUnharmed_L2_sel x0 x7 s0 = true → (roundG (runC E0 (cl E0) L9_2) [1, 3, 10, 11, 12] [1, 3, 10, 11] 2) (law15_LatchUnharmed_L2_enc x0 x1 x2 x3 x4 x5 x6 x7 x8 x9 x10 s0) = some (.normal, law15_LatchUnharmed_L2_enc x0 x1 x2 x3 x4 x5 x6 x7 x8 x9 x10 (law15_LatchUnharmed_L2_nx x0 x7 s0)) := by
  unfold law15_LatchUnharmed_L2_sel law15_LatchUnharmed_L2_nx
  cases h1 : tb (decide (s0.c4 < ((x7.length : Nat) : Int)))
  · intro g0
    exact absurd g0 ft
  · cases h2 : tb (inb x7.length s0.c4)
    · intro g0
      exact absurd g0 ft
    · cases h3 : tb (gt x7 s0.c4)
      · cases h4 : tb (decide ((s0.c9.length + [false].length) * 1 ≤ 140737488355328))
        · intro g0
          exact absurd g0 ft
        · intro _
          exact round_walk [.o 48 (fun _ => o_len_os (enc := encB) (l := x7) (fl := true) (n := x6) (s := 1)), .b (tbE h1), .o 54 (fun _ => o_idx_os (enc := encB) (l := x7) (fl := true) (n := x6) (s := 1) (k := .i64) (tbE h2)), .b (tbE h3), .m 69 (o_app_so (nl := s0.c2) (m := [(Blk.flat 40 3 [[(.int .i64 x0), (.int .i64 x1), (.int .i64 x2)]] x4), (Blk.flat 4 1 (List.map encB s0.c9) false), (Blk.flat 4 1 [[(.bool false)]] false)]) (enc := encB) (l0 := s0.c9) (l1 := [false]) (id := 1) (e := 4) (s := 1) (bytes := 1) (x := (V.so false 2 1)) (n := s0.c9.length) (Nat.beq_refl _) (by kernel_rfl) (by kernel_rfl) (by kernel_rfl) (tbE h4))] (by kernel_rfl)
      · cases h4 : tb (decide ((wi (s0.c3 + 1)) < x0))
        · cases h5 : tb (decide ((s0.c9.length + [(decide ((wi (s0.c3 + 1)) < x0))].length) * 1 ≤ 140737488355328))
          · intro g0
            exact absurd g0 ft
          · intro _
            exact round_walk [.o 48 (fun _ => o_len_os (enc := encB) (l := x7) (fl := true) (n := x6) (s := 1)), .b (tbE h1), .o 54 (fun _ => o_idx_os (enc := encB) (l := x7) (fl := true) (n := x6) (s := 1) (k := .i64) (tbE h2)), .b (tbE h3), .b (tbE h4), .m 69 (o_app_so (nl := s0.c2) (m := [(Blk.flat 40 3 [[(.int .i64 x0), (.int .i64 x1), (.int .i64 x2)]] x4), (Blk.flat 4 1 (List.map encB s0.c9) false), (Blk.flat 4 1 [[(.bool (decide ((wi (s0.c3 + 1)) < x0)))]] false)]) (enc := encB) (l0 := s0.c9) (l1 := [(decide ((wi (s0.c3 + 1)) < x0))]) (id := 1) (e := 4) (s := 1) (bytes := 1) (x := (V.so false 2 1)) (n := s0.c9.length) (Nat.beq_refl _) (by kernel_rfl) (by kernel_rfl) (by kernel_rfl) (tbE h5))] (by kernel_rfl)
        · cases h5 : tb (decide ((s0.c9.length + [(decide ((wi (s0.c3 + 1)) < x0))].length) * 1 ≤ 140737488355328))
          · intro g0
            exact absurd g0 ft
          · intro _
            exact round_walk [.o 48 (fun _ => o_len_os (enc := encB) (l := x7) (fl := true) (n := x6) (s := 1)), .b (tbE h1), .o 54 (fun _ => o_idx_os (enc := encB) (l := x7) (fl := true) (n := x6) (s := 1) (k := .i64) (tbE h2)), .b (tbE h3), .b (tbE h4), .m 69 (o_app_so (nl := s0.c2) (m := [(Blk.flat 40 3 [[(.int .i64 x0), (.int .i64 x1), (.int .i64 x2)]] x4), (Blk.flat 4 1 (List.map encB s0.c9) false), (Blk.flat 4 1 [[(.bool (decide ((wi (s0.c3 + 1)) < x0)))]] false)]) (enc := encB) (l0 := s0.c9) (l1 := [(decide ((wi (s0.c3 + 1)) < x0))]) (id := 1) (e := 4) (s := 1) (bytes := 1) (x := (V.so false 2 1)) (n := s0.c9.length) (Nat.beq_refl _) (by kernel_rfl) (by kernel_rfl) (by kernel_rfl) (tbE h5))] (by kernel_rfl)
def law15_LatchUnharmed_L2_c0 (x7 : List Bool) (s0 : law15_LatchUnharmed_L2_s0) : Bool := (bif tb (decide (s0.c4 < ((x7.length : Nat) : Int))) then false else true)
theorem law15_LatchUnharmed_L2_x0 (x0 : Int) (x1 : Int) (x2 : Int) (x3 : List Bool) (x4 : Bool) (x5 : Bool) (x6 : Bool) (x7 : List Bool) (x8 : Bool) (x9 : Int) (x10 : Int) (s0 : law15_LatchUnharmed_L2_s0) : law15_LatchUnharmed_L2_sel x0 x7 s0 = false → law15_LatchUnharmed_L2_c0 x7 s0 = true → (roundG (runC E0 (cl E0) L9_2) [1, 3, 10, 11, 12] [1, 3, 10, 11] 2) (law15_LatchUnharmed_L2_enc x0 x1 x2 x3 x4 x5 x6 x7 x8 x9 x10 s0) = some ((.exit 0), ([(V.d (slD encB true 1 x6 x7)), (V.ptr 0 1 0 0), (V.so s0.c2 1 s0.c9.length), (V.d (.int .i64 s0.c3))], [(Blk.flat 40 3 [[(.int .i64 x0), (.int .i64 x1), (.int .i64 x2)]] x4), (Blk.flat 4 1 (List.map encB s0.c9) false)])) := by
  unfold law15_LatchUnharmed_L2_sel law15_LatchUnharmed_L2_c0
  cases h1 : tb (decide (s0.c4 < ((x7.length : Nat) : Int)))
  · intro g0 g1
    exact round_walk [.o 48 (fun _ => o_len_os (enc := encB) (l := x7) (fl := true) (n := x6) (s := 1)), .b (tbE h1)] (by kernel_rfl)
  · cases h2 : tb (inb x7.length s0.c4)
    · intro g0 g1
      exact absurd g1 ft
    · cases h3 : tb (gt x7 s0.c4)
      · cases h4 : tb (decide ((s0.c9.length + [false].length) * 1 ≤ 140737488355328))
        · intro g0 g1
          exact absurd g1 ft
        · intro g0 g1
          exact absurd g0 tf
      · cases h4 : tb (decide ((wi (s0.c3 + 1)) < x0))
        · cases h5 : tb (decide ((s0.c9.length + [(decide ((wi (s0.c3 + 1)) < x0))].length) * 1 ≤ 140737488355328))
          · intro g0 g1
            exact absurd g1 ft
          · intro g0 g1
            exact absurd g0 tf
        · cases h5 : tb (decide ((s0.c9.length + [(decide ((wi (s0.c3 + 1)) < x0))].length) * 1 ≤ 140737488355328))
          · intro g0 g1
            exact absurd g1 ft
          · intro g0 g1
            exact absurd g0 tf
theorem law15_LatchUnharmed_L2_f0_0 (x0 : Int) (x1 : Int) (x2 : Int) (x3 : List Bool) (x4 : Bool) (x5 : Bool) (x6 : Bool) (x7 : List Bool) (x8 : Bool) (x9 : Int) (x10 : Int) (s : law15_LatchUnharmed_L2_s0) (hok : law15_LatchUnharmed_L2_ok x0 x7 s = true) (c0 : law15_LatchUnharmed_L2_c0 x7 (law15_LatchUnharmed_L2_end x0 x7 s) = true) : loopG (roundG (runC E0 (cl E0) L9_2) [1, 3, 10, 11, 12] [1, 3, 10, 11] 2) bound (law15_LatchUnharmed_L2_enc x0 x1 x2 x3 x4 x5 x6 x7 x8 x9 x10 s) = some ((.exit 0), ([(V.d (slD encB true 1 x6 x7)), (V.ptr 0 1 0 0), (V.so ((law15_LatchUnharmed_L2_end x0 x7 s).c2) 1 (((law15_LatchUnharmed_L2_end x0 x7 s).c9).length)), (V.d (.int .i64 ((law15_LatchUnharmed_L2_end x0 x7 s).c3)))], [(Blk.flat 40 3 [[(.int .i64 x0), (.int .i64 x1), (.int .i64 x2)]] x4), (Blk.flat 4 1 (List.map encB ((law15_LatchUnharmed_L2_end x0 x7 s).c9)) false)])) := by
  have e : itS (law15_LatchUnharmed_L2_sel x0 x7) (law15_LatchUnharmed_L2_nx x0 x7) bound s = some (law15_LatchUnharmed_L2_end x0 x7 s) := itS_get hok
  have f := itS_false e
  exact loop_it (law15_LatchUnharmed_L2_go x0 x1 x2 x3 x4 x5 x6 x7 x8 x9 x10) bound s _ _ _ e (fun h => by cases h) (law15_LatchUnharmed_L2_x0 x0 x1 x2 x3 x4 x5 x6 x7 x8 x9 x10 (law15_LatchUnharmed_L2_end x0 x7 s) f c0)
structure law15_LatchUnharmed_L3_s0 where
  c5 : Int
  deriving Inhabited
def law15_LatchUnharmed_L3_enc (x0 : Int) (x1 : Int) (x2 : Int) (x3 : List Bool) (x4 : List Int) (x5 : Bool) (x6 : Bool) (x7 : Int) (x8 : Int) (x9 : Int) (x10 : Bool) (x11 : Bool) (x12 : Bool) (x13 : Bool) (x14 : Bool) (x15 : List Bool) (x16 : Int) (x17 : Bool) (x18 : Int) (x19 : Int) (s0 : law15_LatchUnharmed_L3_s0) : List V × Mem := ([(V.d (slD encB true 1 x14 x15)), (V.ptr 0 1 0 0), (V.d (.int .i64 x16)), (V.ptr 3 1 0 0), (V.so x17 2 x4.length), (V.d (.int .i64 x18)), (V.d (.int .i64 s0.c5))], [(Blk.flat 40 3 [[(.int .i64 x0), (.int .i64 x1), (.int .i64 x2)]] x10), (Blk.flat 4 1 (List.map encB x3) x11), (Blk.flat 3 1 (List.map (encI .i64) x4) x12), (Blk.flat 42 5 [[(.bool x5), (.bool x6), (.int .i64 x7), (.int .i64 x8), (.int .i64 x9)]] x13)])
def law15_LatchUnharmed_L3_sel (x4 : List Int) (s0 : law15_LatchUnharmed_L3_s0) : Bool := (bif tb (decide (s0.c5 < ((x4.length : Nat) : Int))) then (bif tb (inb x4.length s0.c5) then (bif tb (((gt x4 s0.c5) : Int) != 0) then false else true) else false) else false)
def law15_LatchUnharmed_L3_nx (x4 : List Int) (s0 : law15_LatchUnharmed_L3_s0) : law15_LatchUnharmed_L3_s0 := ⟨(wi (s0.c5 + 1))⟩
def law15_LatchUnharmed_L3_ok (x4 : List Int) (s0 : law15_LatchUnharmed_L3_s0) : Bool := (itS (law15_LatchUnharmed_L3_sel x4) (law15_LatchUnharmed_L3_nx x4) bound s0).isSome
def law15_LatchUnharmed_L3_end (x4 : List Int) (s0 : law15_LatchUnharmed_L3_s0) : law15_LatchUnharmed_L3_s0 := (itS (law15_LatchUnharmed_L3_sel x4) (law15_LatchUnharmed_L3_nx x4) bound s0).getD default
theorem law15_LatchUnharmed_L3_go (x0 : Int) (x1 : Int) (x2 : Int) (x3 : List Bool) (x4 : List Int) (x5 : Bool) (x6 : Bool) (x7 : Int) (x8 : Int) (x9 : Int) (x10 : Bool) (x11 : Bool) (x12 : Bool) (x13 : Bool) (x14 : Bool) (x15 : List Bool) (x16 : Int) (x17 : Bool) (x18 : Int) (x19 : Int) (s0 : law15_LatchUnharmed_L3_s0) : law15_LatchUnharmed_L3_sel x4 s0 = true → (roundG (runC E0 (cl E0) L9_3) [1, 3, 11, 14, 15, 16, 17] [1, 3, 6, 11, 14, 16] 4) (law15_LatchUnharmed_L3_enc x0 x1 x2 x3 x4 x5 x6 x7 x8 x9 x10 x11 x12 x13 x14 x15 x16 x17 x18 x19 s0) = some (.normal, law15_LatchUnharmed_L3_enc x0 x1 x2 x3 x4 x5 x6 x7 x8 x9 x10 x11 x12 x13 x14 x15 x16 x17 x18 x19 (law15_LatchUnharmed_L3_nx x4 s0)) := by
  unfold law15_LatchUnharmed_L3_sel law15_LatchUnharmed_L3_nx
  cases h1 : tb (decide (s0.c5 < ((x4.length : Nat) : Int)))
  · intro g0
    exact absurd g0 ft
  · cases h2 : tb (inb x4.length s0.c5)
    · intro g0
      exact absurd g0 ft
    · cases h3 : tb (((gt x4 s0.c5) : Int) != 0)
      · intro _
        exact round_walk [.b (tbE h1), .m 85 (o_idx_so (m := [(Blk.flat 40 3 [[(.int .i64 x0), (.int .i64 x1), (.int .i64 x2)]] x10), (Blk.flat 4 1 (List.map encB x3) x11), (Blk.flat 3 1 (List.map (encI .i64) x4) x12), (Blk.flat 42 5 [[(.bool x5), (.bool x6), (.int .i64 x7), (.int .i64 x8), (.int .i64 x9)]] x13)]) (b := x17) (id := 2) (n := x4.length) (s := 1) (k := .i64) (by kernel_rfl) (tbE h2)), .m 86 (o_load_L (m := [(Blk.flat 40 3 [[(.int .i64 x0), (.int .i64 x1), (.int .i64 x2)]] x10), (Blk.flat 4 1 (List.map encB x3) x11), (Blk.flat 3 1 (List.map (encI .i64) x4) x12), (Blk.flat 42 5 [[(.bool x5), (.bool x6), (.int .i64 x7), (.int .i64 x8), (.int .i64 x9)]] x13)]) (enc := (encI .i64)) (l := x4) (id := 2) (e := 3) (s := 1) (off := 0) (size := 1) (p := x12) (agg := false) (i := s0.c5) (v := (V.d (.int .i64 (gt x4 s0.c5)))) (n := x4.length) (Nat.beq_refl _) (by kernel_rfl) (tbE h2) (by kernel_rfl)), .b (tbE h3)] (by kernel_rfl)
      · intro g0
        exact absurd g0 ft
def law15_LatchUnharmed_L3_c0 (x4 : List Int) (s0 : law15_LatchUnharmed_L3_s0) : Bool := (bif tb (decide (s0.c5 < ((x4.length : Nat) : Int))) then (bif tb (inb x4.length s0.c5) then true else false) else false)
def law15_LatchUnharmed_L3_c1 (x4 : List Int) (s0 : law15_LatchUnharmed_L3_s0) : Bool := (bif tb (decide (s0.c5 < ((x4.length : Nat) : Int))) then false else true)
theorem law15_LatchUnharmed_L3_x0 (x0 : Int) (x1 : Int) (x2 : Int) (x3 : List Bool) (x4 : List Int) (x5 : Bool) (x6 : Bool) (x7 : Int) (x8 : Int) (x9 : Int) (x10 : Bool) (x11 : Bool) (x12 : Bool) (x13 : Bool) (x14 : Bool) (x15 : List Bool) (x16 : Int) (x17 : Bool) (x18 : Int) (x19 : Int) (s0 : law15_LatchUnharmed_L3_s0) : law15_LatchUnharmed_L3_sel x4 s0 = false → law15_LatchUnharmed_L3_c0 x4 s0 = true → (roundG (runC E0 (cl E0) L9_3) [1, 3, 11, 14, 15, 16, 17] [1, 3, 6, 11, 14, 16] 4) (law15_LatchUnharmed_L3_enc x0 x1 x2 x3 x4 x5 x6 x7 x8 x9 x10 x11 x12 x13 x14 x15 x16 x17 x18 x19 s0) = some (.ret, ([(V.d (slD encB true 1 x14 x15)), (V.ptr 0 1 0 0), (V.d (.bool false)), (V.d (.int .i64 x16)), (V.ptr 3 1 0 0), (V.d (.int .i64 x18))], [(Blk.flat 40 3 [[(.int .i64 x0), (.int .i64 x1), (.int .i64 x2)]] x10), (Blk.flat 4 1 (List.map encB x3) x11), (Blk.flat 3 1 (List.map (encI .i64) x4) x12), (Blk.flat 42 5 [[(.bool x5), (.bool x6), (.int .i64 x7), (.int .i64 x8), (.int .i64 x9)]] x13)])) := by
  unfold law15_LatchUnharmed_L3_sel law15_LatchUnharmed_L3_c0
  cases h1 : tb (decide (s0.c5 < ((x4.length : Nat) : Int)))
  · intro g0 g1
    exact absurd g1 ft
  · cases h2 : tb (inb x4.length s0.c5)
    · intro g0 g1
      exact absurd g1 ft
    · cases h3 : tb (((gt x4 s0.c5) : Int) != 0)
      · intro g0 g1
        exact absurd g0 tf
      · intro g0 g1
        exact round_walk [.b (tbE h1), .m 85 (o_idx_so (m := [(Blk.flat 40 3 [[(.int .i64 x0), (.int .i64 x1), (.int .i64 x2)]] x10), (Blk.flat 4 1 (List.map encB x3) x11), (Blk.flat 3 1 (List.map (encI .i64) x4) x12), (Blk.flat 42 5 [[(.bool x5), (.bool x6), (.int .i64 x7), (.int .i64 x8), (.int .i64 x9)]] x13)]) (b := x17) (id := 2) (n := x4.length) (s := 1) (k := .i64) (by kernel_rfl) (tbE h2)), .m 86 (o_load_L (m := [(Blk.flat 40 3 [[(.int .i64 x0), (.int .i64 x1), (.int .i64 x2)]] x10), (Blk.flat 4 1 (List.map encB x3) x11), (Blk.flat 3 1 (List.map (encI .i64) x4) x12), (Blk.flat 42 5 [[(.bool x5), (.bool x6), (.int .i64 x7), (.int .i64 x8), (.int .i64 x9)]] x13)]) (enc := (encI .i64)) (l := x4) (id := 2) (e := 3) (s := 1) (off := 0) (size := 1) (p := x12) (agg := false) (i := s0.c5) (v := (V.d (.int .i64 (gt x4 s0.c5)))) (n := x4.length) (Nat.beq_refl _) (by kernel_rfl) (tbE h2) (by kernel_rfl)), .b (tbE h3)] (by kernel_rfl)
theorem law15_LatchUnharmed_L3_x1 (x0 : Int) (x1 : Int) (x2 : Int) (x3 : List Bool) (x4 : List Int) (x5 : Bool) (x6 : Bool) (x7 : Int) (x8 : Int) (x9 : Int) (x10 : Bool) (x11 : Bool) (x12 : Bool) (x13 : Bool) (x14 : Bool) (x15 : List Bool) (x16 : Int) (x17 : Bool) (x18 : Int) (x19 : Int) (s0 : law15_LatchUnharmed_L3_s0) : law15_LatchUnharmed_L3_sel x4 s0 = false → law15_LatchUnharmed_L3_c0 x4 s0 = false → law15_LatchUnharmed_L3_c1 x4 s0 = true → (roundG (runC E0 (cl E0) L9_3) [1, 3, 11, 14, 15, 16, 17] [1, 3, 6, 11, 14, 16] 4) (law15_LatchUnharmed_L3_enc x0 x1 x2 x3 x4 x5 x6 x7 x8 x9 x10 x11 x12 x13 x14 x15 x16 x17 x18 x19 s0) = some ((.exit 2), ([(V.d (slD encB true 1 x14 x15)), (V.ptr 0 1 0 0), V.un, (V.d (.int .i64 x16)), (V.ptr 3 1 0 0), (V.d (.int .i64 x18))], [(Blk.flat 40 3 [[(.int .i64 x0), (.int .i64 x1), (.int .i64 x2)]] x10), (Blk.flat 4 1 (List.map encB x3) x11), (Blk.flat 3 1 (List.map (encI .i64) x4) x12), (Blk.flat 42 5 [[(.bool x5), (.bool x6), (.int .i64 x7), (.int .i64 x8), (.int .i64 x9)]] x13)])) := by
  unfold law15_LatchUnharmed_L3_sel law15_LatchUnharmed_L3_c0 law15_LatchUnharmed_L3_c1
  cases h1 : tb (decide (s0.c5 < ((x4.length : Nat) : Int)))
  · intro g0 g1 g2
    exact round_walk [.b (tbE h1)] (by kernel_rfl)
  · cases h2 : tb (inb x4.length s0.c5)
    · intro g0 g1 g2
      exact absurd g2 ft
    · cases h3 : tb (((gt x4 s0.c5) : Int) != 0)
      · intro g0 g1 g2
        exact absurd g0 tf
      · intro g0 g1 g2
        exact absurd g1 tf
theorem law15_LatchUnharmed_L3_f0_0 (x0 : Int) (x1 : Int) (x2 : Int) (x3 : List Bool) (x4 : List Int) (x5 : Bool) (x6 : Bool) (x7 : Int) (x8 : Int) (x9 : Int) (x10 : Bool) (x11 : Bool) (x12 : Bool) (x13 : Bool) (x14 : Bool) (x15 : List Bool) (x16 : Int) (x17 : Bool) (x18 : Int) (x19 : Int) (s : law15_LatchUnharmed_L3_s0) (hok : law15_LatchUnharmed_L3_ok x4 s = true) (c0 : law15_LatchUnharmed_L3_c0 x4 (law15_LatchUnharmed_L3_end x4 s) = true) : loopG (roundG (runC E0 (cl E0) L9_3) [1, 3, 11, 14, 15, 16, 17] [1, 3, 6, 11, 14, 16] 4) bound (law15_LatchUnharmed_L3_enc x0 x1 x2 x3 x4 x5 x6 x7 x8 x9 x10 x11 x12 x13 x14 x15 x16 x17 x18 x19 s) = some (.ret, ([(V.d (slD encB true 1 x14 x15)), (V.ptr 0 1 0 0), (V.d (.bool false)), (V.d (.int .i64 x16)), (V.ptr 3 1 0 0), (V.d (.int .i64 x18))], [(Blk.flat 40 3 [[(.int .i64 x0), (.int .i64 x1), (.int .i64 x2)]] x10), (Blk.flat 4 1 (List.map encB x3) x11), (Blk.flat 3 1 (List.map (encI .i64) x4) x12), (Blk.flat 42 5 [[(.bool x5), (.bool x6), (.int .i64 x7), (.int .i64 x8), (.int .i64 x9)]] x13)])) := by
  have e : itS (law15_LatchUnharmed_L3_sel x4) (law15_LatchUnharmed_L3_nx x4) bound s = some (law15_LatchUnharmed_L3_end x4 s) := itS_get hok
  have f := itS_false e
  exact loop_it (law15_LatchUnharmed_L3_go x0 x1 x2 x3 x4 x5 x6 x7 x8 x9 x10 x11 x12 x13 x14 x15 x16 x17 x18 x19) bound s _ _ _ e (fun h => by cases h) (law15_LatchUnharmed_L3_x0 x0 x1 x2 x3 x4 x5 x6 x7 x8 x9 x10 x11 x12 x13 x14 x15 x16 x17 x18 x19 (law15_LatchUnharmed_L3_end x4 s) f c0)
theorem law15_LatchUnharmed_L3_f0_1 (x0 : Int) (x1 : Int) (x2 : Int) (x3 : List Bool) (x4 : List Int) (x5 : Bool) (x6 : Bool) (x7 : Int) (x8 : Int) (x9 : Int) (x10 : Bool) (x11 : Bool) (x12 : Bool) (x13 : Bool) (x14 : Bool) (x15 : List Bool) (x16 : Int) (x17 : Bool) (x18 : Int) (x19 : Int) (s : law15_LatchUnharmed_L3_s0) (hok : law15_LatchUnharmed_L3_ok x4 s = true) (c0 : law15_LatchUnharmed_L3_c0 x4 (law15_LatchUnharmed_L3_end x4 s) = false) (c1 : law15_LatchUnharmed_L3_c1 x4 (law15_LatchUnharmed_L3_end x4 s) = true) : loopG (roundG (runC E0 (cl E0) L9_3) [1, 3, 11, 14, 15, 16, 17] [1, 3, 6, 11, 14, 16] 4) bound (law15_LatchUnharmed_L3_enc x0 x1 x2 x3 x4 x5 x6 x7 x8 x9 x10 x11 x12 x13 x14 x15 x16 x17 x18 x19 s) = some ((.exit 2), ([(V.d (slD encB true 1 x14 x15)), (V.ptr 0 1 0 0), V.un, (V.d (.int .i64 x16)), (V.ptr 3 1 0 0), (V.d (.int .i64 x18))], [(Blk.flat 40 3 [[(.int .i64 x0), (.int .i64 x1), (.int .i64 x2)]] x10), (Blk.flat 4 1 (List.map encB x3) x11), (Blk.flat 3 1 (List.map (encI .i64) x4) x12), (Blk.flat 42 5 [[(.bool x5), (.bool x6), (.int .i64 x7), (.int .i64 x8), (.int .i64 x9)]] x13)])) := by
  have e : itS (law15_LatchUnharmed_L3_sel x4) (law15_LatchUnharmed_L3_nx x4) bound s = some (law15_LatchUnharmed_L3_end x4 s) := itS_get hok
  have f := itS_false e
  exact loop_it (law15_LatchUnharmed_L3_go x0 x1 x2 x3 x4 x5 x6 x7 x8 x9 x10 x11 x12 x13 x14 x15 x16 x17 x18 x19) bound s _ _ _ e (fun h => by cases h) (law15_LatchUnharmed_L3_x1 x0 x1 x2 x3 x4 x5 x6 x7 x8 x9 x10 x11 x12 x13 x14 x15 x16 x17 x18 x19 (law15_LatchUnharmed_L3_end x4 s) f c0 c1)
def law15_LatchUnharmed_S4_e0 (x0 : Int) (x6 : List Bool) : law15_LatchUnharmed_L2_s0 := law15_LatchUnharmed_L2_end x0 x6 (⟨true, 0, 0, ([] : List Bool)⟩ : law15_LatchUnharmed_L2_s0)
def law15_LatchUnharmed_S4_e1 (x0 : Int) (x1 : Int) (x2 : Int) (x6 : List Bool) : List Int := (latch_Run_ai3o_r0_7 x0 x1 x2 ((law15_LatchUnharmed_S4_e0 x0 x6).c9))
def law15_LatchUnharmed_S4_e2 (x0 : Int) (x1 : Int) (x2 : Int) (x6 : List Bool) : Bool := (latch_Run_ai3o_r0_0 x0 x1 x2 ((law15_LatchUnharmed_S4_e0 x0 x6).c9))
def law15_LatchUnharmed_S4_e3 (x0 : Int) (x1 : Int) (x2 : Int) (x6 : List Bool) : Bool := (latch_Run_ai3o_r0_1 x0 x1 x2 ((law15_LatchUnharmed_S4_e0 x0 x6).c9))
def law15_LatchUnharmed_S4_e4 (x0 : Int) (x1 : Int) (x2 : Int) (x6 : List Bool) : Int := (latch_Run_ai3o_r0_2 x0 x1 x2 ((law15_LatchUnharmed_S4_e0 x0 x6).c9))
def law15_LatchUnharmed_S4_e5 (x0 : Int) (x1 : Int) (x2 : Int) (x6 : List Bool) : Int := (latch_Run_ai3o_r0_3 x0 x1 x2 ((law15_LatchUnharmed_S4_e0 x0 x6).c9))
def law15_LatchUnharmed_S4_e6 (x0 : Int) (x1 : Int) (x2 : Int) (x6 : List Bool) : Int := (latch_Run_ai3o_r0_4 x0 x1 x2 ((law15_LatchUnharmed_S4_e0 x0 x6).c9))
def law15_LatchUnharmed_S4_e7 (x0 : Int) (x1 : Int) (x2 : Int) (x6 : List Bool) : Bool := (latch_Run_ai3o_r0_5 x0 x1 x2 ((law15_LatchUnharmed_S4_e0 x0 x6).c9))
def law15_LatchUnharmed_S4_e8 (x0 : Int) (x1 : Int) (x2 : Int) (x6 : List Bool) : law15_LatchUnharmed_L3_s0 := law15_LatchUnharmed_L3_end (law15_LatchUnharmed_S4_e1 x0 x1 x2 x6) (⟨0⟩ : law15_LatchUnharmed_L3_s0)
def law15_LatchUnharmed_S4_c0 (x0 : Int) (x1 : Int) (x2 : Int) (x6 : List Bool) : Bool := (bif tb (law15_LatchUnharmed_L2_ok x0 x6 (⟨true, 0, 0, ([] : List Bool)⟩ : law15_LatchUnharmed_L2_s0)) then (bif tb (law15_LatchUnharmed_L2_c0 x6 (law15_LatchUnharmed_S4_e0 x0 x6)) then (bif tb (latch_Run_ai3o_c0 x0 x1 x2 ((law15_LatchUnharmed_S4_e0 x0 x6).c9)) then (bif tb (law15_LatchUnharmed_L3_ok (law15_LatchUnharmed_S4_e1 x0 x1 x2 x6) (⟨0⟩ : law15_LatchUnharmed_L3_s0)) then (bif tb (law15_LatchUnharmed_L3_c0 (law15_LatchUnharmed_S4_e1 x0 x1 x2 x6) (law15_LatchUnharmed_S4_e8 x0 x1 x2 x6)) then true else false) else false) else false) else false) else false)
def law15_LatchUnharmed_S4_c1 (x0 : Int) (x1 : Int) (x2 : Int) (x6 : List Bool) : Bool := (bif tb (law15_LatchUnharmed_L2_ok x0 x6 (⟨true, 0, 0, ([] : List Bool)⟩ : law15_LatchUnharmed_L2_s0)) then (bif tb (law15_LatchUnharmed_L2_c0 x6 (law15_LatchUnharmed_S4_e0 x0 x6)) then (bif tb (latch_Run_ai3o_c0 x0 x1 x2 ((law15_LatchUnharmed_S4_e0 x0 x6).c9)) then (bif tb (law15_LatchUnharmed_L3_ok (law15_LatchUnharmed_S4_e1 x0 x1 x2 x6) (⟨0⟩ : law15_LatchUnharmed_L3_s0)) then (bif tb (law15_LatchUnharmed_L3_c0 (law15_LatchUnharmed_S4_e1 x0 x1 x2 x6) (law15_LatchUnharmed_S4_e8 x0 x1 x2 x6)) then false else (bif tb (law15_LatchUnharmed_L3_c1 (law15_LatchUnharmed_S4_e1 x0 x1 x2 x6) (law15_LatchUnharmed_S4_e8 x0 x1 x2 x6)) then (bif tb (decide ((([] : List Bool).length + x6.length) * 1 ≤ 140737488355328)) then (bif tb (decide (0 ≤ x1) && decide ((x6.length + (x1 : Int).toNat) * 1 ≤ 140737488355328)) then (bif tb (latch_Run_ai3o_c0 x0 x1 x2 (x6 ++ List.replicate (x1 : Int).toNat (false : Bool))) then true else false) else false) else false) else false)) else false) else false) else false) else false)
def law15_LatchUnharmed_S4_r1_0 (x0 : Int) (x1 : Int) (x2 : Int) (x6 : List Bool) : Bool := (bif tb (((latch_Run_ai3o_r0_6 x0 x1 x2) : Int) == 0) then (bif tb (law15_LatchUnharmed_S4_e2 x0 x1 x2 x6) then false else (bif tb (((law15_LatchUnharmed_S4_e6 x0 x1 x2 x6) : Int) == 0) then (bif tb (((law15_LatchUnharmed_S4_e4 x0 x1 x2 x6) : Int) == ((law15_LatchUnharmed_S4_e0 x0 x6).c3)) then (bif tb (latch_Run_ai3o_r0_1 x0 x1 x2 (x6 ++ List.replicate (x1 : Int).toNat (false : Bool))) then true else (bif tb (latch_Run_ai3o_r0_0 x0 x1 x2 (x6 ++ List.replicate (x1 : Int).toNat (false : Bool))) then false else (((latch_Run_ai3o_r0_2 x0 x1 x2 (x6 ++ List.replicate (x1 : Int).toNat (false : Bool))) : Int) == 0))) else false) else false)) else false)
theorem law15_LatchUnharmed_S4_t0 (x0 : Int) (x1 : Int) (x2 : Int) (x3 : Bool) (x5 : Bool) (x6 : List Bool) : law15_LatchUnharmed_S4_c0 x0 x1 x2 x6 = true → segG (runC E0 (cl E0) S9_4) [1, 3, 10, 11] [6] [6] 2 ([(V.d (slD encB true 1 x5 x6)), (V.ptr 0 1 0 0), (V.so true 1 0), (V.d (.int .i64 0))], [(Blk.flat 40 3 [[(.int .i64 x0), (.int .i64 x1), (.int .i64 x2)]] x3), (Blk.flat 4 1 [] false)]) = some (.ret, ([(V.d (.bool false))], [(Blk.flat 40 3 [[(.int .i64 x0), (.int .i64 x1), (.int .i64 x2)]] x3), (Blk.flat 4 1 (List.map encB ((law15_LatchUnharmed_S4_e0 x0 x6).c9)) false)])) := by
  unfold law15_LatchUnharmed_S4_c0
  cases h1 : tb (law15_LatchUnharmed_L2_ok x0 x6 (⟨true, 0, 0, ([] : List Bool)⟩ : law15_LatchUnharmed_L2_s0))
  · intro g0
    exact absurd g0 ft
  · cases h2 : tb (law15_LatchUnharmed_L2_c0 x6 (law15_LatchUnharmed_S4_e0 x0 x6))
    · intro g0
      exact absurd g0 ft
    · cases h3 : tb (latch_Run_ai3o_c0 x0 x1 x2 ((law15_LatchUnharmed_S4_e0 x0 x6).c9))
      · intro g0
        exact absurd g0 ft
      · cases h4 : tb (law15_LatchUnharmed_L3_ok (law15_LatchUnharmed_S4_e1 x0 x1 x2 x6) (⟨0⟩ : law15_LatchUnharmed_L3_s0))
        · intro g0
          exact absurd g0 ft
        · cases h5 : tb (law15_LatchUnharmed_L3_c0 (law15_LatchUnharmed_S4_e1 x0 x1 x2 x6) (law15_LatchUnharmed_S4_e8 x0 x1 x2 x6))
          · cases h6 : tb (law15_LatchUnharmed_L3_c1 (law15_LatchUnharmed_S4_e1 x0 x1 x2 x6) (law15_LatchUnharmed_S4_e8 x0 x1 x2 x6))
            · intro g0
              exact absurd g0 ft
            · cases h7 : tb (decide ((([] : List Bool).length + x6.length) * 1 ≤ 140737488355328))
              · intro g0
                exact absurd g0 ft
              · cases h8 : tb (decide (0 ≤ x1) && decide ((x6.length + (x1 : Int).toNat) * 1 ≤ 140737488355328))
                · intro g0
                  exact absurd g0 ft
                · cases h9 : tb (latch_Run_ai3o_c0 x0 x1 x2 (x6 ++ List.replicate (x1 : Int).toNat (false : Bool)))
                  · intro g0
                    exact absurd g0 ft
                  · cases h10 : tb (((latch_Run_ai3o_r0_6 x0 x1 x2) : Int) == 0)
                    · intro g0
                      exact absurd g0 ft
                    · cases h11 : tb (law15_LatchUnharmed_S4_e2 x0 x1 x2 x6)
                      · cases h12 : tb (((law15_LatchUnharmed_S4_e6 x0 x1 x2 x6) : Int) == 0)
                        · intro g0
                          exact absurd g0 ft
                        · cases h13 : tb (((law15_LatchUnharmed_S4_e4 x0 x1 x2 x6) : Int) == ((law15_LatchUnharmed_S4_e0 x0 x6).c3))
                          · intro g0
                            exact absurd g0 ft
                          · cases h14 : tb (latch_Run_ai3o_r0_1 x0 x1 x2 (x6 ++ List.replicate (x1 : Int).toNat (false : Bool)))
                            · cases h15 : tb (latch_Run_ai3o_r0_0 x0 x1 x2 (x6 ++ List.replicate (x1 : Int).toNat (false : Bool)))
                              · intro g0
                                exact absurd g0 ft
                              · intro g0
                                exact absurd g0 ft
                            · intro g0
                              exact absurd g0 ft
                      · intro g0
                        exact absurd g0 ft
          · intro g0
            exact seg_walk [.l (law15_LatchUnharmed_L2_f0_0 x0 x1 x2 ([] : List Bool) x3 false x5 x6 true 0 0 (⟨true, 0, 0, ([] : List Bool)⟩ : law15_LatchUnharmed_L2_s0) (tbE h1) (tbE h2)), .y (mm := [(Blk.flat 40 3 [[(.int .i64 x0), (.int .i64 x1), (.int .i64 x2)]] x3), (Blk.flat 4 1 (List.map encB ((law15_LatchUnharmed_S4_e0 x0 x6).c9)) false)]) (args := [(V.agg [(V.d (.int .i64 x0)), (V.d (.int .i64 x1)), (V.d (.int .i64 x2))]), (V.so ((law15_LatchUnharmed_S4_e0 x0 x6).c2) 1 (((law15_LatchUnharmed_S4_e0 x0 x6).c9).length))]) (args1 := [(V.agg [(V.d (.int .i64 x0)), (V.d (.int .i64 x1)), (V.d (.int .i64 x2))]), (V.d (slD encB true 1 ((law15_LatchUnharmed_S4_e0 x0 x6).c2) ((law15_LatchUnharmed_S4_e0 x0 x6).c9)))]) (byvals_cons (by kernel_rfl) (byvals_cons (byval_so (enc := encB) (l := ((law15_LatchUnharmed_S4_e0 x0 x6).c9)) (b := ((law15_LatchUnharmed_S4_e0 x0 x6).c2)) (e := 4) (s := 1) (p := false) (n := (((law15_LatchUnharmed_S4_e0 x0 x6).c9).length)) (Nat.beq_refl _) (by kernel_rfl)) (by kernel_rfl))), .c (latch_Run_ai3o_t0 x0 x1 x2 ((law15_LatchUnharmed_S4_e0 x0 x6).c2) ((law15_LatchUnharmed_S4_e0 x0 x6).c9) (tbE h3)), .l (law15_LatchUnharmed_L3_f0_0 x0 x1 x2 ((law15_LatchUnharmed_S4_e0 x0 x6).c9) (law15_LatchUnharmed_S4_e1 x0 x1 x2 x6) (law15_LatchUnharmed_S4_e2 x0 x1 x2 x6) (law15_LatchUnharmed_S4_e3 x0 x1 x2 x6) (law15_LatchUnharmed_S4_e4 x0 x1 x2 x6) (law15_LatchUnharmed_S4_e5 x0 x1 x2 x6) (law15_LatchUnharmed_S4_e6 x0 x1 x2 x6) x3 false false false x5 x6 ((law15_LatchUnharmed_S4_e0 x0 x6).c3) (law15_LatchUnharmed_S4_e7 x0 x1 x2 x6) (latch_Run_ai3o_r0_6 x0 x1 x2) 0 (⟨0⟩ : law15_LatchUnharmed_L3_s0) (tbE h4) (tbE h5))] (by kernel_rfl)
theorem law15_LatchUnharmed_S4_t1 (x0 : Int) (x1 : Int) (x2 : Int) (x3 : Bool) (x5 : Bool) (x6 : List Bool) : law15_LatchUnharmed_S4_c0 x0 x1 x2 x6 = false → law15_LatchUnharmed_S4_c1 x0 x1 x2 x6 = true → segG (runC E0 (cl E0) S9_4) [1, 3, 10, 11] [6] [6] 2 ([(V.d (slD encB true 1 x5 x6)), (V.ptr 0 1 0 0), (V.so true 1 0), (V.d (.int .i64 0))], [(Blk.flat 40 3 [[(.int .i64 x0), (.int .i64 x1), (.int .i64 x2)]] x3), (Blk.flat 4 1 [] false)]) = some (.normal, ([(V.d (.bool (law15_LatchUnharmed_S4_r1_0 x0 x1 x2 x6)))], [(Blk.flat 40 3 [[(.int .i64 x0), (.int .i64 x1), (.int .i64 x2)]] x3), (Blk.flat 4 1 (List.map encB ((law15_LatchUnharmed_S4_e0 x0 x6).c9)) false)])) := by
  unfold law15_LatchUnharmed_S4_c0 law15_LatchUnharmed_S4_c1 law15_LatchUnharmed_S4_r1_0
  cases h1 : tb (law15_LatchUnharmed_L2_ok x0 x6 (⟨true, 0, 0, ([] : List Bool)⟩ : law15_LatchUnharmed_L2_s0))
  · intro g0 g1
    exact absurd g1 ft
  · cases h2 : tb (law15_LatchUnharmed_L2_c0 x6 (law15_LatchUnharmed_S4_e0 x0 x6))
    · intro g0 g1
      exact absurd g1 ft
    · cases h3 : tb (latch_Run_ai3o_c0 x0 x1 x2 ((law15_LatchUnharmed_S4_e0 x0 x6).c9))
      · intro g0 g1
        exact absurd g1 ft
      · cases h4 : tb (law15_LatchUnharmed_L3_ok (law15_LatchUnharmed_S4_e1 x0 x1 x2 x6) (⟨0⟩ : law15_LatchUnharmed_L3_s0))
        · intro g0 g1
          exact absurd g1 ft
        · cases h5 : tb (law15_LatchUnharmed_L3_c0 (law15_LatchUnharmed_S4_e1 x0 x1 x2 x6) (law15_LatchUnharmed_S4_e8 x0 x1 x2 x6))
          · cases h6 : tb (law15_LatchUnharmed_L3_c1 (law15_LatchUnharmed_S4_e1 x0 x1 x2 x6) (law15_LatchUnharmed_S4_e8 x0 x1 x2 x6))
            · intro g0 g1
              exact absurd g1 ft
            · cases h7 : tb (decide ((([] : List Bool).length + x6.length) * 1 ≤ 140737488355328))
              · intro g0 g1
                exact absurd g1 ft
              · cases h8 : tb (decide (0 ≤ x1) && decide ((x6.length + (x1 : Int).toNat) * 1 ≤ 140737488355328))
                · intro g0 g1
                  exact absurd g1 ft
                · cases h9 : tb (latch_Run_ai3o_c0 x0 x1 x2 (x6 ++ List.replicate (x1 : Int).toNat (false : Bool)))
                  · intro g0 g1
                    exact absurd g1 ft
                  · cases h10 : tb (((latch_Run_ai3o_r0_6 x0 x1 x2) : Int) == 0)
                    · intro g0 g1
                      exact seg_walk [.l (law15_LatchUnharmed_L2_f0_0 x0 x1 x2 ([] : List Bool) x3 false x5 x6 true 0 0 (⟨true, 0, 0, ([] : List Bool)⟩ : law15_LatchUnharmed_L2_s0) (tbE h1) (tbE h2)), .y (mm := [(Blk.flat 40 3 [[(.int .i64 x0), (.int .i64 x1), (.int .i64 x2)]] x3), (Blk.flat 4 1 (List.map encB ((law15_LatchUnharmed_S4_e0 x0 x6).c9)) false)]) (args := [(V.agg [(V.d (.int .i64 x0)), (V.d (.int .i64 x1)), (V.d (.int .i64 x2))]), (V.so ((law15_LatchUnharmed_S4_e0 x0 x6).c2) 1 (((law15_LatchUnharmed_S4_e0 x0 x6).c9).length))]) (args1 := [(V.agg [(V.d (.int .i64 x0)), (V.d (.int .i64 x1)), (V.d (.int .i64 x2))]), (V.d (slD encB true 1 ((law15_LatchUnharmed_S4_e0 x0 x6).c2) ((law15_LatchUnharmed_S4_e0 x0 x6).c9)))]) (byvals_cons (by kernel_rfl) (byvals_cons (byval_so (enc := encB) (l := ((law15_LatchUnharmed_S4_e0 x0 x6).c9)) (b := ((law15_LatchUnharmed_S4_e0 x0 x6).c2)) (e := 4) (s := 1) (p := false) (n := (((law15_LatchUnharmed_S4_e0 x0 x6).c9).length)) (Nat.beq_refl _) (by kernel_rfl)) (by kernel_rfl))), .c (latch_Run_ai3o_t0 x0 x1 x2 ((law15_LatchUnharmed_S4_e0 x0 x6).c2) ((law15_LatchUnharmed_S4_e0 x0 x6).c9) (tbE h3)), .l (law15_LatchUnharmed_L3_f0_1 x0 x1 x2 ((law15_LatchUnharmed_S4_e0 x0 x6).c9) (law15_LatchUnharmed_S4_e1 x0 x1 x2 x6) (law15_LatchUnharmed_S4_e2 x0 x1 x2 x6) (law15_LatchUnharmed_S4_e3 x0 x1 x2 x6) (law15_LatchUnharmed_S4_e4 x0 x1 x2 x6) (law15_LatchUnharmed_S4_e5 x0 x1 x2 x6) (law15_LatchUnharmed_S4_e6 x0 x1 x2 x6) x3 false false false x5 x6 ((law15_LatchUnharmed_S4_e0 x0 x6).c3) (law15_LatchUnharmed_S4_e7 x0 x1 x2 x6) (latch_Run_ai3o_r0_6 x0 x1 x2) 0 (⟨0⟩ : law15_LatchUnharmed_L3_s0) (tbE h4) (tbE h5) (tbE h6)), .m 92 (o_app_sf (m := [(Blk.flat 40 3 [[(.int .i64 x0), (.int .i64 x1), (.int .i64 x2)]] x3), (Blk.flat 4 1 (List.map encB ((law15_LatchUnharmed_S4_e0 x0 x6).c9)) false), (Blk.flat 3 1 (List.map (encI .i64) (law15_LatchUnharmed_S4_e1 x0 x1 x2 x6)) false), (Blk.flat 42 5 [[(.bool (law15_LatchUnharmed_S4_e2 x0 x1 x2 x6)), (.bool (law15_LatchUnharmed_S4_e3 x0 x1 x2 x6)), (.int .i64 (law15_LatchUnharmed_S4_e4 x0 x1 x2 x6)), (.int .i64 (law15_LatchUnharmed_S4_e5 x0 x1 x2 x6)), (.int .i64 (law15_LatchUnharmed_S4_e6 x0 x1 x2 x6))]] false), (Blk.flat 4 1 [] false)]) (enc := encB) (l0 := ([] : List Bool)) (l1 := x6) (id := 4) (e := 4) (s := 1) (bytes := 1) (x := (V.d (slD encB true 1 x5 x6))) (n := 0) (by kernel_rfl) (by kernel_rfl) flatRowsOf_os sizeOk_os (tbE h7)), .m 95 (o_appz (m := [(Blk.flat 40 3 [[(.int .i64 x0), (.int .i64 x1), (.int .i64 x2)]] x3), (Blk.flat 4 1 (List.map encB ((law15_LatchUnharmed_S4_e0 x0 x6).c9)) false), (Blk.flat 3 1 (List.map (encI .i64) (law15_LatchUnharmed_S4_e1 x0 x1 x2 x6)) false), (Blk.flat 42 5 [[(.bool (law15_LatchUnharmed_S4_e2 x0 x1 x2 x6)), (.bool (law15_LatchUnharmed_S4_e3 x0 x1 x2 x6)), (.int .i64 (law15_LatchUnharmed_S4_e4 x0 x1 x2 x6)), (.int .i64 (law15_LatchUnharmed_S4_e5 x0 x1 x2 x6)), (.int .i64 (law15_LatchUnharmed_S4_e6 x0 x1 x2 x6))]] false), (Blk.flat 4 1 (List.map encB x6) false)]) (enc := encB) (l := x6) (z := (false : Bool)) (zero := [(.bool false)]) (id := 4) (e := 4) (s := 1) (bytes := 1) (n := x6.length) (k := x1) (kd := .i64) (Nat.beq_refl _) (by kernel_rfl) (by kernel_rfl) (tbE h8)), .y (mm := [(Blk.flat 40 3 [[(.int .i64 x0), (.int .i64 x1), (.int .i64 x2)]] x3), (Blk.flat 4 1 (List.map encB ((law15_LatchUnharmed_S4_e0 x0 x6).c9)) false), (Blk.flat 3 1 (List.map (encI .i64) (law15_LatchUnharmed_S4_e1 x0 x1 x2 x6)) false), (Blk.flat 42 5 [[(.bool (law15_LatchUnharmed_S4_e2 x0 x1 x2 x6)), (.bool (law15_LatchUnharmed_S4_e3 x0 x1 x2 x6)), (.int .i64 (law15_LatchUnharmed_S4_e4 x0 x1 x2 x6)), (.int .i64 (law15_LatchUnharmed_S4_e5 x0 x1 x2 x6)), (.int .i64 (law15_LatchUnharmed_S4_e6 x0 x1 x2 x6))]] false), (Blk.flat 4 1 (List.map encB (x6 ++ List.replicate (x1 : Int).toNat (false : Bool))) false)]) (args := [(V.agg [(V.d (.int .i64 x0)), (V.d (.int .i64 x1)), (V.d (.int .i64 x2))]), (V.so false 4 ((x6 ++ List.replicate (x1 : Int).toNat (false : Bool)).length))]) (args1 := [(V.agg [(V.d (.int .i64 x0)), (V.d (.int .i64 x1)), (V.d (.int .i64 x2))]), (V.d (.rs true 1 (List.map encB (x6 ++ List.replicate (x1 : Int).toNat (false : Bool))) false))]) (byvals_cons (by kernel_rfl) (byvals_cons (byval_so (enc := encB) (l := (x6 ++ List.replicate (x1 : Int).toNat (false : Bool))) (b := false) (e := 4) (s := 1) (p := false) (n := ((x6 ++ List.replicate (x1 : Int).toNat (false : Bool)).length)) (Nat.beq_refl _) (by kernel_rfl)) (by kernel_rfl))), .c (latch_Run_ai3o_t0 x0 x1 x2 false (x6 ++ List.replicate (x1 : Int).toNat (false : Bool)) (tbE h9)), .c (law15_alive_t0), .k true, .b (tbE h10)] (by kernel_rfl)
                    · cases h11 : tb (law15_LatchUnharmed_S4_e2 x0 x1 x2 x6)
                      · cases h12 : tb (((law15_LatchUnharmed_S4_e6 x0 x1 x2 x6) : Int) == 0)
                        · intro g0 g1
                          exact seg_walk [.l (law15_LatchUnharmed_L2_f0_0 x0 x1 x2 ([] : List Bool) x3 false x5 x6 true 0 0 (⟨true, 0, 0, ([] : List Bool)⟩ : law15_LatchUnharmed_L2_s0) (tbE h1) (tbE h2)), .y (mm := [(Blk.flat 40 3 [[(.int .i64 x0), (.int .i64 x1), (.int .i64 x2)]] x3), (Blk.flat 4 1 (List.map encB ((law15_LatchUnharmed_S4_e0 x0 x6).c9)) false)]) (args := [(V.agg [(V.d (.int .i64 x0)), (V.d (.int .i64 x1)), (V.d (.int .i64 x2))]), (V.so ((law15_LatchUnharmed_S4_e0 x0 x6).c2) 1 (((law15_LatchUnharmed_S4_e0 x0 x6).c9).length))]) (args1 := [(V.agg [(V.d (.int .i64 x0)), (V.d (.int .i64 x1)), (V.d (.int .i64 x2))]), (V.d (slD encB true 1 ((law15_LatchUnharmed_S4_e0 x0 x6).c2) ((law15_LatchUnharmed_S4_e0 x0 x6).c9)))]) (byvals_cons (by kernel_rfl) (byvals_cons (byval_so (enc := encB) (l := ((law15_LatchUnharmed_S4_e0 x0 x6).c9)) (b := ((law15_LatchUnharmed_S4_e0 x0 x6).c2)) (e := 4) (s := 1) (p := false) (n := (((law15_LatchUnharmed_S4_e0 x0 x6).c9).length)) (Nat.beq_refl _) (by kernel_rfl)) (by kernel_rfl))), .c (latch_Run_ai3o_t0 x0 x1 x2 ((law15_LatchUnharmed_S4_e0 x0 x6).c2) ((law15_LatchUnharmed_S4_e0 x0 x6).c9) (tbE h3)), .l (law15_LatchUnharmed_L3_f0_1 x0 x1 x2 ((law15_LatchUnharmed_S4_e0 x0 x6).c9) (law15_LatchUnharmed_S4_e1 x0 x1 x2 x6) (law15_LatchUnharmed_S4_e2 x0 x1 x2 x6) (law15_LatchUnharmed_S4_e3 x0 x1 x2 x6) (law15_LatchUnharmed_S4_e4 x0 x1 x2 x6) (law15_LatchUnharmed_S4_e5 x0 x1 x2 x6) (law15_LatchUnharmed_S4_e6 x0 x1 x2 x6) x3 false false false x5 x6 ((law15_LatchUnharmed_S4_e0 x0 x6).c3) (law15_LatchUnharmed_S4_e7 x0 x1 x2 x6) (latch_Run_ai3o_r0_6 x0 x1 x2) 0 (⟨0⟩ : law15_LatchUnharmed_L3_s0) (tbE h4) (tbE h5) (tbE h6)), .m 92 (o_app_sf (m := [(Blk.flat 40 3 [[(.int .i64 x0), (.int .i64 x1), (.int .i64 x2)]] x3), (Blk.flat 4 1 (List.map encB ((law15_LatchUnharmed_S4_e0 x0 x6).c9)) false), (Blk.flat 3 1 (List.map (encI .i64) (law15_LatchUnharmed_S4_e1 x0 x1 x2 x6)) false), (Blk.flat 42 5 [[(.bool (law15_LatchUnharmed_S4_e2 x0 x1 x2 x6)), (.bool (law15_LatchUnharmed_S4_e3 x0 x1 x2 x6)), (.int .i64 (law15_LatchUnharmed_S4_e4 x0 x1 x2 x6)), (.int .i64 (law15_LatchUnharmed_S4_e5 x0 x1 x2 x6)), (.int .i64 (law15_LatchUnharmed_S4_e6 x0 x1 x2 x6))]] false), (Blk.flat 4 1 [] false)]) (enc := encB) (l0 := ([] : List Bool)) (l1 := x6) (id := 4) (e := 4) (s := 1) (bytes := 1) (x := (V.d (slD encB true 1 x5 x6))) (n := 0) (by kernel_rfl) (by kernel_rfl) flatRowsOf_os sizeOk_os (tbE h7)), .m 95 (o_appz (m := [(Blk.flat 40 3 [[(.int .i64 x0), (.int .i64 x1), (.int .i64 x2)]] x3), (Blk.flat 4 1 (List.map encB ((law15_LatchUnharmed_S4_e0 x0 x6).c9)) false), (Blk.flat 3 1 (List.map (encI .i64) (law15_LatchUnharmed_S4_e1 x0 x1 x2 x6)) false), (Blk.flat 42 5 [[(.bool (law15_LatchUnharmed_S4_e2 x0 x1 x2 x6)), (.bool (law15_LatchUnharmed_S4_e3 x0 x1 x2 x6)), (.int .i64 (law15_LatchUnharmed_S4_e4 x0 x1 x2 x6)), (.int .i64 (law15_LatchUnharmed_S4_e5 x0 x1 x2 x6)), (.int .i64 (law15_LatchUnharmed_S4_e6 x0 x1 x2 x6))]] false), (Blk.flat 4 1 (List.map encB x6) false)]) (enc := encB) (l := x6) (z := (false : Bool)) (zero := [(.bool false)]) (id := 4) (e := 4) (s := 1) (bytes := 1) (n := x6.length) (k := x1) (kd := .i64) (Nat.beq_refl _) (by kernel_rfl) (by kernel_rfl) (tbE h8)), .y (mm := [(Blk.flat 40 3 [[(.int .i64 x0), (.int .i64 x1), (.int .i64 x2)]] x3), (Blk.flat 4 1 (List.map encB ((law15_LatchUnharmed_S4_e0 x0 x6).c9)) false), (Blk.flat 3 1 (List.map (encI .i64) (law15_LatchUnharmed_S4_e1 x0 x1 x2 x6)) false), (Blk.flat 42 5 [[(.bool (law15_LatchUnharmed_S4_e2 x0 x1 x2 x6)), (.bool (law15_LatchUnharmed_S4_e3 x0 x1 x2 x6)), (.int .i64 (law15_LatchUnharmed_S4_e4 x0 x1 x2 x6)), (.int .i64 (law15_LatchUnharmed_S4_e5 x0 x1 x2 x6)), (.int .i64 (law15_LatchUnharmed_S4_e6 x0 x1 x2 x6))]] false), (Blk.flat 4 1 (List.map encB (x6 ++ List.replicate (x1 : Int).toNat (false : Bool))) false)]) (args := [(V.agg [(V.d (.int .i64 x0)), (V.d (.int .i64 x1)), (V.d (.int .i64 x2))]), (V.so false 4 ((x6 ++ List.replicate (x1 : Int).toNat (false : Bool)).length))]) (args1 := [(V.agg [(V.d (.int .i64 x0)), (V.d (.int .i64 x1)), (V.d (.int .i64 x2))]), (V.d (.rs true 1 (List.map encB (x6 ++ List.replicate (x1 : Int).toNat (false : Bool))) false))]) (byvals_cons (by kernel_rfl) (byvals_cons (byval_so (enc := encB) (l := (x6 ++ List.replicate (x1 : Int).toNat (false : Bool))) (b := false) (e := 4) (s := 1) (p := false) (n := ((x6 ++ List.replicate (x1 : Int).toNat (false : Bool)).length)) (Nat.beq_refl _) (by kernel_rfl)) (by kernel_rfl))), .c (latch_Run_ai3o_t0 x0 x1 x2 false (x6 ++ List.replicate (x1 : Int).toNat (false : Bool)) (tbE h9)), .c (law15_alive_t0), .k true, .b (tbE h10), .b (tbE h10), .b (notF (tbE h11)), .b (tbE h12)] (by kernel_rfl)
                        · cases h13 : tb (((law15_LatchUnharmed_S4_e4 x0 x1 x2 x6) : Int) == ((law15_LatchUnharmed_S4_e0 x0 x6).c3))
                          · intro g0 g1
                            exact seg_walk [.l (law15_LatchUnharmed_L2_f0_0 x0 x1 x2 ([] : List Bool) x3 false x5 x6 true 0 0 (⟨true, 0, 0, ([] : List Bool)⟩ : law15_LatchUnharmed_L2_s0) (tbE h1) (tbE h2)), .y (mm := [(Blk.flat 40 3 [[(.int .i64 x0), (.int .i64 x1), (.int .i64 x2)]] x3), (Blk.flat 4 1 (List.map encB ((law15_LatchUnharmed_S4_e0 x0 x6).c9)) false)]) (args := [(V.agg [(V.d (.int .i64 x0)), (V.d (.int .i64 x1)), (V.d (.int .i64 x2))]), (V.so ((law15_LatchUnharmed_S4_e0 x0 x6).c2) 1 (((law15_LatchUnharmed_S4_e0 x0 x6).c9).length))]) (args1 := [(V.agg [(V.d (.int .i64 x0)), (V.d (.int .i64 x1)), (V.d (.int .i64 x2))]), (V.d (slD encB true 1 ((law15_LatchUnharmed_S4_e0 x0 x6).c2) ((law15_LatchUnharmed_S4_e0 x0 x6).c9)))]) (byvals_cons (by kernel_rfl) (byvals_cons (byval_so (enc := encB) (l := ((law15_LatchUnharmed_S4_e0 x0 x6).c9)) (b := ((law15_LatchUnharmed_S4_e0 x0 x6).c2)) (e := 4) (s := 1) (p := false) (n := (((law15_LatchUnharmed_S4_e0 x0 x6).c9).length)) (Nat.beq_refl _) (by kernel_rfl)) (by kernel_rfl))), .c (latch_Run_ai3o_t0 x0 x1 x2 ((law15_LatchUnharmed_S4_e0 x0 x6).c2) ((law15_LatchUnharmed_S4_e0 x0 x6).c9) (tbE h3)), .l (law15_LatchUnharmed_L3_f0_1 x0 x1 x2 ((law15_LatchUnharmed_S4_e0 x0 x6).c9) (law15_LatchUnharmed_S4_e1 x0 x1 x2 x6) (law15_LatchUnharmed_S4_e2 x0 x1 x2 x6) (law15_LatchUnharmed_S4_e3 x0 x1 x2 x6) (law15_LatchUnharmed_S4_e4 x0 x1 x2 x6) (law15_LatchUnharmed_S4_e5 x0 x1 x2 x6) (law15_LatchUnharmed_S4_e6 x0 x1 x2 x6) x3 false false false x5 x6 ((law15_LatchUnharmed_S4_e0 x0 x6).c3) (law15_LatchUnharmed_S4_e7 x0 x1 x2 x6) (latch_Run_ai3o_r0_6 x0 x1 x2) 0 (⟨0⟩ : law15_LatchUnharmed_L3_s0) (tbE h4) (tbE h5) (tbE h6)), .m 92 (o_app_sf (m := [(Blk.flat 40 3 [[(.int .i64 x0), (.int .i64 x1), (.int .i64 x2)]] x3), (Blk.flat 4 1 (List.map encB ((law15_LatchUnharmed_S4_e0 x0 x6).c9)) false), (Blk.flat 3 1 (List.map (encI .i64) (law15_LatchUnharmed_S4_e1 x0 x1 x2 x6)) false), (Blk.flat 42 5 [[(.bool (law15_LatchUnharmed_S4_e2 x0 x1 x2 x6)), (.bool (law15_LatchUnharmed_S4_e3 x0 x1 x2 x6)), (.int .i64 (law15_LatchUnharmed_S4_e4 x0 x1 x2 x6)), (.int .i64 (law15_LatchUnharmed_S4_e5 x0 x1 x2 x6)), (.int .i64 (law15_LatchUnharmed_S4_e6 x0 x1 x2 x6))]] false), (Blk.flat 4 1 [] false)]) (enc := encB) (l0 := ([] : List Bool)) (l1 := x6) (id := 4) (e := 4) (s := 1) (bytes := 1) (x := (V.d (slD encB true 1 x5 x6))) (n := 0) (by kernel_rfl) (by kernel_rfl) flatRowsOf_os sizeOk_os (tbE h7)), .m 95 (o_appz (m := [(Blk.flat 40 3 [[(.int .i64 x0), (.int .i64 x1), (.int .i64 x2)]] x3), (Blk.flat 4 1 (List.map encB ((law15_LatchUnharmed_S4_e0 x0 x6).c9)) false), (Blk.flat 3 1 (List.map (encI .i64) (law15_LatchUnharmed_S4_e1 x0 x1 x2 x6)) false), (Blk.flat 42 5 [[(.bool (law15_LatchUnharmed_S4_e2 x0 x1 x2 x6)), (.bool (law15_LatchUnharmed_S4_e3 x0 x1 x2 x6)), (.int .i64 (law15_LatchUnharmed_S4_e4 x0 x1 x2 x6)), (.int .i64 (law15_LatchUnharmed_S4_e5 x0 x1 x2 x6)), (.int .i64 (law15_LatchUnharmed_S4_e6 x0 x1 x2 x6))]] false), (Blk.flat 4 1 (List.map encB x6) false)]) (enc := encB) (l := x6) (z := (false : Bool)) (zero := [(.bool false)]) (id := 4) (e := 4) (s := 1) (bytes := 1) (n := x6.length) (k := x1) (kd := .i64) (Nat.beq_refl _) (by kernel_rfl) (by kernel_rfl) (tbE h8)), .y (mm := [(Blk.flat 40 3 [[(.int .i64 x0), (.int .i64 x1), (.int .i64 x2)]] x3), (Blk.flat 4 1 (List.map encB ((law15_LatchUnharmed_S4_e0 x0 x6).c9)) false), (Blk.flat 3 1 (List.map (encI .i64) (law15_LatchUnharmed_S4_e1 x0 x1 x2 x6)) false), (Blk.flat 42 5 [[(.bool (law15_LatchUnharmed_S4_e2 x0 x1 x2 x6)), (.bool (law15_LatchUnharmed_S4_e3 x0 x1 x2 x6)), (.int .i64 (law15_LatchUnharmed_S4_e4 x0 x1 x2 x6)), (.int .i64 (law15_LatchUnharmed_S4_e5 x0 x1 x2 x6)), (.int .i64 (law15_LatchUnharmed_S4_e6 x0 x1 x2 x6))]] false), (Blk.flat 4 1 (List.map encB (x6 ++ List.replicate (x1 : Int).toNat (false : Bool))) false)]) (args := [(V.agg [(V.d (.int .i64 x0)), (V.d (.int .i64 x1)), (V.d (.int .i64 x2))]), (V.so false 4 ((x6 ++ List.replicate (x1 : Int).toNat (false : Bool)).length))]) (args1 := [(V.agg [(V.d (.int .i64 x0)), (V.d (.int .i64 x1)), (V.d (.int .i64 x2))]), (V.d (.rs true 1 (List.map encB (x6 ++ List.replicate (x1 : Int).toNat (false : Bool))) false))]) (byvals_cons (by kernel_rfl) (byvals_cons (byval_so (enc := encB) (l := (x6 ++ List.replicate (x1 : Int).toNat (false : Bool))) (b := false) (e := 4) (s := 1) (p := false) (n := ((x6 ++ List.replicate (x1 : Int).toNat (false : Bool)).length)) (Nat.beq_refl _) (by kernel_rfl)) (by kernel_rfl))), .c (latch_Run_ai3o_t0 x0 x1 x2 false (x6 ++ List.replicate (x1 : Int).toNat (false : Bool)) (tbE h9)), .c (law15_alive_t0), .k true, .b (tbE h10), .b (tbE h10), .b (notF (tbE h11)), .b (tbE h12), .b (tbE h13)] (by kernel_rfl)
                          · cases h14 : tb (latch_Run_ai3o_r0_1 x0 x1 x2 (x6 ++ List.replicate (x1 : Int).toNat (false : Bool)))
                            · cases h15 : tb (latch_Run_ai3o_r0_0 x0 x1 x2 (x6 ++ List.replicate (x1 : Int).toNat (false : Bool)))
                              · intro g0 g1
                                exact seg_walk [.l (law15_LatchUnharmed_L2_f0_0 x0 x1 x2 ([] : List Bool) x3 false x5 x6 true 0 0 (⟨true, 0, 0, ([] : List Bool)⟩ : law15_LatchUnharmed_L2_s0) (tbE h1) (tbE h2)), .y (mm := [(Blk.flat 40 3 [[(.int .i64 x0), (.int .i64 x1), (.int .i64 x2)]] x3), (Blk.flat 4 1 (List.map encB ((law15_LatchUnharmed_S4_e0 x0 x6).c9)) false)]) (args := [(V.agg [(V.d (.int .i64 x0)), (V.d (.int .i64 x1)), (V.d (.int .i64 x2))]), (V.so ((law15_LatchUnharmed_S4_e0 x0 x6).c2) 1 (((law15_LatchUnharmed_S4_e0 x0 x6).c9).length))]) (args1 := [(V.agg [(V.d (.int .i64 x0)), (V.d (.int .i64 x1)), (V.d (.int .i64 x2))]), (V.d (slD encB true 1 ((law15_LatchUnharmed_S4_e0 x0 x6).c2) ((law15_LatchUnharmed_S4_e0 x0 x6).c9)))]) (byvals_cons (by kernel_rfl) (byvals_cons (byval_so (enc := encB) (l := ((law15_LatchUnharmed_S4_e0 x0 x6).c9)) (b := ((law15_LatchUnharmed_S4_e0 x0 x6).c2)) (e := 4) (s := 1) (p := false) (n := (((law15_LatchUnharmed_S4_e0 x0 x6).c9).length)) (Nat.beq_refl _) (by kernel_rfl)) (by kernel_rfl))), .c (latch_Run_ai3o_t0 x0 x1 x2 ((law15_LatchUnharmed_S4_e0 x0 x6).c2) ((law15_LatchUnharmed_S4_e0 x0 x6).c9) (tbE h3)), .l (law15_LatchUnharmed_L3_f0_1 x0 x1 x2 ((law15_LatchUnharmed_S4_e0 x0 x6).c9) (law15_LatchUnharmed_S4_e1 x0 x1 x2 x6) (law15_LatchUnharmed_S4_e2 x0 x1 x2 x6) (law15_LatchUnharmed_S4_e3 x0 x1 x2 x6) (law15_LatchUnharmed_S4_e4 x0 x1 x2 x6) (law15_LatchUnharmed_S4_e5 x0 x1 x2 x6) (law15_LatchUnharmed_S4_e6 x0 x1 x2 x6) x3 false false false x5 x6 ((law15_LatchUnharmed_S4_e0 x0 x6).c3) (law15_LatchUnharmed_S4_e7 x0 x1 x2 x6) (latch_Run_ai3o_r0_6 x0 x1 x2) 0 (⟨0⟩ : law15_LatchUnharmed_L3_s0) (tbE h4) (tbE h5) (tbE h6)), .m 92 (o_app_sf (m := [(Blk.flat 40 3 [[(.int .i64 x0), (.int .i64 x1), (.int .i64 x2)]] x3), (Blk.flat 4 1 (List.map encB ((law15_LatchUnharmed_S4_e0 x0 x6).c9)) false), (Blk.flat 3 1 (List.map (encI .i64) (law15_LatchUnharmed_S4_e1 x0 x1 x2 x6)) false), (Blk.flat 42 5 [[(.bool (law15_LatchUnharmed_S4_e2 x0 x1 x2 x6)), (.bool (law15_LatchUnharmed_S4_e3 x0 x1 x2 x6)), (.int .i64 (law15_LatchUnharmed_S4_e4 x0 x1 x2 x6)), (.int .i64 (law15_LatchUnharmed_S4_e5 x0 x1 x2 x6)), (.int .i64 (law15_LatchUnharmed_S4_e6 x0 x1 x2 x6))]] false), (Blk.flat 4 1 [] false)]) (enc := encB) (l0 := ([] : List Bool)) (l1 := x6) (id := 4) (e := 4) (s := 1) (bytes := 1) (x := (V.d (slD encB true 1 x5 x6))) (n := 0) (by kernel_rfl) (by kernel_rfl) flatRowsOf_os sizeOk_os (tbE h7)), .m 95 (o_appz (m := [(Blk.flat 40 3 [[(.int .i64 x0), (.int .i64 x1), (.int .i64 x2)]] x3), (Blk.flat 4 1 (List.map encB ((law15_LatchUnharmed_S4_e0 x0 x6).c9)) false), (Blk.flat 3 1 (List.map (encI .i64) (law15_LatchUnharmed_S4_e1 x0 x1 x2 x6)) false), (Blk.flat 42 5 [[(.bool (law15_LatchUnharmed_S4_e2 x0 x1 x2 x6)), (.bool (law15_LatchUnharmed_S4_e3 x0 x1 x2 x6)), (.int .i64 (law15_LatchUnharmed_S4_e4 x0 x1 x2 x6)), (.int .i64 (law15_LatchUnharmed_S4_e5 x0 x1 x2 x6)), (.int .i64 (law15_LatchUnharmed_S4_e6 x0 x1 x2 x6))]] false), (Blk.flat 4 1 (List.map encB x6) false)]) (enc := encB) (l := x6) (z := (false : Bool)) (zero := [(.bool false)]) (id := 4) (e := 4) (s := 1) (bytes := 1) (n := x6.length) (k := x1) (kd := .i64) (Nat.beq_refl _) (by kernel_rfl) (by kernel_rfl) (tbE h8)), .y (mm := [(Blk.flat 40 3 [[(.int .i64 x0), (.int .i64 x1), (.int .i64 x2)]] x3), (Blk.flat 4 1 (List.map encB ((law15_LatchUnharmed_S4_e0 x0 x6).c9)) false), (Blk.flat 3 1 (List.map (encI .i64) (law15_LatchUnharmed_S4_e1 x0 x1 x2 x6)) false), (Blk.flat 42 5 [[(.bool (law15_LatchUnharmed_S4_e2 x0 x1 x2 x6)), (.bool (law15_LatchUnharmed_S4_e3 x0 x1 x2 x6)), (.int .i64 (law15_LatchUnharmed_S4_e4 x0 x1 x2 x6)), (.int .i64 (law15_LatchUnharmed_S4_e5 x0 x1 x2 x6)), (.int .i64 (law15_LatchUnharmed_S4_e6 x0 x1 x2 x6))]] false), (Blk.flat 4 1 (List.map encB (x6 ++ List.replicate (x1 : Int).toNat (false : Bool))) false)]) (args := [(V.agg [(V.d (.int .i64 x0)), (V.d (.int .i64 x1)), (V.d (.int .i64 x2))]), (V.so false 4 ((x6 ++ List.replicate (x1 : Int).toNat (false : Bool)).length))]) (args1 := [(V.agg [(V.d (.int .i64 x0)), (V.d (.int .i64 x1)), (V.d (.int .i64 x2))]), (V.d (.rs true 1 (List.map encB (x6 ++ List.replicate (x1 : Int).toNat (false : Bool))) false))]) (byvals_cons (by kernel_rfl) (byvals_cons (byval_so (enc := encB) (l := (x6 ++ List.replicate (x1 : Int).toNat (false : Bool))) (b := false) (e := 4) (s := 1) (p := false) (n := ((x6 ++ List.replicate (x1 : Int).toNat (false : Bool)).length)) (Nat.beq_refl _) (by kernel_rfl)) (by kernel_rfl))), .c (latch_Run_ai3o_t0 x0 x1 x2 false (x6 ++ List.replicate (x1 : Int).toNat (false : Bool)) (tbE h9)), .c (law15_alive_t0), .k true, .b (tbE h10), .b (tbE h10), .b (notF (tbE h11)), .b (tbE h12), .b (tbE h13), .b (tbE h14), .b (notF (tbE h15))] (by kernel_rfl)
                              · intro g0 g1
                                exact seg_walk [.l (law15_LatchUnharmed_L2_f0_0 x0 x1 x2 ([] : List Bool) x3 false x5 x6 true 0 0 (⟨true, 0, 0, ([] : List Bool)⟩ : law15_LatchUnharmed_L2_s0) (tbE h1) (tbE h2)), .y (mm := [(Blk.flat 40 3 [[(.int .i64 x0), (.int .i64 x1), (.int .i64 x2)]] x3), (Blk.flat 4 1 (List.map encB ((law15_LatchUnharmed_S4_e0 x0 x6).c9)) false)]) (args := [(V.agg [(V.d (.int .i64 x0)), (V.d (.int .i64 x1)), (V.d (.int .i64 x2))]), (V.so ((law15_LatchUnharmed_S4_e0 x0 x6).c2) 1 (((law15_LatchUnharmed_S4_e0 x0 x6).c9).length))]) (args1 := [(V.agg [(V.d (.int .i64 x0)), (V.d (.int .i64 x1)), (V.d (.int .i64 x2))]), (V.d (slD encB true 1 ((law15_LatchUnharmed_S4_e0 x0 x6).c2) ((law15_LatchUnharmed_S4_e0 x0 x6).c9)))]) (byvals_cons (by kernel_rfl) (byvals_cons (byval_so (enc := encB) (l := ((law15_LatchUnharmed_S4_e0 x0 x6).c9)) (b := ((law15_LatchUnharmed_S4_e0 x0 x6).c2)) (e := 4) (s := 1) (p := false) (n := (((law15_LatchUnharmed_S4_e0 x0 x6).c9).length)) (Nat.beq_refl _) (by kernel_rfl)) (by kernel_rfl))), .c (latch_Run_ai3o_t0 x0 x1 x2 ((law15_LatchUnharmed_S4_e0 x0 x6).c2) ((law15_LatchUnharmed_S4_e0 x0 x6).c9) (tbE h3)), .l (law15_LatchUnharmed_L3_f0_1 x0 x1 x2 ((law15_LatchUnharmed_S4_e0 x0 x6).c9) (law15_LatchUnharmed_S4_e1 x0 x1 x2 x6) (law15_LatchUnharmed_S4_e2 x0 x1 x2 x6) (law15_LatchUnharmed_S4_e3 x0 x1 x2 x6) (law15_LatchUnharmed_S4_e4 x0 x1 x2 x6) (law15_LatchUnharmed_S4_e5 x0 x1 x2 x6) (law15_LatchUnharmed_S4_e6 x0 x1 x2 x6) x3 false false false x5 x6 ((law15_LatchUnharmed_S4_e0 x0 x6).c3) (law15_LatchUnharmed_S4_e7 x0 x1 x2 x6) (latch_Run_ai3o_r0_6 x0 x1 x2) 0 (⟨0⟩ : law15_LatchUnharmed_L3_s0) (tbE h4) (tbE h5) (tbE h6)), .m 92 (o_app_sf (m := [(Blk.flat 40 3 [[(.int .i64 x0), (.int .i64 x1), (.int .i64 x2)]] x3), (Blk.flat 4 1 (List.map encB ((law15_LatchUnharmed_S4_e0 x0 x6).c9)) false), (Blk.flat 3 1 (List.map (encI .i64) (law15_LatchUnharmed_S4_e1 x0 x1 x2 x6)) false), (Blk.flat 42 5 [[(.bool (law15_LatchUnharmed_S4_e2 x0 x1 x2 x6)), (.bool (law15_LatchUnharmed_S4_e3 x0 x1 x2 x6)), (.int .i64 (law15_LatchUnharmed_S4_e4 x0 x1 x2 x6)), (.int .i64 (law15_LatchUnharmed_S4_e5 x0 x1 x2 x6)), (.int .i64 (law15_LatchUnharmed_S4_e6 x0 x1 x2 x6))]] false), (Blk.flat 4 1 [] false)]) (enc := encB) (l0 := ([] : List Bool)) (l1 := x6) (id := 4) (e := 4) (s := 1) (bytes := 1) (x := (V.d (slD encB true 1 x5 x6))) (n := 0) (by kernel_rfl) (by kernel_rfl) flatRowsOf_os sizeOk_os (tbE h7)), .m 95 (o_appz (m := [(Blk.flat 40 3 [[(.int .i64 x0), (.int .i64 x1), (.int .i64 x2)]] x3), (Blk.flat 4 1 (List.map encB ((law15_LatchUnharmed_S4_e0 x0 x6).c9)) false), (Blk.flat 3 1 (List.map (encI .i64) (law15_LatchUnharmed_S4_e1 x0 x1 x2 x6)) false), (Blk.flat 42 5 [[(.bool (law15_LatchUnharmed_S4_e2 x0 x1 x2 x6)), (.bool (law15_LatchUnharmed_S4_e3 x0 x1 x2 x6)), (.int .i64 (law15_LatchUnharmed_S4_e4 x0 x1 x2 x6)), (.int .i64 (law15_LatchUnharmed_S4_e5 x0 x1 x2 x6)), (.int .i64 (law15_LatchUnharmed_S4_e6 x0 x1 x2 x6))]] false), (Blk.flat 4 1 (List.map encB x6) false)]) (enc := encB) (l := x6) (z := (false : Bool)) (zero := [(.bool false)]) (id := 4) (e := 4) (s := 1) (bytes := 1) (n := x6.length) (k := x1) (kd := .i64) (Nat.beq_refl _) (by kernel_rfl) (by kernel_rfl) (tbE h8)), .y (mm := [(Blk.flat 40 3 [[(.int .i64 x0), (.int .i64 x1), (.int .i64 x2)]] x3), (Blk.flat 4 1 (List.map encB ((law15_LatchUnharmed_S4_e0 x0 x6).c9)) false), (Blk.flat 3 1 (List.map (encI .i64) (law15_LatchUnharmed_S4_e1 x0 x1 x2 x6)) false), (Blk.flat 42 5 [[(.bool (law15_LatchUnharmed_S4_e2 x0 x1 x2 x6)), (.bool (law15_LatchUnharmed_S4_e3 x0 x1 x2 x6)), (.int .i64 (law15_LatchUnharmed_S4_e4 x0 x1 x2 x6)), (.int .i64 (law15_LatchUnharmed_S4_e5 x0 x1 x2 x6)), (.int .i64 (law15_LatchUnharmed_S4_e6 x0 x1 x2 x6))]] false), (Blk.flat 4 1 (List.map encB (x6 ++ List.replicate (x1 : Int).toNat (false : Bool))) false)]) (args := [(V.agg [(V.d (.int .i64 x0)), (V.d (.int .i64 x1)), (V.d (.int .i64 x2))]), (V.so false 4 ((x6 ++ List.replicate (x1 : Int).toNat (false : Bool)).length))]) (args1 := [(V.agg [(V.d (.int .i64 x0)), (V.d (.int .i64 x1)), (V.d (.int .i64 x2))]), (V.d (.rs true 1 (List.map encB (x6 ++ List.replicate (x1 : Int).toNat (false : Bool))) false))]) (byvals_cons (by kernel_rfl) (byvals_cons (byval_so (enc := encB) (l := (x6 ++ List.replicate (x1 : Int).toNat (false : Bool))) (b := false) (e := 4) (s := 1) (p := false) (n := ((x6 ++ List.replicate (x1 : Int).toNat (false : Bool)).length)) (Nat.beq_refl _) (by kernel_rfl)) (by kernel_rfl))), .c (latch_Run_ai3o_t0 x0 x1 x2 false (x6 ++ List.replicate (x1 : Int).toNat (false : Bool)) (tbE h9)), .c (law15_alive_t0), .k true, .b (tbE h10), .b (tbE h10), .b (notF (tbE h11)), .b (tbE h12), .b (tbE h13), .b (tbE h14), .b (notT (tbE h15))] (by kernel_rfl)
                            · intro g0 g1
                              exact seg_walk [.l (law15_LatchUnharmed_L2_f0_0 x0 x1 x2 ([] : List Bool) x3 false x5 x6 true 0 0 (⟨true, 0, 0, ([] : List Bool)⟩ : law15_LatchUnharmed_L2_s0) (tbE h1) (tbE h2)), .y (mm := [(Blk.flat 40 3 [[(.int .i64 x0), (.int .i64 x1), (.int .i64 x2)]] x3), (Blk.flat 4 1 (List.map encB ((law15_LatchUnharmed_S4_e0 x0 x6).c9)) false)]) (args := [(V.agg [(V.d (.int .i64 x0)), (V.d (.int .i64 x1)), (V.d (.int .i64 x2))]), (V.so ((law15_LatchUnharmed_S4_e0 x0 x6).c2) 1 (((law15_LatchUnharmed_S4_e0 x0 x6).c9).length))]) (args1 := [(V.agg [(V.d (.int .i64 x0)), (V.d (.int .i64 x1)), (V.d (.int .i64 x2))]), (V.d (slD encB true 1 ((law15_LatchUnharmed_S4_e0 x0 x6).c2) ((law15_LatchUnharmed_S4_e0 x0 x6).c9)))]) (byvals_cons (by kernel_rfl) (byvals_cons (byval_so (enc := encB) (l := ((law15_LatchUnharmed_S4_e0 x0 x6).c9)) (b := ((law15_LatchUnharmed_S4_e0 x0 x6).c2)) (e := 4) (s := 1) (p := false) (n := (((law15_LatchUnharmed_S4_e0 x0 x6).c9).length)) (Nat.beq_refl _) (by kernel_rfl)) (by kernel_rfl))), .c (latch_Run_ai3o_t0 x0 x1 x2 ((law15_LatchUnharmed_S4_e0 x0 x6).c2) ((law15_LatchUnharmed_S4_e0 x0 x6).c9) (tbE h3)), .l (law15_LatchUnharmed_L3_f0_1 x0 x1 x2 ((law15_LatchUnharmed_S4_e0 x0 x6).c9) (law15_LatchUnharmed_S4_e1 x0 x1 x2 x6) (law15_LatchUnharmed_S4_e2 x0 x1 x2 x6) (law15_LatchUnharmed_S4_e3 x0 x1 x2 x6) (law15_LatchUnharmed_S4_e4 x0 x1 x2 x6) (law15_LatchUnharmed_S4_e5 x0 x1 x2 x6) (law15_LatchUnharmed_S4_e6 x0 x1 x2 x6) x3 false false false x5 x6 ((law15_LatchUnharmed_S4_e0 x0 x6).c3) (law15_LatchUnharmed_S4_e7 x0 x1 x2 x6) (latch_Run_ai3o_r0_6 x0 x1 x2) 0 (⟨0⟩ : law15_LatchUnharmed_L3_s0) (tbE h4) (tbE h5) (tbE h6)), .m 92 (o_app_sf (m := [(Blk.flat 40 3 [[(.int .i64 x0), (.int .i64 x1), (.int .i64 x2)]] x3), (Blk.flat 4 1 (List.map encB ((law15_LatchUnharmed_S4_e0 x0 x6).c9)) false), (Blk.flat 3 1 (List.map (encI .i64) (law15_LatchUnharmed_S4_e1 x0 x1 x2 x6)) false), (Blk.flat 42 5 [[(.bool (law15_LatchUnharmed_S4_e2 x0 x1 x2 x6)), (.bool (law15_LatchUnharmed_S4_e3 x0 x1 x2 x6)), (.int .i64 (law15_LatchUnharmed_S4_e4 x0 x1 x2 x6)), (.int .i64 (law15_LatchUnharmed_S4_e5 x0 x1 x2 x6)), (.int .i64 (law15_LatchUnharmed_S4_e6 x0 x1 x2 x6))]] false), (Blk.flat 4 1 [] false)]) (enc := encB) (l0 := ([] : List Bool)) (l1 := x6) (id := 4) (e := 4) (s := 1) (bytes := 1) (x := (V.d (slD encB true 1 x5 x6))) (n := 0) (by kernel_rfl) (by kernel_rfl) flatRowsOf_os sizeOk_os (tbE h7)), .m 95 (o_appz (m := [(Blk.flat 40 3 [[(.int .i64 x0), (.int .i64 x1), (.int .i64 x2)]] x3), (Blk.flat 4 1 (List.map encB ((law15_LatchUnharmed_S4_e0 x0 x6).c9)) false), (Blk.flat 3 1 (List.map (encI .i64) (law15_LatchUnharmed_S4_e1 x0 x1 x2 x6)) false), (Blk.flat 42 5 [[(.bool (law15_LatchUnharmed_S4_e2 x0 x1 x2 x6)), (.bool (law15_LatchUnharmed_S4_e3 x0 x1 x2 x6)), (.int .i64 (law15_LatchUnharmed_S4_e4 x0 x1 x2 x6)), (.int .i64 (law15_LatchUnharmed_S4_e5 x0 x1 x2 x6)), (.int .i64 (law15_LatchUnharmed_S4_e6 x0 x1 x2 x6))]] false), (Blk.flat 4 1 (List.map encB x6) false)]) (enc := encB) (l := x6) (z := (false : Bool)) (zero := [(.bool false)]) (id := 4) (e := 4) (s := 1) (bytes := 1) (n := x6.length) (k := x1) (kd := .i64) (Nat.beq_refl _) (by kernel_rfl) (by kernel_rfl) (tbE h8)), .y (mm := [(Blk.flat 40 3 [[(.int .i64 x0), (.int .i64 x1), (.int .i64 x2)]] x3), (Blk.flat 4 1 (List.map encB ((law15_LatchUnharmed_S4_e0 x0 x6).c9)) false), (Blk.flat 3 1 (List.map (encI .i64) (law15_LatchUnharmed_S4_e1 x0 x1 x2 x6)) false), (Blk.flat 42 5 [[(.bool (law15_LatchUnharmed_S4_e2 x0 x1 x2 x6)), (.bool (law15_LatchUnharmed_S4_e3 x0 x1 x2 x6)), (.int .i64 (law15_LatchUnharmed_S4_e4 x0 x1 x2 x6)), (.int .i64 (law15_LatchUnharmed_S4_e5 x0 x1 x2 x6)), (.int .i64 (law15_LatchUnharmed_S4_e6 x0 x1 x2 x6))]] false), (Blk.flat 4 1 (List.map encB (x6 ++ List.replicate (x1 : Int).toNat (false : Bool))) false)]) (args := [(V.agg [(V.d (.int .i64 x0)), (V.d (.int .i64 x1)), (V.d (.int .i64 x2))]), (V.so false 4 ((x6 ++ List.replicate (x1 : Int).toNat (false : Bool)).length))]) (args1 := [(V.agg [(V.d (.int .i64 x0)), (V.d (.int .i64 x1)), (V.d (.int .i64 x2))]), (V.d (.rs true 1 (List.map encB (x6 ++ List.replicate (x1 : Int).toNat (false : Bool))) false))]) (byvals_cons (by kernel_rfl) (byvals_cons (byval_so (enc := encB) (l := (x6 ++ List.replicate (x1 : Int).toNat (false : Bool))) (b := false) (e := 4) (s := 1) (p := false) (n := ((x6 ++ List.replicate (x1 : Int).toNat (false : Bool)).length)) (Nat.beq_refl _) (by kernel_rfl)) (by kernel_rfl))), .c (latch_Run_ai3o_t0 x0 x1 x2 false (x6 ++ List.replicate (x1 : Int).toNat (false : Bool)) (tbE h9)), .c (law15_alive_t0), .k true, .b (tbE h10), .b (tbE h10), .b (notF (tbE h11)), .b (tbE h12), .b (tbE h13), .b (tbE h14)] (by kernel_rfl)
                      · intro g0 g1
                        exact seg_walk [.l (law15_LatchUnharmed_L2_f0_0 x0 x1 x2 ([] : List Bool) x3 false x5 x6 true 0 0 (⟨true, 0, 0, ([] : List Bool)⟩ : law15_LatchUnharmed_L2_s0) (tbE h1) (tbE h2)), .y (mm := [(Blk.flat 40 3 [[(.int .i64 x0), (.int .i64 x1), (.int .i64 x2)]] x3), (Blk.flat 4 1 (List.map encB ((law15_LatchUnharmed_S4_e0 x0 x6).c9)) false)]) (args := [(V.agg [(V.d (.int .i64 x0)), (V.d (.int .i64 x1)), (V.d (.int .i64 x2))]), (V.so ((law15_LatchUnharmed_S4_e0 x0 x6).c2) 1 (((law15_LatchUnharmed_S4_e0 x0 x6).c9).length))]) (args1 := [(V.agg [(V.d (.int .i64 x0)), (V.d (.int .i64 x1)), (V.d (.int .i64 x2))]), (V.d (slD encB true 1 ((law15_LatchUnharmed_S4_e0 x0 x6).c2) ((law15_LatchUnharmed_S4_e0 x0 x6).c9)))]) (byvals_cons (by kernel_rfl) (byvals_cons (byval_so (enc := encB) (l := ((law15_LatchUnharmed_S4_e0 x0 x6).c9)) (b := ((law15_LatchUnharmed_S4_e0 x0 x6).c2)) (e := 4) (s := 1) (p := false) (n := (((law15_LatchUnharmed_S4_e0 x0 x6).c9).length)) (Nat.beq_refl _) (by kernel_rfl)) (by kernel_rfl))), .c (latch_Run_ai3o_t0 x0 x1 x2 ((law15_LatchUnharmed_S4_e0 x0 x6).c2) ((law15_LatchUnharmed_S4_e0 x0 x6).c9) (tbE h3)), .l (law15_LatchUnharmed_L3_f0_1 x0 x1 x2 ((law15_LatchUnharmed_S4_e0 x0 x6).c9) (law15_LatchUnharmed_S4_e1 x0 x1 x2 x6) (law15_LatchUnharmed_S4_e2 x0 x1 x2 x6) (law15_LatchUnharmed_S4_e3 x0 x1 x2 x6) (law15_LatchUnharmed_S4_e4 x0 x1 x2 x6) (law15_LatchUnharmed_S4_e5 x0 x1 x2 x6) (law15_LatchUnharmed_S4_e6 x0 x1 x2 x6) x3 false false false x5 x6 ((law15_LatchUnharmed_S4_e0 x0 x6).c3) (law15_LatchUnharmed_S4_e7 x0 x1 x2 x6) (latch_Run_ai3o_r0_6 x0 x1 x2) 0 (⟨0⟩ : law15_LatchUnharmed_L3_s0) (tbE h4) (tbE h5) (tbE h6)), .m 92 (o_app_sf (m := [(Blk.flat 40 3 [[(.int .i64 x0), (.int .i64 x1), (.int .i64 x2)]] x3), (Blk.flat 4 1 (List.map encB ((law15_LatchUnharmed_S4_e0 x0 x6).c9)) false), (Blk.flat 3 1 (List.map (encI .i64) (law15_LatchUnharmed_S4_e1 x0 x1 x2 x6)) false), (Blk.flat 42 5 [[(.bool (law15_LatchUnharmed_S4_e2 x0 x1 x2 x6)), (.bool (law15_LatchUnharmed_S4_e3 x0 x1 x2 x6)), (.int .i64 (law15_LatchUnharmed_S4_e4 x0 x1 x2 x6)), (.int .i64 (law15_LatchUnharmed_S4_e5 x0 x1 x2 x6)), (.int .i64 (law15_LatchUnharmed_S4_e6 x0 x1 x2 x6))]] false), (Blk.flat 4 1 [] false)]) (enc := encB) (l0 := ([] : List Bool)) (l1 := x6) (id := 4) (e := 4) (s := 1) (bytes := 1) (x := (V.d (slD encB true 1 x5 x6))) (n := 0) (by kernel_rfl) (by kernel_rfl) flatRowsOf_os sizeOk_os (tbE h7)), .m 95 (o_appz (m := [(Blk.flat 40 3 [[(.int .i64 x0), (.int .i64 x1), (.int .i64 x2)]] x3), (Blk.flat 4 1 (List.map encB ((law15_LatchUnharmed_S4_e0 x0 x6).c9)) false), (Blk.flat 3 1 (List.map (encI .i64) (law15_LatchUnharmed_S4_e1 x0 x1 x2 x6)) false), (Blk.flat 42 5 [[(.bool (law15_LatchUnharmed_S4_e2 x0 x1 x2 x6)), (.bool (law15_LatchUnharmed_S4_e3 x0 x1 x2 x6)), (.int .i64 (law15_LatchUnharmed_S4_e4 x0 x1 x2 x6)), (.int .i64 (law15_LatchUnharmed_S4_e5 x0 x1 x2 x6)), (.int .i64 (law15_LatchUnharmed_S4_e6 x0 x1 x2 x6))]] false), (Blk.flat 4 1 (List.map encB x6) false)]) (enc := encB) (l := x6) (z := (false : Bool)) (zero := [(.bool false)]) (id := 4) (e := 4) (s := 1) (bytes := 1) (n := x6.length) (k := x1) (kd := .i64) (Nat.beq_refl _) (by kernel_rfl) (by kernel_rfl) (tbE h8)), .y (mm := [(Blk.flat 40 3 [[(.int .i64 x0), (.int .i64 x1), (.int .i64 x2)]] x3), (Blk.flat 4 1 (List.map encB ((law15_LatchUnharmed_S4_e0 x0 x6).c9)) false), (Blk.flat 3 1 (List.map (encI .i64) (law15_LatchUnharmed_S4_e1 x0 x1 x2 x6)) false), (Blk.flat 42 5 [[(.bool (law15_LatchUnharmed_S4_e2 x0 x1 x2 x6)), (.bool (law15_LatchUnharmed_S4_e3 x0 x1 x2 x6)), (.int .i64 (law15_LatchUnharmed_S4_e4 x0 x1 x2 x6)), (.int .i64 (law15_LatchUnharmed_S4_e5 x0 x1 x2 x6)), (.int .i64 (law15_LatchUnharmed_S4_e6 x0 x1 x2 x6))]] false), (Blk.flat 4 1 (List.map encB (x6 ++ List.replicate (x1 : Int).toNat (false : Bool))) false)]) (args := [(V.agg [(V.d (.int .i64 x0)), (V.d (.int .i64 x1)), (V.d (.int .i64 x2))]), (V.so false 4 ((x6 ++ List.replicate (x1 : Int).toNat (false : Bool)).length))]) (args1 := [(V.agg [(V.d (.int .i64 x0)), (V.d (.int .i64 x1)), (V.d (.int .i64 x2))]), (V.d (.rs true 1 (List.map encB (x6 ++ List.replicate (x1 : Int).toNat (false : Bool))) false))]) (byvals_cons (by kernel_rfl) (byvals_cons (byval_so (enc := encB) (l := (x6 ++ List.replicate (x1 : Int).toNat (false : Bool))) (b := false) (e := 4) (s := 1) (p := false) (n := ((x6 ++ List.replicate (x1 : Int).toNat (false : Bool)).length)) (Nat.beq_refl _) (by kernel_rfl)) (by kernel_rfl))), .c (latch_Run_ai3o_t0 x0 x1 x2 false (x6 ++ List.replicate (x1 : Int).toNat (false : Bool)) (tbE h9)), .c (law15_alive_t0), .k true, .b (tbE h10), .b (tbE h10), .b (notT (tbE h11))] (by kernel_rfl)
          · intro g0 g1
            exact absurd g0 tf
def law15_LatchUnharmed_c0 (x0 : Int) (x1 : Int) (x2 : Int) (x4 : List Bool) (x5 : Int) : Bool := (bif tb (law15_LatchUnharmed_S0_c0 x0 x1 x2 x4) then true else (bif tb (law15_LatchUnharmed_S1_c0 x0 x1 x2 x5) then true else (bif tb (law15_LatchUnharmed_S1_c1 x0 x1 x2 x5) then (bif tb (law15_LatchUnharmed_S4_c0 x0 x1 x2 x4) then true else (bif tb (law15_LatchUnharmed_S4_c1 x0 x1 x2 x4) then true else false)) else false)))
def law15_LatchUnharmed_r0_0 (x0 : Int) (x1 : Int) (x2 : Int) (x4 : List Bool) (x5 : Int) : Bool := (bif tb (law15_LatchUnharmed_S0_c0 x0 x1 x2 x4) then true else (bif tb (law15_LatchUnharmed_S1_c0 x0 x1 x2 x5) then false else (bif tb (law15_LatchUnharmed_S4_c0 x0 x1 x2 x4) then false else (law15_LatchUnharmed_S4_r1_0 x0 x1 x2 x4))))
theorem law15_LatchUnharmed_t0 (x0 : Int) (x1 : Int) (x2 : Int) (x3 : Bool) (x4 : List Bool) (x5 : Int) : law15_LatchUnharmed_c0 x0 x1 x2 x4 x5 = true → cl E0 9 [(V.agg [(V.d (.int .i64 x0)), (V.d (.int .i64 x1)), (V.d (.int .i64 x2))]), (V.d (slD encB true 1 x3 x4)), (V.d (.int .u8 x5))] [] = some ([(V.d (.bool (law15_LatchUnharmed_r0_0 x0 x1 x2 x4 x5)))], []) := by
  unfold law15_LatchUnharmed_c0 law15_LatchUnharmed_r0_0
  cases h1 : tb (law15_LatchUnharmed_S0_c0 x0 x1 x2 x4)
  · cases h2 : tb (law15_LatchUnharmed_S1_c0 x0 x1 x2 x5)
    · cases h3 : tb (law15_LatchUnharmed_S1_c1 x0 x1 x2 x5)
      · intro g0
        exact absurd g0 ft
      · cases h4 : tb (law15_LatchUnharmed_S4_c0 x0 x1 x2 x4)
        · cases h5 : tb (law15_LatchUnharmed_S4_c1 x0 x1 x2 x4)
          · intro g0
            exact absurd g0 ft
          · intro g0
            exact w9 [.s (law15_LatchUnharmed_S0_t1 x0 x1 x2 false x3 x4 x5 (tbE h1)), .s (law15_LatchUnharmed_S1_t1 x0 x1 x2 false x3 x4 x5 (tbE h2) (tbE h3)), .s (law15_LatchUnharmed_S4_t1 x0 x1 x2 false x3 x4 (tbE h4) (tbE h5))] (by kernel_rfl)
        · intro g0
          exact w9 [.s (law15_LatchUnharmed_S0_t1 x0 x1 x2 false x3 x4 x5 (tbE h1)), .s (law15_LatchUnharmed_S1_t1 x0 x1 x2 false x3 x4 x5 (tbE h2) (tbE h3)), .s (law15_LatchUnharmed_S4_t0 x0 x1 x2 false x3 x4 (tbE h4))] (by kernel_rfl)
    · intro g0
      exact w9 [.s (law15_LatchUnharmed_S0_t1 x0 x1 x2 false x3 x4 x5 (tbE h1)), .s (law15_LatchUnharmed_S1_t0 x0 x1 x2 false x3 x4 x5 (tbE h2))] (by kernel_rfl)
  · intro g0
    exact w9 [.s (law15_LatchUnharmed_S0_t0 x0 x1 x2 false x3 x4 x5 (tbE h1))] (by kernel_rfl)
end Go.Proofs.Ytdjmfcdopaejcaa.Den

namespace Go.Proofs.Ytdjmfcdopaejcaa.Den
open Go Go.Proofs
set_option linter.unusedVariables false
set_option linter.unusedSimpArgs false
theorem lrun_calm0 {L C B : Int} : ∀ n : Nat, lrun L C B LS0 (List.replicate n false) = (LS0, List.replicate n 0)
  | 0 => rfl
  | n + 1 => by
    have e : lnext L C B LS0 false = (LS0, 0) := by simp [lnext, LS0]
    simp only [List.replicate_succ, lrun, e, lrun_calm0 n]
theorem lrun_in0 {L C B bk : Int} : ∀ n : Nat, (lrun L C B ⟨false, false, 0, 0, bk⟩ (List.replicate n false)).1 = ⟨false, false, 0, 0, bk⟩
  | 0 => rfl
  | n + 1 => by
    have e : lnext L C B ⟨false, false, 0, 0, bk⟩ false = (⟨false, false, 0, 0, bk⟩, 0) := by simp [lnext]
    simp only [List.replicate_succ, lrun, e, lrun_in0 n]
theorem lrun_out {L C B : Int} {l : Bool} {st cl bk : Int} : ∀ n : Nat, (lrun L C B ⟨l, true, st, cl, bk⟩ (List.replicate n false)).1 = ⟨l, true, st, cl, bk⟩
  | 0 => rfl
  | n + 1 => by
    have e : lnext L C B ⟨l, true, st, cl, bk⟩ false = (⟨l, true, st, cl, bk⟩, 0) := by simp [lnext]
    simp only [List.replicate_succ, lrun, e, lrun_out n]
theorem lrun_back {L C B st bk : Int} : ∀ (n : Nat) (cl : Int), cl < C → C - cl ≤ n → (lrun L C B ⟨true, false, st, cl, bk⟩ (List.replicate n false)).1 = ⟨false, false, 0, 0, bk + 1⟩
  | 0, cl, h1, h2 => by omega
  | n + 1, cl, h1, h2 => by
    by_cases hc : cl + 1 = C
    · have e : lnext L C B ⟨true, false, st, cl, bk⟩ false = (⟨false, false, 0, 0, bk + 1⟩, 2) := by simp [lnext, hc]
      simp only [List.replicate_succ, lrun, e, lrun_in0 n]
    · have e : lnext L C B ⟨true, false, st, cl, bk⟩ false = (⟨true, false, st, cl + 1, bk⟩, 0) := by simp [lnext, hc]
      simp only [List.replicate_succ, lrun, e]
      exact lrun_back n (cl + 1) (by omega) (by omega)
theorem lrun_clean {L C B : Int} {s : LS} (h : s.fine L C B) {q : LS} (hq : (lrun L C B s (List.replicate C.toNat false)).1 = q) : q.o = true ∨ (q.l = false ∧ q.o = false ∧ q.st = 0) := by
  obtain ⟨l, o, st, cl, bk⟩ := s
  obtain ⟨hr, h⟩ := h
  unfold rightP at hr
  simp only at h
  rcases h with ⟨rfl, rfl, h⟩ | ⟨rfl, rfl, h⟩ | ⟨rfl, rfl, h⟩
  · obtain ⟨n, hn⟩ : ∃ n, C.toNat = n + 1 := ⟨C.toNat - 1, by omega⟩
    obtain ⟨h1, rfl, h3⟩ := h
    have e : lnext L C B ⟨false, false, st, 0, bk⟩ false = (⟨false, false, 0, 0, bk⟩, 0) := by simp [lnext]
    rw [hn] at hq
    simp only [List.replicate_succ, lrun, e, lrun_in0] at hq
    subst hq; exact .inr ⟨rfl, rfl, rfl⟩
  · rw [lrun_back C.toNat cl (by omega) (by omega)] at hq
    subst hq; exact .inr ⟨rfl, rfl, rfl⟩
  · rw [lrun_out] at hq
    subst hq; exact .inl rfl
def cstep (L : Int) (p : Int × List Bool) (t : Bool) : Int × List Bool := if t = true ∧ p.1 + 1 < L then (p.1 + 1, p.2 ++ [true]) else (0, p.2 ++ [false])
def calm (L : Int) (l : List Bool) : Int × List Bool := l.foldl (cstep L) (0, [])
theorem calm_succ {L : Int} {l : List Bool} {k : Nat} (h : k < l.length) : calm L (l.take (k + 1)) = cstep L (calm L (l.take k)) (gt l (k : Int)) := by
  unfold calm; rw [take_succ_gt h, List.foldl_append]; rfl
theorem calm_spec {L C B : Int} (hr : rightP L C B) {l : List Bool} : ∀ k, k ≤ l.length →
    lrun L C B LS0 (calm L (l.take k)).2 = (⟨false, false, (calm L (l.take k)).1, 0, 0⟩, List.replicate k 0) ∧ (calm L (l.take k)).2.length = k ∧ 0 ≤ (calm L (l.take k)).1 ∧ (calm L (l.take k)).1 < L
  | 0, _ => by
    unfold rightP at hr
    simp [calm, lrun, LS0]; omega
  | k + 1, h => by
    obtain ⟨h1, h2, h3, h4⟩ := calm_spec hr (l := l) k (by omega)
    have hk : k < l.length := by omega
    rw [calm_succ hk]
    have hr' := hr
    unfold rightP at hr'
    generalize calm L (l.take k) = p at *
    obtain ⟨r, c⟩ := p
    simp only at h1 h2 h3 h4
    unfold cstep
    simp only
    split
    · rename_i hc
      simp only [lrun_append, h1, lrun, lnext, List.replicate_succ']
      simp [hc.2, h2]; omega
    · simp only [lrun_append, h1, lrun, lnext, List.replicate_succ']
      simp [h2]; omega
def calmSt (L : Int) (l : List Bool) (k : Nat) : law15_LatchUnharmed_L2_s0 := ⟨k == 0, (calm L (l.take k)).1, k, (calm L (l.take k)).2⟩
theorem calm_end {L C B : Int} (hr : rightP L C B) {l : List Bool} (hl : l.length ≤ 100000) :
    law15_LatchUnharmed_L2_ok L l (⟨true, 0, 0, ([] : List Bool)⟩ : law15_LatchUnharmed_L2_s0) = true ∧ law15_LatchUnharmed_L2_end L l (⟨true, 0, 0, ([] : List Bool)⟩ : law15_LatchUnharmed_L2_s0) = calmSt L l l.length := by
  have hit : itS (law15_LatchUnharmed_L2_sel L l) (law15_LatchUnharmed_L2_nx L l) bound (calmSt L l 0) = some (calmSt L l l.length) := by
    refine loop_seq (calmSt L l) l.length (by omega) (fun k hk => ?_) ?_
    · obtain ⟨_, h2, h3, h4⟩ := calm_spec hr (l := l) k (by omega)
      have hr' := hr
      unfold rightP at hr'
      have w1 : wi ((calm L (l.take k)).1 + 1) = (calm L (l.take k)).1 + 1 := wi_eq (by omega) (by omega)
      have w2 : wi ((k : Int) + 1) = (k : Int) + 1 := wi_eq (by omega) (by omega)
      have i1 : inb l.length (k : Int) = true := inb_of (by omega) (by omega)
      have i2 : (k + 1) * 1 ≤ 140737488355328 := by omega
      constructor
      · simp only [calmSt, law15_LatchUnharmed_L2_sel, i1, tb, h2, List.length_singleton]
        cases gt l (k : Int) <;> simp [hk] <;> omega
      · simp only [calmSt, law15_LatchUnharmed_L2_nx, calm_succ hk, w1, w2, tb, cstep]
        cases gt l (k : Int)
        · simp
        · by_cases hc : (calm L (l.take k)).1 + 1 < L <;> simp [hc]
    · simp [calmSt, law15_LatchUnharmed_L2_sel, tb]
  have h0 : calmSt L l 0 = (⟨true, 0, 0, ([] : List Bool)⟩ : law15_LatchUnharmed_L2_s0) := by simp [calmSt, calm]
  rw [h0] at hit
  constructor
  · simp only [law15_LatchUnharmed_L2_ok, hit]; rfl
  · simp only [law15_LatchUnharmed_L2_end, hit]; rfl
theorem gt_zeros {n : Nat} {i : Int} : gt (List.replicate n (0 : Int)) i = 0 := by
  simp only [gt, List.getD_eq_getElem?_getD, List.getElem?_replicate]
  split <;> rfl
theorem zeros_end {n : Nat} (hn : n ≤ 100000) :
    law15_LatchUnharmed_L3_ok (List.replicate n 0) (⟨0⟩ : law15_LatchUnharmed_L3_s0) = true ∧ law15_LatchUnharmed_L3_end (List.replicate n 0) (⟨0⟩ : law15_LatchUnharmed_L3_s0) = ⟨(n : Int)⟩ := by
  have hit : itS (law15_LatchUnharmed_L3_sel (List.replicate n 0)) (law15_LatchUnharmed_L3_nx (List.replicate n 0)) bound ⟨((0 : Nat) : Int)⟩ = some ⟨(n : Int)⟩ := by
    refine loop_seq (fun k => (⟨(k : Int)⟩ : law15_LatchUnharmed_L3_s0)) n (by omega) (fun k hk => ?_) ?_
    · have i1 : inb (List.replicate n (0 : Int)).length (k : Int) = true := inb_of (by omega) (by simp; omega)
      have w2 : wi ((k : Int) + 1) = (k : Int) + 1 := wi_eq (by omega) (by omega)
      constructor
      · simp only [law15_LatchUnharmed_L3_sel, i1, gt_zeros, tb]
        simp [hk]
      · simp only [law15_LatchUnharmed_L3_nx, w2]; rfl
    · simp [law15_LatchUnharmed_L3_sel, tb]
  constructor
  · simp only [law15_LatchUnharmed_L3_ok]; rw [show (⟨0⟩ : law15_LatchUnharmed_L3_s0) = ⟨((0 : Nat) : Int)⟩ from rfl, hit]; rfl
  · simp only [law15_LatchUnharmed_L3_end]; rw [show (⟨0⟩ : law15_LatchUnharmed_L3_s0) = ⟨((0 : Nat) : Int)⟩ from rfl, hit]; rfl
theorem pure_LatchUnharmed (x0 : Int) (x1 : Int) (x2 : Int) (x3 : Bool) (x4 : List Bool) (x5 : Int) (wx0 : WfI .i64 x0) (wx1 : WfI .i64 x1) (wx2 : WfI .i64 x2) (wx4 : (x4.length ≤ maxLen ∧ x4.length * 1 ≤ 140737488351232 ∧ ∀ z ∈ x4, True)) (wx5 : WfI .u8 x5) : law15_LatchUnharmed_c0 x0 x1 x2 x4 x5 = true ∧ (law15_LatchUnharmed_r0_0 x0 x1 x2 x4 x5) = true := by
  by_cases hr : rightP x0 x1 x2
  · have r1 := (rightL x0 x1 x2).2 hr
    by_cases hm : 300 < x4.length
    · have : law15_LatchUnharmed_S0_c0 x0 x1 x2 x4 = true := by simp [law15_LatchUnharmed_S0_c0, r1, tb]; omega
      simp [law15_LatchUnharmed_c0, law15_LatchUnharmed_r0_0, this, tb]
    · have h0 : law15_LatchUnharmed_S0_c0 x0 x1 x2 x4 = false := by simp [law15_LatchUnharmed_S0_c0, r1, tb]; omega
      have h5 := wfI_u8 wx5
      have w5 : wi x5 = x5 := wi_eq (by omega) (by omega)
      have e6 : latch_Run_ai3o_r0_6 x0 x1 x2 = 0 := by simp [latch_Run_ai3o_r0_6, r1, tb]
      obtain ⟨a1, a2⟩ := runL hr (List.replicate x5.toNat false) (by simp; omega)
      rw [lrun_calm0] at a2
      have d0 : decide (0 ≤ x5) = true := by simp; omega
      have d1 : decide (x5 * 1 ≤ 140737488355328) = true := by simp; omega
      have q : law15_LatchUnharmed_S1_e0 x0 x1 x2 x5 = false := by
        simp only [law15_LatchUnharmed_S1_e0, w5, latch_Run_ai3o_r0_0, latch_Run_ai3o_r0_1, latch_Run_ai3o_r0_2, latch_Run_ai3o_r0_3, latch_Run_ai3o_r0_4, r1, a2, runSt, LS0, tb, cond_true]
        rfl
      have s1 : law15_LatchUnharmed_S1_c0 x0 x1 x2 x5 = false := by simp only [law15_LatchUnharmed_S1_c0, w5, a1, e6, q, d0, d1, tb]; rfl
      have s2 : law15_LatchUnharmed_S1_c1 x0 x1 x2 x5 = true := by simp only [law15_LatchUnharmed_S1_c1, w5, a1, e6, q, d0, d1, tb]; rfl
      obtain ⟨k1, k2⟩ := calm_end hr (l := x4) (by omega)
      obtain ⟨c1, c2, c3, c4⟩ := calm_spec hr (l := x4) x4.length (Nat.le_refl _)
      have f0 : law15_LatchUnharmed_S4_e0 x0 x4 = calmSt x0 x4 x4.length := k2
      have f9 : (calmSt x0 x4 x4.length).c9 = (calm x0 (x4.take x4.length)).2 := rfl
      obtain ⟨b1, b2⟩ := runL hr (calm x0 (x4.take x4.length)).2 (by omega)
      rw [c1, c2] at b2
      have e7 : law15_LatchUnharmed_S4_e1 x0 x1 x2 x4 = List.replicate x4.length 0 := by
        simp only [law15_LatchUnharmed_S4_e1, f0, f9, latch_Run_ai3o_r0_7, r1, b2, runSt, tb, cond_true]
      obtain ⟨z1, z2⟩ := zeros_end (n := x4.length) (by omega)
      have g8 : law15_LatchUnharmed_S4_e8 x0 x1 x2 x4 = ⟨(x4.length : Int)⟩ := by simp only [law15_LatchUnharmed_S4_e8, e7]; exact z2
      have zc : law15_LatchUnharmed_L3_c0 (List.replicate x4.length 0) ⟨(x4.length : Int)⟩ = false := by simp [law15_LatchUnharmed_L3_c0, tb]
      have zd : law15_LatchUnharmed_L3_c1 (List.replicate x4.length 0) ⟨(x4.length : Int)⟩ = true := by simp [law15_LatchUnharmed_L3_c1, tb]
      have lc : law15_LatchUnharmed_L2_c0 x4 (calmSt x0 x4 x4.length) = true := by simp [law15_LatchUnharmed_L2_c0, calmSt, tb]
      have hr' := hr
      unfold rightP at hr'
      obtain ⟨m1, m2⟩ := runL hr (x4 ++ List.replicate x1.toNat false) (by simp; omega)
      have d2 : decide ((([] : List Bool).length + x4.length) * 1 ≤ 140737488355328) = true := by simp; omega
      have d3 : decide (0 ≤ x1) = true := by simp; omega
      have d4 : decide ((x4.length + x1.toNat) * 1 ≤ 140737488355328) = true := by simp; omega
      have s3 : law15_LatchUnharmed_S4_c0 x0 x1 x2 x4 = false := by simp only [law15_LatchUnharmed_S4_c0, k1, f0, f9, lc, b1, e7, z1, g8, zc, tb]; rfl
      have s4 : law15_LatchUnharmed_S4_c1 x0 x1 x2 x4 = true := by simp only [law15_LatchUnharmed_S4_c1, k1, f0, f9, lc, b1, e7, z1, g8, zc, zd, d2, d3, d4, m1, tb]; rfl
      have hfin : (lrun x0 x1 x2 LS0 (x4 ++ List.replicate x1.toNat false)).1 = (lrun x0 x1 x2 (lrun x0 x1 x2 LS0 x4).1 (List.replicate x1.toNat false)).1 := by rw [lrun_append]
      have hq := lrun_clean (lrun_fine (a := x4) (LS0_fine hr)) hfin.symm
      constructor
      · simp only [law15_LatchUnharmed_c0, h0, s1, s2, s3, s4, tb]; rfl
      · simp only [law15_LatchUnharmed_r0_0, h0, s1, s3, tb, cond_false, law15_LatchUnharmed_S4_r1_0, e6, law15_LatchUnharmed_S4_e2, law15_LatchUnharmed_S4_e4, law15_LatchUnharmed_S4_e6, f0, f9,
          latch_Run_ai3o_r0_0, latch_Run_ai3o_r0_1, latch_Run_ai3o_r0_2, latch_Run_ai3o_r0_4, r1, b2, m2, runSt, cond_true]
        generalize lrun x0 x1 x2 LS0 (x4 ++ List.replicate x1.toNat false) = w at hq ⊢
        rcases hq with hq | ⟨hq1, hq2, hq3⟩
        · simp [hq, calmSt]
        · simp [hq1, hq2, hq3, calmSt]
  · have r1 : latch_Right_ai3_r0_0 x0 x1 x2 = false := by
      cases h : latch_Right_ai3_r0_0 x0 x1 x2 with
      | false => rfl
      | true => exact absurd ((rightL _ _ _).1 h) hr
    have : law15_LatchUnharmed_S0_c0 x0 x1 x2 x4 = true := by simp [law15_LatchUnharmed_S0_c0, r1, tb]
    simp [law15_LatchUnharmed_c0, law15_LatchUnharmed_r0_0, this, tb]
end Go.Proofs.Ytdjmfcdopaejcaa.Den

namespace Go.Proofs.Ytdjmfcdopaejcaa.Den
open Go Go.Proofs
set_option maxRecDepth 100000
theorem own : ownKnob Try.prog.godebug = none := by kernel_rfl
theorem laidOut : laidOutB Try.prog = true := by kernel_rfl
theorem mixed : Try.prog.follows .mixedOrders = true := by kernel_rfl
theorem envOK : EnvOK Try.prog E0 := ⟨e0_cf, ext_ok rfl e0_x, e0_del⟩
theorem glOK (w : World) : GlOK E0 (cx0 w) := fun g cs h => by simp [E0] at h
end Go.Proofs.Ytdjmfcdopaejcaa.Den

namespace Go.Proofs.Ytdjmfcdopaejcaa.Den
open Go Go.Proofs Go.ChangeShapes Go.WideShapes Go.ChangeAt Go.RowKit
open Go.Proofs.Ytdjmfcdopaejcaa (Rows.latchUnharmedSpec Rows.latchUnharmedRow Rows.LatchUnharmedSaid)
set_option maxRecDepth 100000
set_option linter.unusedSimpArgs false
set_option linter.unusedVariables false
theorem row9 (rs : List (List D)) (h : TyAll Try.prog 20 Try.f9.params.toList rs) : ∃ k m', callD E0 k 9 (argsV Try.prog Try.f9.params.toList rs) [] = some ([.d (.bool true)], m') := by
  rw [Try.params9] at h ⊢
  simp only [TyAll] at h
  obtain ⟨_, _, rfl, q0, _, _, rfl, q1, _, _, rfl, q2, rfl⟩ := h
  have k0 := flatK_ok 20 _ _ _ (show flatK Try.prog 20 40 = some [.i .i64, .i .i64, .i .i64] by kernel_rfl) q0
  simp only [CellsK, CellK] at k0
  obtain ⟨_, _, rfl, ⟨a0_0, rfl, w0_0⟩, _, _, rfl, ⟨a0_1, rfl, w0_1⟩, _, _, rfl, ⟨a0_2, rfl, w0_2⟩, rfl⟩ := k0
  have k1 := flatK_ok 20 _ _ _ (show flatK Try.prog 20 57 = some [.l 4] by kernel_rfl) q1
  simp only [CellsK, CellK] at k1
  obtain ⟨d1_0, _, rfl, y1_0, rfl⟩ := k1
  obtain ⟨n1_0, a1_0, rfl, v1_0⟩ : ∃ n l, d1_0 = slD encB true 1 n l ∧ (l.length ≤ maxLen ∧ l.length * 1 ≤ 140737488351232 ∧ ∀ z ∈ l, True) := by
    rcases y1_0 with rfl | ⟨rows1, rfl, hl1, hb1, m1, hr1⟩
    · exact ⟨true, [], rfl, by simp [maxLen], by simp, fun z hz => by simp at hz⟩
    · obtain ⟨l2, rfl, hw2⟩ : ∃ l : List Bool, rows1 = l.map encB ∧ ∀ z ∈ l, True := rows_of (T := Ty Try.prog m1 4) (fun r hr => by
          have q := flatK_any (show flatK Try.prog 20 4 = some [.b] by kernel_rfl) hr
          simp only [CellsK, CellK] at q
          obtain ⟨_, _, rfl, ⟨b0, rfl⟩, rfl⟩ := q
          exact ⟨b0, rfl, trivial⟩) rows1 hr1
      rw [List.length_map, show Try.prog.bytesOf 4 = 1 by kernel_rfl] at hb1
      rw [show isFlat Try.prog 4 = true by kernel_rfl, show Try.prog.cellsOf 4 = 1 by kernel_rfl]
      exact ⟨false, l2, slD_rs _ _ _ _, by simpa using hl1, hb1, hw2⟩
  have k2 := flatK_ok 20 _ _ _ (show flatK Try.prog 20 5 = some [.i .u8] by kernel_rfl) q2
  simp only [CellsK, CellK] at k2
  obtain ⟨_, _, rfl, ⟨a2_0, rfl, w2_0⟩, rfl⟩ := k2
  simp only [argsV, argV, Try.underlying5, Try.underlying40, Try.underlying57, List.map_cons, List.map_nil]
  obtain ⟨g1, g2⟩ := pure_LatchUnharmed a0_0 a0_1 a0_2 n1_0 a1_0 a2_0 w0_0 w0_1 w0_2 v1_0 w2_0
  have hc := law15_LatchUnharmed_t0 a0_0 a0_1 a0_2 n1_0 a1_0 a2_0 g1
  rw [g2] at hc
  obtain ⟨k, hk⟩ := of_cl hc
  exact ⟨k, _, hk⟩
theorem latchUnharmed_lifted (os : Os) (started : os.Started) (H : Type) (enc : TypeId × Value → H) :
    ReturnsInHanded {} Try.checked os 9 .any (Rows.latchUnharmedSpec.pre6 enc Try.prog Try.f9 Rows.latchUnharmedRow.domain false) (Rows.latchUnharmedSpec.post enc Try.prog Try.f9 false true false false) :=
  law_lifted (C := Try.checked) (fn := Try.f9) mixed envOK glOK own started (by kernel_rfl) Try.func9 laidOut
    (ChangeSpec.witness6 (enc := enc) (C := Try.checked) false ⟨#[], #[.agg #[.int .i64 0, .int .i64 0, .int .i64 0], .slice none 0 0, .int .u8 0], []⟩ 8 (by kernel_rfl) (by kernel_rfl) (by kernel_rfl) (by kernel_rfl))
    (by kernel_rfl) (rt := 4) rfl Try.underlying4 rfl
    (fun ds h => by
      match ds, h with
      | [_, _, _], _ => rfl)
    row9
theorem latchUnharmed_holds : Rows.LatchUnharmedSaid :=
  OpenClaim.holds_of_wide 9 Try.f9 rfl rfl rfl rfl rfl rfl rfl ⟨rfl, rfl, rfl, rfl, rfl⟩ rfl rfl rfl rfl rfl (by kernel_rfl) Try.func9 (by kernel_rfl)
    (of_decide_eq_true (by kernel_rfl)) (by unfold Func.isWrapper; first | (rw [if_pos (by decide +kernel)]; kernel_rfl) | (rw [if_neg (by decide +kernel)]; exact ⟨rfl, rfl⟩))
    (fun os started H enc _ => latchUnharmed_lifted os started H enc)
end Go.Proofs.Ytdjmfcdopaejcaa.Den
