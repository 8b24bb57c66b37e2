/- LatchRow: part 5 of what its proof rests on: an evaluator of the program's code, proved sound; plain functions printed from the code by a program of this session, with proofs; plain laws. No condition. -/
import Derived.Test.YtdjmfcdopaejcaaDenlatchRow4
import Derived.Test.YtdjmfcdopaejcaaRows

namespace Go.Proofs.Ytdjmfcdopaejcaa.Den
open Go Go.Proofs
set_option maxRecDepth 100000
set_option maxHeartbeats 4000000
set_option linter.unusedVariables false
set_option linter.unusedSimpArgs false

def latch_of_ab2i3_c0 (x0 : Bool) (x1 : Bool) : Bool := (bif tb (x1) then (bif tb (x0) then true else false) else false)

def latch_of_ab2i3_c1 (x0 : Bool) (x1 : Bool) : Bool := (bif tb (x1) then (bif tb (x0) then false else true) else false)

def latch_of_ab2i3_c2 (x0 : Bool) (x1 : Bool) : Bool := (bif tb (x1) then false else (bif tb (x0) then true else false))

theorem latch_of_ab2i3_t0 (x0 : Bool) (x1 : Bool) (x2 : Int) (x3 : Int) (x4 : Int) : latch_of_ab2i3_c0 x0 x1 = true → cl E0 51 [(V.agg [(V.d (.bool x0)), (V.d (.bool x1)), (V.d (.int .i64 x2)), (V.d (.int .i64 x3)), (V.d (.int .i64 x4))])] [] = some ([(V.ifc 100 (V.agg [(V.d (.bool x0)), (V.d (.bool x1)), (V.d (.int .i64 x2)), (V.d (.int .i64 x3)), (V.d (.int .i64 x4))]))], []) := by
  unfold latch_of_ab2i3_c0
  cases h1 : tb (x1)
  · cases h2 : tb (x0)
    · intro g0
      exact absurd g0 ft
    · intro g0
      exact absurd g0 ft
  · cases h2 : tb (x0)
    · intro g0
      exact absurd g0 ft
    · intro g0
      exact w51 [.b (tbE h1), .b (notT (tbE h2)), .b (tbE h1)] (by kernel_rfl)

theorem latch_of_ab2i3_t1 (x0 : Bool) (x1 : Bool) (x2 : Int) (x3 : Int) (x4 : Int) : latch_of_ab2i3_c0 x0 x1 = false → latch_of_ab2i3_c1 x0 x1 = true → cl E0 51 [(V.agg [(V.d (.bool x0)), (V.d (.bool x1)), (V.d (.int .i64 x2)), (V.d (.int .i64 x3)), (V.d (.int .i64 x4))])] [] = some ([(V.d .nili)], []) := by
  unfold latch_of_ab2i3_c0 latch_of_ab2i3_c1
  cases h1 : tb (x1)
  · cases h2 : tb (x0)
    · intro g0 g1
      exact absurd g1 ft
    · intro g0 g1
      exact absurd g1 ft
  · cases h2 : tb (x0)
    · intro g0 g1
      exact w51 [.b (tbE h1), .b (notF (tbE h2))] (by kernel_rfl)
    · intro g0 g1
      exact absurd g0 tf

theorem latch_of_ab2i3_t2 (x0 : Bool) (x1 : Bool) (x2 : Int) (x3 : Int) (x4 : Int) : latch_of_ab2i3_c0 x0 x1 = false → latch_of_ab2i3_c1 x0 x1 = false → latch_of_ab2i3_c2 x0 x1 = true → cl E0 51 [(V.agg [(V.d (.bool x0)), (V.d (.bool x1)), (V.d (.int .i64 x2)), (V.d (.int .i64 x3)), (V.d (.int .i64 x4))])] [] = some ([(V.ifc 101 (V.agg [(V.d (.bool x0)), (V.d (.bool x1)), (V.d (.int .i64 x2)), (V.d (.int .i64 x3)), (V.d (.int .i64 x4))]))], []) := by
  unfold latch_of_ab2i3_c0 latch_of_ab2i3_c1 latch_of_ab2i3_c2
  cases h1 : tb (x1)
  · cases h2 : tb (x0)
    · intro g0 g1 g2
      exact absurd g2 ft
    · intro g0 g1 g2
      exact w51 [.b (tbE h1), .b (tbE h1), .b (tbE h2)] (by kernel_rfl)
  · cases h2 : tb (x0)
    · intro g0 g1 g2
      exact absurd g1 tf
    · intro g0 g1 g2
      exact absurd g0 tf

theorem latch_of_ab2i3_t3 (x0 : Bool) (x1 : Bool) (x2 : Int) (x3 : Int) (x4 : Int) : latch_of_ab2i3_c0 x0 x1 = false → latch_of_ab2i3_c1 x0 x1 = false → latch_of_ab2i3_c2 x0 x1 = false → cl E0 51 [(V.agg [(V.d (.bool x0)), (V.d (.bool x1)), (V.d (.int .i64 x2)), (V.d (.int .i64 x3)), (V.d (.int .i64 x4))])] [] = some ([(V.ifc 102 (V.agg [(V.d (.bool x0)), (V.d (.bool x1)), (V.d (.int .i64 x2)), (V.d (.int .i64 x3)), (V.d (.int .i64 x4))]))], []) := by
  unfold latch_of_ab2i3_c0 latch_of_ab2i3_c1 latch_of_ab2i3_c2
  cases h1 : tb (x1)
  · cases h2 : tb (x0)
    · intro g0 g1 g2
      exact w51 [.b (tbE h1), .b (tbE h1), .b (tbE h2)] (by kernel_rfl)
    · intro g0 g1 g2
      exact absurd g2 tf
  · cases h2 : tb (x0)
    · intro g0 g1 g2
      exact absurd g1 tf
    · intro g0 g1 g2
      exact absurd g0 tf

def latch_within_iii_r0_0 (x0 : Int) (x1 : Int) (x2 : Int) : Bool := (bif tb (decide (x1 ≤ x0)) then (decide (x0 ≤ x2)) else false)

theorem latch_within_iii_t0 (x0 : Int) (x1 : Int) (x2 : Int) : cl E0 52 [(V.d (.int .i64 x0)), (V.d (.int .i64 x1)), (V.d (.int .i64 x2))] [] = some ([(V.d (.bool (latch_within_iii_r0_0 x0 x1 x2)))], []) := by
  unfold latch_within_iii_r0_0
  cases h1 : tb (decide (x1 ≤ x0))
  · exact w52 [.b (tbE h1)] (by kernel_rfl)
  · exact w52 [.b (tbE h1)] (by kernel_rfl)

def latch_Right_ai3_r0_0 (x0 : Int) (x1 : Int) (x2 : Int) : Bool := (bif tb (latch_within_iii_r0_0 x0 1 100) then (bif tb (latch_within_iii_r0_0 x1 1 1000) then (latch_within_iii_r0_0 x2 0 10) else false) else false)

theorem latch_Right_ai3_t0 (x0 : Int) (x1 : Int) (x2 : Int) : cl E0 36 [(V.agg [(V.d (.int .i64 x0)), (V.d (.int .i64 x1)), (V.d (.int .i64 x2))])] [] = some ([(V.d (.bool (latch_Right_ai3_r0_0 x0 x1 x2)))], []) := by
  unfold latch_Right_ai3_r0_0
  cases h1 : tb (latch_within_iii_r0_0 x0 1 100)
  · exact w36 [.c (latch_within_iii_t0 x0 1 100), .b (tbE h1)] (by kernel_rfl)
  · cases h2 : tb (latch_within_iii_r0_0 x1 1 1000)
    · exact w36 [.c (latch_within_iii_t0 x0 1 100), .b (tbE h1), .c (latch_within_iii_t0 x1 1 1000), .b (tbE h2)] (by kernel_rfl)
    · exact w36 [.c (latch_within_iii_t0 x0 1 100), .b (tbE h1), .c (latch_within_iii_t0 x1 1 1000), .b (tbE h2), .c (latch_within_iii_t0 x2 0 10)] (by kernel_rfl)

def latch_out_fine_ab2i3ai3_r0_0 (x2 : Int) (x3 : Int) (x4 : Int) (x5 : Int) (x7 : Int) : Bool := (bif tb ((x2 : Int) == x5) then (bif tb ((x3 : Int) == 0) then ((x4 : Int) == x7) else false) else false)

theorem latch_out_fine_ab2i3ai3_t0 (x0 : Bool) (x1 : Bool) (x2 : Int) (x3 : Int) (x4 : Int) (x5 : Int) (x6 : Int) (x7 : Int) : cl E0 87 [(V.agg [(V.d (.bool x0)), (V.d (.bool x1)), (V.d (.int .i64 x2)), (V.d (.int .i64 x3)), (V.d (.int .i64 x4))]), (V.agg [(V.d (.int .i64 x5)), (V.d (.int .i64 x6)), (V.d (.int .i64 x7))])] [] = some ([(V.d (.bool (latch_out_fine_ab2i3ai3_r0_0 x2 x3 x4 x5 x7)))], []) := by
  unfold latch_out_fine_ab2i3ai3_r0_0
  cases h1 : tb ((x2 : Int) == x5)
  · exact w87 [.b (tbE h1)] (by kernel_rfl)
  · cases h2 : tb ((x3 : Int) == 0)
    · exact w87 [.b (tbE h1), .b (tbE h2)] (by kernel_rfl)
    · exact w87 [.b (tbE h1), .b (tbE h2)] (by kernel_rfl)

def latch_latched_fine_ab2i3ai3_r0_0 (x2 : Int) (x3 : Int) (x4 : Int) (x5 : Int) (x6 : Int) (x7 : Int) : Bool := (bif tb ((x2 : Int) == x5) then (bif tb (latch_within_iii_r0_0 x3 0 (wi (x6 - 1))) then (latch_within_iii_r0_0 x4 0 (wi (x7 - 1))) else false) else false)

theorem latch_latched_fine_ab2i3ai3_t0 (x0 : Bool) (x1 : Bool) (x2 : Int) (x3 : Int) (x4 : Int) (x5 : Int) (x6 : Int) (x7 : Int) : cl E0 89 [(V.agg [(V.d (.bool x0)), (V.d (.bool x1)), (V.d (.int .i64 x2)), (V.d (.int .i64 x3)), (V.d (.int .i64 x4))]), (V.agg [(V.d (.int .i64 x5)), (V.d (.int .i64 x6)), (V.d (.int .i64 x7))])] [] = some ([(V.d (.bool (latch_latched_fine_ab2i3ai3_r0_0 x2 x3 x4 x5 x6 x7)))], []) := by
  unfold latch_latched_fine_ab2i3ai3_r0_0
  cases h1 : tb ((x2 : Int) == x5)
  · exact w89 [.b (tbE h1)] (by kernel_rfl)
  · cases h2 : tb (latch_within_iii_r0_0 x3 0 (wi (x6 - 1)))
    · exact w89 [.b (tbE h1), .c (latch_within_iii_t0 x3 0 (wi (x6 - 1))), .b (tbE h2)] (by kernel_rfl)
    · exact w89 [.b (tbE h1), .c (latch_within_iii_t0 x3 0 (wi (x6 - 1))), .b (tbE h2), .c (latch_within_iii_t0 x4 0 (wi (x7 - 1)))] (by kernel_rfl)

def latch_in_fine_ab2i3ai3_r0_0 (x2 : Int) (x3 : Int) (x4 : Int) (x5 : Int) (x7 : Int) : Bool := (bif tb (latch_within_iii_r0_0 x2 0 (wi (x5 - 1))) then (bif tb ((x3 : Int) == 0) then (latch_within_iii_r0_0 x4 0 x7) else false) else false)

theorem latch_in_fine_ab2i3ai3_t0 (x0 : Bool) (x1 : Bool) (x2 : Int) (x3 : Int) (x4 : Int) (x5 : Int) (x6 : Int) (x7 : Int) : cl E0 91 [(V.agg [(V.d (.bool x0)), (V.d (.bool x1)), (V.d (.int .i64 x2)), (V.d (.int .i64 x3)), (V.d (.int .i64 x4))]), (V.agg [(V.d (.int .i64 x5)), (V.d (.int .i64 x6)), (V.d (.int .i64 x7))])] [] = some ([(V.d (.bool (latch_in_fine_ab2i3ai3_r0_0 x2 x3 x4 x5 x7)))], []) := by
  unfold latch_in_fine_ab2i3ai3_r0_0
  cases h1 : tb (latch_within_iii_r0_0 x2 0 (wi (x5 - 1)))
  · exact w91 [.c (latch_within_iii_t0 x2 0 (wi (x5 - 1))), .b (tbE h1)] (by kernel_rfl)
  · cases h2 : tb ((x3 : Int) == 0)
    · exact w91 [.c (latch_within_iii_t0 x2 0 (wi (x5 - 1))), .b (tbE h1), .b (tbE h2)] (by kernel_rfl)
    · exact w91 [.c (latch_within_iii_t0 x2 0 (wi (x5 - 1))), .b (tbE h1), .b (tbE h2), .c (latch_within_iii_t0 x4 0 x7)] (by kernel_rfl)

def latch_Fine_ai3ab2i3_r0_0 (x0 : Int) (x1 : Int) (x2 : Int) (x3 : Bool) (x4 : Bool) (x5 : Int) (x6 : Int) (x7 : Int) : Bool := (bif tb (latch_of_ab2i3_c0 x3 x4) then (bif tb (latch_Right_ai3_r0_0 x0 x1 x2) then (latch_out_fine_ab2i3ai3_r0_0 x5 x6 x7 x0 x2) else false) else (bif tb (latch_of_ab2i3_c1 x3 x4) then false else (bif tb (latch_of_ab2i3_c2 x3 x4) then (bif tb (latch_Right_ai3_r0_0 x0 x1 x2) then (latch_latched_fine_ab2i3ai3_r0_0 x5 x6 x7 x0 x1 x2) else false) else (bif tb (latch_Right_ai3_r0_0 x0 x1 x2) then (latch_in_fine_ab2i3ai3_r0_0 x5 x6 x7 x0 x2) else false))))

theorem latch_Fine_ai3ab2i3_t0 (x0 : Int) (x1 : Int) (x2 : Int) (x3 : Bool) (x4 : Bool) (x5 : Int) (x6 : Int) (x7 : Int) : cl E0 38 [(V.agg [(V.d (.int .i64 x0)), (V.d (.int .i64 x1)), (V.d (.int .i64 x2))]), (V.agg [(V.d (.bool x3)), (V.d (.bool x4)), (V.d (.int .i64 x5)), (V.d (.int .i64 x6)), (V.d (.int .i64 x7))])] [] = some ([(V.d (.bool (latch_Fine_ai3ab2i3_r0_0 x0 x1 x2 x3 x4 x5 x6 x7)))], []) := by
  unfold latch_Fine_ai3ab2i3_r0_0
  cases h1 : tb (latch_of_ab2i3_c0 x3 x4)
  · cases h2 : tb (latch_of_ab2i3_c1 x3 x4)
    · cases h3 : tb (latch_of_ab2i3_c2 x3 x4)
      · cases h4 : tb (latch_Right_ai3_r0_0 x0 x1 x2)
        · exact w38 [.c (latch_of_ab2i3_t3 x3 x4 x5 x6 x7 (tbE h1) (tbE h2) (tbE h3)), .c (latch_Right_ai3_t0 x0 x1 x2), .b (tbE h4)] (by kernel_rfl)
        · exact w38 [.c (latch_of_ab2i3_t3 x3 x4 x5 x6 x7 (tbE h1) (tbE h2) (tbE h3)), .c (latch_Right_ai3_t0 x0 x1 x2), .b (tbE h4), .k true, .c (latch_in_fine_ab2i3ai3_t0 x3 x4 x5 x6 x7 x0 x1 x2)] (by kernel_rfl)
      · cases h4 : tb (latch_Right_ai3_r0_0 x0 x1 x2)
        · exact w38 [.c (latch_of_ab2i3_t2 x3 x4 x5 x6 x7 (tbE h1) (tbE h2) (tbE h3)), .c (latch_Right_ai3_t0 x0 x1 x2), .b (tbE h4)] (by kernel_rfl)
        · exact w38 [.c (latch_of_ab2i3_t2 x3 x4 x5 x6 x7 (tbE h1) (tbE h2) (tbE h3)), .c (latch_Right_ai3_t0 x0 x1 x2), .b (tbE h4), .k true, .c (latch_latched_fine_ab2i3ai3_t0 x3 x4 x5 x6 x7 x0 x1 x2)] (by kernel_rfl)
    · cases h3 : tb (latch_Right_ai3_r0_0 x0 x1 x2)
      · exact w38 [.c (latch_of_ab2i3_t1 x3 x4 x5 x6 x7 (tbE h1) (tbE h2)), .c (latch_Right_ai3_t0 x0 x1 x2), .b (tbE h3)] (by kernel_rfl)
      · exact w38 [.c (latch_of_ab2i3_t1 x3 x4 x5 x6 x7 (tbE h1) (tbE h2)), .c (latch_Right_ai3_t0 x0 x1 x2), .b (tbE h3), .k false] (by kernel_rfl)
  · cases h2 : tb (latch_Right_ai3_r0_0 x0 x1 x2)
    · exact w38 [.c (latch_of_ab2i3_t0 x3 x4 x5 x6 x7 (tbE h1)), .c (latch_Right_ai3_t0 x0 x1 x2), .b (tbE h2)] (by kernel_rfl)
    · exact w38 [.c (latch_of_ab2i3_t0 x3 x4 x5 x6 x7 (tbE h1)), .c (latch_Right_ai3_t0 x0 x1 x2), .b (tbE h2), .k true, .c (latch_out_fine_ab2i3ai3_t0 x3 x4 x5 x6 x7 x0 x1 x2)] (by kernel_rfl)

theorem latch_out_next_ab2i3ai3b_t0 (x0 : Bool) (x1 : Bool) (x2 : Int) (x3 : Int) (x4 : Int) (x5 : Int) (x6 : Int) (x7 : Int) (x8 : Bool) : cl E0 88 [(V.agg [(V.d (.bool x0)), (V.d (.bool x1)), (V.d (.int .i64 x2)), (V.d (.int .i64 x3)), (V.d (.int .i64 x4))]), (V.agg [(V.d (.int .i64 x5)), (V.d (.int .i64 x6)), (V.d (.int .i64 x7))]), (V.d (.bool x8))] [] = some ([(V.agg [(V.d (.bool x0)), (V.d (.bool x1)), (V.d (.int .i64 x2)), (V.d (.int .i64 x3)), (V.d (.int .i64 x4))]), (V.d (.int .i64 0))], []) := by
  exact w88 [] (by kernel_rfl)

def latch_latched_next_ab2i3ai3b_r0_0 (x0 : Bool) (x3 : Int) (x6 : Int) (x8 : Bool) : Bool := (bif tb (x8) then x0 else (bif tb (((wi (x3 + 1)) : Int) == x6) then false else x0))

def latch_latched_next_ab2i3ai3b_r0_1 (x1 : Bool) (x3 : Int) (x6 : Int) (x8 : Bool) : Bool := (bif tb (x8) then x1 else (bif tb (((wi (x3 + 1)) : Int) == x6) then false else x1))

def latch_latched_next_ab2i3ai3b_r0_2 (x2 : Int) (x3 : Int) (x6 : Int) (x8 : Bool) : Int := (bif tb (x8) then x2 else (bif tb (((wi (x3 + 1)) : Int) == x6) then 0 else x2))

def latch_latched_next_ab2i3ai3b_r0_3 (x3 : Int) (x6 : Int) (x8 : Bool) : Int := (bif tb (x8) then 0 else (bif tb (((wi (x3 + 1)) : Int) == x6) then 0 else (wi (x3 + 1))))

def latch_latched_next_ab2i3ai3b_r0_4 (x3 : Int) (x4 : Int) (x6 : Int) (x8 : Bool) : Int := (bif tb (x8) then x4 else (bif tb (((wi (x3 + 1)) : Int) == x6) then (wi (x4 + 1)) else x4))

def latch_latched_next_ab2i3ai3b_r0_5 (x3 : Int) (x6 : Int) (x8 : Bool) : Int := (bif tb (x8) then 0 else (bif tb (((wi (x3 + 1)) : Int) == x6) then 2 else 0))

theorem latch_latched_next_ab2i3ai3b_t0 (x0 : Bool) (x1 : Bool) (x2 : Int) (x3 : Int) (x4 : Int) (x5 : Int) (x6 : Int) (x7 : Int) (x8 : Bool) : cl E0 90 [(V.agg [(V.d (.bool x0)), (V.d (.bool x1)), (V.d (.int .i64 x2)), (V.d (.int .i64 x3)), (V.d (.int .i64 x4))]), (V.agg [(V.d (.int .i64 x5)), (V.d (.int .i64 x6)), (V.d (.int .i64 x7))]), (V.d (.bool x8))] [] = some ([(V.agg [(V.d (.bool (latch_latched_next_ab2i3ai3b_r0_0 x0 x3 x6 x8))), (V.d (.bool (latch_latched_next_ab2i3ai3b_r0_1 x1 x3 x6 x8))), (V.d (.int .i64 (latch_latched_next_ab2i3ai3b_r0_2 x2 x3 x6 x8))), (V.d (.int .i64 (latch_latched_next_ab2i3ai3b_r0_3 x3 x6 x8))), (V.d (.int .i64 (latch_latched_next_ab2i3ai3b_r0_4 x3 x4 x6 x8)))]), (V.d (.int .i64 (latch_latched_next_ab2i3ai3b_r0_5 x3 x6 x8)))], []) := by
  unfold latch_latched_next_ab2i3ai3b_r0_0 latch_latched_next_ab2i3ai3b_r0_1 latch_latched_next_ab2i3ai3b_r0_2 latch_latched_next_ab2i3ai3b_r0_3 latch_latched_next_ab2i3ai3b_r0_4 latch_latched_next_ab2i3ai3b_r0_5
  cases h1 : tb (x8)
  · cases h2 : tb (((wi (x3 + 1)) : Int) == x6)
    · exact w90 [.b (tbE h1), .b (tbE h2)] (by kernel_rfl)
    · exact w90 [.b (tbE h1), .b (tbE h2)] (by kernel_rfl)
  · exact w90 [.b (tbE h1)] (by kernel_rfl)

def latch_in_next_ab2i3ai3b_r0_0 (x0 : Bool) (x2 : Int) (x5 : Int) (x8 : Bool) : Bool := (bif tb (x8) then (bif tb (decide ((wi (x2 + 1)) < x5)) then x0 else true) else x0)

def latch_in_next_ab2i3ai3b_r0_1 (x1 : Bool) (x2 : Int) (x4 : Int) (x5 : Int) (x7 : Int) (x8 : Bool) : Bool := (bif tb (x8) then (bif tb (decide ((wi (x2 + 1)) < x5)) then x1 else ((x4 : Int) == x7)) else x1)

def latch_in_next_ab2i3ai3b_r0_2 (x2 : Int) (x8 : Bool) : Int := (bif tb (x8) then (wi (x2 + 1)) else 0)

def latch_in_next_ab2i3ai3b_r0_5 (x2 : Int) (x4 : Int) (x5 : Int) (x7 : Int) (x8 : Bool) : Int := (bif tb (x8) then (bif tb (decide ((wi (x2 + 1)) < x5)) then 0 else (bif tb ((x4 : Int) == x7) then 3 else 1)) else 0)

theorem latch_in_next_ab2i3ai3b_t0 (x0 : Bool) (x1 : Bool) (x2 : Int) (x3 : Int) (x4 : Int) (x5 : Int) (x6 : Int) (x7 : Int) (x8 : Bool) : cl E0 92 [(V.agg [(V.d (.bool x0)), (V.d (.bool x1)), (V.d (.int .i64 x2)), (V.d (.int .i64 x3)), (V.d (.int .i64 x4))]), (V.agg [(V.d (.int .i64 x5)), (V.d (.int .i64 x6)), (V.d (.int .i64 x7))]), (V.d (.bool x8))] [] = some ([(V.agg [(V.d (.bool (latch_in_next_ab2i3ai3b_r0_0 x0 x2 x5 x8))), (V.d (.bool (latch_in_next_ab2i3ai3b_r0_1 x1 x2 x4 x5 x7 x8))), (V.d (.int .i64 (latch_in_next_ab2i3ai3b_r0_2 x2 x8))), (V.d (.int .i64 x3)), (V.d (.int .i64 x4))]), (V.d (.int .i64 (latch_in_next_ab2i3ai3b_r0_5 x2 x4 x5 x7 x8)))], []) := by
  unfold latch_in_next_ab2i3ai3b_r0_0 latch_in_next_ab2i3ai3b_r0_1 latch_in_next_ab2i3ai3b_r0_2 latch_in_next_ab2i3ai3b_r0_5
  cases h1 : tb (x8)
  · exact w92 [.b (notF (tbE h1))] (by kernel_rfl)
  · cases h2 : tb (decide ((wi (x2 + 1)) < x5))
    · cases h3 : tb ((x4 : Int) == x7)
      · exact w92 [.b (notT (tbE h1)), .b (tbE h2), .b (tbE h3)] (by kernel_rfl)
      · exact w92 [.b (notT (tbE h1)), .b (tbE h2), .b (tbE h3)] (by kernel_rfl)
    · exact w92 [.b (notT (tbE h1)), .b (tbE h2)] (by kernel_rfl)

def latch_Next_ai3ab2i3b_c0 (x0 : Int) (x1 : Int) (x2 : Int) (x3 : Bool) (x4 : Bool) (x5 : Int) (x6 : Int) (x7 : Int) : Bool := (bif tb (latch_Fine_ai3ab2i3_r0_0 x0 x1 x2 x3 x4 x5 x6 x7) then (bif tb (latch_of_ab2i3_c0 x3 x4) then true else (bif tb (latch_of_ab2i3_c1 x3 x4) then false else true)) else true)

def latch_Next_ai3ab2i3b_r0_0 (x0 : Int) (x1 : Int) (x2 : Int) (x3 : Bool) (x4 : Bool) (x5 : Int) (x6 : Int) (x7 : Int) (x8 : Bool) : Bool := (bif tb (latch_Fine_ai3ab2i3_r0_0 x0 x1 x2 x3 x4 x5 x6 x7) then (bif tb (latch_of_ab2i3_c0 x3 x4) then x3 else (bif tb (latch_of_ab2i3_c2 x3 x4) then (latch_latched_next_ab2i3ai3b_r0_0 x3 x6 x1 x8) else (latch_in_next_ab2i3ai3b_r0_0 x3 x5 x0 x8))) else false)

def latch_Next_ai3ab2i3b_r0_1 (x0 : Int) (x1 : Int) (x2 : Int) (x3 : Bool) (x4 : Bool) (x5 : Int) (x6 : Int) (x7 : Int) (x8 : Bool) : Bool := (bif tb (latch_Fine_ai3ab2i3_r0_0 x0 x1 x2 x3 x4 x5 x6 x7) then (bif tb (latch_of_ab2i3_c0 x3 x4) then x4 else (bif tb (latch_of_ab2i3_c2 x3 x4) then (latch_latched_next_ab2i3ai3b_r0_1 x4 x6 x1 x8) else (latch_in_next_ab2i3ai3b_r0_1 x4 x5 x7 x0 x2 x8))) else false)

def latch_Next_ai3ab2i3b_r0_2 (x0 : Int) (x1 : Int) (x2 : Int) (x3 : Bool) (x4 : Bool) (x5 : Int) (x6 : Int) (x7 : Int) (x8 : Bool) : Int := (bif tb (latch_Fine_ai3ab2i3_r0_0 x0 x1 x2 x3 x4 x5 x6 x7) then (bif tb (latch_of_ab2i3_c0 x3 x4) then x5 else (bif tb (latch_of_ab2i3_c2 x3 x4) then (latch_latched_next_ab2i3ai3b_r0_2 x5 x6 x1 x8) else (latch_in_next_ab2i3ai3b_r0_2 x5 x8))) else 0)

def latch_Next_ai3ab2i3b_r0_3 (x0 : Int) (x1 : Int) (x2 : Int) (x3 : Bool) (x4 : Bool) (x5 : Int) (x6 : Int) (x7 : Int) (x8 : Bool) : Int := (bif tb (latch_Fine_ai3ab2i3_r0_0 x0 x1 x2 x3 x4 x5 x6 x7) then (bif tb (latch_of_ab2i3_c0 x3 x4) then x6 else (bif tb (latch_of_ab2i3_c2 x3 x4) then (latch_latched_next_ab2i3ai3b_r0_3 x6 x1 x8) else x6)) else 0)

def latch_Next_ai3ab2i3b_r0_4 (x0 : Int) (x1 : Int) (x2 : Int) (x3 : Bool) (x4 : Bool) (x5 : Int) (x6 : Int) (x7 : Int) (x8 : Bool) : Int := (bif tb (latch_Fine_ai3ab2i3_r0_0 x0 x1 x2 x3 x4 x5 x6 x7) then (bif tb (latch_of_ab2i3_c0 x3 x4) then x7 else (bif tb (latch_of_ab2i3_c2 x3 x4) then (latch_latched_next_ab2i3ai3b_r0_4 x6 x7 x1 x8) else x7)) else 0)

def latch_Next_ai3ab2i3b_r0_5 (x0 : Int) (x1 : Int) (x2 : Int) (x3 : Bool) (x4 : Bool) (x5 : Int) (x6 : Int) (x7 : Int) (x8 : Bool) : Int := (bif tb (latch_Fine_ai3ab2i3_r0_0 x0 x1 x2 x3 x4 x5 x6 x7) then (bif tb (latch_of_ab2i3_c0 x3 x4) then 0 else (bif tb (latch_of_ab2i3_c2 x3 x4) then (latch_latched_next_ab2i3ai3b_r0_5 x6 x1 x8) else (latch_in_next_ab2i3ai3b_r0_5 x5 x7 x0 x2 x8))) else 0)

def latch_Next_ai3ab2i3b_r0_6 (x0 : Int) (x1 : Int) (x2 : Int) (x3 : Bool) (x4 : Bool) (x5 : Int) (x6 : Int) (x7 : Int) : Int := (bif tb (latch_Fine_ai3ab2i3_r0_0 x0 x1 x2 x3 x4 x5 x6 x7) then 0 else 1)

theorem latch_Next_ai3ab2i3b_t0 (x0 : Int) (x1 : Int) (x2 : Int) (x3 : Bool) (x4 : Bool) (x5 : Int) (x6 : Int) (x7 : Int) (x8 : Bool) : latch_Next_ai3ab2i3b_c0 x0 x1 x2 x3 x4 x5 x6 x7 = true → cl E0 31 [(V.agg [(V.d (.int .i64 x0)), (V.d (.int .i64 x1)), (V.d (.int .i64 x2))]), (V.agg [(V.d (.bool x3)), (V.d (.bool x4)), (V.d (.int .i64 x5)), (V.d (.int .i64 x6)), (V.d (.int .i64 x7))]), (V.d (.bool x8))] [] = some ([(V.agg [(V.d (.bool (latch_Next_ai3ab2i3b_r0_0 x0 x1 x2 x3 x4 x5 x6 x7 x8))), (V.d (.bool (latch_Next_ai3ab2i3b_r0_1 x0 x1 x2 x3 x4 x5 x6 x7 x8))), (V.d (.int .i64 (latch_Next_ai3ab2i3b_r0_2 x0 x1 x2 x3 x4 x5 x6 x7 x8))), (V.d (.int .i64 (latch_Next_ai3ab2i3b_r0_3 x0 x1 x2 x3 x4 x5 x6 x7 x8))), (V.d (.int .i64 (latch_Next_ai3ab2i3b_r0_4 x0 x1 x2 x3 x4 x5 x6 x7 x8)))]), (V.d (.int .i64 (latch_Next_ai3ab2i3b_r0_5 x0 x1 x2 x3 x4 x5 x6 x7 x8))), (V.d (.int .i64 (latch_Next_ai3ab2i3b_r0_6 x0 x1 x2 x3 x4 x5 x6 x7)))], []) := by
  unfold latch_Next_ai3ab2i3b_c0 latch_Next_ai3ab2i3b_r0_0 latch_Next_ai3ab2i3b_r0_1 latch_Next_ai3ab2i3b_r0_2 latch_Next_ai3ab2i3b_r0_3 latch_Next_ai3ab2i3b_r0_4 latch_Next_ai3ab2i3b_r0_5 latch_Next_ai3ab2i3b_r0_6
  cases h1 : tb (latch_Fine_ai3ab2i3_r0_0 x0 x1 x2 x3 x4 x5 x6 x7)
  · intro g0
    exact w31 [.c (latch_Fine_ai3ab2i3_t0 x0 x1 x2 x3 x4 x5 x6 x7), .b (notF (tbE h1))] (by kernel_rfl)
  · cases h2 : tb (latch_of_ab2i3_c0 x3 x4)
    · cases h3 : tb (latch_of_ab2i3_c1 x3 x4)
      · cases h4 : tb (latch_of_ab2i3_c2 x3 x4)
        · intro g0
          exact w31 [.c (latch_Fine_ai3ab2i3_t0 x0 x1 x2 x3 x4 x5 x6 x7), .b (notT (tbE h1)), .c (latch_of_ab2i3_t3 x3 x4 x5 x6 x7 (tbE h2) (tbE h3) (tbE h4)), .c (latch_in_next_ab2i3ai3b_t0 x3 x4 x5 x6 x7 x0 x1 x2 x8)] (by kernel_rfl)
        · intro g0
          exact w31 [.c (latch_Fine_ai3ab2i3_t0 x0 x1 x2 x3 x4 x5 x6 x7), .b (notT (tbE h1)), .c (latch_of_ab2i3_t2 x3 x4 x5 x6 x7 (tbE h2) (tbE h3) (tbE h4)), .c (latch_latched_next_ab2i3ai3b_t0 x3 x4 x5 x6 x7 x0 x1 x2 x8)] (by kernel_rfl)
      · intro g0
        exact absurd g0 ft
    · intro g0
      exact w31 [.c (latch_Fine_ai3ab2i3_t0 x0 x1 x2 x3 x4 x5 x6 x7), .b (notT (tbE h1)), .c (latch_of_ab2i3_t0 x3 x4 x5 x6 x7 (tbE h2)), .c (latch_out_next_ab2i3ai3b_t0 x3 x4 x5 x6 x7 x0 x1 x2 x8)] (by kernel_rfl)

structure latch_Run_ai3o_L0_s0 where
  c0 : Bool
  c4 : Int
  c16 : Bool
  c17 : Bool
  c18 : Int
  c19 : Int
  c20 : Int
  c22 : List Int
  deriving Inhabited

def latch_Run_ai3o_L0_enc (x0 : Int) (x1 : Int) (x2 : Int) (x3 : Bool) (x4 : Bool) (x5 : Int) (x6 : Int) (x7 : Int) (x8 : Bool) (x9 : Bool) (x10 : Int) (x11 : Int) (x12 : Int) (x13 : List Int) (x14 : Bool) (x15 : Bool) (x16 : Bool) (x17 : Bool) (x18 : Bool) (x19 : Bool) (x20 : Bool) (x21 : List Bool) (x22 : Int) (x23 : Int) (s0 : latch_Run_ai3o_L0_s0) : List V × Mem := ([(V.ptr 0 1 0 0), (V.ptr 1 1 0 0), (V.ptr 3 1 0 0), (V.so s0.c0 4 s0.c22.length), (V.d (slD encB true 1 x20 x21)), (V.d (.int .i64 x22)), (V.d (.int .i64 s0.c4))], [(Blk.flat 40 3 [[(.int .i64 x0), (.int .i64 x1), (.int .i64 x2)]] x14), (Blk.flat 42 5 [[(.bool x3), (.bool x4), (.int .i64 x5), (.int .i64 x6), (.int .i64 x7)]] x15), (Blk.flat 3 1 [] x16), (Blk.flat 42 5 [[(.bool s0.c16), (.bool s0.c17), (.int .i64 s0.c18), (.int .i64 s0.c19), (.int .i64 s0.c20)]] false), (Blk.flat 3 1 (List.map (encI .i64) s0.c22) false)])

def latch_Run_ai3o_L0_h0_e0 (x0 : Int) (x1 : Int) (x2 : Int) (x21 : List Bool) (s0 : latch_Run_ai3o_L0_s0) : List Int := (s0.c22 ++ [(latch_Next_ai3ab2i3b_r0_5 x0 x1 x2 s0.c16 s0.c17 s0.c18 s0.c19 s0.c20 (gt x21 s0.c4))])

def latch_Run_ai3o_L0_sel (x0 : Int) (x1 : Int) (x2 : Int) (x21 : List Bool) (x22 : Int) (s0 : latch_Run_ai3o_L0_s0) : Bool := (bif tb (decide (s0.c4 < x22)) then (bif tb (inb x21.length s0.c4) then (bif tb (latch_Next_ai3ab2i3b_c0 x0 x1 x2 s0.c16 s0.c17 s0.c18 s0.c19 s0.c20) then (bif tb (decide ((s0.c22.length + [(latch_Next_ai3ab2i3b_r0_5 x0 x1 x2 s0.c16 s0.c17 s0.c18 s0.c19 s0.c20 (gt x21 s0.c4))].length) * 8 ≤ 140737488355328)) then true else false) else false) else false) else false)

def latch_Run_ai3o_L0_nx (x0 : Int) (x1 : Int) (x2 : Int) (x21 : List Bool) (x22 : Int) (s0 : latch_Run_ai3o_L0_s0) : latch_Run_ai3o_L0_s0 := ⟨false, (wi (s0.c4 + 1)), (latch_Next_ai3ab2i3b_r0_0 x0 x1 x2 s0.c16 s0.c17 s0.c18 s0.c19 s0.c20 (gt x21 s0.c4)), (latch_Next_ai3ab2i3b_r0_1 x0 x1 x2 s0.c16 s0.c17 s0.c18 s0.c19 s0.c20 (gt x21 s0.c4)), (latch_Next_ai3ab2i3b_r0_2 x0 x1 x2 s0.c16 s0.c17 s0.c18 s0.c19 s0.c20 (gt x21 s0.c4)), (latch_Next_ai3ab2i3b_r0_3 x0 x1 x2 s0.c16 s0.c17 s0.c18 s0.c19 s0.c20 (gt x21 s0.c4)), (latch_Next_ai3ab2i3b_r0_4 x0 x1 x2 s0.c16 s0.c17 s0.c18 s0.c19 s0.c20 (gt x21 s0.c4)), (latch_Run_ai3o_L0_h0_e0 x0 x1 x2 x21 s0)⟩

def latch_Run_ai3o_L0_ok (x0 : Int) (x1 : Int) (x2 : Int) (x21 : List Bool) (x22 : Int) (s0 : latch_Run_ai3o_L0_s0) : Bool := (itS (latch_Run_ai3o_L0_sel x0 x1 x2 x21 x22) (latch_Run_ai3o_L0_nx x0 x1 x2 x21 x22) bound s0).isSome
def latch_Run_ai3o_L0_end (x0 : Int) (x1 : Int) (x2 : Int) (x21 : List Bool) (x22 : Int) (s0 : latch_Run_ai3o_L0_s0) : latch_Run_ai3o_L0_s0 := (itS (latch_Run_ai3o_L0_sel x0 x1 x2 x21 x22) (latch_Run_ai3o_L0_nx x0 x1 x2 x21 x22) bound s0).getD default

theorem latch_Run_ai3o_L0_go (x0 : Int) (x1 : Int) (x2 : Int) (x3 : Bool) (x4 : Bool) (x5 : Int) (x6 : Int) (x7 : Int) (x8 : Bool) (x9 : Bool) (x10 : Int) (x11 : Int) (x12 : Int) (x13 : List Int) (x14 : Bool) (x15 : Bool) (x16 : Bool) (x17 : Bool) (x18 : Bool) (x19 : Bool) (x20 : Bool) (x21 : List Bool) (x22 : Int) (x23 : Int) (s0 : latch_Run_ai3o_L0_s0) : latch_Run_ai3o_L0_sel x0 x1 x2 x21 x22 s0 = true → (roundG (runC E0 (cl E0) L40_0) [2, 4, 7, 8, 18, 19, 20] [4, 7, 8] 5) (latch_Run_ai3o_L0_enc x0 x1 x2 x3 x4 x5 x6 x7 x8 x9 x10 x11 x12 x13 x14 x15 x16 x17 x18 x19 x20 x21 x22 x23 s0) = some (.normal, latch_Run_ai3o_L0_enc x0 x1 x2 x3 x4 x5 x6 x7 x8 x9 x10 x11 x12 x13 x14 x15 x16 x17 x18 x19 x20 x21 x22 x23 (latch_Run_ai3o_L0_nx x0 x1 x2 x21 x22 s0)) := by
  unfold latch_Run_ai3o_L0_sel latch_Run_ai3o_L0_nx
  cases h1 : tb (decide (s0.c4 < x22))
  · intro g0
    exact absurd g0 ft
  · cases h2 : tb (inb x21.length s0.c4)
    · intro g0
      exact absurd g0 ft
    · cases h3 : tb (latch_Next_ai3ab2i3b_c0 x0 x1 x2 s0.c16 s0.c17 s0.c18 s0.c19 s0.c20)
      · intro g0
        exact absurd g0 ft
      · cases h4 : tb (decide ((s0.c22.length + [(latch_Next_ai3ab2i3b_r0_5 x0 x1 x2 s0.c16 s0.c17 s0.c18 s0.c19 s0.c20 (gt x21 s0.c4))].length) * 8 ≤ 140737488355328))
        · intro g0
          exact absurd g0 ft
        · intro _
          exact round_walk [.b (tbE h1), .o 22 (fun _ => o_idx_os (enc := encB) (l := x21) (fl := true) (n := x20) (s := 1) (k := .i64) (tbE h2)), .c (latch_Next_ai3ab2i3b_t0 x0 x1 x2 s0.c16 s0.c17 s0.c18 s0.c19 s0.c20 (gt x21 s0.c4) (tbE h3)), .m 36 (o_app_so (nl := s0.c0) (m := [(Blk.flat 40 3 [[(.int .i64 x0), (.int .i64 x1), (.int .i64 x2)]] x14), (Blk.flat 42 5 [[(.bool x3), (.bool x4), (.int .i64 x5), (.int .i64 x6), (.int .i64 x7)]] x15), (Blk.flat 3 1 [] x16), (Blk.flat 42 5 [[(.bool (latch_Next_ai3ab2i3b_r0_0 x0 x1 x2 s0.c16 s0.c17 s0.c18 s0.c19 s0.c20 (gt x21 s0.c4))), (.bool (latch_Next_ai3ab2i3b_r0_1 x0 x1 x2 s0.c16 s0.c17 s0.c18 s0.c19 s0.c20 (gt x21 s0.c4))), (.int .i64 (latch_Next_ai3ab2i3b_r0_2 x0 x1 x2 s0.c16 s0.c17 s0.c18 s0.c19 s0.c20 (gt x21 s0.c4))), (.int .i64 (latch_Next_ai3ab2i3b_r0_3 x0 x1 x2 s0.c16 s0.c17 s0.c18 s0.c19 s0.c20 (gt x21 s0.c4))), (.int .i64 (latch_Next_ai3ab2i3b_r0_4 x0 x1 x2 s0.c16 s0.c17 s0.c18 s0.c19 s0.c20 (gt x21 s0.c4)))]] false), (Blk.flat 3 1 (List.map (encI .i64) s0.c22) false), (Blk.flat 42 5 [[(.bool (latch_Next_ai3ab2i3b_r0_0 x0 x1 x2 s0.c16 s0.c17 s0.c18 s0.c19 s0.c20 (gt x21 s0.c4))), (.bool (latch_Next_ai3ab2i3b_r0_1 x0 x1 x2 s0.c16 s0.c17 s0.c18 s0.c19 s0.c20 (gt x21 s0.c4))), (.int .i64 (latch_Next_ai3ab2i3b_r0_2 x0 x1 x2 s0.c16 s0.c17 s0.c18 s0.c19 s0.c20 (gt x21 s0.c4))), (.int .i64 (latch_Next_ai3ab2i3b_r0_3 x0 x1 x2 s0.c16 s0.c17 s0.c18 s0.c19 s0.c20 (gt x21 s0.c4))), (.int .i64 (latch_Next_ai3ab2i3b_r0_4 x0 x1 x2 s0.c16 s0.c17 s0.c18 s0.c19 s0.c20 (gt x21 s0.c4)))]] false), (Blk.flat 3 1 [[(.int .i64 (latch_Next_ai3ab2i3b_r0_5 x0 x1 x2 s0.c16 s0.c17 s0.c18 s0.c19 s0.c20 (gt x21 s0.c4)))]] false)]) (enc := (encI .i64)) (l0 := s0.c22) (l1 := [(latch_Next_ai3ab2i3b_r0_5 x0 x1 x2 s0.c16 s0.c17 s0.c18 s0.c19 s0.c20 (gt x21 s0.c4))]) (id := 4) (e := 3) (s := 1) (bytes := 8) (x := (V.so false 6 1)) (n := s0.c22.length) (Nat.beq_refl _) (by kernel_rfl) (by kernel_rfl) (by kernel_rfl) (tbE h4))] (by kernel_rfl)

def latch_Run_ai3o_L0_c0 (x22 : Int) (s0 : latch_Run_ai3o_L0_s0) : Bool := (bif tb (decide (s0.c4 < x22)) then false else true)

theorem latch_Run_ai3o_L0_x0 (x0 : Int) (x1 : Int) (x2 : Int) (x3 : Bool) (x4 : Bool) (x5 : Int) (x6 : Int) (x7 : Int) (x8 : Bool) (x9 : Bool) (x10 : Int) (x11 : Int) (x12 : Int) (x13 : List Int) (x14 : Bool) (x15 : Bool) (x16 : Bool) (x17 : Bool) (x18 : Bool) (x19 : Bool) (x20 : Bool) (x21 : List Bool) (x22 : Int) (x23 : Int) (s0 : latch_Run_ai3o_L0_s0) : latch_Run_ai3o_L0_sel x0 x1 x2 x21 x22 s0 = false → latch_Run_ai3o_L0_c0 x22 s0 = true → (roundG (runC E0 (cl E0) L40_0) [2, 4, 7, 8, 18, 19, 20] [4, 7, 8] 5) (latch_Run_ai3o_L0_enc x0 x1 x2 x3 x4 x5 x6 x7 x8 x9 x10 x11 x12 x13 x14 x15 x16 x17 x18 x19 x20 x21 x22 x23 s0) = some ((.exit 0), ([(V.ptr 1 1 0 0), (V.ptr 3 1 0 0), (V.so s0.c0 4 s0.c22.length)], [(Blk.flat 40 3 [[(.int .i64 x0), (.int .i64 x1), (.int .i64 x2)]] x14), (Blk.flat 42 5 [[(.bool x3), (.bool x4), (.int .i64 x5), (.int .i64 x6), (.int .i64 x7)]] x15), (Blk.flat 3 1 [] x16), (Blk.flat 42 5 [[(.bool s0.c16), (.bool s0.c17), (.int .i64 s0.c18), (.int .i64 s0.c19), (.int .i64 s0.c20)]] false), (Blk.flat 3 1 (List.map (encI .i64) s0.c22) false)])) := by
  unfold latch_Run_ai3o_L0_sel latch_Run_ai3o_L0_c0
  cases h1 : tb (decide (s0.c4 < x22))
  · intro g0 g1
    exact round_walk [.b (tbE h1)] (by kernel_rfl)
  · cases h2 : tb (inb x21.length s0.c4)
    · intro g0 g1
      exact absurd g1 ft
    · cases h3 : tb (latch_Next_ai3ab2i3b_c0 x0 x1 x2 s0.c16 s0.c17 s0.c18 s0.c19 s0.c20)
      · intro g0 g1
        exact absurd g1 ft
      · cases h4 : tb (decide ((s0.c22.length + [(latch_Next_ai3ab2i3b_r0_5 x0 x1 x2 s0.c16 s0.c17 s0.c18 s0.c19 s0.c20 (gt x21 s0.c4))].length) * 8 ≤ 140737488355328))
        · intro g0 g1
          exact absurd g1 ft
        · intro g0 g1
          exact absurd g0 tf

theorem latch_Run_ai3o_L0_f0_0 (x0 : Int) (x1 : Int) (x2 : Int) (x3 : Bool) (x4 : Bool) (x5 : Int) (x6 : Int) (x7 : Int) (x8 : Bool) (x9 : Bool) (x10 : Int) (x11 : Int) (x12 : Int) (x13 : List Int) (x14 : Bool) (x15 : Bool) (x16 : Bool) (x17 : Bool) (x18 : Bool) (x19 : Bool) (x20 : Bool) (x21 : List Bool) (x22 : Int) (x23 : Int) (s : latch_Run_ai3o_L0_s0) (hok : latch_Run_ai3o_L0_ok x0 x1 x2 x21 x22 s = true) (c0 : latch_Run_ai3o_L0_c0 x22 (latch_Run_ai3o_L0_end x0 x1 x2 x21 x22 s) = true) : loopG (roundG (runC E0 (cl E0) L40_0) [2, 4, 7, 8, 18, 19, 20] [4, 7, 8] 5) bound (latch_Run_ai3o_L0_enc x0 x1 x2 x3 x4 x5 x6 x7 x8 x9 x10 x11 x12 x13 x14 x15 x16 x17 x18 x19 x20 x21 x22 x23 s) = some ((.exit 0), ([(V.ptr 1 1 0 0), (V.ptr 3 1 0 0), (V.so ((latch_Run_ai3o_L0_end x0 x1 x2 x21 x22 s).c0) 4 (((latch_Run_ai3o_L0_end x0 x1 x2 x21 x22 s).c22).length))], [(Blk.flat 40 3 [[(.int .i64 x0), (.int .i64 x1), (.int .i64 x2)]] x14), (Blk.flat 42 5 [[(.bool x3), (.bool x4), (.int .i64 x5), (.int .i64 x6), (.int .i64 x7)]] x15), (Blk.flat 3 1 [] x16), (Blk.flat 42 5 [[(.bool ((latch_Run_ai3o_L0_end x0 x1 x2 x21 x22 s).c16)), (.bool ((latch_Run_ai3o_L0_end x0 x1 x2 x21 x22 s).c17)), (.int .i64 ((latch_Run_ai3o_L0_end x0 x1 x2 x21 x22 s).c18)), (.int .i64 ((latch_Run_ai3o_L0_end x0 x1 x2 x21 x22 s).c19)), (.int .i64 ((latch_Run_ai3o_L0_end x0 x1 x2 x21 x22 s).c20))]] false), (Blk.flat 3 1 (List.map (encI .i64) ((latch_Run_ai3o_L0_end x0 x1 x2 x21 x22 s).c22)) false)])) := by
  have e : itS (latch_Run_ai3o_L0_sel x0 x1 x2 x21 x22) (latch_Run_ai3o_L0_nx x0 x1 x2 x21 x22) bound s = some (latch_Run_ai3o_L0_end x0 x1 x2 x21 x22 s) := itS_get hok
  have f := itS_false e
  exact loop_it (latch_Run_ai3o_L0_go x0 x1 x2 x3 x4 x5 x6 x7 x8 x9 x10 x11 x12 x13 x14 x15 x16 x17 x18 x19 x20 x21 x22 x23) bound s _ _ _ e (fun h => by cases h) (latch_Run_ai3o_L0_x0 x0 x1 x2 x3 x4 x5 x6 x7 x8 x9 x10 x11 x12 x13 x14 x15 x16 x17 x18 x19 x20 x21 x22 x23 (latch_Run_ai3o_L0_end x0 x1 x2 x21 x22 s) f c0)

def latch_Run_ai3o_e0 (x0 : Int) (x1 : Int) (x2 : Int) (x4 : List Bool) : latch_Run_ai3o_L0_s0 := latch_Run_ai3o_L0_end x0 x1 x2 x4 ((x4.length : Nat) : Int) (⟨true, 0, false, false, 0, 0, 0, ([] : List Int)⟩ : latch_Run_ai3o_L0_s0)

def latch_Run_ai3o_c0 (x0 : Int) (x1 : Int) (x2 : Int) (x4 : List Bool) : Bool := (bif tb (latch_Right_ai3_r0_0 x0 x1 x2) then (bif tb (latch_Run_ai3o_L0_ok x0 x1 x2 x4 ((x4.length : Nat) : Int) (⟨true, 0, false, false, 0, 0, 0, ([] : List Int)⟩ : latch_Run_ai3o_L0_s0)) then (bif tb (latch_Run_ai3o_L0_c0 ((x4.length : Nat) : Int) (latch_Run_ai3o_e0 x0 x1 x2 x4)) then true else false) else false) else true)

def latch_Run_ai3o_r0_0 (x0 : Int) (x1 : Int) (x2 : Int) (x4 : List Bool) : Bool := (bif tb (latch_Right_ai3_r0_0 x0 x1 x2) then ((latch_Run_ai3o_e0 x0 x1 x2 x4).c16) else false)

def latch_Run_ai3o_r0_1 (x0 : Int) (x1 : Int) (x2 : Int) (x4 : List Bool) : Bool := (bif tb (latch_Right_ai3_r0_0 x0 x1 x2) then ((latch_Run_ai3o_e0 x0 x1 x2 x4).c17) else false)

def latch_Run_ai3o_r0_2 (x0 : Int) (x1 : Int) (x2 : Int) (x4 : List Bool) : Int := (bif tb (latch_Right_ai3_r0_0 x0 x1 x2) then ((latch_Run_ai3o_e0 x0 x1 x2 x4).c18) else 0)

def latch_Run_ai3o_r0_3 (x0 : Int) (x1 : Int) (x2 : Int) (x4 : List Bool) : Int := (bif tb (latch_Right_ai3_r0_0 x0 x1 x2) then ((latch_Run_ai3o_e0 x0 x1 x2 x4).c19) else 0)

def latch_Run_ai3o_r0_4 (x0 : Int) (x1 : Int) (x2 : Int) (x4 : List Bool) : Int := (bif tb (latch_Right_ai3_r0_0 x0 x1 x2) then ((latch_Run_ai3o_e0 x0 x1 x2 x4).c20) else 0)

def latch_Run_ai3o_r0_5 (x0 : Int) (x1 : Int) (x2 : Int) (x4 : List Bool) : Bool := (bif tb (latch_Right_ai3_r0_0 x0 x1 x2) then ((latch_Run_ai3o_e0 x0 x1 x2 x4).c0) else true)

def latch_Run_ai3o_r0_6 (x0 : Int) (x1 : Int) (x2 : Int) : Int := (bif tb (latch_Right_ai3_r0_0 x0 x1 x2) then 0 else 1)

def latch_Run_ai3o_r0_7 (x0 : Int) (x1 : Int) (x2 : Int) (x4 : List Bool) : List Int := (bif tb (latch_Right_ai3_r0_0 x0 x1 x2) then ((latch_Run_ai3o_e0 x0 x1 x2 x4).c22) else ([] : List Int))

theorem latch_Run_ai3o_t0 (x0 : Int) (x1 : Int) (x2 : Int) (x3 : Bool) (x4 : List Bool) : latch_Run_ai3o_c0 x0 x1 x2 x4 = true → cl E0 40 [(V.agg [(V.d (.int .i64 x0)), (V.d (.int .i64 x1)), (V.d (.int .i64 x2))]), (V.d (slD encB true 1 x3 x4))] [] = some ([(V.agg [(V.d (.bool (latch_Run_ai3o_r0_0 x0 x1 x2 x4))), (V.d (.bool (latch_Run_ai3o_r0_1 x0 x1 x2 x4))), (V.d (.int .i64 (latch_Run_ai3o_r0_2 x0 x1 x2 x4))), (V.d (.int .i64 (latch_Run_ai3o_r0_3 x0 x1 x2 x4))), (V.d (.int .i64 (latch_Run_ai3o_r0_4 x0 x1 x2 x4)))]), (V.so (latch_Run_ai3o_r0_5 x0 x1 x2 x4) 0 ((latch_Run_ai3o_r0_7 x0 x1 x2 x4).length)), (V.d (.int .i64 (latch_Run_ai3o_r0_6 x0 x1 x2)))], [(Blk.flat 3 1 (List.map (encI .i64) (latch_Run_ai3o_r0_7 x0 x1 x2 x4)) false)]) := by
  unfold latch_Run_ai3o_c0 latch_Run_ai3o_r0_0 latch_Run_ai3o_r0_1 latch_Run_ai3o_r0_2 latch_Run_ai3o_r0_3 latch_Run_ai3o_r0_4 latch_Run_ai3o_r0_5 latch_Run_ai3o_r0_6 latch_Run_ai3o_r0_7
  cases h1 : tb (latch_Right_ai3_r0_0 x0 x1 x2)
  · intro g0
    exact w40 [.c (latch_Right_ai3_t0 x0 x1 x2), .b (notF (tbE h1))] (by kernel_rfl)
  · cases h2 : tb (latch_Run_ai3o_L0_ok x0 x1 x2 x4 ((x4.length : Nat) : Int) (⟨true, 0, false, false, 0, 0, 0, ([] : List Int)⟩ : latch_Run_ai3o_L0_s0))
    · intro g0
      exact absurd g0 ft
    · cases h3 : tb (latch_Run_ai3o_L0_c0 ((x4.length : Nat) : Int) (latch_Run_ai3o_e0 x0 x1 x2 x4))
      · intro g0
        exact absurd g0 ft
      · intro g0
        exact w40 [.c (latch_Right_ai3_t0 x0 x1 x2), .b (notT (tbE h1)), .o 19 (fun _ => o_len_os (enc := encB) (l := x4) (fl := true) (n := x3) (s := 1)), .l (latch_Run_ai3o_L0_f0_0 x0 x1 x2 false false 0 0 0 false false 0 0 0 ([] : List Int) false false false false false true x3 x4 ((x4.length : Nat) : Int) 0 (⟨true, 0, false, false, 0, 0, 0, ([] : List Int)⟩ : latch_Run_ai3o_L0_s0) (tbE h2) (tbE h3))] (by kernel_rfl)

end Go.Proofs.Ytdjmfcdopaejcaa.Den

namespace Go.Proofs.Ytdjmfcdopaejcaa.Den
open Go Go.Proofs
set_option maxRecDepth 100000
set_option maxHeartbeats 4000000
set_option linter.unusedVariables false
set_option linter.unusedSimpArgs false

def ref15_Right_ai3_r0_0 (x0 : Int) (x1 : Int) (x2 : Int) : Bool := (bif tb (decide (1 ≤ x0)) then (bif tb (decide (x0 ≤ 100)) then (bif tb (decide (1 ≤ x1)) then (bif tb (decide (x1 ≤ 1000)) then (bif tb (decide (0 ≤ x2)) then (decide (x2 ≤ 10)) else false) else false) else false) else false) else false)

theorem ref15_Right_ai3_t0 (x0 : Int) (x1 : Int) (x2 : Int) : cl E0 37 [(V.agg [(V.d (.int .i64 x0)), (V.d (.int .i64 x1)), (V.d (.int .i64 x2))])] [] = some ([(V.d (.bool (ref15_Right_ai3_r0_0 x0 x1 x2)))], []) := by
  unfold ref15_Right_ai3_r0_0
  cases h1 : tb (decide (1 ≤ x0))
  · exact w37 [.b (tbE h1)] (by kernel_rfl)
  · cases h2 : tb (decide (x0 ≤ 100))
    · exact w37 [.b (tbE h1), .b (tbE h2)] (by kernel_rfl)
    · cases h3 : tb (decide (1 ≤ x1))
      · exact w37 [.b (tbE h1), .b (tbE h2), .b (tbE h3)] (by kernel_rfl)
      · cases h4 : tb (decide (x1 ≤ 1000))
        · exact w37 [.b (tbE h1), .b (tbE h2), .b (tbE h3), .b (tbE h4)] (by kernel_rfl)
        · cases h5 : tb (decide (0 ≤ x2))
          · exact w37 [.b (tbE h1), .b (tbE h2), .b (tbE h3), .b (tbE h4), .b (tbE h5)] (by kernel_rfl)
          · exact w37 [.b (tbE h1), .b (tbE h2), .b (tbE h3), .b (tbE h4), .b (tbE h5)] (by kernel_rfl)

def ref15_Fine_ai3ab2i3_S0_c0 (x2 : Int) (x5 : Int) (x6 : Int) (x7 : Int) (x10 : Bool) : Bool := (bif tb (x10) then (bif tb (decide (x7 < 0)) then true else (bif tb (decide (x2 < x7)) then true else (bif tb (decide (x6 < 0)) then true else (bif tb (decide (x5 < 0)) then true else false)))) else true)

theorem ref15_Fine_ai3ab2i3_S0_t0 (x0 : Int) (x1 : Int) (x2 : Int) (x3 : Bool) (x4 : Bool) (x5 : Int) (x6 : Int) (x7 : Int) (x8 : Bool) (x9 : Bool) (x10 : Bool) : ref15_Fine_ai3ab2i3_S0_c0 x2 x5 x6 x7 x10 = true → segG (runC E0 (cl E0) S39_0) [2, 3, 5] [4] [2, 3] 2 ([(V.ptr 0 1 0 0), (V.ptr 1 1 0 0), (V.d (.bool x10))], [(Blk.flat 49 3 [[(.int .i64 x0), (.int .i64 x1), (.int .i64 x2)]] x8), (Blk.flat 46 5 [[(.bool x3), (.bool x4), (.int .i64 x5), (.int .i64 x6), (.int .i64 x7)]] x9)]) = some (.ret, ([(V.d (.bool false))], [(Blk.flat 49 3 [[(.int .i64 x0), (.int .i64 x1), (.int .i64 x2)]] x8), (Blk.flat 46 5 [[(.bool x3), (.bool x4), (.int .i64 x5), (.int .i64 x6), (.int .i64 x7)]] x9)])) := by
  unfold ref15_Fine_ai3ab2i3_S0_c0
  cases h1 : tb (x10)
  · intro g0
    exact seg_walk [.b (notF (tbE h1))] (by kernel_rfl)
  · cases h2 : tb (decide (x7 < 0))
    · cases h3 : tb (decide (x2 < x7))
      · cases h4 : tb (decide (x6 < 0))
        · cases h5 : tb (decide (x5 < 0))
          · intro g0
            exact absurd g0 ft
          · intro g0
            exact seg_walk [.b (notT (tbE h1)), .b (tbE h2), .b (tbE h3), .b (tbE h4), .b (tbE h5)] (by kernel_rfl)
        · intro g0
          exact seg_walk [.b (notT (tbE h1)), .b (tbE h2), .b (tbE h3), .b (tbE h4)] (by kernel_rfl)
      · intro g0
        exact seg_walk [.b (notT (tbE h1)), .b (tbE h2), .b (tbE h3)] (by kernel_rfl)
    · intro g0
      exact seg_walk [.b (notT (tbE h1)), .b (tbE h2)] (by kernel_rfl)

theorem ref15_Fine_ai3ab2i3_S0_t1 (x0 : Int) (x1 : Int) (x2 : Int) (x3 : Bool) (x4 : Bool) (x5 : Int) (x6 : Int) (x7 : Int) (x8 : Bool) (x9 : Bool) (x10 : Bool) : ref15_Fine_ai3ab2i3_S0_c0 x2 x5 x6 x7 x10 = false → segG (runC E0 (cl E0) S39_0) [2, 3, 5] [4] [2, 3] 2 ([(V.ptr 0 1 0 0), (V.ptr 1 1 0 0), (V.d (.bool x10))], [(Blk.flat 49 3 [[(.int .i64 x0), (.int .i64 x1), (.int .i64 x2)]] x8), (Blk.flat 46 5 [[(.bool x3), (.bool x4), (.int .i64 x5), (.int .i64 x6), (.int .i64 x7)]] x9)]) = some (.normal, ([(V.ptr 0 1 0 0), (V.ptr 1 1 0 0)], [(Blk.flat 49 3 [[(.int .i64 x0), (.int .i64 x1), (.int .i64 x2)]] x8), (Blk.flat 46 5 [[(.bool x3), (.bool x4), (.int .i64 x5), (.int .i64 x6), (.int .i64 x7)]] x9)])) := by
  unfold ref15_Fine_ai3ab2i3_S0_c0
  cases h1 : tb (x10)
  · intro g0
    exact absurd g0 tf
  · cases h2 : tb (decide (x7 < 0))
    · cases h3 : tb (decide (x2 < x7))
      · cases h4 : tb (decide (x6 < 0))
        · cases h5 : tb (decide (x5 < 0))
          · intro g0
            exact seg_walk [.b (notT (tbE h1)), .b (tbE h2), .b (tbE h3), .b (tbE h4), .b (tbE h5)] (by kernel_rfl)
          · intro g0
            exact absurd g0 tf
        · intro g0
          exact absurd g0 tf
      · intro g0
        exact absurd g0 tf
    · intro g0
      exact absurd g0 tf

def ref15_Fine_ai3ab2i3_S1_c0 (x4 : Bool) : Bool := (bif tb (x4) then true else false)

def ref15_Fine_ai3ab2i3_S1_r0_0 (x0 : Int) (x2 : Int) (x3 : Bool) (x5 : Int) (x6 : Int) (x7 : Int) : Bool := (bif tb (x3) then (bif tb ((x5 : Int) == x0) then (bif tb ((x6 : Int) == 0) then ((x7 : Int) == x2) else false) else false) else false)

theorem ref15_Fine_ai3ab2i3_S1_t0 (x0 : Int) (x1 : Int) (x2 : Int) (x3 : Bool) (x4 : Bool) (x5 : Int) (x6 : Int) (x7 : Int) (x8 : Bool) (x9 : Bool) : ref15_Fine_ai3ab2i3_S1_c0 x4 = true → segG (runC E0 (cl E0) S39_1) [2, 3] [4] [2, 3] 2 ([(V.ptr 0 1 0 0), (V.ptr 1 1 0 0)], [(Blk.flat 49 3 [[(.int .i64 x0), (.int .i64 x1), (.int .i64 x2)]] x8), (Blk.flat 46 5 [[(.bool x3), (.bool x4), (.int .i64 x5), (.int .i64 x6), (.int .i64 x7)]] x9)]) = some (.ret, ([(V.d (.bool (ref15_Fine_ai3ab2i3_S1_r0_0 x0 x2 x3 x5 x6 x7)))], [(Blk.flat 49 3 [[(.int .i64 x0), (.int .i64 x1), (.int .i64 x2)]] x8), (Blk.flat 46 5 [[(.bool x3), (.bool x4), (.int .i64 x5), (.int .i64 x6), (.int .i64 x7)]] x9)])) := by
  unfold ref15_Fine_ai3ab2i3_S1_c0 ref15_Fine_ai3ab2i3_S1_r0_0
  cases h1 : tb (x4)
  · intro g0
    exact absurd g0 ft
  · cases h2 : tb (x3)
    · intro g0
      exact seg_walk [.b (tbE h1), .b (tbE h2)] (by kernel_rfl)
    · cases h3 : tb ((x5 : Int) == x0)
      · intro g0
        exact seg_walk [.b (tbE h1), .b (tbE h2), .b (tbE h3)] (by kernel_rfl)
      · cases h4 : tb ((x6 : Int) == 0)
        · intro g0
          exact seg_walk [.b (tbE h1), .b (tbE h2), .b (tbE h3), .b (tbE h4)] (by kernel_rfl)
        · intro g0
          exact seg_walk [.b (tbE h1), .b (tbE h2), .b (tbE h3), .b (tbE h4)] (by kernel_rfl)

theorem ref15_Fine_ai3ab2i3_S1_t1 (x0 : Int) (x1 : Int) (x2 : Int) (x3 : Bool) (x4 : Bool) (x5 : Int) (x6 : Int) (x7 : Int) (x8 : Bool) (x9 : Bool) : ref15_Fine_ai3ab2i3_S1_c0 x4 = false → segG (runC E0 (cl E0) S39_1) [2, 3] [4] [2, 3] 2 ([(V.ptr 0 1 0 0), (V.ptr 1 1 0 0)], [(Blk.flat 49 3 [[(.int .i64 x0), (.int .i64 x1), (.int .i64 x2)]] x8), (Blk.flat 46 5 [[(.bool x3), (.bool x4), (.int .i64 x5), (.int .i64 x6), (.int .i64 x7)]] x9)]) = some (.normal, ([(V.ptr 0 1 0 0), (V.ptr 1 1 0 0)], [(Blk.flat 49 3 [[(.int .i64 x0), (.int .i64 x1), (.int .i64 x2)]] x8), (Blk.flat 46 5 [[(.bool x3), (.bool x4), (.int .i64 x5), (.int .i64 x6), (.int .i64 x7)]] x9)])) := by
  unfold ref15_Fine_ai3ab2i3_S1_c0
  cases h1 : tb (x4)
  · intro g0
    exact seg_walk [.b (tbE h1)] (by kernel_rfl)
  · cases h2 : tb (x3)
    · intro g0
      exact absurd g0 tf
    · cases h3 : tb ((x5 : Int) == x0)
      · intro g0
        exact absurd g0 tf
      · cases h4 : tb ((x6 : Int) == 0)
        · intro g0
          exact absurd g0 tf
        · intro g0
          exact absurd g0 tf

def ref15_Fine_ai3ab2i3_S2_c0 (x3 : Bool) : Bool := (bif tb (x3) then true else false)

def ref15_Fine_ai3ab2i3_S2_r0_0 (x0 : Int) (x1 : Int) (x2 : Int) (x5 : Int) (x6 : Int) (x7 : Int) : Bool := (bif tb ((x5 : Int) == x0) then (bif tb (decide (x6 < x1)) then (decide (x7 < x2)) else false) else false)

theorem ref15_Fine_ai3ab2i3_S2_t0 (x0 : Int) (x1 : Int) (x2 : Int) (x3 : Bool) (x4 : Bool) (x5 : Int) (x6 : Int) (x7 : Int) (x8 : Bool) (x9 : Bool) : ref15_Fine_ai3ab2i3_S2_c0 x3 = true → segG (runC E0 (cl E0) S39_2) [2, 3] [4] [2, 3] 2 ([(V.ptr 0 1 0 0), (V.ptr 1 1 0 0)], [(Blk.flat 49 3 [[(.int .i64 x0), (.int .i64 x1), (.int .i64 x2)]] x8), (Blk.flat 46 5 [[(.bool x3), (.bool x4), (.int .i64 x5), (.int .i64 x6), (.int .i64 x7)]] x9)]) = some (.ret, ([(V.d (.bool (ref15_Fine_ai3ab2i3_S2_r0_0 x0 x1 x2 x5 x6 x7)))], [(Blk.flat 49 3 [[(.int .i64 x0), (.int .i64 x1), (.int .i64 x2)]] x8), (Blk.flat 46 5 [[(.bool x3), (.bool x4), (.int .i64 x5), (.int .i64 x6), (.int .i64 x7)]] x9)])) := by
  unfold ref15_Fine_ai3ab2i3_S2_c0 ref15_Fine_ai3ab2i3_S2_r0_0
  cases h1 : tb (x3)
  · intro g0
    exact absurd g0 ft
  · cases h2 : tb ((x5 : Int) == x0)
    · intro g0
      exact seg_walk [.b (tbE h1), .b (tbE h2)] (by kernel_rfl)
    · cases h3 : tb (decide (x6 < x1))
      · intro g0
        exact seg_walk [.b (tbE h1), .b (tbE h2), .b (tbE h3)] (by kernel_rfl)
      · intro g0
        exact seg_walk [.b (tbE h1), .b (tbE h2), .b (tbE h3)] (by kernel_rfl)

theorem ref15_Fine_ai3ab2i3_S2_t1 (x0 : Int) (x1 : Int) (x2 : Int) (x3 : Bool) (x4 : Bool) (x5 : Int) (x6 : Int) (x7 : Int) (x8 : Bool) (x9 : Bool) : ref15_Fine_ai3ab2i3_S2_c0 x3 = false → segG (runC E0 (cl E0) S39_2) [2, 3] [4] [2, 3] 2 ([(V.ptr 0 1 0 0), (V.ptr 1 1 0 0)], [(Blk.flat 49 3 [[(.int .i64 x0), (.int .i64 x1), (.int .i64 x2)]] x8), (Blk.flat 46 5 [[(.bool x3), (.bool x4), (.int .i64 x5), (.int .i64 x6), (.int .i64 x7)]] x9)]) = some (.normal, ([(V.ptr 0 1 0 0), (V.ptr 1 1 0 0)], [(Blk.flat 49 3 [[(.int .i64 x0), (.int .i64 x1), (.int .i64 x2)]] x8), (Blk.flat 46 5 [[(.bool x3), (.bool x4), (.int .i64 x5), (.int .i64 x6), (.int .i64 x7)]] x9)])) := by
  unfold ref15_Fine_ai3ab2i3_S2_c0
  cases h1 : tb (x3)
  · intro g0
    exact seg_walk [.b (tbE h1)] (by kernel_rfl)
  · cases h2 : tb ((x5 : Int) == x0)
    · intro g0
      exact absurd g0 tf
    · cases h3 : tb (decide (x6 < x1))
      · intro g0
        exact absurd g0 tf
      · intro g0
        exact absurd g0 tf

def ref15_Fine_ai3ab2i3_S3_r0_0 (x0 : Int) (x5 : Int) (x6 : Int) : Bool := (bif tb (decide (x5 < x0)) then ((x6 : Int) == 0) else false)

theorem ref15_Fine_ai3ab2i3_S3_t0 (x0 : Int) (x1 : Int) (x2 : Int) (x3 : Bool) (x4 : Bool) (x5 : Int) (x6 : Int) (x7 : Int) (x8 : Bool) (x9 : Bool) : segG (runC E0 (cl E0) S39_3) [2, 3] [] [4] 2 ([(V.ptr 0 1 0 0), (V.ptr 1 1 0 0)], [(Blk.flat 49 3 [[(.int .i64 x0), (.int .i64 x1), (.int .i64 x2)]] x8), (Blk.flat 46 5 [[(.bool x3), (.bool x4), (.int .i64 x5), (.int .i64 x6), (.int .i64 x7)]] x9)]) = some (.normal, ([(V.d (.bool (ref15_Fine_ai3ab2i3_S3_r0_0 x0 x5 x6)))], [(Blk.flat 49 3 [[(.int .i64 x0), (.int .i64 x1), (.int .i64 x2)]] x8), (Blk.flat 46 5 [[(.bool x3), (.bool x4), (.int .i64 x5), (.int .i64 x6), (.int .i64 x7)]] x9)])) := by
  unfold ref15_Fine_ai3ab2i3_S3_r0_0
  cases h1 : tb (decide (x5 < x0))
  · exact seg_walk [.b (tbE h1)] (by kernel_rfl)
  · exact seg_walk [.b (tbE h1)] (by kernel_rfl)

def ref15_Fine_ai3ab2i3_r0_0 (x0 : Int) (x1 : Int) (x2 : Int) (x3 : Bool) (x4 : Bool) (x5 : Int) (x6 : Int) (x7 : Int) : Bool := (bif tb (ref15_Fine_ai3ab2i3_S0_c0 x2 x5 x6 x7 (ref15_Right_ai3_r0_0 x0 x1 x2)) then false else (bif tb (ref15_Fine_ai3ab2i3_S1_c0 x4) then (ref15_Fine_ai3ab2i3_S1_r0_0 x0 x2 x3 x5 x6 x7) else (bif tb (ref15_Fine_ai3ab2i3_S2_c0 x3) then (ref15_Fine_ai3ab2i3_S2_r0_0 x0 x1 x2 x5 x6 x7) else (ref15_Fine_ai3ab2i3_S3_r0_0 x0 x5 x6))))

theorem ref15_Fine_ai3ab2i3_t0 (x0 : Int) (x1 : Int) (x2 : Int) (x3 : Bool) (x4 : Bool) (x5 : Int) (x6 : Int) (x7 : Int) : cl E0 39 [(V.agg [(V.d (.int .i64 x0)), (V.d (.int .i64 x1)), (V.d (.int .i64 x2))]), (V.agg [(V.d (.bool x3)), (V.d (.bool x4)), (V.d (.int .i64 x5)), (V.d (.int .i64 x6)), (V.d (.int .i64 x7))])] [] = some ([(V.d (.bool (ref15_Fine_ai3ab2i3_r0_0 x0 x1 x2 x3 x4 x5 x6 x7)))], []) := by
  unfold ref15_Fine_ai3ab2i3_r0_0
  cases h1 : tb (ref15_Fine_ai3ab2i3_S0_c0 x2 x5 x6 x7 (ref15_Right_ai3_r0_0 x0 x1 x2))
  · cases h2 : tb (ref15_Fine_ai3ab2i3_S1_c0 x4)
    · cases h3 : tb (ref15_Fine_ai3ab2i3_S2_c0 x3)
      · exact w39 [.c (ref15_Right_ai3_t0 x0 x1 x2), .s (ref15_Fine_ai3ab2i3_S0_t1 x0 x1 x2 x3 x4 x5 x6 x7 false false (ref15_Right_ai3_r0_0 x0 x1 x2) (tbE h1)), .s (ref15_Fine_ai3ab2i3_S1_t1 x0 x1 x2 x3 x4 x5 x6 x7 false false (tbE h2)), .s (ref15_Fine_ai3ab2i3_S2_t1 x0 x1 x2 x3 x4 x5 x6 x7 false false (tbE h3)), .s (ref15_Fine_ai3ab2i3_S3_t0 x0 x1 x2 x3 x4 x5 x6 x7 false false)] (by kernel_rfl)
      · exact w39 [.c (ref15_Right_ai3_t0 x0 x1 x2), .s (ref15_Fine_ai3ab2i3_S0_t1 x0 x1 x2 x3 x4 x5 x6 x7 false false (ref15_Right_ai3_r0_0 x0 x1 x2) (tbE h1)), .s (ref15_Fine_ai3ab2i3_S1_t1 x0 x1 x2 x3 x4 x5 x6 x7 false false (tbE h2)), .s (ref15_Fine_ai3ab2i3_S2_t0 x0 x1 x2 x3 x4 x5 x6 x7 false false (tbE h3))] (by kernel_rfl)
    · exact w39 [.c (ref15_Right_ai3_t0 x0 x1 x2), .s (ref15_Fine_ai3ab2i3_S0_t1 x0 x1 x2 x3 x4 x5 x6 x7 false false (ref15_Right_ai3_r0_0 x0 x1 x2) (tbE h1)), .s (ref15_Fine_ai3ab2i3_S1_t0 x0 x1 x2 x3 x4 x5 x6 x7 false false (tbE h2))] (by kernel_rfl)
  · exact w39 [.c (ref15_Right_ai3_t0 x0 x1 x2), .s (ref15_Fine_ai3ab2i3_S0_t0 x0 x1 x2 x3 x4 x5 x6 x7 false false (ref15_Right_ai3_r0_0 x0 x1 x2) (tbE h1))] (by kernel_rfl)

def ref15_Next_ai3ab2i3b_S0_c0 (x4 : Bool) : Bool := (bif tb (x4) then true else false)

theorem ref15_Next_ai3ab2i3b_S0_t0 (x0 : Int) (x1 : Int) (x2 : Int) (x3 : Bool) (x4 : Bool) (x5 : Int) (x6 : Int) (x7 : Int) (x8 : Bool) (x9 : Bool) (x11 : Bool) : ref15_Next_ai3ab2i3b_S0_c0 x4 = true → segG (runC E0 (cl E0) S32_0) [2, 3, 4, 6] [6, 7, 8] [2, 3, 4, 6] 3 ([(V.d (.bool x11)), (V.ptr 0 1 0 0), (V.ptr 1 1 0 0), (V.ptr 2 1 0 0)], [(Blk.flat 49 3 [[(.int .i64 x0), (.int .i64 x1), (.int .i64 x2)]] x8), (Blk.flat 46 5 [[(.bool x3), (.bool x4), (.int .i64 x5), (.int .i64 x6), (.int .i64 x7)]] x9), (Blk.flat 46 5 [[(.bool false), (.bool false), (.int .i64 0), (.int .i64 0), (.int .i64 0)]] false)]) = some (.ret, ([(V.ptr 2 1 0 0), (V.d (.int .i64 0)), (V.d (.int .i64 0))], [(Blk.flat 49 3 [[(.int .i64 x0), (.int .i64 x1), (.int .i64 x2)]] x8), (Blk.flat 46 5 [[(.bool x3), (.bool x4), (.int .i64 x5), (.int .i64 x6), (.int .i64 x7)]] x9), (Blk.flat 46 5 [[(.bool x3), (.bool x4), (.int .i64 x5), (.int .i64 x6), (.int .i64 x7)]] false)])) := by
  unfold ref15_Next_ai3ab2i3b_S0_c0
  cases h1 : tb (x4)
  · intro g0
    exact absurd g0 ft
  · intro g0
    exact seg_walk [.b (tbE h1)] (by kernel_rfl)

theorem ref15_Next_ai3ab2i3b_S0_t1 (x0 : Int) (x1 : Int) (x2 : Int) (x3 : Bool) (x4 : Bool) (x5 : Int) (x6 : Int) (x7 : Int) (x8 : Bool) (x9 : Bool) (x11 : Bool) : ref15_Next_ai3ab2i3b_S0_c0 x4 = false → segG (runC E0 (cl E0) S32_0) [2, 3, 4, 6] [6, 7, 8] [2, 3, 4, 6] 3 ([(V.d (.bool x11)), (V.ptr 0 1 0 0), (V.ptr 1 1 0 0), (V.ptr 2 1 0 0)], [(Blk.flat 49 3 [[(.int .i64 x0), (.int .i64 x1), (.int .i64 x2)]] x8), (Blk.flat 46 5 [[(.bool x3), (.bool x4), (.int .i64 x5), (.int .i64 x6), (.int .i64 x7)]] x9), (Blk.flat 46 5 [[(.bool false), (.bool false), (.int .i64 0), (.int .i64 0), (.int .i64 0)]] false)]) = some (.normal, ([(V.d (.bool x11)), (V.ptr 0 1 0 0), (V.ptr 1 1 0 0), (V.ptr 2 1 0 0)], [(Blk.flat 49 3 [[(.int .i64 x0), (.int .i64 x1), (.int .i64 x2)]] x8), (Blk.flat 46 5 [[(.bool x3), (.bool x4), (.int .i64 x5), (.int .i64 x6), (.int .i64 x7)]] x9), (Blk.flat 46 5 [[(.bool false), (.bool false), (.int .i64 0), (.int .i64 0), (.int .i64 0)]] false)])) := by
  unfold ref15_Next_ai3ab2i3b_S0_c0
  cases h1 : tb (x4)
  · intro g0
    exact seg_walk [.b (tbE h1)] (by kernel_rfl)
  · intro g0
    exact absurd g0 tf

def ref15_Next_ai3ab2i3b_S1_c0 (x3 : Bool) (x11 : Bool) : Bool := (bif tb (x3) then (bif tb (x11) then true else false) else false)

theorem ref15_Next_ai3ab2i3b_S1_t0 (x0 : Int) (x1 : Int) (x2 : Int) (x3 : Bool) (x4 : Bool) (x5 : Int) (x6 : Int) (x7 : Int) (x8 : Bool) (x11 : Bool) : ref15_Next_ai3ab2i3b_S1_c0 x3 x11 = true → segG (runC E0 (cl E0) S32_1) [2, 3, 4, 6] [6, 7, 8] [2, 3, 4, 6] 3 ([(V.d (.bool x11)), (V.ptr 0 1 0 0), (V.ptr 1 1 0 0), (V.ptr 2 1 0 0)], [(Blk.flat 49 3 [[(.int .i64 x0), (.int .i64 x1), (.int .i64 x2)]] x8), (Blk.flat 46 5 [[(.bool x3), (.bool x4), (.int .i64 x5), (.int .i64 x6), (.int .i64 x7)]] false), (Blk.flat 46 5 [[(.bool false), (.bool false), (.int .i64 0), (.int .i64 0), (.int .i64 0)]] false)]) = some (.ret, ([(V.ptr 2 1 0 0), (V.d (.int .i64 0)), (V.d (.int .i64 0))], [(Blk.flat 49 3 [[(.int .i64 x0), (.int .i64 x1), (.int .i64 x2)]] x8), (Blk.flat 46 5 [[(.bool x3), (.bool x4), (.int .i64 x5), (.int .i64 0), (.int .i64 x7)]] false), (Blk.flat 46 5 [[(.bool x3), (.bool x4), (.int .i64 x5), (.int .i64 0), (.int .i64 x7)]] false)])) := by
  unfold ref15_Next_ai3ab2i3b_S1_c0
  cases h1 : tb (x3)
  · intro g0
    exact absurd g0 ft
  · cases h2 : tb (x11)
    · intro g0
      exact absurd g0 ft
    · intro g0
      exact seg_walk [.b (tbE h1), .b (tbE h2)] (by kernel_rfl)

theorem ref15_Next_ai3ab2i3b_S1_t1 (x0 : Int) (x1 : Int) (x2 : Int) (x3 : Bool) (x4 : Bool) (x5 : Int) (x6 : Int) (x7 : Int) (x8 : Bool) (x11 : Bool) : ref15_Next_ai3ab2i3b_S1_c0 x3 x11 = false → segG (runC E0 (cl E0) S32_1) [2, 3, 4, 6] [6, 7, 8] [2, 3, 4, 6] 3 ([(V.d (.bool x11)), (V.ptr 0 1 0 0), (V.ptr 1 1 0 0), (V.ptr 2 1 0 0)], [(Blk.flat 49 3 [[(.int .i64 x0), (.int .i64 x1), (.int .i64 x2)]] x8), (Blk.flat 46 5 [[(.bool x3), (.bool x4), (.int .i64 x5), (.int .i64 x6), (.int .i64 x7)]] false), (Blk.flat 46 5 [[(.bool false), (.bool false), (.int .i64 0), (.int .i64 0), (.int .i64 0)]] false)]) = some (.normal, ([(V.d (.bool x11)), (V.ptr 0 1 0 0), (V.ptr 1 1 0 0), (V.ptr 2 1 0 0)], [(Blk.flat 49 3 [[(.int .i64 x0), (.int .i64 x1), (.int .i64 x2)]] x8), (Blk.flat 46 5 [[(.bool x3), (.bool x4), (.int .i64 x5), (.int .i64 x6), (.int .i64 x7)]] false), (Blk.flat 46 5 [[(.bool false), (.bool false), (.int .i64 0), (.int .i64 0), (.int .i64 0)]] false)])) := by
  unfold ref15_Next_ai3ab2i3b_S1_c0
  cases h1 : tb (x3)
  · intro g0
    exact seg_walk [.b (tbE h1)] (by kernel_rfl)
  · cases h2 : tb (x11)
    · intro g0
      exact seg_walk [.b (tbE h1), .b (tbE h2)] (by kernel_rfl)
    · intro g0
      exact absurd g0 tf

def ref15_Next_ai3ab2i3b_S2_c0 (x3 : Bool) : Bool := (bif tb (x3) then true else false)

def ref15_Next_ai3ab2i3b_S2_r0_0 (x1 : Int) (x6 : Int) : Int := (bif tb (((wi (x6 + 1)) : Int) == x1) then 2 else 0)

def ref15_Next_ai3ab2i3b_S2_r0_12 (x1 : Int) (x3 : Bool) (x6 : Int) : Bool := (bif tb (((wi (x6 + 1)) : Int) == x1) then false else x3)

def ref15_Next_ai3ab2i3b_S2_r0_13 (x1 : Int) (x4 : Bool) (x6 : Int) : Bool := (bif tb (((wi (x6 + 1)) : Int) == x1) then false else x4)

def ref15_Next_ai3ab2i3b_S2_r0_14 (x1 : Int) (x5 : Int) (x6 : Int) : Int := (bif tb (((wi (x6 + 1)) : Int) == x1) then 0 else x5)

def ref15_Next_ai3ab2i3b_S2_r0_15 (x1 : Int) (x6 : Int) : Int := (bif tb (((wi (x6 + 1)) : Int) == x1) then 0 else (wi (x6 + 1)))

def ref15_Next_ai3ab2i3b_S2_r0_16 (x1 : Int) (x6 : Int) (x7 : Int) : Int := (bif tb (((wi (x6 + 1)) : Int) == x1) then (wi (x7 + 1)) else x7)

theorem ref15_Next_ai3ab2i3b_S2_t0 (x0 : Int) (x1 : Int) (x2 : Int) (x3 : Bool) (x4 : Bool) (x5 : Int) (x6 : Int) (x7 : Int) (x8 : Bool) (x11 : Bool) : ref15_Next_ai3ab2i3b_S2_c0 x3 = true → segG (runC E0 (cl E0) S32_2) [2, 3, 4, 6] [6, 7, 8] [2, 3, 4, 6] 3 ([(V.d (.bool x11)), (V.ptr 0 1 0 0), (V.ptr 1 1 0 0), (V.ptr 2 1 0 0)], [(Blk.flat 49 3 [[(.int .i64 x0), (.int .i64 x1), (.int .i64 x2)]] x8), (Blk.flat 46 5 [[(.bool x3), (.bool x4), (.int .i64 x5), (.int .i64 x6), (.int .i64 x7)]] false), (Blk.flat 46 5 [[(.bool false), (.bool false), (.int .i64 0), (.int .i64 0), (.int .i64 0)]] false)]) = some (.ret, ([(V.ptr 2 1 0 0), (V.d (.int .i64 (ref15_Next_ai3ab2i3b_S2_r0_0 x1 x6))), (V.d (.int .i64 0))], [(Blk.flat 49 3 [[(.int .i64 x0), (.int .i64 x1), (.int .i64 x2)]] x8), (Blk.flat 46 5 [[(.bool x3), (.bool x4), (.int .i64 x5), (.int .i64 (wi (x6 + 1))), (.int .i64 x7)]] false), (Blk.flat 46 5 [[(.bool (ref15_Next_ai3ab2i3b_S2_r0_12 x1 x3 x6)), (.bool (ref15_Next_ai3ab2i3b_S2_r0_13 x1 x4 x6)), (.int .i64 (ref15_Next_ai3ab2i3b_S2_r0_14 x1 x5 x6)), (.int .i64 (ref15_Next_ai3ab2i3b_S2_r0_15 x1 x6)), (.int .i64 (ref15_Next_ai3ab2i3b_S2_r0_16 x1 x6 x7))]] false)])) := by
  unfold ref15_Next_ai3ab2i3b_S2_c0 ref15_Next_ai3ab2i3b_S2_r0_0 ref15_Next_ai3ab2i3b_S2_r0_12 ref15_Next_ai3ab2i3b_S2_r0_13 ref15_Next_ai3ab2i3b_S2_r0_14 ref15_Next_ai3ab2i3b_S2_r0_15 ref15_Next_ai3ab2i3b_S2_r0_16
  cases h1 : tb (x3)
  · intro g0
    exact absurd g0 ft
  · cases h2 : tb (((wi (x6 + 1)) : Int) == x1)
    · intro g0
      exact seg_walk [.b (tbE h1), .b (tbE h2)] (by kernel_rfl)
    · intro g0
      exact seg_walk [.b (tbE h1), .b (tbE h2)] (by kernel_rfl)

theorem ref15_Next_ai3ab2i3b_S2_t1 (x0 : Int) (x1 : Int) (x2 : Int) (x3 : Bool) (x4 : Bool) (x5 : Int) (x6 : Int) (x7 : Int) (x8 : Bool) (x11 : Bool) : ref15_Next_ai3ab2i3b_S2_c0 x3 = false → segG (runC E0 (cl E0) S32_2) [2, 3, 4, 6] [6, 7, 8] [2, 3, 4, 6] 3 ([(V.d (.bool x11)), (V.ptr 0 1 0 0), (V.ptr 1 1 0 0), (V.ptr 2 1 0 0)], [(Blk.flat 49 3 [[(.int .i64 x0), (.int .i64 x1), (.int .i64 x2)]] x8), (Blk.flat 46 5 [[(.bool x3), (.bool x4), (.int .i64 x5), (.int .i64 x6), (.int .i64 x7)]] false), (Blk.flat 46 5 [[(.bool false), (.bool false), (.int .i64 0), (.int .i64 0), (.int .i64 0)]] false)]) = some (.normal, ([(V.d (.bool x11)), (V.ptr 0 1 0 0), (V.ptr 1 1 0 0), (V.ptr 2 1 0 0)], [(Blk.flat 49 3 [[(.int .i64 x0), (.int .i64 x1), (.int .i64 x2)]] x8), (Blk.flat 46 5 [[(.bool x3), (.bool x4), (.int .i64 x5), (.int .i64 x6), (.int .i64 x7)]] false), (Blk.flat 46 5 [[(.bool false), (.bool false), (.int .i64 0), (.int .i64 0), (.int .i64 0)]] false)])) := by
  unfold ref15_Next_ai3ab2i3b_S2_c0
  cases h1 : tb (x3)
  · intro g0
    exact seg_walk [.b (tbE h1)] (by kernel_rfl)
  · cases h2 : tb (((wi (x6 + 1)) : Int) == x1)
    · intro g0
      exact absurd g0 tf
    · intro g0
      exact absurd g0 tf

def ref15_Next_ai3ab2i3b_S3_c0 (x11 : Bool) : Bool := (bif tb (x11) then true else false)

theorem ref15_Next_ai3ab2i3b_S3_t0 (x0 : Int) (x1 : Int) (x2 : Int) (x3 : Bool) (x4 : Bool) (x5 : Int) (x6 : Int) (x7 : Int) (x8 : Bool) (x11 : Bool) : ref15_Next_ai3ab2i3b_S3_c0 x11 = true → segG (runC E0 (cl E0) S32_3) [2, 3, 4, 6] [6, 7, 8] [3, 4, 6] 3 ([(V.d (.bool x11)), (V.ptr 0 1 0 0), (V.ptr 1 1 0 0), (V.ptr 2 1 0 0)], [(Blk.flat 49 3 [[(.int .i64 x0), (.int .i64 x1), (.int .i64 x2)]] x8), (Blk.flat 46 5 [[(.bool x3), (.bool x4), (.int .i64 x5), (.int .i64 x6), (.int .i64 x7)]] false), (Blk.flat 46 5 [[(.bool false), (.bool false), (.int .i64 0), (.int .i64 0), (.int .i64 0)]] false)]) = some (.normal, ([(V.ptr 0 1 0 0), (V.ptr 1 1 0 0), (V.ptr 2 1 0 0)], [(Blk.flat 49 3 [[(.int .i64 x0), (.int .i64 x1), (.int .i64 x2)]] x8), (Blk.flat 46 5 [[(.bool x3), (.bool x4), (.int .i64 x5), (.int .i64 x6), (.int .i64 x7)]] false), (Blk.flat 46 5 [[(.bool false), (.bool false), (.int .i64 0), (.int .i64 0), (.int .i64 0)]] false)])) := by
  unfold ref15_Next_ai3ab2i3b_S3_c0
  cases h1 : tb (x11)
  · intro g0
    exact absurd g0 ft
  · intro g0
    exact seg_walk [.b (notT (tbE h1))] (by kernel_rfl)

theorem ref15_Next_ai3ab2i3b_S3_t1 (x0 : Int) (x1 : Int) (x2 : Int) (x3 : Bool) (x4 : Bool) (x5 : Int) (x6 : Int) (x7 : Int) (x8 : Bool) (x11 : Bool) : ref15_Next_ai3ab2i3b_S3_c0 x11 = false → segG (runC E0 (cl E0) S32_3) [2, 3, 4, 6] [6, 7, 8] [3, 4, 6] 3 ([(V.d (.bool x11)), (V.ptr 0 1 0 0), (V.ptr 1 1 0 0), (V.ptr 2 1 0 0)], [(Blk.flat 49 3 [[(.int .i64 x0), (.int .i64 x1), (.int .i64 x2)]] x8), (Blk.flat 46 5 [[(.bool x3), (.bool x4), (.int .i64 x5), (.int .i64 x6), (.int .i64 x7)]] false), (Blk.flat 46 5 [[(.bool false), (.bool false), (.int .i64 0), (.int .i64 0), (.int .i64 0)]] false)]) = some (.ret, ([(V.ptr 2 1 0 0), (V.d (.int .i64 0)), (V.d (.int .i64 0))], [(Blk.flat 49 3 [[(.int .i64 x0), (.int .i64 x1), (.int .i64 x2)]] x8), (Blk.flat 46 5 [[(.bool x3), (.bool x4), (.int .i64 0), (.int .i64 x6), (.int .i64 x7)]] false), (Blk.flat 46 5 [[(.bool x3), (.bool x4), (.int .i64 0), (.int .i64 x6), (.int .i64 x7)]] false)])) := by
  unfold ref15_Next_ai3ab2i3b_S3_c0
  cases h1 : tb (x11)
  · intro g0
    exact seg_walk [.b (notF (tbE h1))] (by kernel_rfl)
  · intro g0
    exact absurd g0 tf

def ref15_Next_ai3ab2i3b_S4_c0 (x0 : Int) (x5 : Int) : Bool := (bif tb (decide (x5 < x0)) then true else false)

theorem ref15_Next_ai3ab2i3b_S4_t0 (x0 : Int) (x1 : Int) (x2 : Int) (x3 : Bool) (x4 : Bool) (x5 : Int) (x6 : Int) (x7 : Int) (x8 : Bool) (x9 : Bool) : ref15_Next_ai3ab2i3b_S4_c0 x0 x5 = true → segG (runC E0 (cl E0) S32_4) [3, 4, 6] [6, 7, 8] [3, 4, 6] 3 ([(V.ptr 0 1 0 0), (V.ptr 1 1 0 0), (V.ptr 2 1 0 0)], [(Blk.flat 49 3 [[(.int .i64 x0), (.int .i64 x1), (.int .i64 x2)]] x8), (Blk.flat 46 5 [[(.bool x3), (.bool x4), (.int .i64 x5), (.int .i64 x6), (.int .i64 x7)]] x9), (Blk.flat 46 5 [[(.bool false), (.bool false), (.int .i64 0), (.int .i64 0), (.int .i64 0)]] false)]) = some (.ret, ([(V.ptr 2 1 0 0), (V.d (.int .i64 0)), (V.d (.int .i64 0))], [(Blk.flat 49 3 [[(.int .i64 x0), (.int .i64 x1), (.int .i64 x2)]] x8), (Blk.flat 46 5 [[(.bool x3), (.bool x4), (.int .i64 x5), (.int .i64 x6), (.int .i64 x7)]] x9), (Blk.flat 46 5 [[(.bool x3), (.bool x4), (.int .i64 x5), (.int .i64 x6), (.int .i64 x7)]] false)])) := by
  unfold ref15_Next_ai3ab2i3b_S4_c0
  cases h1 : tb (decide (x5 < x0))
  · intro g0
    exact absurd g0 ft
  · intro g0
    exact seg_walk [.b (tbE h1)] (by kernel_rfl)

theorem ref15_Next_ai3ab2i3b_S4_t1 (x0 : Int) (x1 : Int) (x2 : Int) (x3 : Bool) (x4 : Bool) (x5 : Int) (x6 : Int) (x7 : Int) (x8 : Bool) (x9 : Bool) : ref15_Next_ai3ab2i3b_S4_c0 x0 x5 = false → segG (runC E0 (cl E0) S32_4) [3, 4, 6] [6, 7, 8] [3, 4, 6] 3 ([(V.ptr 0 1 0 0), (V.ptr 1 1 0 0), (V.ptr 2 1 0 0)], [(Blk.flat 49 3 [[(.int .i64 x0), (.int .i64 x1), (.int .i64 x2)]] x8), (Blk.flat 46 5 [[(.bool x3), (.bool x4), (.int .i64 x5), (.int .i64 x6), (.int .i64 x7)]] x9), (Blk.flat 46 5 [[(.bool false), (.bool false), (.int .i64 0), (.int .i64 0), (.int .i64 0)]] false)]) = some (.normal, ([(V.ptr 0 1 0 0), (V.ptr 1 1 0 0), (V.ptr 2 1 0 0)], [(Blk.flat 49 3 [[(.int .i64 x0), (.int .i64 x1), (.int .i64 x2)]] x8), (Blk.flat 46 5 [[(.bool x3), (.bool x4), (.int .i64 x5), (.int .i64 x6), (.int .i64 x7)]] x9), (Blk.flat 46 5 [[(.bool false), (.bool false), (.int .i64 0), (.int .i64 0), (.int .i64 0)]] false)])) := by
  unfold ref15_Next_ai3ab2i3b_S4_c0
  cases h1 : tb (decide (x5 < x0))
  · intro g0
    exact seg_walk [.b (tbE h1)] (by kernel_rfl)
  · intro g0
    exact absurd g0 tf

def ref15_Next_ai3ab2i3b_S5_c0 (x2 : Int) (x6 : Int) : Bool := (bif tb ((x6 : Int) == x2) then true else false)

theorem ref15_Next_ai3ab2i3b_S5_t0 (x0 : Int) (x1 : Int) (x2 : Int) (x3 : Bool) (x4 : Int) (x5 : Int) (x6 : Int) (x7 : Bool) : ref15_Next_ai3ab2i3b_S5_c0 x2 x6 = true → segG (runC E0 (cl E0) S32_5) [3, 4, 6] [6, 7, 8] [4, 6] 3 ([(V.ptr 0 1 0 0), (V.ptr 1 1 0 0), (V.ptr 2 1 0 0)], [(Blk.flat 49 3 [[(.int .i64 x0), (.int .i64 x1), (.int .i64 x2)]] x7), (Blk.flat 46 5 [[(.bool true), (.bool x3), (.int .i64 x4), (.int .i64 x5), (.int .i64 x6)]] false), (Blk.flat 46 5 [[(.bool false), (.bool false), (.int .i64 0), (.int .i64 0), (.int .i64 0)]] false)]) = some (.ret, ([(V.ptr 2 1 0 0), (V.d (.int .i64 3)), (V.d (.int .i64 0))], [(Blk.flat 49 3 [[(.int .i64 x0), (.int .i64 x1), (.int .i64 x2)]] x7), (Blk.flat 46 5 [[(.bool true), (.bool true), (.int .i64 x4), (.int .i64 x5), (.int .i64 x6)]] false), (Blk.flat 46 5 [[(.bool true), (.bool true), (.int .i64 x4), (.int .i64 x5), (.int .i64 x6)]] false)])) := by
  unfold ref15_Next_ai3ab2i3b_S5_c0
  cases h1 : tb ((x6 : Int) == x2)
  · intro g0
    exact absurd g0 ft
  · intro g0
    exact seg_walk [.b (tbE h1)] (by kernel_rfl)

theorem ref15_Next_ai3ab2i3b_S5_t1 (x0 : Int) (x1 : Int) (x2 : Int) (x3 : Bool) (x4 : Int) (x5 : Int) (x6 : Int) (x7 : Bool) : ref15_Next_ai3ab2i3b_S5_c0 x2 x6 = false → segG (runC E0 (cl E0) S32_5) [3, 4, 6] [6, 7, 8] [4, 6] 3 ([(V.ptr 0 1 0 0), (V.ptr 1 1 0 0), (V.ptr 2 1 0 0)], [(Blk.flat 49 3 [[(.int .i64 x0), (.int .i64 x1), (.int .i64 x2)]] x7), (Blk.flat 46 5 [[(.bool true), (.bool x3), (.int .i64 x4), (.int .i64 x5), (.int .i64 x6)]] false), (Blk.flat 46 5 [[(.bool false), (.bool false), (.int .i64 0), (.int .i64 0), (.int .i64 0)]] false)]) = some (.normal, ([(V.ptr 1 1 0 0), (V.ptr 2 1 0 0)], [(Blk.flat 49 3 [[(.int .i64 x0), (.int .i64 x1), (.int .i64 x2)]] x7), (Blk.flat 46 5 [[(.bool true), (.bool x3), (.int .i64 x4), (.int .i64 x5), (.int .i64 x6)]] false), (Blk.flat 46 5 [[(.bool false), (.bool false), (.int .i64 0), (.int .i64 0), (.int .i64 0)]] false)])) := by
  unfold ref15_Next_ai3ab2i3b_S5_c0
  cases h1 : tb ((x6 : Int) == x2)
  · intro g0
    exact seg_walk [.b (tbE h1)] (by kernel_rfl)
  · intro g0
    exact absurd g0 tf

def ref15_Next_ai3ab2i3b_r0_0 (x0 : Int) (x1 : Int) (x2 : Int) (x3 : Bool) (x4 : Bool) (x5 : Int) (x6 : Int) (x7 : Int) (x8 : Bool) : Bool := (bif tb (ref15_Fine_ai3ab2i3_r0_0 x0 x1 x2 x3 x4 x5 x6 x7) then (bif tb (ref15_Next_ai3ab2i3b_S0_c0 x4) then x3 else (bif tb (ref15_Next_ai3ab2i3b_S1_c0 x3 x8) then x3 else (bif tb (ref15_Next_ai3ab2i3b_S2_c0 x3) then (ref15_Next_ai3ab2i3b_S2_r0_12 x1 x3 x6) else (bif tb (ref15_Next_ai3ab2i3b_S3_c0 x8) then (bif tb (ref15_Next_ai3ab2i3b_S4_c0 x0 (wi (x5 + 1))) then x3 else true) else x3)))) else false)

def ref15_Next_ai3ab2i3b_r0_1 (x0 : Int) (x1 : Int) (x2 : Int) (x3 : Bool) (x4 : Bool) (x5 : Int) (x6 : Int) (x7 : Int) (x8 : Bool) : Bool := (bif tb (ref15_Fine_ai3ab2i3_r0_0 x0 x1 x2 x3 x4 x5 x6 x7) then (bif tb (ref15_Next_ai3ab2i3b_S0_c0 x4) then x4 else (bif tb (ref15_Next_ai3ab2i3b_S1_c0 x3 x8) then x4 else (bif tb (ref15_Next_ai3ab2i3b_S2_c0 x3) then (ref15_Next_ai3ab2i3b_S2_r0_13 x1 x4 x6) else (bif tb (ref15_Next_ai3ab2i3b_S3_c0 x8) then (bif tb (ref15_Next_ai3ab2i3b_S4_c0 x0 (wi (x5 + 1))) then x4 else (bif tb (ref15_Next_ai3ab2i3b_S5_c0 x2 x7) then true else x4)) else x4)))) else false)

def ref15_Next_ai3ab2i3b_r0_2 (x0 : Int) (x1 : Int) (x2 : Int) (x3 : Bool) (x4 : Bool) (x5 : Int) (x6 : Int) (x7 : Int) (x8 : Bool) : Int := (bif tb (ref15_Fine_ai3ab2i3_r0_0 x0 x1 x2 x3 x4 x5 x6 x7) then (bif tb (ref15_Next_ai3ab2i3b_S0_c0 x4) then x5 else (bif tb (ref15_Next_ai3ab2i3b_S1_c0 x3 x8) then x5 else (bif tb (ref15_Next_ai3ab2i3b_S2_c0 x3) then (ref15_Next_ai3ab2i3b_S2_r0_14 x1 x5 x6) else (bif tb (ref15_Next_ai3ab2i3b_S3_c0 x8) then (wi (x5 + 1)) else 0)))) else 0)

def ref15_Next_ai3ab2i3b_r0_3 (x0 : Int) (x1 : Int) (x2 : Int) (x3 : Bool) (x4 : Bool) (x5 : Int) (x6 : Int) (x7 : Int) (x8 : Bool) : Int := (bif tb (ref15_Fine_ai3ab2i3_r0_0 x0 x1 x2 x3 x4 x5 x6 x7) then (bif tb (ref15_Next_ai3ab2i3b_S0_c0 x4) then x6 else (bif tb (ref15_Next_ai3ab2i3b_S1_c0 x3 x8) then 0 else (bif tb (ref15_Next_ai3ab2i3b_S2_c0 x3) then (ref15_Next_ai3ab2i3b_S2_r0_15 x1 x6) else x6))) else 0)

def ref15_Next_ai3ab2i3b_r0_4 (x0 : Int) (x1 : Int) (x2 : Int) (x3 : Bool) (x4 : Bool) (x5 : Int) (x6 : Int) (x7 : Int) (x8 : Bool) : Int := (bif tb (ref15_Fine_ai3ab2i3_r0_0 x0 x1 x2 x3 x4 x5 x6 x7) then (bif tb (ref15_Next_ai3ab2i3b_S0_c0 x4) then x7 else (bif tb (ref15_Next_ai3ab2i3b_S1_c0 x3 x8) then x7 else (bif tb (ref15_Next_ai3ab2i3b_S2_c0 x3) then (ref15_Next_ai3ab2i3b_S2_r0_16 x1 x6 x7) else x7))) else 0)

def ref15_Next_ai3ab2i3b_r0_5 (x0 : Int) (x1 : Int) (x2 : Int) (x3 : Bool) (x4 : Bool) (x5 : Int) (x6 : Int) (x7 : Int) (x8 : Bool) : Int := (bif tb (ref15_Fine_ai3ab2i3_r0_0 x0 x1 x2 x3 x4 x5 x6 x7) then (bif tb (ref15_Next_ai3ab2i3b_S0_c0 x4) then 0 else (bif tb (ref15_Next_ai3ab2i3b_S1_c0 x3 x8) then 0 else (bif tb (ref15_Next_ai3ab2i3b_S2_c0 x3) then (ref15_Next_ai3ab2i3b_S2_r0_0 x1 x6) else (bif tb (ref15_Next_ai3ab2i3b_S3_c0 x8) then (bif tb (ref15_Next_ai3ab2i3b_S4_c0 x0 (wi (x5 + 1))) then 0 else (bif tb (ref15_Next_ai3ab2i3b_S5_c0 x2 x7) then 3 else 1)) else 0)))) else 0)

def ref15_Next_ai3ab2i3b_r0_6 (x0 : Int) (x1 : Int) (x2 : Int) (x3 : Bool) (x4 : Bool) (x5 : Int) (x6 : Int) (x7 : Int) : Int := (bif tb (ref15_Fine_ai3ab2i3_r0_0 x0 x1 x2 x3 x4 x5 x6 x7) then 0 else 1)

theorem ref15_Next_ai3ab2i3b_t0 (x0 : Int) (x1 : Int) (x2 : Int) (x3 : Bool) (x4 : Bool) (x5 : Int) (x6 : Int) (x7 : Int) (x8 : Bool) : cl E0 32 [(V.agg [(V.d (.int .i64 x0)), (V.d (.int .i64 x1)), (V.d (.int .i64 x2))]), (V.agg [(V.d (.bool x3)), (V.d (.bool x4)), (V.d (.int .i64 x5)), (V.d (.int .i64 x6)), (V.d (.int .i64 x7))]), (V.d (.bool x8))] [] = some ([(V.agg [(V.d (.bool (ref15_Next_ai3ab2i3b_r0_0 x0 x1 x2 x3 x4 x5 x6 x7 x8))), (V.d (.bool (ref15_Next_ai3ab2i3b_r0_1 x0 x1 x2 x3 x4 x5 x6 x7 x8))), (V.d (.int .i64 (ref15_Next_ai3ab2i3b_r0_2 x0 x1 x2 x3 x4 x5 x6 x7 x8))), (V.d (.int .i64 (ref15_Next_ai3ab2i3b_r0_3 x0 x1 x2 x3 x4 x5 x6 x7 x8))), (V.d (.int .i64 (ref15_Next_ai3ab2i3b_r0_4 x0 x1 x2 x3 x4 x5 x6 x7 x8)))]), (V.d (.int .i64 (ref15_Next_ai3ab2i3b_r0_5 x0 x1 x2 x3 x4 x5 x6 x7 x8))), (V.d (.int .i64 (ref15_Next_ai3ab2i3b_r0_6 x0 x1 x2 x3 x4 x5 x6 x7)))], []) := by
  unfold ref15_Next_ai3ab2i3b_r0_0 ref15_Next_ai3ab2i3b_r0_1 ref15_Next_ai3ab2i3b_r0_2 ref15_Next_ai3ab2i3b_r0_3 ref15_Next_ai3ab2i3b_r0_4 ref15_Next_ai3ab2i3b_r0_5 ref15_Next_ai3ab2i3b_r0_6
  cases h1 : tb (ref15_Fine_ai3ab2i3_r0_0 x0 x1 x2 x3 x4 x5 x6 x7)
  · exact w32 [.c (ref15_Fine_ai3ab2i3_t0 x0 x1 x2 x3 x4 x5 x6 x7), .b (notF (tbE h1))] (by kernel_rfl)
  · cases h2 : tb (ref15_Next_ai3ab2i3b_S0_c0 x4)
    · cases h3 : tb (ref15_Next_ai3ab2i3b_S1_c0 x3 x8)
      · cases h4 : tb (ref15_Next_ai3ab2i3b_S2_c0 x3)
        · cases h5 : tb (ref15_Next_ai3ab2i3b_S3_c0 x8)
          · exact w32 [.c (ref15_Fine_ai3ab2i3_t0 x0 x1 x2 x3 x4 x5 x6 x7), .b (notT (tbE h1)), .s (ref15_Next_ai3ab2i3b_S0_t1 x0 x1 x2 x3 x4 x5 x6 x7 false false x8 (tbE h2)), .s (ref15_Next_ai3ab2i3b_S1_t1 x0 x1 x2 x3 x4 x5 x6 x7 false x8 (tbE h3)), .s (ref15_Next_ai3ab2i3b_S2_t1 x0 x1 x2 x3 x4 x5 x6 x7 false x8 (tbE h4)), .s (ref15_Next_ai3ab2i3b_S3_t1 x0 x1 x2 x3 x4 x5 x6 x7 false x8 (tbE h5))] (by kernel_rfl)
          · cases h6 : tb (ref15_Next_ai3ab2i3b_S4_c0 x0 (wi (x5 + 1)))
            · cases h7 : tb (ref15_Next_ai3ab2i3b_S5_c0 x2 x7)
              · exact w32 [.c (ref15_Fine_ai3ab2i3_t0 x0 x1 x2 x3 x4 x5 x6 x7), .b (notT (tbE h1)), .s (ref15_Next_ai3ab2i3b_S0_t1 x0 x1 x2 x3 x4 x5 x6 x7 false false x8 (tbE h2)), .s (ref15_Next_ai3ab2i3b_S1_t1 x0 x1 x2 x3 x4 x5 x6 x7 false x8 (tbE h3)), .s (ref15_Next_ai3ab2i3b_S2_t1 x0 x1 x2 x3 x4 x5 x6 x7 false x8 (tbE h4)), .s (ref15_Next_ai3ab2i3b_S3_t0 x0 x1 x2 x3 x4 x5 x6 x7 false x8 (tbE h5)), .s (ref15_Next_ai3ab2i3b_S4_t1 x0 x1 x2 x3 x4 (wi (x5 + 1)) x6 x7 false false (tbE h6)), .s (ref15_Next_ai3ab2i3b_S5_t1 x0 x1 x2 x4 (wi (x5 + 1)) x6 x7 false (tbE h7))] (by kernel_rfl)
              · exact w32 [.c (ref15_Fine_ai3ab2i3_t0 x0 x1 x2 x3 x4 x5 x6 x7), .b (notT (tbE h1)), .s (ref15_Next_ai3ab2i3b_S0_t1 x0 x1 x2 x3 x4 x5 x6 x7 false false x8 (tbE h2)), .s (ref15_Next_ai3ab2i3b_S1_t1 x0 x1 x2 x3 x4 x5 x6 x7 false x8 (tbE h3)), .s (ref15_Next_ai3ab2i3b_S2_t1 x0 x1 x2 x3 x4 x5 x6 x7 false x8 (tbE h4)), .s (ref15_Next_ai3ab2i3b_S3_t0 x0 x1 x2 x3 x4 x5 x6 x7 false x8 (tbE h5)), .s (ref15_Next_ai3ab2i3b_S4_t1 x0 x1 x2 x3 x4 (wi (x5 + 1)) x6 x7 false false (tbE h6)), .s (ref15_Next_ai3ab2i3b_S5_t0 x0 x1 x2 x4 (wi (x5 + 1)) x6 x7 false (tbE h7))] (by kernel_rfl)
            · exact w32 [.c (ref15_Fine_ai3ab2i3_t0 x0 x1 x2 x3 x4 x5 x6 x7), .b (notT (tbE h1)), .s (ref15_Next_ai3ab2i3b_S0_t1 x0 x1 x2 x3 x4 x5 x6 x7 false false x8 (tbE h2)), .s (ref15_Next_ai3ab2i3b_S1_t1 x0 x1 x2 x3 x4 x5 x6 x7 false x8 (tbE h3)), .s (ref15_Next_ai3ab2i3b_S2_t1 x0 x1 x2 x3 x4 x5 x6 x7 false x8 (tbE h4)), .s (ref15_Next_ai3ab2i3b_S3_t0 x0 x1 x2 x3 x4 x5 x6 x7 false x8 (tbE h5)), .s (ref15_Next_ai3ab2i3b_S4_t0 x0 x1 x2 x3 x4 (wi (x5 + 1)) x6 x7 false false (tbE h6))] (by kernel_rfl)
        · exact w32 [.c (ref15_Fine_ai3ab2i3_t0 x0 x1 x2 x3 x4 x5 x6 x7), .b (notT (tbE h1)), .s (ref15_Next_ai3ab2i3b_S0_t1 x0 x1 x2 x3 x4 x5 x6 x7 false false x8 (tbE h2)), .s (ref15_Next_ai3ab2i3b_S1_t1 x0 x1 x2 x3 x4 x5 x6 x7 false x8 (tbE h3)), .s (ref15_Next_ai3ab2i3b_S2_t0 x0 x1 x2 x3 x4 x5 x6 x7 false x8 (tbE h4))] (by kernel_rfl)
      · exact w32 [.c (ref15_Fine_ai3ab2i3_t0 x0 x1 x2 x3 x4 x5 x6 x7), .b (notT (tbE h1)), .s (ref15_Next_ai3ab2i3b_S0_t1 x0 x1 x2 x3 x4 x5 x6 x7 false false x8 (tbE h2)), .s (ref15_Next_ai3ab2i3b_S1_t0 x0 x1 x2 x3 x4 x5 x6 x7 false x8 (tbE h3))] (by kernel_rfl)
    · exact w32 [.c (ref15_Fine_ai3ab2i3_t0 x0 x1 x2 x3 x4 x5 x6 x7), .b (notT (tbE h1)), .s (ref15_Next_ai3ab2i3b_S0_t0 x0 x1 x2 x3 x4 x5 x6 x7 false false x8 (tbE h2))] (by kernel_rfl)

structure ref15_Run_ai3o_L0_s0 where
  c2 : Bool
  c3 : Int
  c15 : Bool
  c16 : Bool
  c17 : Int
  c18 : Int
  c19 : Int
  c21 : List Int
  deriving Inhabited

def ref15_Run_ai3o_L0_enc (x0 : Int) (x1 : Int) (x2 : Int) (x3 : Bool) (x4 : Bool) (x5 : Int) (x6 : Int) (x7 : Int) (x8 : Bool) (x9 : Bool) (x10 : Int) (x11 : Int) (x12 : Int) (x13 : List Int) (x14 : Bool) (x15 : Bool) (x16 : Bool) (x17 : Bool) (x18 : Bool) (x19 : Bool) (x20 : List Bool) (x21 : Bool) (x22 : Int) (s0 : ref15_Run_ai3o_L0_s0) : List V × Mem := ([(V.d (slD encB true 1 x19 x20)), (V.ptr 0 1 0 0), (V.ptr 1 1 0 0), (V.ptr 3 1 0 0), (V.so s0.c2 4 s0.c21.length), (V.d (.int .i64 s0.c3))], [(Blk.flat 49 3 [[(.int .i64 x0), (.int .i64 x1), (.int .i64 x2)]] x14), (Blk.flat 46 5 [[(.bool x3), (.bool x4), (.int .i64 x5), (.int .i64 x6), (.int .i64 x7)]] x15), (Blk.flat 3 1 [] x16), (Blk.flat 46 5 [[(.bool s0.c15), (.bool s0.c16), (.int .i64 s0.c17), (.int .i64 s0.c18), (.int .i64 s0.c19)]] false), (Blk.flat 3 1 (List.map (encI .i64) s0.c21) false)])

def ref15_Run_ai3o_L0_h0_e0 (x0 : Int) (x1 : Int) (x2 : Int) (x20 : List Bool) (s0 : ref15_Run_ai3o_L0_s0) : List Int := (s0.c21 ++ [(ref15_Next_ai3ab2i3b_r0_5 x0 x1 x2 s0.c15 s0.c16 s0.c17 s0.c18 s0.c19 (gt x20 s0.c3))])

def ref15_Run_ai3o_L0_sel (x0 : Int) (x1 : Int) (x2 : Int) (x20 : List Bool) (s0 : ref15_Run_ai3o_L0_s0) : Bool := (bif tb (decide (s0.c3 < ((x20.length : Nat) : Int))) then (bif tb (inb x20.length s0.c3) then (bif tb (decide ((s0.c21.length + [(ref15_Next_ai3ab2i3b_r0_5 x0 x1 x2 s0.c15 s0.c16 s0.c17 s0.c18 s0.c19 (gt x20 s0.c3))].length) * 8 ≤ 140737488355328)) then true else false) else false) else false)

def ref15_Run_ai3o_L0_nx (x0 : Int) (x1 : Int) (x2 : Int) (x20 : List Bool) (s0 : ref15_Run_ai3o_L0_s0) : ref15_Run_ai3o_L0_s0 := ⟨false, (wi (s0.c3 + 1)), (ref15_Next_ai3ab2i3b_r0_0 x0 x1 x2 s0.c15 s0.c16 s0.c17 s0.c18 s0.c19 (gt x20 s0.c3)), (ref15_Next_ai3ab2i3b_r0_1 x0 x1 x2 s0.c15 s0.c16 s0.c17 s0.c18 s0.c19 (gt x20 s0.c3)), (ref15_Next_ai3ab2i3b_r0_2 x0 x1 x2 s0.c15 s0.c16 s0.c17 s0.c18 s0.c19 (gt x20 s0.c3)), (ref15_Next_ai3ab2i3b_r0_3 x0 x1 x2 s0.c15 s0.c16 s0.c17 s0.c18 s0.c19 (gt x20 s0.c3)), (ref15_Next_ai3ab2i3b_r0_4 x0 x1 x2 s0.c15 s0.c16 s0.c17 s0.c18 s0.c19 (gt x20 s0.c3)), (ref15_Run_ai3o_L0_h0_e0 x0 x1 x2 x20 s0)⟩

def ref15_Run_ai3o_L0_ok (x0 : Int) (x1 : Int) (x2 : Int) (x20 : List Bool) (s0 : ref15_Run_ai3o_L0_s0) : Bool := (itS (ref15_Run_ai3o_L0_sel x0 x1 x2 x20) (ref15_Run_ai3o_L0_nx x0 x1 x2 x20) bound s0).isSome
def ref15_Run_ai3o_L0_end (x0 : Int) (x1 : Int) (x2 : Int) (x20 : List Bool) (s0 : ref15_Run_ai3o_L0_s0) : ref15_Run_ai3o_L0_s0 := (itS (ref15_Run_ai3o_L0_sel x0 x1 x2 x20) (ref15_Run_ai3o_L0_nx x0 x1 x2 x20) bound s0).getD default

theorem ref15_Run_ai3o_L0_go (x0 : Int) (x1 : Int) (x2 : Int) (x3 : Bool) (x4 : Bool) (x5 : Int) (x6 : Int) (x7 : Int) (x8 : Bool) (x9 : Bool) (x10 : Int) (x11 : Int) (x12 : Int) (x13 : List Int) (x14 : Bool) (x15 : Bool) (x16 : Bool) (x17 : Bool) (x18 : Bool) (x19 : Bool) (x20 : List Bool) (x21 : Bool) (x22 : Int) (s0 : ref15_Run_ai3o_L0_s0) : ref15_Run_ai3o_L0_sel x0 x1 x2 x20 s0 = true → (roundG (runC E0 (cl E0) L41_0) [1, 2, 4, 8, 9, 10] [4, 8, 9] 5) (ref15_Run_ai3o_L0_enc x0 x1 x2 x3 x4 x5 x6 x7 x8 x9 x10 x11 x12 x13 x14 x15 x16 x17 x18 x19 x20 x21 x22 s0) = some (.normal, ref15_Run_ai3o_L0_enc x0 x1 x2 x3 x4 x5 x6 x7 x8 x9 x10 x11 x12 x13 x14 x15 x16 x17 x18 x19 x20 x21 x22 (ref15_Run_ai3o_L0_nx x0 x1 x2 x20 s0)) := by
  unfold ref15_Run_ai3o_L0_sel ref15_Run_ai3o_L0_nx
  cases h1 : tb (decide (s0.c3 < ((x20.length : Nat) : Int)))
  · intro g0
    exact absurd g0 ft
  · cases h2 : tb (inb x20.length s0.c3)
    · intro g0
      exact absurd g0 ft
    · cases h3 : tb (decide ((s0.c21.length + [(ref15_Next_ai3ab2i3b_r0_5 x0 x1 x2 s0.c15 s0.c16 s0.c17 s0.c18 s0.c19 (gt x20 s0.c3))].length) * 8 ≤ 140737488355328))
      · intro g0
        exact absurd g0 ft
      · intro _
        exact round_walk [.o 22 (fun _ => o_len_os (enc := encB) (l := x20) (fl := true) (n := x19) (s := 1)), .b (tbE h1), .o 31 (fun _ => o_idx_os (enc := encB) (l := x20) (fl := true) (n := x19) (s := 1) (k := .i64) (tbE h2)), .c (ref15_Next_ai3ab2i3b_t0 x0 x1 x2 s0.c15 s0.c16 s0.c17 s0.c18 s0.c19 (gt x20 s0.c3)), .m 41 (o_app_so (nl := s0.c2) (m := [(Blk.flat 49 3 [[(.int .i64 x0), (.int .i64 x1), (.int .i64 x2)]] x14), (Blk.flat 46 5 [[(.bool x3), (.bool x4), (.int .i64 x5), (.int .i64 x6), (.int .i64 x7)]] x15), (Blk.flat 3 1 [] x16), (Blk.flat 46 5 [[(.bool (ref15_Next_ai3ab2i3b_r0_0 x0 x1 x2 s0.c15 s0.c16 s0.c17 s0.c18 s0.c19 (gt x20 s0.c3))), (.bool (ref15_Next_ai3ab2i3b_r0_1 x0 x1 x2 s0.c15 s0.c16 s0.c17 s0.c18 s0.c19 (gt x20 s0.c3))), (.int .i64 (ref15_Next_ai3ab2i3b_r0_2 x0 x1 x2 s0.c15 s0.c16 s0.c17 s0.c18 s0.c19 (gt x20 s0.c3))), (.int .i64 (ref15_Next_ai3ab2i3b_r0_3 x0 x1 x2 s0.c15 s0.c16 s0.c17 s0.c18 s0.c19 (gt x20 s0.c3))), (.int .i64 (ref15_Next_ai3ab2i3b_r0_4 x0 x1 x2 s0.c15 s0.c16 s0.c17 s0.c18 s0.c19 (gt x20 s0.c3)))]] false), (Blk.flat 3 1 (List.map (encI .i64) s0.c21) false), (Blk.flat 46 5 [[(.bool (ref15_Next_ai3ab2i3b_r0_0 x0 x1 x2 s0.c15 s0.c16 s0.c17 s0.c18 s0.c19 (gt x20 s0.c3))), (.bool (ref15_Next_ai3ab2i3b_r0_1 x0 x1 x2 s0.c15 s0.c16 s0.c17 s0.c18 s0.c19 (gt x20 s0.c3))), (.int .i64 (ref15_Next_ai3ab2i3b_r0_2 x0 x1 x2 s0.c15 s0.c16 s0.c17 s0.c18 s0.c19 (gt x20 s0.c3))), (.int .i64 (ref15_Next_ai3ab2i3b_r0_3 x0 x1 x2 s0.c15 s0.c16 s0.c17 s0.c18 s0.c19 (gt x20 s0.c3))), (.int .i64 (ref15_Next_ai3ab2i3b_r0_4 x0 x1 x2 s0.c15 s0.c16 s0.c17 s0.c18 s0.c19 (gt x20 s0.c3)))]] false), (Blk.flat 3 1 [[(.int .i64 (ref15_Next_ai3ab2i3b_r0_5 x0 x1 x2 s0.c15 s0.c16 s0.c17 s0.c18 s0.c19 (gt x20 s0.c3)))]] false)]) (enc := (encI .i64)) (l0 := s0.c21) (l1 := [(ref15_Next_ai3ab2i3b_r0_5 x0 x1 x2 s0.c15 s0.c16 s0.c17 s0.c18 s0.c19 (gt x20 s0.c3))]) (id := 4) (e := 3) (s := 1) (bytes := 8) (x := (V.so false 6 1)) (n := s0.c21.length) (Nat.beq_refl _) (by kernel_rfl) (by kernel_rfl) (by kernel_rfl) (tbE h3))] (by kernel_rfl)

def ref15_Run_ai3o_L0_c0 (x20 : List Bool) (s0 : ref15_Run_ai3o_L0_s0) : Bool := (bif tb (decide (s0.c3 < ((x20.length : Nat) : Int))) then false else true)

theorem ref15_Run_ai3o_L0_x0 (x0 : Int) (x1 : Int) (x2 : Int) (x3 : Bool) (x4 : Bool) (x5 : Int) (x6 : Int) (x7 : Int) (x8 : Bool) (x9 : Bool) (x10 : Int) (x11 : Int) (x12 : Int) (x13 : List Int) (x14 : Bool) (x15 : Bool) (x16 : Bool) (x17 : Bool) (x18 : Bool) (x19 : Bool) (x20 : List Bool) (x21 : Bool) (x22 : Int) (s0 : ref15_Run_ai3o_L0_s0) : ref15_Run_ai3o_L0_sel x0 x1 x2 x20 s0 = false → ref15_Run_ai3o_L0_c0 x20 s0 = true → (roundG (runC E0 (cl E0) L41_0) [1, 2, 4, 8, 9, 10] [4, 8, 9] 5) (ref15_Run_ai3o_L0_enc x0 x1 x2 x3 x4 x5 x6 x7 x8 x9 x10 x11 x12 x13 x14 x15 x16 x17 x18 x19 x20 x21 x22 s0) = some ((.exit 0), ([(V.ptr 1 1 0 0), (V.ptr 3 1 0 0), (V.so s0.c2 4 s0.c21.length)], [(Blk.flat 49 3 [[(.int .i64 x0), (.int .i64 x1), (.int .i64 x2)]] x14), (Blk.flat 46 5 [[(.bool x3), (.bool x4), (.int .i64 x5), (.int .i64 x6), (.int .i64 x7)]] x15), (Blk.flat 3 1 [] x16), (Blk.flat 46 5 [[(.bool s0.c15), (.bool s0.c16), (.int .i64 s0.c17), (.int .i64 s0.c18), (.int .i64 s0.c19)]] false), (Blk.flat 3 1 (List.map (encI .i64) s0.c21) false)])) := by
  unfold ref15_Run_ai3o_L0_sel ref15_Run_ai3o_L0_c0
  cases h1 : tb (decide (s0.c3 < ((x20.length : Nat) : Int)))
  · intro g0 g1
    exact round_walk [.o 22 (fun _ => o_len_os (enc := encB) (l := x20) (fl := true) (n := x19) (s := 1)), .b (tbE h1)] (by kernel_rfl)
  · cases h2 : tb (inb x20.length s0.c3)
    · intro g0 g1
      exact absurd g1 ft
    · cases h3 : tb (decide ((s0.c21.length + [(ref15_Next_ai3ab2i3b_r0_5 x0 x1 x2 s0.c15 s0.c16 s0.c17 s0.c18 s0.c19 (gt x20 s0.c3))].length) * 8 ≤ 140737488355328))
      · intro g0 g1
        exact absurd g1 ft
      · intro g0 g1
        exact absurd g0 tf

theorem ref15_Run_ai3o_L0_f0_0 (x0 : Int) (x1 : Int) (x2 : Int) (x3 : Bool) (x4 : Bool) (x5 : Int) (x6 : Int) (x7 : Int) (x8 : Bool) (x9 : Bool) (x10 : Int) (x11 : Int) (x12 : Int) (x13 : List Int) (x14 : Bool) (x15 : Bool) (x16 : Bool) (x17 : Bool) (x18 : Bool) (x19 : Bool) (x20 : List Bool) (x21 : Bool) (x22 : Int) (s : ref15_Run_ai3o_L0_s0) (hok : ref15_Run_ai3o_L0_ok x0 x1 x2 x20 s = true) (c0 : ref15_Run_ai3o_L0_c0 x20 (ref15_Run_ai3o_L0_end x0 x1 x2 x20 s) = true) : loopG (roundG (runC E0 (cl E0) L41_0) [1, 2, 4, 8, 9, 10] [4, 8, 9] 5) bound (ref15_Run_ai3o_L0_enc x0 x1 x2 x3 x4 x5 x6 x7 x8 x9 x10 x11 x12 x13 x14 x15 x16 x17 x18 x19 x20 x21 x22 s) = some ((.exit 0), ([(V.ptr 1 1 0 0), (V.ptr 3 1 0 0), (V.so ((ref15_Run_ai3o_L0_end x0 x1 x2 x20 s).c2) 4 (((ref15_Run_ai3o_L0_end x0 x1 x2 x20 s).c21).length))], [(Blk.flat 49 3 [[(.int .i64 x0), (.int .i64 x1), (.int .i64 x2)]] x14), (Blk.flat 46 5 [[(.bool x3), (.bool x4), (.int .i64 x5), (.int .i64 x6), (.int .i64 x7)]] x15), (Blk.flat 3 1 [] x16), (Blk.flat 46 5 [[(.bool ((ref15_Run_ai3o_L0_end x0 x1 x2 x20 s).c15)), (.bool ((ref15_Run_ai3o_L0_end x0 x1 x2 x20 s).c16)), (.int .i64 ((ref15_Run_ai3o_L0_end x0 x1 x2 x20 s).c17)), (.int .i64 ((ref15_Run_ai3o_L0_end x0 x1 x2 x20 s).c18)), (.int .i64 ((ref15_Run_ai3o_L0_end x0 x1 x2 x20 s).c19))]] false), (Blk.flat 3 1 (List.map (encI .i64) ((ref15_Run_ai3o_L0_end x0 x1 x2 x20 s).c21)) false)])) := by
  have e : itS (ref15_Run_ai3o_L0_sel x0 x1 x2 x20) (ref15_Run_ai3o_L0_nx x0 x1 x2 x20) bound s = some (ref15_Run_ai3o_L0_end x0 x1 x2 x20 s) := itS_get hok
  have f := itS_false e
  exact loop_it (ref15_Run_ai3o_L0_go x0 x1 x2 x3 x4 x5 x6 x7 x8 x9 x10 x11 x12 x13 x14 x15 x16 x17 x18 x19 x20 x21 x22) bound s _ _ _ e (fun h => by cases h) (ref15_Run_ai3o_L0_x0 x0 x1 x2 x3 x4 x5 x6 x7 x8 x9 x10 x11 x12 x13 x14 x15 x16 x17 x18 x19 x20 x21 x22 (ref15_Run_ai3o_L0_end x0 x1 x2 x20 s) f c0)

def ref15_Run_ai3o_e0 (x0 : Int) (x1 : Int) (x2 : Int) (x4 : List Bool) : ref15_Run_ai3o_L0_s0 := ref15_Run_ai3o_L0_end x0 x1 x2 x4 (⟨true, 0, false, false, 0, 0, 0, ([] : List Int)⟩ : ref15_Run_ai3o_L0_s0)

def ref15_Run_ai3o_c0 (x0 : Int) (x1 : Int) (x2 : Int) (x4 : List Bool) : Bool := (bif tb (ref15_Right_ai3_r0_0 x0 x1 x2) then (bif tb (ref15_Run_ai3o_L0_ok x0 x1 x2 x4 (⟨true, 0, false, false, 0, 0, 0, ([] : List Int)⟩ : ref15_Run_ai3o_L0_s0)) then (bif tb (ref15_Run_ai3o_L0_c0 x4 (ref15_Run_ai3o_e0 x0 x1 x2 x4)) then true else false) else false) else true)

def ref15_Run_ai3o_r0_0 (x0 : Int) (x1 : Int) (x2 : Int) (x4 : List Bool) : Bool := (bif tb (ref15_Right_ai3_r0_0 x0 x1 x2) then ((ref15_Run_ai3o_e0 x0 x1 x2 x4).c15) else false)

def ref15_Run_ai3o_r0_1 (x0 : Int) (x1 : Int) (x2 : Int) (x4 : List Bool) : Bool := (bif tb (ref15_Right_ai3_r0_0 x0 x1 x2) then ((ref15_Run_ai3o_e0 x0 x1 x2 x4).c16) else false)

def ref15_Run_ai3o_r0_2 (x0 : Int) (x1 : Int) (x2 : Int) (x4 : List Bool) : Int := (bif tb (ref15_Right_ai3_r0_0 x0 x1 x2) then ((ref15_Run_ai3o_e0 x0 x1 x2 x4).c17) else 0)

def ref15_Run_ai3o_r0_3 (x0 : Int) (x1 : Int) (x2 : Int) (x4 : List Bool) : Int := (bif tb (ref15_Right_ai3_r0_0 x0 x1 x2) then ((ref15_Run_ai3o_e0 x0 x1 x2 x4).c18) else 0)

def ref15_Run_ai3o_r0_4 (x0 : Int) (x1 : Int) (x2 : Int) (x4 : List Bool) : Int := (bif tb (ref15_Right_ai3_r0_0 x0 x1 x2) then ((ref15_Run_ai3o_e0 x0 x1 x2 x4).c19) else 0)

def ref15_Run_ai3o_r0_5 (x0 : Int) (x1 : Int) (x2 : Int) (x4 : List Bool) : Bool := (bif tb (ref15_Right_ai3_r0_0 x0 x1 x2) then ((ref15_Run_ai3o_e0 x0 x1 x2 x4).c2) else true)

def ref15_Run_ai3o_r0_6 (x0 : Int) (x1 : Int) (x2 : Int) : Int := (bif tb (ref15_Right_ai3_r0_0 x0 x1 x2) then 0 else 1)

def ref15_Run_ai3o_r0_7 (x0 : Int) (x1 : Int) (x2 : Int) (x4 : List Bool) : List Int := (bif tb (ref15_Right_ai3_r0_0 x0 x1 x2) then ((ref15_Run_ai3o_e0 x0 x1 x2 x4).c21) else ([] : List Int))

theorem ref15_Run_ai3o_t0 (x0 : Int) (x1 : Int) (x2 : Int) (x3 : Bool) (x4 : List Bool) : ref15_Run_ai3o_c0 x0 x1 x2 x4 = true → cl E0 41 [(V.agg [(V.d (.int .i64 x0)), (V.d (.int .i64 x1)), (V.d (.int .i64 x2))]), (V.d (slD encB true 1 x3 x4))] [] = some ([(V.agg [(V.d (.bool (ref15_Run_ai3o_r0_0 x0 x1 x2 x4))), (V.d (.bool (ref15_Run_ai3o_r0_1 x0 x1 x2 x4))), (V.d (.int .i64 (ref15_Run_ai3o_r0_2 x0 x1 x2 x4))), (V.d (.int .i64 (ref15_Run_ai3o_r0_3 x0 x1 x2 x4))), (V.d (.int .i64 (ref15_Run_ai3o_r0_4 x0 x1 x2 x4)))]), (V.so (ref15_Run_ai3o_r0_5 x0 x1 x2 x4) 0 ((ref15_Run_ai3o_r0_7 x0 x1 x2 x4).length)), (V.d (.int .i64 (ref15_Run_ai3o_r0_6 x0 x1 x2)))], [(Blk.flat 3 1 (List.map (encI .i64) (ref15_Run_ai3o_r0_7 x0 x1 x2 x4)) false)]) := by
  unfold ref15_Run_ai3o_c0 ref15_Run_ai3o_r0_0 ref15_Run_ai3o_r0_1 ref15_Run_ai3o_r0_2 ref15_Run_ai3o_r0_3 ref15_Run_ai3o_r0_4 ref15_Run_ai3o_r0_5 ref15_Run_ai3o_r0_6 ref15_Run_ai3o_r0_7
  cases h1 : tb (ref15_Right_ai3_r0_0 x0 x1 x2)
  · intro g0
    exact w41 [.c (ref15_Right_ai3_t0 x0 x1 x2), .b (notF (tbE h1))] (by kernel_rfl)
  · cases h2 : tb (ref15_Run_ai3o_L0_ok x0 x1 x2 x4 (⟨true, 0, false, false, 0, 0, 0, ([] : List Int)⟩ : ref15_Run_ai3o_L0_s0))
    · intro g0
      exact absurd g0 ft
    · cases h3 : tb (ref15_Run_ai3o_L0_c0 x4 (ref15_Run_ai3o_e0 x0 x1 x2 x4))
      · intro g0
        exact absurd g0 ft
      · intro g0
        exact w41 [.c (ref15_Right_ai3_t0 x0 x1 x2), .b (notT (tbE h1)), .l (ref15_Run_ai3o_L0_f0_0 x0 x1 x2 false false 0 0 0 false false 0 0 0 ([] : List Int) false false false false false x3 x4 true 0 (⟨true, 0, false, false, 0, 0, 0, ([] : List Int)⟩ : ref15_Run_ai3o_L0_s0) (tbE h2) (tbE h3))] (by kernel_rfl)

end Go.Proofs.Ytdjmfcdopaejcaa.Den

/- Layer 15: plain laws of one cycle. -/
namespace Go.Proofs.Ytdjmfcdopaejcaa.Den
open Go Go.Proofs
set_option linter.unusedVariables false
set_option linter.unusedSimpArgs false

def rightP (L C B : Int) : Prop := (1 ≤ L ∧ L ≤ 100) ∧ (1 ≤ C ∧ C ≤ 1000) ∧ (0 ≤ B ∧ B ≤ 10)

def fineP (L C B : Int) (l o : Bool) (st cl bk : Int) : Prop := rightP L C B ∧
  ((l = false ∧ o = false ∧ (0 ≤ st ∧ st < L) ∧ cl = 0 ∧ (0 ≤ bk ∧ bk ≤ B)) ∨ (l = true ∧ o = false ∧ st = L ∧ (0 ≤ cl ∧ cl < C) ∧ (0 ≤ bk ∧ bk < B)) ∨ (l = true ∧ o = true ∧ st = L ∧ cl = 0 ∧ bk = B))

theorem rightL (L C B : Int) : latch_Right_ai3_r0_0 L C B = true ↔ rightP L C B := by
  simp only [latch_Right_ai3_r0_0, latch_within_iii_r0_0, tb, rightP]
  by_cases h1 : 1 ≤ L <;> by_cases h2 : L ≤ 100 <;> by_cases h3 : 1 ≤ C <;> by_cases h4 : C ≤ 1000 <;> by_cases h5 : 0 ≤ B <;> by_cases h6 : B ≤ 10 <;> simp [h1, h2, h3, h4, h5, h6]

theorem rightR (L C B : Int) : ref15_Right_ai3_r0_0 L C B = true ↔ rightP L C B := by
  simp only [ref15_Right_ai3_r0_0, tb, rightP]
  by_cases h1 : 1 ≤ L <;> by_cases h2 : L ≤ 100 <;> by_cases h3 : 1 ≤ C <;> by_cases h4 : C ≤ 1000 <;> by_cases h5 : 0 ≤ B <;> by_cases h6 : B ≤ 10 <;> simp [h1, h2, h3, h4, h5, h6]

theorem bif_tf (b : Bool) : (bif b then true else false) = b := by cases b <;> rfl

theorem fineL {L C B st cl bk : Int} {l o : Bool} : latch_Fine_ai3ab2i3_r0_0 L C B l o st cl bk = true ↔ fineP L C B l o st cl bk := by
  by_cases hr : rightP L C B
  · have e1 := (rightL L C B).2 hr
    unfold rightP at hr
    have w1 : wi (L - 1) = L - 1 := wi_eq (by omega) (by omega)
    have w2 : wi (C - 1) = C - 1 := wi_eq (by omega) (by omega)
    have w3 : wi (B - 1) = B - 1 := wi_eq (by omega) (by omega)
    have hr' : rightP L C B := hr
    simp only [latch_Fine_ai3ab2i3_r0_0, e1, latch_out_fine_ab2i3ai3_r0_0, latch_latched_fine_ab2i3ai3_r0_0, latch_in_fine_ab2i3ai3_r0_0, latch_within_iii_r0_0, latch_of_ab2i3_c0, latch_of_ab2i3_c1, latch_of_ab2i3_c2, tb, w1, w2, w3, fineP]
    cases l <;> cases o <;> simp [hr', Bool.cond_eq_ite] <;> omega
  · have e1 : latch_Right_ai3_r0_0 L C B = false := by cases h : latch_Right_ai3_r0_0 L C B with
      | false => rfl
      | true => exact absurd ((rightL L C B).1 h) hr
    simp only [latch_Fine_ai3ab2i3_r0_0, e1, tb, cond_false, fineP]
    cases latch_of_ab2i3_c0 l o <;> cases latch_of_ab2i3_c1 l o <;> cases latch_of_ab2i3_c2 l o <;> simp [hr]

theorem fineR {L C B st cl bk : Int} {l o : Bool} : ref15_Fine_ai3ab2i3_r0_0 L C B l o st cl bk = true ↔ fineP L C B l o st cl bk := by
  by_cases hr : rightP L C B
  · have e1 := (rightR L C B).2 hr
    unfold rightP at hr
    have hr' : rightP L C B := hr
    simp only [ref15_Fine_ai3ab2i3_r0_0, e1, ref15_Fine_ai3ab2i3_S0_c0, ref15_Fine_ai3ab2i3_S1_c0, ref15_Fine_ai3ab2i3_S1_r0_0, ref15_Fine_ai3ab2i3_S2_c0, ref15_Fine_ai3ab2i3_S2_r0_0, ref15_Fine_ai3ab2i3_S3_r0_0, tb, fineP]
    cases l <;> cases o <;> simp [hr', Bool.cond_eq_ite] <;> omega
  · have e1 : ref15_Right_ai3_r0_0 L C B = false := by cases h : ref15_Right_ai3_r0_0 L C B with
      | false => rfl
      | true => exact absurd ((rightR L C B).1 h) hr
    simp only [ref15_Fine_ai3ab2i3_r0_0, e1, tb, ref15_Fine_ai3ab2i3_S0_c0, cond_false, cond_true, fineP]
    simp [hr]

theorem bool_iff {a b : Bool} {p : Prop} (h1 : a = true ↔ p) (h2 : b = true ↔ p) : a = b := by
  cases a <;> cases b <;> simp_all

theorem right_eq (L C B : Int) : latch_Right_ai3_r0_0 L C B = ref15_Right_ai3_r0_0 L C B := bool_iff (rightL L C B) (rightR L C B)
theorem fine_eq (L C B : Int) (l o : Bool) (st cl bk : Int) : latch_Fine_ai3ab2i3_r0_0 L C B l o st cl bk = ref15_Fine_ai3ab2i3_r0_0 L C B l o st cl bk := bool_iff fineL fineR

/-- What one cycle is. -/
structure LS where
  l : Bool
  o : Bool
  st : Int
  cl : Int
  bk : Int

def LS.fine (L C B : Int) (s : LS) : Prop := fineP L C B s.l s.o s.st s.cl s.bk

def lnext (L C B : Int) (s : LS) (t : Bool) : LS × Int :=
  if s.o then (s, 0)
  else if s.l then (if t then ({ s with cl := 0 }, 0) else if s.cl + 1 = C then (⟨false, false, 0, 0, s.bk + 1⟩, 2) else ({ s with cl := s.cl + 1 }, 0))
  else if t then (if s.st + 1 < L then ({ s with st := s.st + 1 }, 0) else if s.bk = B then (⟨true, true, s.st + 1, s.cl, s.bk⟩, 3) else (⟨true, false, s.st + 1, s.cl, s.bk⟩, 1))
  else ({ s with st := 0 }, 0)

theorem lnext_fine {L C B : Int} {s : LS} (h : s.fine L C B) (t : Bool) : (lnext L C B s t).1.fine L C B := by
  obtain ⟨l, o, st, cl, bk⟩ := s
  obtain ⟨hr, h⟩ := h
  have hr' := hr
  unfold rightP at hr
  simp only at h
  unfold lnext LS.fine fineP
  rcases h with ⟨rfl, rfl, h⟩ | ⟨rfl, rfl, h⟩ | ⟨rfl, rfl, h⟩ <;> cases t <;> simp only [Bool.false_eq_true, if_false, if_true] <;> (repeat' split) <;> simp [hr'] <;> omega

theorem lnext_L {L C B : Int} {s : LS} (h : s.fine L C B) (t : Bool) :
    latch_Next_ai3ab2i3b_c0 L C B s.l s.o s.st s.cl s.bk = true ∧
    (⟨latch_Next_ai3ab2i3b_r0_0 L C B s.l s.o s.st s.cl s.bk t, latch_Next_ai3ab2i3b_r0_1 L C B s.l s.o s.st s.cl s.bk t, latch_Next_ai3ab2i3b_r0_2 L C B s.l s.o s.st s.cl s.bk t,
      latch_Next_ai3ab2i3b_r0_3 L C B s.l s.o s.st s.cl s.bk t, latch_Next_ai3ab2i3b_r0_4 L C B s.l s.o s.st s.cl s.bk t⟩ : LS) = (lnext L C B s t).1 ∧
    latch_Next_ai3ab2i3b_r0_5 L C B s.l s.o s.st s.cl s.bk t = (lnext L C B s t).2 ∧ latch_Next_ai3ab2i3b_r0_6 L C B s.l s.o s.st s.cl s.bk = 0 := by
  have hf := fineL.2 h
  obtain ⟨l, o, st, cl, bk⟩ := s
  obtain ⟨hr, h⟩ := h
  unfold rightP at hr
  simp only at h hf
  have w1 : wi (st + 1) = st + 1 := wi_eq (by omega) (by omega)
  have w2 : wi (cl + 1) = cl + 1 := wi_eq (by omega) (by omega)
  have w3 : wi (bk + 1) = bk + 1 := wi_eq (by omega) (by omega)
  simp only [latch_Next_ai3ab2i3b_c0, latch_Next_ai3ab2i3b_r0_0, latch_Next_ai3ab2i3b_r0_1, latch_Next_ai3ab2i3b_r0_2, latch_Next_ai3ab2i3b_r0_3, latch_Next_ai3ab2i3b_r0_4, latch_Next_ai3ab2i3b_r0_5, latch_Next_ai3ab2i3b_r0_6,
    latch_latched_next_ab2i3ai3b_r0_0, latch_latched_next_ab2i3ai3b_r0_1, latch_latched_next_ab2i3ai3b_r0_2, latch_latched_next_ab2i3ai3b_r0_3, latch_latched_next_ab2i3ai3b_r0_4, latch_latched_next_ab2i3ai3b_r0_5,
    latch_in_next_ab2i3ai3b_r0_0, latch_in_next_ab2i3ai3b_r0_1, latch_in_next_ab2i3ai3b_r0_2, latch_in_next_ab2i3ai3b_r0_5, latch_of_ab2i3_c0, latch_of_ab2i3_c1, latch_of_ab2i3_c2, hf, tb, w1, w2, w3, cond_true, cond_false, lnext, Bool.cond_eq_ite]
  rcases h with ⟨rfl, rfl, h⟩ | ⟨rfl, rfl, h⟩ | ⟨rfl, rfl, h⟩ <;> cases t <;> simp <;> (repeat' split) <;> simp_all <;> omega

theorem lnext_R {L C B : Int} {s : LS} (h : s.fine L C B) (t : Bool) :
    (⟨ref15_Next_ai3ab2i3b_r0_0 L C B s.l s.o s.st s.cl s.bk t, ref15_Next_ai3ab2i3b_r0_1 L C B s.l s.o s.st s.cl s.bk t, ref15_Next_ai3ab2i3b_r0_2 L C B s.l s.o s.st s.cl s.bk t,
      ref15_Next_ai3ab2i3b_r0_3 L C B s.l s.o s.st s.cl s.bk t, ref15_Next_ai3ab2i3b_r0_4 L C B s.l s.o s.st s.cl s.bk t⟩ : LS) = (lnext L C B s t).1 ∧
    ref15_Next_ai3ab2i3b_r0_5 L C B s.l s.o s.st s.cl s.bk t = (lnext L C B s t).2 ∧ ref15_Next_ai3ab2i3b_r0_6 L C B s.l s.o s.st s.cl s.bk = 0 := by
  have hf := fineR.2 h
  obtain ⟨l, o, st, cl, bk⟩ := s
  obtain ⟨hr, h⟩ := h
  unfold rightP at hr
  simp only at h hf
  have w1 : wi (st + 1) = st + 1 := wi_eq (by omega) (by omega)
  have w2 : wi (cl + 1) = cl + 1 := wi_eq (by omega) (by omega)
  have w3 : wi (bk + 1) = bk + 1 := wi_eq (by omega) (by omega)
  simp only [ref15_Next_ai3ab2i3b_r0_0, ref15_Next_ai3ab2i3b_r0_1, ref15_Next_ai3ab2i3b_r0_2, ref15_Next_ai3ab2i3b_r0_3, ref15_Next_ai3ab2i3b_r0_4, ref15_Next_ai3ab2i3b_r0_5, ref15_Next_ai3ab2i3b_r0_6,
    ref15_Next_ai3ab2i3b_S0_c0, ref15_Next_ai3ab2i3b_S1_c0, ref15_Next_ai3ab2i3b_S2_c0, ref15_Next_ai3ab2i3b_S2_r0_0, ref15_Next_ai3ab2i3b_S2_r0_12, ref15_Next_ai3ab2i3b_S2_r0_13, ref15_Next_ai3ab2i3b_S2_r0_14,
    ref15_Next_ai3ab2i3b_S2_r0_15, ref15_Next_ai3ab2i3b_S2_r0_16, ref15_Next_ai3ab2i3b_S3_c0, ref15_Next_ai3ab2i3b_S4_c0, ref15_Next_ai3ab2i3b_S5_c0, hf, tb, w1, w2, w3, cond_true, cond_false, lnext, Bool.cond_eq_ite]
  rcases h with ⟨rfl, rfl, h⟩ | ⟨rfl, rfl, h⟩ | ⟨rfl, rfl, h⟩ <;> cases t <;> simp <;> (repeat' split) <;> simp_all <;> omega

end Go.Proofs.Ytdjmfcdopaejcaa.Den

/- Layer 15: plain laws of runs. -/
namespace Go.Proofs.Ytdjmfcdopaejcaa.Den
open Go Go.Proofs
set_option linter.unusedVariables false
set_option linter.unusedSimpArgs false

def lrun (L C B : Int) : LS → List Bool → LS × List Int
  | s, [] => (s, [])
  | s, t :: r => let n := lnext L C B s t; let q := lrun L C B n.1 r; (q.1, n.2 :: q.2)

theorem lrun_append {L C B : Int} : ∀ {a : List Bool} {b : List Bool} {s : LS}, lrun L C B s (a ++ b) = ((lrun L C B (lrun L C B s a).1 b).1, (lrun L C B s a).2 ++ (lrun L C B (lrun L C B s a).1 b).2)
  | [], b, s => by simp [lrun]
  | t :: a, b, s => by simp only [List.cons_append, lrun, lrun_append (a := a)]

theorem lrun_fine {L C B : Int} : ∀ {a : List Bool} {s : LS}, s.fine L C B → (lrun L C B s a).1.fine L C B
  | [], s, h => h
  | t :: a, s, h => lrun_fine (a := a) (lnext_fine h t)

theorem lrun_len {L C B : Int} : ∀ {a : List Bool} {s : LS}, (lrun L C B s a).2.length = a.length
  | [], s => rfl
  | t :: a, s => by simp [lrun, lrun_len (a := a)]

def LS0 : LS := ⟨false, false, 0, 0, 0⟩

theorem LS0_fine {L C B : Int} (h : rightP L C B) : LS0.fine L C B := ⟨h, .inl ⟨rfl, rfl, ⟨Int.le_refl _, by have := h.1.1; simp only [LS0]; omega⟩, rfl, ⟨Int.le_refl _, h.2.2.1⟩⟩⟩

def runSt (b : Bool) (i : Nat) (q : LS × List Int) : latch_Run_ai3o_L0_s0 := ⟨b, i, q.1.l, q.1.o, q.1.st, q.1.cl, q.1.bk, q.2⟩
def runStR (b : Bool) (i : Nat) (q : LS × List Int) : ref15_Run_ai3o_L0_s0 := ⟨b, i, q.1.l, q.1.o, q.1.st, q.1.cl, q.1.bk, q.2⟩

theorem lrun_succ {L C B : Int} {l : List Bool} {k : Nat} (h : k < l.length) {s : LS} :
    lrun L C B s (l.take (k + 1)) = ((lnext L C B (lrun L C B s (l.take k)).1 (gt l (k : Int))).1, (lrun L C B s (l.take k)).2 ++ [(lnext L C B (lrun L C B s (l.take k)).1 (gt l (k : Int))).2]) := by
  rw [take_succ_gt h, lrun_append]; rfl

/-- The runs. -/
theorem runL {L C B : Int} (hr : rightP L C B) (l : List Bool) (hl : l.length ≤ 100000) : latch_Run_ai3o_c0 L C B l = true ∧ latch_Run_ai3o_e0 L C B l = runSt (l.length == 0) l.length (lrun L C B LS0 l) := by
  have e1 := (rightL L C B).2 hr
  let st : Nat → latch_Run_ai3o_L0_s0 := fun k => runSt (k == 0) k (lrun L C B LS0 (l.take k))
  have hit : itS (latch_Run_ai3o_L0_sel L C B l (l.length : Int)) (latch_Run_ai3o_L0_nx L C B l (l.length : Int)) bound (st 0) = some (st l.length) := by
    refine loop_seq st l.length (by omega) (fun k hk => ?_) ?_
    · have hf : (lrun L C B LS0 (l.take k)).1.fine L C B := lrun_fine (LS0_fine hr)
      obtain ⟨a1, a2, a3, _⟩ := lnext_L hf (gt l (k : Int))
      have hlen : (lrun L C B LS0 (l.take k)).2.length = k := by rw [lrun_len]; simp; omega
      constructor
      · simp only [st, runSt, latch_Run_ai3o_L0_sel, a1, inb_of (n := l.length) (i := (k : Int)) (by omega) (by omega), tb, hlen, List.length_singleton]
        have h2 : (k + 1) * 8 ≤ 140737488355328 := by omega
        simp [hk, h2]
      · simp only [st, runSt, latch_Run_ai3o_L0_nx, latch_Run_ai3o_L0_h0_e0, a3]
        rw [lrun_succ hk, ← a2, wi_eq (by omega) (by omega)]
        simp
    · simp [st, runSt, latch_Run_ai3o_L0_sel, tb]
  have h0 : st 0 = (⟨true, 0, false, false, 0, 0, 0, ([] : List Int)⟩ : latch_Run_ai3o_L0_s0) := rfl
  rw [h0] at hit
  have he : latch_Run_ai3o_e0 L C B l = st l.length := by
    simp only [latch_Run_ai3o_e0, latch_Run_ai3o_L0_end, hit]; rfl
  refine ⟨?_, by rw [he]; simp [st]⟩
  simp only [latch_Run_ai3o_c0, e1, latch_Run_ai3o_L0_ok, hit, he, tb, latch_Run_ai3o_L0_c0]
  simp [st, runSt]

theorem runR {L C B : Int} (hr : rightP L C B) (l : List Bool) (hl : l.length ≤ 100000) : ref15_Run_ai3o_c0 L C B l = true ∧ ref15_Run_ai3o_e0 L C B l = runStR (l.length == 0) l.length (lrun L C B LS0 l) := by
  have e1 := (rightR L C B).2 hr
  let st : Nat → ref15_Run_ai3o_L0_s0 := fun k => runStR (k == 0) k (lrun L C B LS0 (l.take k))
  have hit : itS (ref15_Run_ai3o_L0_sel L C B l) (ref15_Run_ai3o_L0_nx L C B l) bound (st 0) = some (st l.length) := by
    refine loop_seq st l.length (by omega) (fun k hk => ?_) ?_
    · have hf : (lrun L C B LS0 (l.take k)).1.fine L C B := lrun_fine (LS0_fine hr)
      obtain ⟨a2, a3, _⟩ := lnext_R hf (gt l (k : Int))
      have hlen : (lrun L C B LS0 (l.take k)).2.length = k := by rw [lrun_len]; simp; omega
      constructor
      · simp only [st, runStR, ref15_Run_ai3o_L0_sel, inb_of (n := l.length) (i := (k : Int)) (by omega) (by omega), tb, hlen, List.length_singleton]
        have h2 : (k + 1) * 8 ≤ 140737488355328 := by omega
        simp [hk, h2]
      · simp only [st, runStR, ref15_Run_ai3o_L0_nx, ref15_Run_ai3o_L0_h0_e0, a3]
        rw [lrun_succ hk, ← a2, wi_eq (by omega) (by omega)]
        simp
    · simp [st, runStR, ref15_Run_ai3o_L0_sel, tb]
  have h0 : st 0 = (⟨true, 0, false, false, 0, 0, 0, ([] : List Int)⟩ : ref15_Run_ai3o_L0_s0) := rfl
  rw [h0] at hit
  have he : ref15_Run_ai3o_e0 L C B l = st l.length := by
    simp only [ref15_Run_ai3o_e0, ref15_Run_ai3o_L0_end, hit]; rfl
  refine ⟨?_, by rw [he]; simp [st]⟩
  simp only [ref15_Run_ai3o_c0, e1, ref15_Run_ai3o_L0_ok, hit, he, tb, ref15_Run_ai3o_L0_c0]
  simp [st, runStR]

end Go.Proofs.Ytdjmfcdopaejcaa.Den

namespace Go.Proofs.Ytdjmfcdopaejcaa.Den
open Go Go.Proofs
set_option maxRecDepth 100000
set_option maxHeartbeats 4000000
set_option linter.unusedVariables false
set_option linter.unusedSimpArgs false

theorem law15_alive_t0 : cl E0 35 [] [] = some ([(V.d (.bool true))], []) := cl_of (n := 60) (by kernel_rfl)

end Go.Proofs.Ytdjmfcdopaejcaa.Den

namespace Go.Proofs.Ytdjmfcdopaejcaa.Den
open Go Go.Proofs
set_option maxRecDepth 100000
set_option maxHeartbeats 4000000
set_option linter.unusedVariables false
set_option linter.unusedSimpArgs false

def law15_LatchRow_S0_c0 (x0 : Int) (x1 : Int) (x2 : Int) (x5 : List Bool) : Bool := (bif tb (latch_Right_ai3_r0_0 x0 x1 x2) then (bif tb (decide (300 < ((x5.length : Nat) : Int))) then true else false) else true)

theorem law15_LatchRow_S0_t0 (x0 : Int) (x1 : Int) (x2 : Int) (x3 : Bool) (x4 : Bool) (x5 : List Bool) : law15_LatchRow_S0_c0 x0 x1 x2 x5 = true → segG (runC E0 (cl E0) S8_0) [1, 2] [4] [1, 2] 1 ([(V.d (slD encB true 1 x4 x5)), (V.ptr 0 1 0 0)], [(Blk.flat 40 3 [[(.int .i64 x0), (.int .i64 x1), (.int .i64 x2)]] x3)]) = some (.ret, ([(V.d (.bool true))], [(Blk.flat 40 3 [[(.int .i64 x0), (.int .i64 x1), (.int .i64 x2)]] x3)])) := by
  unfold law15_LatchRow_S0_c0
  cases h1 : tb (latch_Right_ai3_r0_0 x0 x1 x2)
  · intro g0
    exact seg_walk [.c (latch_Right_ai3_t0 x0 x1 x2), .b (notF (tbE h1)), .c (law15_alive_t0)] (by kernel_rfl)
  · cases h2 : tb (decide (300 < ((x5.length : Nat) : Int)))
    · intro g0
      exact absurd g0 ft
    · intro g0
      exact seg_walk [.c (latch_Right_ai3_t0 x0 x1 x2), .b (notT (tbE h1)), .o 22 (fun _ => o_len_os (enc := encB) (l := x5) (fl := true) (n := x4) (s := 1)), .b (tbE h2), .c (law15_alive_t0)] (by kernel_rfl)

theorem law15_LatchRow_S0_t1 (x0 : Int) (x1 : Int) (x2 : Int) (x3 : Bool) (x4 : Bool) (x5 : List Bool) : law15_LatchRow_S0_c0 x0 x1 x2 x5 = false → segG (runC E0 (cl E0) S8_0) [1, 2] [4] [1, 2] 1 ([(V.d (slD encB true 1 x4 x5)), (V.ptr 0 1 0 0)], [(Blk.flat 40 3 [[(.int .i64 x0), (.int .i64 x1), (.int .i64 x2)]] x3)]) = some (.normal, ([(V.d (slD encB true 1 x4 x5)), (V.ptr 0 1 0 0)], [(Blk.flat 40 3 [[(.int .i64 x0), (.int .i64 x1), (.int .i64 x2)]] x3)])) := by
  unfold law15_LatchRow_S0_c0
  cases h1 : tb (latch_Right_ai3_r0_0 x0 x1 x2)
  · intro g0
    exact absurd g0 tf
  · cases h2 : tb (decide (300 < ((x5.length : Nat) : Int)))
    · intro g0
      exact seg_walk [.c (latch_Right_ai3_t0 x0 x1 x2), .b (notT (tbE h1)), .o 22 (fun _ => o_len_os (enc := encB) (l := x5) (fl := true) (n := x4) (s := 1)), .b (tbE h2)] (by kernel_rfl)
    · intro g0
      exact absurd g0 tf

def law15_LatchRow_S1_c0 (x13 : List Bool) (x19 : Int) : Bool := (bif tb (decide (x19 < ((x13.length : Nat) : Int))) then true else false)

theorem law15_LatchRow_S1_t0 (x0 : Int) (x1 : Int) (x2 : Int) (x3 : List Int) (x4 : Bool) (x5 : Bool) (x6 : Int) (x7 : Int) (x8 : Int) (x9 : Bool) (x10 : Bool) (x11 : Bool) (x12 : Bool) (x13 : List Bool) (x14 : Bool) (x15 : Bool) (x16 : Bool) (x17 : Int) (x18 : Int) (x19 : Int) : law15_LatchRow_S1_c0 x13 x19 = true → segG (runC E0 (cl E0) S8_1) [1, 2, 6, 8, 9, 10, 11, 12] [1, 2, 8, 9, 11] [1, 2, 6, 8, 9, 10, 11, 12] 3 ([(V.d (slD encB true 1 x12 x13)), (V.ptr 0 1 0 0), (V.so x14 1 x3.length), (V.d (.bool x15)), (V.d (.bool x16)), (V.d (.int .i64 x17)), (V.d (.int .i64 x18)), (V.d (.int .i64 x19))], [(Blk.flat 40 3 [[(.int .i64 x0), (.int .i64 x1), (.int .i64 x2)]] x9), (Blk.flat 3 1 (List.map (encI .i64) x3) x10), (Blk.flat 42 5 [[(.bool x4), (.bool x5), (.int .i64 x6), (.int .i64 x7), (.int .i64 x8)]] x11)]) = some (.normal, ([(V.d (slD encB true 1 x12 x13)), (V.ptr 0 1 0 0), (V.so x14 1 x3.length), (V.d (.bool x15)), (V.d (.bool x16)), (V.d (.int .i64 x17)), (V.d (.int .i64 x18)), (V.d (.int .i64 x19))], [(Blk.flat 40 3 [[(.int .i64 x0), (.int .i64 x1), (.int .i64 x2)]] x9), (Blk.flat 3 1 (List.map (encI .i64) x3) x10), (Blk.flat 42 5 [[(.bool x4), (.bool x5), (.int .i64 x6), (.int .i64 x7), (.int .i64 x8)]] x11)])) := by
  unfold law15_LatchRow_S1_c0
  cases h1 : tb (decide (x19 < ((x13.length : Nat) : Int)))
  · intro g0
    exact absurd g0 ft
  · intro g0
    exact seg_walk [.o 44 (fun _ => o_len_os (enc := encB) (l := x13) (fl := true) (n := x12) (s := 1)), .b (tbE h1)] (by kernel_rfl)

theorem law15_LatchRow_S1_t1 (x0 : Int) (x1 : Int) (x2 : Int) (x3 : List Int) (x4 : Bool) (x5 : Bool) (x6 : Int) (x7 : Int) (x8 : Int) (x9 : Bool) (x10 : Bool) (x11 : Bool) (x12 : Bool) (x13 : List Bool) (x14 : Bool) (x15 : Bool) (x16 : Bool) (x17 : Int) (x18 : Int) (x19 : Int) : law15_LatchRow_S1_c0 x13 x19 = false → segG (runC E0 (cl E0) S8_1) [1, 2, 6, 8, 9, 10, 11, 12] [1, 2, 8, 9, 11] [1, 2, 6, 8, 9, 10, 11, 12] 3 ([(V.d (slD encB true 1 x12 x13)), (V.ptr 0 1 0 0), (V.so x14 1 x3.length), (V.d (.bool x15)), (V.d (.bool x16)), (V.d (.int .i64 x17)), (V.d (.int .i64 x18)), (V.d (.int .i64 x19))], [(Blk.flat 40 3 [[(.int .i64 x0), (.int .i64 x1), (.int .i64 x2)]] x9), (Blk.flat 3 1 (List.map (encI .i64) x3) x10), (Blk.flat 42 5 [[(.bool x4), (.bool x5), (.int .i64 x6), (.int .i64 x7), (.int .i64 x8)]] x11)]) = some ((.exit 0), ([(V.d (slD encB true 1 x12 x13)), (V.ptr 0 1 0 0), (V.d (.bool x15)), (V.d (.bool x16)), (V.d (.int .i64 x18))], [(Blk.flat 40 3 [[(.int .i64 x0), (.int .i64 x1), (.int .i64 x2)]] x9), (Blk.flat 3 1 (List.map (encI .i64) x3) x10), (Blk.flat 42 5 [[(.bool x4), (.bool x5), (.int .i64 x6), (.int .i64 x7), (.int .i64 x8)]] x11)])) := by
  unfold law15_LatchRow_S1_c0
  cases h1 : tb (decide (x19 < ((x13.length : Nat) : Int)))
  · intro g0
    exact seg_walk [.o 44 (fun _ => o_len_os (enc := encB) (l := x13) (fl := true) (n := x12) (s := 1)), .b (tbE h1)] (by kernel_rfl)
  · intro g0
    exact absurd g0 tf

def law15_LatchRow_S2_c0 (x3 : List Int) (x16 : Bool) (x19 : Int) : Bool := (bif tb (x16) then (bif tb (inb x3.length x19) then (bif tb (((gt x3 x19) : Int) != 0) then true else false) else false) else false)

def law15_LatchRow_S2_c1 (x3 : List Int) (x16 : Bool) (x19 : Int) : Bool := (bif tb (x16) then (bif tb (inb x3.length x19) then (bif tb (((gt x3 x19) : Int) != 0) then false else true) else false) else false)

def law15_LatchRow_S2_c2 (x16 : Bool) : Bool := (bif tb (x16) then false else true)

theorem law15_LatchRow_S2_t0 (x0 : Int) (x1 : Int) (x2 : Int) (x3 : List Int) (x4 : Bool) (x5 : Bool) (x6 : Int) (x7 : Int) (x8 : Int) (x9 : Bool) (x10 : Bool) (x11 : Bool) (x12 : Bool) (x13 : List Bool) (x14 : Bool) (x15 : Bool) (x16 : Bool) (x17 : Int) (x18 : Int) (x19 : Int) : law15_LatchRow_S2_c0 x3 x16 x19 = true → segG (runC E0 (cl E0) S8_2) [1, 2, 6, 8, 9, 10, 11, 12] [1, 2, 4, 6, 8, 9, 10, 11, 12] [1, 2, 6, 8, 9, 10, 11, 12] 3 ([(V.d (slD encB true 1 x12 x13)), (V.ptr 0 1 0 0), (V.so x14 1 x3.length), (V.d (.bool x15)), (V.d (.bool x16)), (V.d (.int .i64 x17)), (V.d (.int .i64 x18)), (V.d (.int .i64 x19))], [(Blk.flat 40 3 [[(.int .i64 x0), (.int .i64 x1), (.int .i64 x2)]] x9), (Blk.flat 3 1 (List.map (encI .i64) x3) x10), (Blk.flat 42 5 [[(.bool x4), (.bool x5), (.int .i64 x6), (.int .i64 x7), (.int .i64 x8)]] x11)]) = some (.ret, ([(V.d (slD encB true 1 x12 x13)), (V.ptr 0 1 0 0), (V.d (.bool false)), (V.so x14 1 x3.length), (V.d (.bool x15)), (V.d (.bool x16)), (V.d (.int .i64 x17)), (V.d (.int .i64 x18)), (V.d (.int .i64 x19))], [(Blk.flat 40 3 [[(.int .i64 x0), (.int .i64 x1), (.int .i64 x2)]] x9), (Blk.flat 3 1 (List.map (encI .i64) x3) x10), (Blk.flat 42 5 [[(.bool x4), (.bool x5), (.int .i64 x6), (.int .i64 x7), (.int .i64 x8)]] x11)])) := by
  unfold law15_LatchRow_S2_c0
  cases h1 : tb (x16)
  · intro g0
    exact absurd g0 ft
  · cases h2 : tb (inb x3.length x19)
    · intro g0
      exact absurd g0 ft
    · cases h3 : tb (((gt x3 x19) : Int) != 0)
      · intro g0
        exact absurd g0 ft
      · intro g0
        exact seg_walk [.b (tbE h1), .m 51 (o_idx_so (m := [(Blk.flat 40 3 [[(.int .i64 x0), (.int .i64 x1), (.int .i64 x2)]] x9), (Blk.flat 3 1 (List.map (encI .i64) x3) x10), (Blk.flat 42 5 [[(.bool x4), (.bool x5), (.int .i64 x6), (.int .i64 x7), (.int .i64 x8)]] x11)]) (b := x14) (id := 1) (n := x3.length) (s := 1) (k := .i64) (by kernel_rfl) (tbE h2)), .m 52 (o_load_L (m := [(Blk.flat 40 3 [[(.int .i64 x0), (.int .i64 x1), (.int .i64 x2)]] x9), (Blk.flat 3 1 (List.map (encI .i64) x3) x10), (Blk.flat 42 5 [[(.bool x4), (.bool x5), (.int .i64 x6), (.int .i64 x7), (.int .i64 x8)]] x11)]) (enc := (encI .i64)) (l := x3) (id := 1) (e := 3) (s := 1) (off := 0) (size := 1) (p := x10) (agg := false) (i := x19) (v := (V.d (.int .i64 (gt x3 x19)))) (n := x3.length) (Nat.beq_refl _) (by kernel_rfl) (tbE h2) (by kernel_rfl)), .b (tbE h3)] (by kernel_rfl)

theorem law15_LatchRow_S2_t1 (x0 : Int) (x1 : Int) (x2 : Int) (x3 : List Int) (x4 : Bool) (x5 : Bool) (x6 : Int) (x7 : Int) (x8 : Int) (x9 : Bool) (x10 : Bool) (x11 : Bool) (x12 : Bool) (x13 : List Bool) (x14 : Bool) (x15 : Bool) (x16 : Bool) (x17 : Int) (x18 : Int) (x19 : Int) : law15_LatchRow_S2_c0 x3 x16 x19 = false → law15_LatchRow_S2_c1 x3 x16 x19 = true → segG (runC E0 (cl E0) S8_2) [1, 2, 6, 8, 9, 10, 11, 12] [1, 2, 4, 6, 8, 9, 10, 11, 12] [1, 2, 6, 8, 9, 10, 11, 12] 3 ([(V.d (slD encB true 1 x12 x13)), (V.ptr 0 1 0 0), (V.so x14 1 x3.length), (V.d (.bool x15)), (V.d (.bool x16)), (V.d (.int .i64 x17)), (V.d (.int .i64 x18)), (V.d (.int .i64 x19))], [(Blk.flat 40 3 [[(.int .i64 x0), (.int .i64 x1), (.int .i64 x2)]] x9), (Blk.flat 3 1 (List.map (encI .i64) x3) x10), (Blk.flat 42 5 [[(.bool x4), (.bool x5), (.int .i64 x6), (.int .i64 x7), (.int .i64 x8)]] x11)]) = some ((.exit 1), ([(V.d (slD encB true 1 x12 x13)), (V.ptr 0 1 0 0), V.un, (V.so x14 1 x3.length), (V.d (.bool x15)), (V.d (.bool x16)), (V.d (.int .i64 x17)), (V.d (.int .i64 x18)), (V.d (.int .i64 x19))], [(Blk.flat 40 3 [[(.int .i64 x0), (.int .i64 x1), (.int .i64 x2)]] x9), (Blk.flat 3 1 (List.map (encI .i64) x3) x10), (Blk.flat 42 5 [[(.bool x4), (.bool x5), (.int .i64 x6), (.int .i64 x7), (.int .i64 x8)]] x11)])) := by
  unfold law15_LatchRow_S2_c0 law15_LatchRow_S2_c1
  cases h1 : tb (x16)
  · intro g0 g1
    exact absurd g1 ft
  · cases h2 : tb (inb x3.length x19)
    · intro g0 g1
      exact absurd g1 ft
    · cases h3 : tb (((gt x3 x19) : Int) != 0)
      · intro g0 g1
        exact seg_walk [.b (tbE h1), .m 51 (o_idx_so (m := [(Blk.flat 40 3 [[(.int .i64 x0), (.int .i64 x1), (.int .i64 x2)]] x9), (Blk.flat 3 1 (List.map (encI .i64) x3) x10), (Blk.flat 42 5 [[(.bool x4), (.bool x5), (.int .i64 x6), (.int .i64 x7), (.int .i64 x8)]] x11)]) (b := x14) (id := 1) (n := x3.length) (s := 1) (k := .i64) (by kernel_rfl) (tbE h2)), .m 52 (o_load_L (m := [(Blk.flat 40 3 [[(.int .i64 x0), (.int .i64 x1), (.int .i64 x2)]] x9), (Blk.flat 3 1 (List.map (encI .i64) x3) x10), (Blk.flat 42 5 [[(.bool x4), (.bool x5), (.int .i64 x6), (.int .i64 x7), (.int .i64 x8)]] x11)]) (enc := (encI .i64)) (l := x3) (id := 1) (e := 3) (s := 1) (off := 0) (size := 1) (p := x10) (agg := false) (i := x19) (v := (V.d (.int .i64 (gt x3 x19)))) (n := x3.length) (Nat.beq_refl _) (by kernel_rfl) (tbE h2) (by kernel_rfl)), .b (tbE h3)] (by kernel_rfl)
      · intro g0 g1
        exact absurd g0 tf

theorem law15_LatchRow_S2_t2 (x0 : Int) (x1 : Int) (x2 : Int) (x3 : List Int) (x4 : Bool) (x5 : Bool) (x6 : Int) (x7 : Int) (x8 : Int) (x9 : Bool) (x10 : Bool) (x11 : Bool) (x12 : Bool) (x13 : List Bool) (x14 : Bool) (x15 : Bool) (x16 : Bool) (x17 : Int) (x18 : Int) (x19 : Int) : law15_LatchRow_S2_c0 x3 x16 x19 = false → law15_LatchRow_S2_c1 x3 x16 x19 = false → law15_LatchRow_S2_c2 x16 = true → segG (runC E0 (cl E0) S8_2) [1, 2, 6, 8, 9, 10, 11, 12] [1, 2, 4, 6, 8, 9, 10, 11, 12] [1, 2, 6, 8, 9, 10, 11, 12] 3 ([(V.d (slD encB true 1 x12 x13)), (V.ptr 0 1 0 0), (V.so x14 1 x3.length), (V.d (.bool x15)), (V.d (.bool x16)), (V.d (.int .i64 x17)), (V.d (.int .i64 x18)), (V.d (.int .i64 x19))], [(Blk.flat 40 3 [[(.int .i64 x0), (.int .i64 x1), (.int .i64 x2)]] x9), (Blk.flat 3 1 (List.map (encI .i64) x3) x10), (Blk.flat 42 5 [[(.bool x4), (.bool x5), (.int .i64 x6), (.int .i64 x7), (.int .i64 x8)]] x11)]) = some (.normal, ([(V.d (slD encB true 1 x12 x13)), (V.ptr 0 1 0 0), (V.so x14 1 x3.length), (V.d (.bool x15)), (V.d (.bool x16)), (V.d (.int .i64 x17)), (V.d (.int .i64 x18)), (V.d (.int .i64 x19))], [(Blk.flat 40 3 [[(.int .i64 x0), (.int .i64 x1), (.int .i64 x2)]] x9), (Blk.flat 3 1 (List.map (encI .i64) x3) x10), (Blk.flat 42 5 [[(.bool x4), (.bool x5), (.int .i64 x6), (.int .i64 x7), (.int .i64 x8)]] x11)])) := by
  unfold law15_LatchRow_S2_c0 law15_LatchRow_S2_c1 law15_LatchRow_S2_c2
  cases h1 : tb (x16)
  · intro g0 g1 g2
    exact seg_walk [.b (tbE h1)] (by kernel_rfl)
  · cases h2 : tb (inb x3.length x19)
    · intro g0 g1 g2
      exact absurd g2 ft
    · cases h3 : tb (((gt x3 x19) : Int) != 0)
      · intro g0 g1 g2
        exact absurd g1 tf
      · intro g0 g1 g2
        exact absurd g0 tf

def law15_LatchRow_S3_c0 (x13 : List Bool) (x19 : Int) : Bool := (bif tb (inb x13.length x19) then true else false)

def law15_LatchRow_S3_r0_5 (x13 : List Bool) (x15 : Bool) (x17 : Int) (x19 : Int) : Int := (bif tb (false != ((gt x13 x19) == x15)) then 0 else (wi (x17 + 1)))

theorem law15_LatchRow_S3_t0 (x0 : Int) (x1 : Int) (x2 : Int) (x3 : List Int) (x4 : Bool) (x5 : Bool) (x6 : Int) (x7 : Int) (x8 : Int) (x9 : Bool) (x10 : Bool) (x11 : Bool) (x12 : Bool) (x13 : List Bool) (x14 : Bool) (x15 : Bool) (x16 : Bool) (x17 : Int) (x18 : Int) (x19 : Int) : law15_LatchRow_S3_c0 x13 x19 = true → segG (runC E0 (cl E0) S8_3) [1, 2, 6, 8, 9, 10, 11, 12] [] [1, 2, 6, 8, 9, 10, 11, 12] 3 ([(V.d (slD encB true 1 x12 x13)), (V.ptr 0 1 0 0), (V.so x14 1 x3.length), (V.d (.bool x15)), (V.d (.bool x16)), (V.d (.int .i64 x17)), (V.d (.int .i64 x18)), (V.d (.int .i64 x19))], [(Blk.flat 40 3 [[(.int .i64 x0), (.int .i64 x1), (.int .i64 x2)]] x9), (Blk.flat 3 1 (List.map (encI .i64) x3) x10), (Blk.flat 42 5 [[(.bool x4), (.bool x5), (.int .i64 x6), (.int .i64 x7), (.int .i64 x8)]] x11)]) = some (.normal, ([(V.d (slD encB true 1 x12 x13)), (V.ptr 0 1 0 0), (V.so x14 1 x3.length), (V.d (.bool x15)), (V.d (.bool x16)), (V.d (.int .i64 (law15_LatchRow_S3_r0_5 x13 x15 x17 x19))), (V.d (.int .i64 x18)), (V.d (.int .i64 x19))], [(Blk.flat 40 3 [[(.int .i64 x0), (.int .i64 x1), (.int .i64 x2)]] x9), (Blk.flat 3 1 (List.map (encI .i64) x3) x10), (Blk.flat 42 5 [[(.bool x4), (.bool x5), (.int .i64 x6), (.int .i64 x7), (.int .i64 x8)]] x11)])) := by
  unfold law15_LatchRow_S3_c0 law15_LatchRow_S3_r0_5
  cases h1 : tb (inb x13.length x19)
  · intro g0
    exact absurd g0 ft
  · cases h2 : tb (false != ((gt x13 x19) == x15))
    · intro g0
      exact seg_walk [.o 56 (fun _ => o_idx_os (enc := encB) (l := x13) (fl := true) (n := x12) (s := 1) (k := .i64) (tbE h1)), .b (tbE h2)] (by kernel_rfl)
    · intro g0
      exact seg_walk [.o 56 (fun _ => o_idx_os (enc := encB) (l := x13) (fl := true) (n := x12) (s := 1) (k := .i64) (tbE h1)), .b (tbE h2)] (by kernel_rfl)

def law15_LatchRow_S4_r0_8 (x0 : Int) (x2 : Int) (x15 : Bool) (x17 : Int) (x18 : Int) : Int := (bif tb (x15) then 0 else (bif tb ((x17 : Int) == x0) then (bif tb ((x18 : Int) == x2) then 3 else 1) else 0))

theorem law15_LatchRow_S4_t0 (x0 : Int) (x1 : Int) (x2 : Int) (x3 : List Int) (x4 : Bool) (x5 : Bool) (x6 : Int) (x7 : Int) (x8 : Int) (x9 : Bool) (x10 : Bool) (x11 : Bool) (x12 : Bool) (x13 : List Bool) (x14 : Bool) (x15 : Bool) (x16 : Bool) (x17 : Int) (x18 : Int) (x19 : Int) : segG (runC E0 (cl E0) S8_4) [1, 2, 6, 8, 9, 10, 11, 12, 13] [] [1, 2, 6, 8, 9, 10, 11, 12, 13] 3 ([(V.d (slD encB true 1 x12 x13)), (V.ptr 0 1 0 0), (V.so x14 1 x3.length), (V.d (.bool x15)), (V.d (.bool x16)), (V.d (.int .i64 x17)), (V.d (.int .i64 x18)), (V.d (.int .i64 x19)), (V.d (.int .i64 0))], [(Blk.flat 40 3 [[(.int .i64 x0), (.int .i64 x1), (.int .i64 x2)]] x9), (Blk.flat 3 1 (List.map (encI .i64) x3) x10), (Blk.flat 42 5 [[(.bool x4), (.bool x5), (.int .i64 x6), (.int .i64 x7), (.int .i64 x8)]] x11)]) = some (.normal, ([(V.d (slD encB true 1 x12 x13)), (V.ptr 0 1 0 0), (V.so x14 1 x3.length), (V.d (.bool x15)), (V.d (.bool x16)), (V.d (.int .i64 x17)), (V.d (.int .i64 x18)), (V.d (.int .i64 x19)), (V.d (.int .i64 (law15_LatchRow_S4_r0_8 x0 x2 x15 x17 x18)))], [(Blk.flat 40 3 [[(.int .i64 x0), (.int .i64 x1), (.int .i64 x2)]] x9), (Blk.flat 3 1 (List.map (encI .i64) x3) x10), (Blk.flat 42 5 [[(.bool x4), (.bool x5), (.int .i64 x6), (.int .i64 x7), (.int .i64 x8)]] x11)])) := by
  unfold law15_LatchRow_S4_r0_8
  cases h1 : tb (x15)
  · cases h2 : tb ((x17 : Int) == x0)
    · exact seg_walk [.b (notF (tbE h1)), .b (tbE h2)] (by kernel_rfl)
    · cases h3 : tb ((x18 : Int) == x2)
      · exact seg_walk [.b (notF (tbE h1)), .b (tbE h2), .b (tbE h3)] (by kernel_rfl)
      · exact seg_walk [.b (notF (tbE h1)), .b (tbE h2), .b (tbE h3)] (by kernel_rfl)
  · exact seg_walk [.b (notT (tbE h1))] (by kernel_rfl)

def law15_LatchRow_S5_r0_8 (x1 : Int) (x15 : Bool) (x17 : Int) (x20 : Int) : Int := (bif tb (x15) then (bif tb ((x17 : Int) == x1) then 2 else x20) else x20)

theorem law15_LatchRow_S5_t0 (x0 : Int) (x1 : Int) (x2 : Int) (x3 : List Int) (x4 : Bool) (x5 : Bool) (x6 : Int) (x7 : Int) (x8 : Int) (x9 : Bool) (x10 : Bool) (x11 : Bool) (x12 : Bool) (x13 : List Bool) (x14 : Bool) (x15 : Bool) (x16 : Bool) (x17 : Int) (x18 : Int) (x19 : Int) (x20 : Int) : segG (runC E0 (cl E0) S8_5) [1, 2, 6, 8, 9, 10, 11, 12, 13] [] [1, 2, 6, 8, 9, 10, 11, 12, 13] 3 ([(V.d (slD encB true 1 x12 x13)), (V.ptr 0 1 0 0), (V.so x14 1 x3.length), (V.d (.bool x15)), (V.d (.bool x16)), (V.d (.int .i64 x17)), (V.d (.int .i64 x18)), (V.d (.int .i64 x19)), (V.d (.int .i64 x20))], [(Blk.flat 40 3 [[(.int .i64 x0), (.int .i64 x1), (.int .i64 x2)]] x9), (Blk.flat 3 1 (List.map (encI .i64) x3) x10), (Blk.flat 42 5 [[(.bool x4), (.bool x5), (.int .i64 x6), (.int .i64 x7), (.int .i64 x8)]] x11)]) = some (.normal, ([(V.d (slD encB true 1 x12 x13)), (V.ptr 0 1 0 0), (V.so x14 1 x3.length), (V.d (.bool x15)), (V.d (.bool x16)), (V.d (.int .i64 x17)), (V.d (.int .i64 x18)), (V.d (.int .i64 x19)), (V.d (.int .i64 (law15_LatchRow_S5_r0_8 x1 x15 x17 x20)))], [(Blk.flat 40 3 [[(.int .i64 x0), (.int .i64 x1), (.int .i64 x2)]] x9), (Blk.flat 3 1 (List.map (encI .i64) x3) x10), (Blk.flat 42 5 [[(.bool x4), (.bool x5), (.int .i64 x6), (.int .i64 x7), (.int .i64 x8)]] x11)])) := by
  unfold law15_LatchRow_S5_r0_8
  cases h1 : tb (x15)
  · exact seg_walk [.b (tbE h1)] (by kernel_rfl)
  · cases h2 : tb ((x17 : Int) == x1)
    · exact seg_walk [.b (tbE h1), .b (tbE h2)] (by kernel_rfl)
    · exact seg_walk [.b (tbE h1), .b (tbE h2)] (by kernel_rfl)

def law15_LatchRow_S6_c0 (x3 : List Int) (x19 : Int) (x20 : Int) : Bool := (bif tb (inb x3.length x19) then (bif tb (((gt x3 x19) : Int) != x20) then true else false) else false)

def law15_LatchRow_S6_c1 (x3 : List Int) (x19 : Int) (x20 : Int) : Bool := (bif tb (inb x3.length x19) then (bif tb (((gt x3 x19) : Int) != x20) then false else true) else false)

theorem law15_LatchRow_S6_t0 (x0 : Int) (x1 : Int) (x2 : Int) (x3 : List Int) (x4 : Bool) (x5 : Bool) (x6 : Int) (x7 : Int) (x8 : Int) (x9 : Bool) (x10 : Bool) (x11 : Bool) (x12 : Bool) (x13 : List Bool) (x14 : Bool) (x15 : Bool) (x16 : Bool) (x17 : Int) (x18 : Int) (x19 : Int) (x20 : Int) : law15_LatchRow_S6_c0 x3 x19 x20 = true → segG (runC E0 (cl E0) S8_6) [1, 2, 6, 8, 9, 10, 11, 12, 13] [4] [1, 2, 6, 8, 9, 10, 11, 12, 13] 3 ([(V.d (slD encB true 1 x12 x13)), (V.ptr 0 1 0 0), (V.so x14 1 x3.length), (V.d (.bool x15)), (V.d (.bool x16)), (V.d (.int .i64 x17)), (V.d (.int .i64 x18)), (V.d (.int .i64 x19)), (V.d (.int .i64 x20))], [(Blk.flat 40 3 [[(.int .i64 x0), (.int .i64 x1), (.int .i64 x2)]] x9), (Blk.flat 3 1 (List.map (encI .i64) x3) x10), (Blk.flat 42 5 [[(.bool x4), (.bool x5), (.int .i64 x6), (.int .i64 x7), (.int .i64 x8)]] x11)]) = some (.ret, ([(V.d (.bool false))], [(Blk.flat 40 3 [[(.int .i64 x0), (.int .i64 x1), (.int .i64 x2)]] x9), (Blk.flat 3 1 (List.map (encI .i64) x3) x10), (Blk.flat 42 5 [[(.bool x4), (.bool x5), (.int .i64 x6), (.int .i64 x7), (.int .i64 x8)]] x11)])) := by
  unfold law15_LatchRow_S6_c0
  cases h1 : tb (inb x3.length x19)
  · intro g0
    exact absurd g0 ft
  · cases h2 : tb (((gt x3 x19) : Int) != x20)
    · intro g0
      exact absurd g0 ft
    · intro g0
      exact seg_walk [.m 83 (o_idx_so (m := [(Blk.flat 40 3 [[(.int .i64 x0), (.int .i64 x1), (.int .i64 x2)]] x9), (Blk.flat 3 1 (List.map (encI .i64) x3) x10), (Blk.flat 42 5 [[(.bool x4), (.bool x5), (.int .i64 x6), (.int .i64 x7), (.int .i64 x8)]] x11)]) (b := x14) (id := 1) (n := x3.length) (s := 1) (k := .i64) (by kernel_rfl) (tbE h1)), .m 84 (o_load_L (m := [(Blk.flat 40 3 [[(.int .i64 x0), (.int .i64 x1), (.int .i64 x2)]] x9), (Blk.flat 3 1 (List.map (encI .i64) x3) x10), (Blk.flat 42 5 [[(.bool x4), (.bool x5), (.int .i64 x6), (.int .i64 x7), (.int .i64 x8)]] x11)]) (enc := (encI .i64)) (l := x3) (id := 1) (e := 3) (s := 1) (off := 0) (size := 1) (p := x10) (agg := false) (i := x19) (v := (V.d (.int .i64 (gt x3 x19)))) (n := x3.length) (Nat.beq_refl _) (by kernel_rfl) (tbE h1) (by kernel_rfl)), .b (tbE h2)] (by kernel_rfl)

theorem law15_LatchRow_S6_t1 (x0 : Int) (x1 : Int) (x2 : Int) (x3 : List Int) (x4 : Bool) (x5 : Bool) (x6 : Int) (x7 : Int) (x8 : Int) (x9 : Bool) (x10 : Bool) (x11 : Bool) (x12 : Bool) (x13 : List Bool) (x14 : Bool) (x15 : Bool) (x16 : Bool) (x17 : Int) (x18 : Int) (x19 : Int) (x20 : Int) : law15_LatchRow_S6_c0 x3 x19 x20 = false → law15_LatchRow_S6_c1 x3 x19 x20 = true → segG (runC E0 (cl E0) S8_6) [1, 2, 6, 8, 9, 10, 11, 12, 13] [4] [1, 2, 6, 8, 9, 10, 11, 12, 13] 3 ([(V.d (slD encB true 1 x12 x13)), (V.ptr 0 1 0 0), (V.so x14 1 x3.length), (V.d (.bool x15)), (V.d (.bool x16)), (V.d (.int .i64 x17)), (V.d (.int .i64 x18)), (V.d (.int .i64 x19)), (V.d (.int .i64 x20))], [(Blk.flat 40 3 [[(.int .i64 x0), (.int .i64 x1), (.int .i64 x2)]] x9), (Blk.flat 3 1 (List.map (encI .i64) x3) x10), (Blk.flat 42 5 [[(.bool x4), (.bool x5), (.int .i64 x6), (.int .i64 x7), (.int .i64 x8)]] x11)]) = some (.normal, ([(V.d (slD encB true 1 x12 x13)), (V.ptr 0 1 0 0), (V.so x14 1 x3.length), (V.d (.bool x15)), (V.d (.bool x16)), (V.d (.int .i64 x17)), (V.d (.int .i64 x18)), (V.d (.int .i64 x19)), (V.d (.int .i64 x20))], [(Blk.flat 40 3 [[(.int .i64 x0), (.int .i64 x1), (.int .i64 x2)]] x9), (Blk.flat 3 1 (List.map (encI .i64) x3) x10), (Blk.flat 42 5 [[(.bool x4), (.bool x5), (.int .i64 x6), (.int .i64 x7), (.int .i64 x8)]] x11)])) := by
  unfold law15_LatchRow_S6_c0 law15_LatchRow_S6_c1
  cases h1 : tb (inb x3.length x19)
  · intro g0 g1
    exact absurd g1 ft
  · cases h2 : tb (((gt x3 x19) : Int) != x20)
    · intro g0 g1
      exact seg_walk [.m 83 (o_idx_so (m := [(Blk.flat 40 3 [[(.int .i64 x0), (.int .i64 x1), (.int .i64 x2)]] x9), (Blk.flat 3 1 (List.map (encI .i64) x3) x10), (Blk.flat 42 5 [[(.bool x4), (.bool x5), (.int .i64 x6), (.int .i64 x7), (.int .i64 x8)]] x11)]) (b := x14) (id := 1) (n := x3.length) (s := 1) (k := .i64) (by kernel_rfl) (tbE h1)), .m 84 (o_load_L (m := [(Blk.flat 40 3 [[(.int .i64 x0), (.int .i64 x1), (.int .i64 x2)]] x9), (Blk.flat 3 1 (List.map (encI .i64) x3) x10), (Blk.flat 42 5 [[(.bool x4), (.bool x5), (.int .i64 x6), (.int .i64 x7), (.int .i64 x8)]] x11)]) (enc := (encI .i64)) (l := x3) (id := 1) (e := 3) (s := 1) (off := 0) (size := 1) (p := x10) (agg := false) (i := x19) (v := (V.d (.int .i64 (gt x3 x19)))) (n := x3.length) (Nat.beq_refl _) (by kernel_rfl) (tbE h1) (by kernel_rfl)), .b (tbE h2)] (by kernel_rfl)
    · intro g0 g1
      exact absurd g0 tf

def law15_LatchRow_S7_e0 (x0 : Int) (x2 : Int) (x13 : List Bool) (x15 : Bool) (x17 : Int) (x18 : Int) (x19 : Int) : Int := (law15_LatchRow_S4_r0_8 x0 x2 x15 (law15_LatchRow_S3_r0_5 x13 x15 x17 x19) x18)

def law15_LatchRow_S7_e1 (x0 : Int) (x1 : Int) (x2 : Int) (x13 : List Bool) (x15 : Bool) (x17 : Int) (x18 : Int) (x19 : Int) : Int := (law15_LatchRow_S5_r0_8 x1 x15 (law15_LatchRow_S3_r0_5 x13 x15 x17 x19) (law15_LatchRow_S7_e0 x0 x2 x13 x15 x17 x18 x19))

def law15_LatchRow_S7_c0 (x0 : Int) (x1 : Int) (x2 : Int) (x3 : List Int) (x13 : List Bool) (x15 : Bool) (x16 : Bool) (x17 : Int) (x18 : Int) (x19 : Int) : Bool := (bif tb (law15_LatchRow_S2_c0 x3 x16 x19) then true else (bif tb (law15_LatchRow_S2_c1 x3 x16 x19) then false else (bif tb (law15_LatchRow_S2_c2 x16) then (bif tb (law15_LatchRow_S3_c0 x13 x19) then (bif tb (law15_LatchRow_S6_c0 x3 x19 (law15_LatchRow_S7_e1 x0 x1 x2 x13 x15 x17 x18 x19)) then true else (bif tb (law15_LatchRow_S6_c1 x3 x19 (law15_LatchRow_S7_e1 x0 x1 x2 x13 x15 x17 x18 x19)) then (bif tb (((law15_LatchRow_S7_e1 x0 x1 x2 x13 x15 x17 x18 x19) : Int) == 2) then (bif tb (decide (x2 < (wi (x18 + 1)))) then true else false) else (bif tb (decide (x2 < x18)) then true else false)) else false)) else false) else false)))

def law15_LatchRow_S7_c1 (x0 : Int) (x1 : Int) (x2 : Int) (x3 : List Int) (x13 : List Bool) (x15 : Bool) (x16 : Bool) (x17 : Int) (x18 : Int) (x19 : Int) : Bool := (bif tb (law15_LatchRow_S2_c0 x3 x16 x19) then false else (bif tb (law15_LatchRow_S2_c1 x3 x16 x19) then true else (bif tb (law15_LatchRow_S2_c2 x16) then (bif tb (law15_LatchRow_S3_c0 x13 x19) then (bif tb (law15_LatchRow_S6_c0 x3 x19 (law15_LatchRow_S7_e1 x0 x1 x2 x13 x15 x17 x18 x19)) then false else (bif tb (law15_LatchRow_S6_c1 x3 x19 (law15_LatchRow_S7_e1 x0 x1 x2 x13 x15 x17 x18 x19)) then (bif tb (((law15_LatchRow_S7_e1 x0 x1 x2 x13 x15 x17 x18 x19) : Int) == 2) then (bif tb (decide (x2 < (wi (x18 + 1)))) then false else true) else (bif tb (decide (x2 < x18)) then false else true)) else false)) else false) else false)))

def law15_LatchRow_S7_r1_3 (x0 : Int) (x1 : Int) (x2 : Int) (x3 : List Int) (x13 : List Bool) (x15 : Bool) (x16 : Bool) (x17 : Int) (x18 : Int) (x19 : Int) : Bool := (bif tb (law15_LatchRow_S2_c1 x3 x16 x19) then x15 else (bif tb (decide (0 < (law15_LatchRow_S7_e1 x0 x1 x2 x13 x15 x17 x18 x19))) then (((law15_LatchRow_S7_e1 x0 x1 x2 x13 x15 x17 x18 x19) : Int) != 2) else x15))

def law15_LatchRow_S7_r1_4 (x0 : Int) (x1 : Int) (x2 : Int) (x3 : List Int) (x13 : List Bool) (x15 : Bool) (x16 : Bool) (x17 : Int) (x18 : Int) (x19 : Int) : Bool := (bif tb (law15_LatchRow_S2_c1 x3 x16 x19) then x16 else (bif tb (decide (0 < (law15_LatchRow_S7_e1 x0 x1 x2 x13 x15 x17 x18 x19))) then (((law15_LatchRow_S7_e1 x0 x1 x2 x13 x15 x17 x18 x19) : Int) == 3) else x16))

def law15_LatchRow_S7_r1_5 (x0 : Int) (x1 : Int) (x2 : Int) (x3 : List Int) (x13 : List Bool) (x15 : Bool) (x16 : Bool) (x17 : Int) (x18 : Int) (x19 : Int) : Int := (bif tb (law15_LatchRow_S2_c1 x3 x16 x19) then x17 else (bif tb (decide (0 < (law15_LatchRow_S7_e1 x0 x1 x2 x13 x15 x17 x18 x19))) then 0 else (law15_LatchRow_S3_r0_5 x13 x15 x17 x19)))

def law15_LatchRow_S7_r1_6 (x0 : Int) (x1 : Int) (x2 : Int) (x3 : List Int) (x13 : List Bool) (x15 : Bool) (x16 : Bool) (x17 : Int) (x18 : Int) (x19 : Int) : Int := (bif tb (law15_LatchRow_S2_c1 x3 x16 x19) then x18 else (bif tb (decide (0 < (law15_LatchRow_S7_e1 x0 x1 x2 x13 x15 x17 x18 x19))) then (bif tb (((law15_LatchRow_S7_e1 x0 x1 x2 x13 x15 x17 x18 x19) : Int) == 2) then (wi (x18 + 1)) else x18) else (bif tb (((law15_LatchRow_S7_e1 x0 x1 x2 x13 x15 x17 x18 x19) : Int) == 2) then (wi (x18 + 1)) else x18)))

theorem law15_LatchRow_S7_t0 (x0 : Int) (x1 : Int) (x2 : Int) (x3 : List Int) (x4 : Bool) (x5 : Bool) (x6 : Int) (x7 : Int) (x8 : Int) (x9 : Bool) (x10 : Bool) (x11 : Bool) (x12 : Bool) (x13 : List Bool) (x14 : Bool) (x15 : Bool) (x16 : Bool) (x17 : Int) (x18 : Int) (x19 : Int) : law15_LatchRow_S7_c0 x0 x1 x2 x3 x13 x15 x16 x17 x18 x19 = true → segG (runC E0 (cl E0) S8_7) [1, 2, 6, 8, 9, 10, 11, 12] [4] [1, 2, 6, 8, 9, 10, 11, 12] 3 ([(V.d (slD encB true 1 x12 x13)), (V.ptr 0 1 0 0), (V.so x14 1 x3.length), (V.d (.bool x15)), (V.d (.bool x16)), (V.d (.int .i64 x17)), (V.d (.int .i64 x18)), (V.d (.int .i64 x19))], [(Blk.flat 40 3 [[(.int .i64 x0), (.int .i64 x1), (.int .i64 x2)]] x9), (Blk.flat 3 1 (List.map (encI .i64) x3) x10), (Blk.flat 42 5 [[(.bool x4), (.bool x5), (.int .i64 x6), (.int .i64 x7), (.int .i64 x8)]] x11)]) = some (.ret, ([(V.d (.bool false))], [(Blk.flat 40 3 [[(.int .i64 x0), (.int .i64 x1), (.int .i64 x2)]] x9), (Blk.flat 3 1 (List.map (encI .i64) x3) x10), (Blk.flat 42 5 [[(.bool x4), (.bool x5), (.int .i64 x6), (.int .i64 x7), (.int .i64 x8)]] x11)])) := by
  unfold law15_LatchRow_S7_c0
  cases h1 : tb (law15_LatchRow_S2_c0 x3 x16 x19)
  · cases h2 : tb (law15_LatchRow_S2_c1 x3 x16 x19)
    · cases h3 : tb (law15_LatchRow_S2_c2 x16)
      · intro g0
        exact absurd g0 ft
      · cases h4 : tb (law15_LatchRow_S3_c0 x13 x19)
        · intro g0
          exact absurd g0 ft
        · cases h5 : tb (law15_LatchRow_S6_c0 x3 x19 (law15_LatchRow_S7_e1 x0 x1 x2 x13 x15 x17 x18 x19))
          · cases h6 : tb (law15_LatchRow_S6_c1 x3 x19 (law15_LatchRow_S7_e1 x0 x1 x2 x13 x15 x17 x18 x19))
            · intro g0
              exact absurd g0 ft
            · cases h7 : tb (decide (0 < (law15_LatchRow_S7_e1 x0 x1 x2 x13 x15 x17 x18 x19)))
              · cases h8 : tb (((law15_LatchRow_S7_e1 x0 x1 x2 x13 x15 x17 x18 x19) : Int) == 2)
                · cases h9 : tb (decide (x2 < x18))
                  · intro g0
                    exact absurd g0 ft
                  · intro g0
                    exact seg_walk [.s (law15_LatchRow_S2_t2 x0 x1 x2 x3 x4 x5 x6 x7 x8 x9 x10 x11 x12 x13 x14 x15 x16 x17 x18 x19 (tbE h1) (tbE h2) (tbE h3)), .s (law15_LatchRow_S3_t0 x0 x1 x2 x3 x4 x5 x6 x7 x8 x9 x10 x11 x12 x13 x14 x15 x16 x17 x18 x19 (tbE h4)), .s (law15_LatchRow_S4_t0 x0 x1 x2 x3 x4 x5 x6 x7 x8 x9 x10 x11 x12 x13 x14 x15 x16 (law15_LatchRow_S3_r0_5 x13 x15 x17 x19) x18 x19), .s (law15_LatchRow_S5_t0 x0 x1 x2 x3 x4 x5 x6 x7 x8 x9 x10 x11 x12 x13 x14 x15 x16 (law15_LatchRow_S3_r0_5 x13 x15 x17 x19) x18 x19 (law15_LatchRow_S7_e0 x0 x2 x13 x15 x17 x18 x19)), .s (law15_LatchRow_S6_t1 x0 x1 x2 x3 x4 x5 x6 x7 x8 x9 x10 x11 x12 x13 x14 x15 x16 (law15_LatchRow_S3_r0_5 x13 x15 x17 x19) x18 x19 (law15_LatchRow_S7_e1 x0 x1 x2 x13 x15 x17 x18 x19) (tbE h5) (tbE h6)), .b (tbE h7), .b (tbE h8), .b (tbE h9)] (by kernel_rfl)
                · cases h9 : tb (decide (x2 < (wi (x18 + 1))))
                  · intro g0
                    exact absurd g0 ft
                  · intro g0
                    exact seg_walk [.s (law15_LatchRow_S2_t2 x0 x1 x2 x3 x4 x5 x6 x7 x8 x9 x10 x11 x12 x13 x14 x15 x16 x17 x18 x19 (tbE h1) (tbE h2) (tbE h3)), .s (law15_LatchRow_S3_t0 x0 x1 x2 x3 x4 x5 x6 x7 x8 x9 x10 x11 x12 x13 x14 x15 x16 x17 x18 x19 (tbE h4)), .s (law15_LatchRow_S4_t0 x0 x1 x2 x3 x4 x5 x6 x7 x8 x9 x10 x11 x12 x13 x14 x15 x16 (law15_LatchRow_S3_r0_5 x13 x15 x17 x19) x18 x19), .s (law15_LatchRow_S5_t0 x0 x1 x2 x3 x4 x5 x6 x7 x8 x9 x10 x11 x12 x13 x14 x15 x16 (law15_LatchRow_S3_r0_5 x13 x15 x17 x19) x18 x19 (law15_LatchRow_S7_e0 x0 x2 x13 x15 x17 x18 x19)), .s (law15_LatchRow_S6_t1 x0 x1 x2 x3 x4 x5 x6 x7 x8 x9 x10 x11 x12 x13 x14 x15 x16 (law15_LatchRow_S3_r0_5 x13 x15 x17 x19) x18 x19 (law15_LatchRow_S7_e1 x0 x1 x2 x13 x15 x17 x18 x19) (tbE h5) (tbE h6)), .b (tbE h7), .b (tbE h8), .b (tbE h9)] (by kernel_rfl)
              · cases h8 : tb (((law15_LatchRow_S7_e1 x0 x1 x2 x13 x15 x17 x18 x19) : Int) == 2)
                · cases h9 : tb (decide (x2 < x18))
                  · intro g0
                    exact absurd g0 ft
                  · intro g0
                    exact seg_walk [.s (law15_LatchRow_S2_t2 x0 x1 x2 x3 x4 x5 x6 x7 x8 x9 x10 x11 x12 x13 x14 x15 x16 x17 x18 x19 (tbE h1) (tbE h2) (tbE h3)), .s (law15_LatchRow_S3_t0 x0 x1 x2 x3 x4 x5 x6 x7 x8 x9 x10 x11 x12 x13 x14 x15 x16 x17 x18 x19 (tbE h4)), .s (law15_LatchRow_S4_t0 x0 x1 x2 x3 x4 x5 x6 x7 x8 x9 x10 x11 x12 x13 x14 x15 x16 (law15_LatchRow_S3_r0_5 x13 x15 x17 x19) x18 x19), .s (law15_LatchRow_S5_t0 x0 x1 x2 x3 x4 x5 x6 x7 x8 x9 x10 x11 x12 x13 x14 x15 x16 (law15_LatchRow_S3_r0_5 x13 x15 x17 x19) x18 x19 (law15_LatchRow_S7_e0 x0 x2 x13 x15 x17 x18 x19)), .s (law15_LatchRow_S6_t1 x0 x1 x2 x3 x4 x5 x6 x7 x8 x9 x10 x11 x12 x13 x14 x15 x16 (law15_LatchRow_S3_r0_5 x13 x15 x17 x19) x18 x19 (law15_LatchRow_S7_e1 x0 x1 x2 x13 x15 x17 x18 x19) (tbE h5) (tbE h6)), .b (tbE h7), .b (tbE h8), .b (tbE h9)] (by kernel_rfl)
                · cases h9 : tb (decide (x2 < (wi (x18 + 1))))
                  · intro g0
                    exact absurd g0 ft
                  · intro g0
                    exact seg_walk [.s (law15_LatchRow_S2_t2 x0 x1 x2 x3 x4 x5 x6 x7 x8 x9 x10 x11 x12 x13 x14 x15 x16 x17 x18 x19 (tbE h1) (tbE h2) (tbE h3)), .s (law15_LatchRow_S3_t0 x0 x1 x2 x3 x4 x5 x6 x7 x8 x9 x10 x11 x12 x13 x14 x15 x16 x17 x18 x19 (tbE h4)), .s (law15_LatchRow_S4_t0 x0 x1 x2 x3 x4 x5 x6 x7 x8 x9 x10 x11 x12 x13 x14 x15 x16 (law15_LatchRow_S3_r0_5 x13 x15 x17 x19) x18 x19), .s (law15_LatchRow_S5_t0 x0 x1 x2 x3 x4 x5 x6 x7 x8 x9 x10 x11 x12 x13 x14 x15 x16 (law15_LatchRow_S3_r0_5 x13 x15 x17 x19) x18 x19 (law15_LatchRow_S7_e0 x0 x2 x13 x15 x17 x18 x19)), .s (law15_LatchRow_S6_t1 x0 x1 x2 x3 x4 x5 x6 x7 x8 x9 x10 x11 x12 x13 x14 x15 x16 (law15_LatchRow_S3_r0_5 x13 x15 x17 x19) x18 x19 (law15_LatchRow_S7_e1 x0 x1 x2 x13 x15 x17 x18 x19) (tbE h5) (tbE h6)), .b (tbE h7), .b (tbE h8), .b (tbE h9)] (by kernel_rfl)
          · intro g0
            exact seg_walk [.s (law15_LatchRow_S2_t2 x0 x1 x2 x3 x4 x5 x6 x7 x8 x9 x10 x11 x12 x13 x14 x15 x16 x17 x18 x19 (tbE h1) (tbE h2) (tbE h3)), .s (law15_LatchRow_S3_t0 x0 x1 x2 x3 x4 x5 x6 x7 x8 x9 x10 x11 x12 x13 x14 x15 x16 x17 x18 x19 (tbE h4)), .s (law15_LatchRow_S4_t0 x0 x1 x2 x3 x4 x5 x6 x7 x8 x9 x10 x11 x12 x13 x14 x15 x16 (law15_LatchRow_S3_r0_5 x13 x15 x17 x19) x18 x19), .s (law15_LatchRow_S5_t0 x0 x1 x2 x3 x4 x5 x6 x7 x8 x9 x10 x11 x12 x13 x14 x15 x16 (law15_LatchRow_S3_r0_5 x13 x15 x17 x19) x18 x19 (law15_LatchRow_S7_e0 x0 x2 x13 x15 x17 x18 x19)), .s (law15_LatchRow_S6_t0 x0 x1 x2 x3 x4 x5 x6 x7 x8 x9 x10 x11 x12 x13 x14 x15 x16 (law15_LatchRow_S3_r0_5 x13 x15 x17 x19) x18 x19 (law15_LatchRow_S7_e1 x0 x1 x2 x13 x15 x17 x18 x19) (tbE h5))] (by kernel_rfl)
    · intro g0
      exact absurd g0 ft
  · intro g0
    exact seg_walk [.s (law15_LatchRow_S2_t0 x0 x1 x2 x3 x4 x5 x6 x7 x8 x9 x10 x11 x12 x13 x14 x15 x16 x17 x18 x19 (tbE h1))] (by kernel_rfl)

theorem law15_LatchRow_S7_t1 (x0 : Int) (x1 : Int) (x2 : Int) (x3 : List Int) (x4 : Bool) (x5 : Bool) (x6 : Int) (x7 : Int) (x8 : Int) (x9 : Bool) (x10 : Bool) (x11 : Bool) (x12 : Bool) (x13 : List Bool) (x14 : Bool) (x15 : Bool) (x16 : Bool) (x17 : Int) (x18 : Int) (x19 : Int) : law15_LatchRow_S7_c0 x0 x1 x2 x3 x13 x15 x16 x17 x18 x19 = false → law15_LatchRow_S7_c1 x0 x1 x2 x3 x13 x15 x16 x17 x18 x19 = true → segG (runC E0 (cl E0) S8_7) [1, 2, 6, 8, 9, 10, 11, 12] [4] [1, 2, 6, 8, 9, 10, 11, 12] 3 ([(V.d (slD encB true 1 x12 x13)), (V.ptr 0 1 0 0), (V.so x14 1 x3.length), (V.d (.bool x15)), (V.d (.bool x16)), (V.d (.int .i64 x17)), (V.d (.int .i64 x18)), (V.d (.int .i64 x19))], [(Blk.flat 40 3 [[(.int .i64 x0), (.int .i64 x1), (.int .i64 x2)]] x9), (Blk.flat 3 1 (List.map (encI .i64) x3) x10), (Blk.flat 42 5 [[(.bool x4), (.bool x5), (.int .i64 x6), (.int .i64 x7), (.int .i64 x8)]] x11)]) = some (.normal, ([(V.d (slD encB true 1 x12 x13)), (V.ptr 0 1 0 0), (V.so x14 1 x3.length), (V.d (.bool (law15_LatchRow_S7_r1_3 x0 x1 x2 x3 x13 x15 x16 x17 x18 x19))), (V.d (.bool (law15_LatchRow_S7_r1_4 x0 x1 x2 x3 x13 x15 x16 x17 x18 x19))), (V.d (.int .i64 (law15_LatchRow_S7_r1_5 x0 x1 x2 x3 x13 x15 x16 x17 x18 x19))), (V.d (.int .i64 (law15_LatchRow_S7_r1_6 x0 x1 x2 x3 x13 x15 x16 x17 x18 x19))), (V.d (.int .i64 x19))], [(Blk.flat 40 3 [[(.int .i64 x0), (.int .i64 x1), (.int .i64 x2)]] x9), (Blk.flat 3 1 (List.map (encI .i64) x3) x10), (Blk.flat 42 5 [[(.bool x4), (.bool x5), (.int .i64 x6), (.int .i64 x7), (.int .i64 x8)]] x11)])) := by
  unfold law15_LatchRow_S7_c0 law15_LatchRow_S7_c1 law15_LatchRow_S7_r1_3 law15_LatchRow_S7_r1_4 law15_LatchRow_S7_r1_5 law15_LatchRow_S7_r1_6
  cases h1 : tb (law15_LatchRow_S2_c0 x3 x16 x19)
  · cases h2 : tb (law15_LatchRow_S2_c1 x3 x16 x19)
    · cases h3 : tb (law15_LatchRow_S2_c2 x16)
      · intro g0 g1
        exact absurd g1 ft
      · cases h4 : tb (law15_LatchRow_S3_c0 x13 x19)
        · intro g0 g1
          exact absurd g1 ft
        · cases h5 : tb (law15_LatchRow_S6_c0 x3 x19 (law15_LatchRow_S7_e1 x0 x1 x2 x13 x15 x17 x18 x19))
          · cases h6 : tb (law15_LatchRow_S6_c1 x3 x19 (law15_LatchRow_S7_e1 x0 x1 x2 x13 x15 x17 x18 x19))
            · intro g0 g1
              exact absurd g1 ft
            · cases h7 : tb (decide (0 < (law15_LatchRow_S7_e1 x0 x1 x2 x13 x15 x17 x18 x19)))
              · cases h8 : tb (((law15_LatchRow_S7_e1 x0 x1 x2 x13 x15 x17 x18 x19) : Int) == 2)
                · cases h9 : tb (decide (x2 < x18))
                  · intro g0 g1
                    exact seg_walk [.s (law15_LatchRow_S2_t2 x0 x1 x2 x3 x4 x5 x6 x7 x8 x9 x10 x11 x12 x13 x14 x15 x16 x17 x18 x19 (tbE h1) (tbE h2) (tbE h3)), .s (law15_LatchRow_S3_t0 x0 x1 x2 x3 x4 x5 x6 x7 x8 x9 x10 x11 x12 x13 x14 x15 x16 x17 x18 x19 (tbE h4)), .s (law15_LatchRow_S4_t0 x0 x1 x2 x3 x4 x5 x6 x7 x8 x9 x10 x11 x12 x13 x14 x15 x16 (law15_LatchRow_S3_r0_5 x13 x15 x17 x19) x18 x19), .s (law15_LatchRow_S5_t0 x0 x1 x2 x3 x4 x5 x6 x7 x8 x9 x10 x11 x12 x13 x14 x15 x16 (law15_LatchRow_S3_r0_5 x13 x15 x17 x19) x18 x19 (law15_LatchRow_S7_e0 x0 x2 x13 x15 x17 x18 x19)), .s (law15_LatchRow_S6_t1 x0 x1 x2 x3 x4 x5 x6 x7 x8 x9 x10 x11 x12 x13 x14 x15 x16 (law15_LatchRow_S3_r0_5 x13 x15 x17 x19) x18 x19 (law15_LatchRow_S7_e1 x0 x1 x2 x13 x15 x17 x18 x19) (tbE h5) (tbE h6)), .b (tbE h7), .b (tbE h8), .b (tbE h9)] (by kernel_rfl)
                  · intro g0 g1
                    exact absurd g0 tf
                · cases h9 : tb (decide (x2 < (wi (x18 + 1))))
                  · intro g0 g1
                    exact seg_walk [.s (law15_LatchRow_S2_t2 x0 x1 x2 x3 x4 x5 x6 x7 x8 x9 x10 x11 x12 x13 x14 x15 x16 x17 x18 x19 (tbE h1) (tbE h2) (tbE h3)), .s (law15_LatchRow_S3_t0 x0 x1 x2 x3 x4 x5 x6 x7 x8 x9 x10 x11 x12 x13 x14 x15 x16 x17 x18 x19 (tbE h4)), .s (law15_LatchRow_S4_t0 x0 x1 x2 x3 x4 x5 x6 x7 x8 x9 x10 x11 x12 x13 x14 x15 x16 (law15_LatchRow_S3_r0_5 x13 x15 x17 x19) x18 x19), .s (law15_LatchRow_S5_t0 x0 x1 x2 x3 x4 x5 x6 x7 x8 x9 x10 x11 x12 x13 x14 x15 x16 (law15_LatchRow_S3_r0_5 x13 x15 x17 x19) x18 x19 (law15_LatchRow_S7_e0 x0 x2 x13 x15 x17 x18 x19)), .s (law15_LatchRow_S6_t1 x0 x1 x2 x3 x4 x5 x6 x7 x8 x9 x10 x11 x12 x13 x14 x15 x16 (law15_LatchRow_S3_r0_5 x13 x15 x17 x19) x18 x19 (law15_LatchRow_S7_e1 x0 x1 x2 x13 x15 x17 x18 x19) (tbE h5) (tbE h6)), .b (tbE h7), .b (tbE h8), .b (tbE h9)] (by kernel_rfl)
                  · intro g0 g1
                    exact absurd g0 tf
              · cases h8 : tb (((law15_LatchRow_S7_e1 x0 x1 x2 x13 x15 x17 x18 x19) : Int) == 2)
                · cases h9 : tb (decide (x2 < x18))
                  · intro g0 g1
                    exact seg_walk [.s (law15_LatchRow_S2_t2 x0 x1 x2 x3 x4 x5 x6 x7 x8 x9 x10 x11 x12 x13 x14 x15 x16 x17 x18 x19 (tbE h1) (tbE h2) (tbE h3)), .s (law15_LatchRow_S3_t0 x0 x1 x2 x3 x4 x5 x6 x7 x8 x9 x10 x11 x12 x13 x14 x15 x16 x17 x18 x19 (tbE h4)), .s (law15_LatchRow_S4_t0 x0 x1 x2 x3 x4 x5 x6 x7 x8 x9 x10 x11 x12 x13 x14 x15 x16 (law15_LatchRow_S3_r0_5 x13 x15 x17 x19) x18 x19), .s (law15_LatchRow_S5_t0 x0 x1 x2 x3 x4 x5 x6 x7 x8 x9 x10 x11 x12 x13 x14 x15 x16 (law15_LatchRow_S3_r0_5 x13 x15 x17 x19) x18 x19 (law15_LatchRow_S7_e0 x0 x2 x13 x15 x17 x18 x19)), .s (law15_LatchRow_S6_t1 x0 x1 x2 x3 x4 x5 x6 x7 x8 x9 x10 x11 x12 x13 x14 x15 x16 (law15_LatchRow_S3_r0_5 x13 x15 x17 x19) x18 x19 (law15_LatchRow_S7_e1 x0 x1 x2 x13 x15 x17 x18 x19) (tbE h5) (tbE h6)), .b (tbE h7), .b (tbE h8), .b (tbE h9)] (by kernel_rfl)
                  · intro g0 g1
                    exact absurd g0 tf
                · cases h9 : tb (decide (x2 < (wi (x18 + 1))))
                  · intro g0 g1
                    exact seg_walk [.s (law15_LatchRow_S2_t2 x0 x1 x2 x3 x4 x5 x6 x7 x8 x9 x10 x11 x12 x13 x14 x15 x16 x17 x18 x19 (tbE h1) (tbE h2) (tbE h3)), .s (law15_LatchRow_S3_t0 x0 x1 x2 x3 x4 x5 x6 x7 x8 x9 x10 x11 x12 x13 x14 x15 x16 x17 x18 x19 (tbE h4)), .s (law15_LatchRow_S4_t0 x0 x1 x2 x3 x4 x5 x6 x7 x8 x9 x10 x11 x12 x13 x14 x15 x16 (law15_LatchRow_S3_r0_5 x13 x15 x17 x19) x18 x19), .s (law15_LatchRow_S5_t0 x0 x1 x2 x3 x4 x5 x6 x7 x8 x9 x10 x11 x12 x13 x14 x15 x16 (law15_LatchRow_S3_r0_5 x13 x15 x17 x19) x18 x19 (law15_LatchRow_S7_e0 x0 x2 x13 x15 x17 x18 x19)), .s (law15_LatchRow_S6_t1 x0 x1 x2 x3 x4 x5 x6 x7 x8 x9 x10 x11 x12 x13 x14 x15 x16 (law15_LatchRow_S3_r0_5 x13 x15 x17 x19) x18 x19 (law15_LatchRow_S7_e1 x0 x1 x2 x13 x15 x17 x18 x19) (tbE h5) (tbE h6)), .b (tbE h7), .b (tbE h8), .b (tbE h9)] (by kernel_rfl)
                  · intro g0 g1
                    exact absurd g0 tf
          · intro g0 g1
            exact absurd g0 tf
    · intro g0 g1
      exact seg_walk [.s (law15_LatchRow_S2_t1 x0 x1 x2 x3 x4 x5 x6 x7 x8 x9 x10 x11 x12 x13 x14 x15 x16 x17 x18 x19 (tbE h1) (tbE h2))] (by kernel_rfl)
  · intro g0 g1
    exact absurd g0 tf

structure law15_LatchRow_L8_s0 where
  c3 : Bool
  c4 : Bool
  c5 : Int
  c6 : Int
  c7 : Int
  deriving Inhabited

def law15_LatchRow_L8_enc (x0 : Int) (x1 : Int) (x2 : Int) (x3 : List Int) (x4 : Bool) (x5 : Bool) (x6 : Int) (x7 : Int) (x8 : Int) (x9 : Bool) (x10 : Bool) (x11 : Bool) (x12 : Bool) (x13 : List Bool) (x14 : Bool) (x15 : Bool) (x16 : Bool) (x17 : Int) (x18 : Int) (x19 : Int) (s0 : law15_LatchRow_L8_s0) : List V × Mem := ([(V.d (slD encB true 1 x12 x13)), (V.ptr 0 1 0 0), (V.so x14 1 x3.length), (V.d (.bool s0.c3)), (V.d (.bool s0.c4)), (V.d (.int .i64 s0.c5)), (V.d (.int .i64 s0.c6)), (V.d (.int .i64 s0.c7))], [(Blk.flat 40 3 [[(.int .i64 x0), (.int .i64 x1), (.int .i64 x2)]] x9), (Blk.flat 3 1 (List.map (encI .i64) x3) x10), (Blk.flat 42 5 [[(.bool x4), (.bool x5), (.int .i64 x6), (.int .i64 x7), (.int .i64 x8)]] x11)])

def law15_LatchRow_L8_sel (x0 : Int) (x1 : Int) (x2 : Int) (x3 : List Int) (x13 : List Bool) (s0 : law15_LatchRow_L8_s0) : Bool := (bif tb (law15_LatchRow_S1_c0 x13 s0.c7) then (bif tb (law15_LatchRow_S7_c0 x0 x1 x2 x3 x13 s0.c3 s0.c4 s0.c5 s0.c6 s0.c7) then false else (bif tb (law15_LatchRow_S7_c1 x0 x1 x2 x3 x13 s0.c3 s0.c4 s0.c5 s0.c6 s0.c7) then true else false)) else false)

def law15_LatchRow_L8_nx (x0 : Int) (x1 : Int) (x2 : Int) (x3 : List Int) (x13 : List Bool) (s0 : law15_LatchRow_L8_s0) : law15_LatchRow_L8_s0 := ⟨(law15_LatchRow_S7_r1_3 x0 x1 x2 x3 x13 s0.c3 s0.c4 s0.c5 s0.c6 s0.c7), (law15_LatchRow_S7_r1_4 x0 x1 x2 x3 x13 s0.c3 s0.c4 s0.c5 s0.c6 s0.c7), (law15_LatchRow_S7_r1_5 x0 x1 x2 x3 x13 s0.c3 s0.c4 s0.c5 s0.c6 s0.c7), (law15_LatchRow_S7_r1_6 x0 x1 x2 x3 x13 s0.c3 s0.c4 s0.c5 s0.c6 s0.c7), (wi (s0.c7 + 1))⟩

def law15_LatchRow_L8_ok (x0 : Int) (x1 : Int) (x2 : Int) (x3 : List Int) (x13 : List Bool) (s0 : law15_LatchRow_L8_s0) : Bool := (itS (law15_LatchRow_L8_sel x0 x1 x2 x3 x13) (law15_LatchRow_L8_nx x0 x1 x2 x3 x13) bound s0).isSome
def law15_LatchRow_L8_end (x0 : Int) (x1 : Int) (x2 : Int) (x3 : List Int) (x13 : List Bool) (s0 : law15_LatchRow_L8_s0) : law15_LatchRow_L8_s0 := (itS (law15_LatchRow_L8_sel x0 x1 x2 x3 x13) (law15_LatchRow_L8_nx x0 x1 x2 x3 x13) bound s0).getD default

theorem law15_LatchRow_L8_go (x0 : Int) (x1 : Int) (x2 : Int) (x3 : List Int) (x4 : Bool) (x5 : Bool) (x6 : Int) (x7 : Int) (x8 : Int) (x9 : Bool) (x10 : Bool) (x11 : Bool) (x12 : Bool) (x13 : List Bool) (x14 : Bool) (x15 : Bool) (x16 : Bool) (x17 : Int) (x18 : Int) (x19 : Int) (s0 : law15_LatchRow_L8_s0) : law15_LatchRow_L8_sel x0 x1 x2 x3 x13 s0 = true → (roundG (runC E0 (cl E0) L8_8) [1, 2, 6, 8, 9, 10, 11, 12] [1, 2, 4, 8, 9, 11] 3) (law15_LatchRow_L8_enc x0 x1 x2 x3 x4 x5 x6 x7 x8 x9 x10 x11 x12 x13 x14 x15 x16 x17 x18 x19 s0) = some (.normal, law15_LatchRow_L8_enc x0 x1 x2 x3 x4 x5 x6 x7 x8 x9 x10 x11 x12 x13 x14 x15 x16 x17 x18 x19 (law15_LatchRow_L8_nx x0 x1 x2 x3 x13 s0)) := by
  unfold law15_LatchRow_L8_sel law15_LatchRow_L8_nx
  cases h1 : tb (law15_LatchRow_S1_c0 x13 s0.c7)
  · intro g0
    exact absurd g0 ft
  · cases h2 : tb (law15_LatchRow_S7_c0 x0 x1 x2 x3 x13 s0.c3 s0.c4 s0.c5 s0.c6 s0.c7)
    · cases h3 : tb (law15_LatchRow_S7_c1 x0 x1 x2 x3 x13 s0.c3 s0.c4 s0.c5 s0.c6 s0.c7)
      · intro g0
        exact absurd g0 ft
      · intro _
        exact round_walk [.s (law15_LatchRow_S1_t0 x0 x1 x2 x3 x4 x5 x6 x7 x8 x9 x10 x11 x12 x13 x14 s0.c3 s0.c4 s0.c5 s0.c6 s0.c7 (tbE h1)), .s (law15_LatchRow_S7_t1 x0 x1 x2 x3 x4 x5 x6 x7 x8 x9 x10 x11 x12 x13 x14 s0.c3 s0.c4 s0.c5 s0.c6 s0.c7 (tbE h2) (tbE h3))] (by kernel_rfl)
    · intro g0
      exact absurd g0 ft

def law15_LatchRow_L8_c0 (x0 : Int) (x1 : Int) (x2 : Int) (x3 : List Int) (x13 : List Bool) (s0 : law15_LatchRow_L8_s0) : Bool := (bif tb (law15_LatchRow_S1_c0 x13 s0.c7) then (bif tb (law15_LatchRow_S7_c0 x0 x1 x2 x3 x13 s0.c3 s0.c4 s0.c5 s0.c6 s0.c7) then true else false) else false)

def law15_LatchRow_L8_c1 (x13 : List Bool) (s0 : law15_LatchRow_L8_s0) : Bool := (bif tb (law15_LatchRow_S1_c0 x13 s0.c7) then false else true)

theorem law15_LatchRow_L8_x0 (x0 : Int) (x1 : Int) (x2 : Int) (x3 : List Int) (x4 : Bool) (x5 : Bool) (x6 : Int) (x7 : Int) (x8 : Int) (x9 : Bool) (x10 : Bool) (x11 : Bool) (x12 : Bool) (x13 : List Bool) (x14 : Bool) (x15 : Bool) (x16 : Bool) (x17 : Int) (x18 : Int) (x19 : Int) (s0 : law15_LatchRow_L8_s0) : law15_LatchRow_L8_sel x0 x1 x2 x3 x13 s0 = false → law15_LatchRow_L8_c0 x0 x1 x2 x3 x13 s0 = true → (roundG (runC E0 (cl E0) L8_8) [1, 2, 6, 8, 9, 10, 11, 12] [1, 2, 4, 8, 9, 11] 3) (law15_LatchRow_L8_enc x0 x1 x2 x3 x4 x5 x6 x7 x8 x9 x10 x11 x12 x13 x14 x15 x16 x17 x18 x19 s0) = some (.ret, ([V.un, V.un, (V.d (.bool false)), V.un, V.un, V.un], [(Blk.flat 40 3 [[(.int .i64 x0), (.int .i64 x1), (.int .i64 x2)]] x9), (Blk.flat 3 1 (List.map (encI .i64) x3) x10), (Blk.flat 42 5 [[(.bool x4), (.bool x5), (.int .i64 x6), (.int .i64 x7), (.int .i64 x8)]] x11)])) := by
  unfold law15_LatchRow_L8_sel law15_LatchRow_L8_c0
  cases h1 : tb (law15_LatchRow_S1_c0 x13 s0.c7)
  · intro g0 g1
    exact absurd g1 ft
  · cases h2 : tb (law15_LatchRow_S7_c0 x0 x1 x2 x3 x13 s0.c3 s0.c4 s0.c5 s0.c6 s0.c7)
    · cases h3 : tb (law15_LatchRow_S7_c1 x0 x1 x2 x3 x13 s0.c3 s0.c4 s0.c5 s0.c6 s0.c7)
      · intro g0 g1
        exact absurd g1 ft
      · intro g0 g1
        exact absurd g0 tf
    · intro g0 g1
      exact round_walk [.s (law15_LatchRow_S1_t0 x0 x1 x2 x3 x4 x5 x6 x7 x8 x9 x10 x11 x12 x13 x14 s0.c3 s0.c4 s0.c5 s0.c6 s0.c7 (tbE h1)), .s (law15_LatchRow_S7_t0 x0 x1 x2 x3 x4 x5 x6 x7 x8 x9 x10 x11 x12 x13 x14 s0.c3 s0.c4 s0.c5 s0.c6 s0.c7 (tbE h2))] (by kernel_rfl)

theorem law15_LatchRow_L8_x1 (x0 : Int) (x1 : Int) (x2 : Int) (x3 : List Int) (x4 : Bool) (x5 : Bool) (x6 : Int) (x7 : Int) (x8 : Int) (x9 : Bool) (x10 : Bool) (x11 : Bool) (x12 : Bool) (x13 : List Bool) (x14 : Bool) (x15 : Bool) (x16 : Bool) (x17 : Int) (x18 : Int) (x19 : Int) (s0 : law15_LatchRow_L8_s0) : law15_LatchRow_L8_sel x0 x1 x2 x3 x13 s0 = false → law15_LatchRow_L8_c0 x0 x1 x2 x3 x13 s0 = false → law15_LatchRow_L8_c1 x13 s0 = true → (roundG (runC E0 (cl E0) L8_8) [1, 2, 6, 8, 9, 10, 11, 12] [1, 2, 4, 8, 9, 11] 3) (law15_LatchRow_L8_enc x0 x1 x2 x3 x4 x5 x6 x7 x8 x9 x10 x11 x12 x13 x14 x15 x16 x17 x18 x19 s0) = some ((.exit 0), ([(V.d (slD encB true 1 x12 x13)), (V.ptr 0 1 0 0), V.un, (V.d (.bool s0.c3)), (V.d (.bool s0.c4)), (V.d (.int .i64 s0.c6))], [(Blk.flat 40 3 [[(.int .i64 x0), (.int .i64 x1), (.int .i64 x2)]] x9), (Blk.flat 3 1 (List.map (encI .i64) x3) x10), (Blk.flat 42 5 [[(.bool x4), (.bool x5), (.int .i64 x6), (.int .i64 x7), (.int .i64 x8)]] x11)])) := by
  unfold law15_LatchRow_L8_sel law15_LatchRow_L8_c0 law15_LatchRow_L8_c1
  cases h1 : tb (law15_LatchRow_S1_c0 x13 s0.c7)
  · intro g0 g1 g2
    exact round_walk [.s (law15_LatchRow_S1_t1 x0 x1 x2 x3 x4 x5 x6 x7 x8 x9 x10 x11 x12 x13 x14 s0.c3 s0.c4 s0.c5 s0.c6 s0.c7 (tbE h1))] (by kernel_rfl)
  · cases h2 : tb (law15_LatchRow_S7_c0 x0 x1 x2 x3 x13 s0.c3 s0.c4 s0.c5 s0.c6 s0.c7)
    · cases h3 : tb (law15_LatchRow_S7_c1 x0 x1 x2 x3 x13 s0.c3 s0.c4 s0.c5 s0.c6 s0.c7)
      · intro g0 g1 g2
        exact absurd g2 ft
      · intro g0 g1 g2
        exact absurd g0 tf
    · intro g0 g1 g2
      exact absurd g1 tf

theorem law15_LatchRow_L8_f0_0 (x0 : Int) (x1 : Int) (x2 : Int) (x3 : List Int) (x4 : Bool) (x5 : Bool) (x6 : Int) (x7 : Int) (x8 : Int) (x9 : Bool) (x10 : Bool) (x11 : Bool) (x12 : Bool) (x13 : List Bool) (x14 : Bool) (x15 : Bool) (x16 : Bool) (x17 : Int) (x18 : Int) (x19 : Int) (s : law15_LatchRow_L8_s0) (hok : law15_LatchRow_L8_ok x0 x1 x2 x3 x13 s = true) (c0 : law15_LatchRow_L8_c0 x0 x1 x2 x3 x13 (law15_LatchRow_L8_end x0 x1 x2 x3 x13 s) = true) : loopG (roundG (runC E0 (cl E0) L8_8) [1, 2, 6, 8, 9, 10, 11, 12] [1, 2, 4, 8, 9, 11] 3) bound (law15_LatchRow_L8_enc x0 x1 x2 x3 x4 x5 x6 x7 x8 x9 x10 x11 x12 x13 x14 x15 x16 x17 x18 x19 s) = some (.ret, ([V.un, V.un, (V.d (.bool false)), V.un, V.un, V.un], [(Blk.flat 40 3 [[(.int .i64 x0), (.int .i64 x1), (.int .i64 x2)]] x9), (Blk.flat 3 1 (List.map (encI .i64) x3) x10), (Blk.flat 42 5 [[(.bool x4), (.bool x5), (.int .i64 x6), (.int .i64 x7), (.int .i64 x8)]] x11)])) := by
  have e : itS (law15_LatchRow_L8_sel x0 x1 x2 x3 x13) (law15_LatchRow_L8_nx x0 x1 x2 x3 x13) bound s = some (law15_LatchRow_L8_end x0 x1 x2 x3 x13 s) := itS_get hok
  have f := itS_false e
  exact loop_it (law15_LatchRow_L8_go x0 x1 x2 x3 x4 x5 x6 x7 x8 x9 x10 x11 x12 x13 x14 x15 x16 x17 x18 x19) bound s _ _ _ e (fun h => by cases h) (law15_LatchRow_L8_x0 x0 x1 x2 x3 x4 x5 x6 x7 x8 x9 x10 x11 x12 x13 x14 x15 x16 x17 x18 x19 (law15_LatchRow_L8_end x0 x1 x2 x3 x13 s) f c0)

theorem law15_LatchRow_L8_f0_1 (x0 : Int) (x1 : Int) (x2 : Int) (x3 : List Int) (x4 : Bool) (x5 : Bool) (x6 : Int) (x7 : Int) (x8 : Int) (x9 : Bool) (x10 : Bool) (x11 : Bool) (x12 : Bool) (x13 : List Bool) (x14 : Bool) (x15 : Bool) (x16 : Bool) (x17 : Int) (x18 : Int) (x19 : Int) (s : law15_LatchRow_L8_s0) (hok : law15_LatchRow_L8_ok x0 x1 x2 x3 x13 s = true) (c0 : law15_LatchRow_L8_c0 x0 x1 x2 x3 x13 (law15_LatchRow_L8_end x0 x1 x2 x3 x13 s) = false) (c1 : law15_LatchRow_L8_c1 x13 (law15_LatchRow_L8_end x0 x1 x2 x3 x13 s) = true) : loopG (roundG (runC E0 (cl E0) L8_8) [1, 2, 6, 8, 9, 10, 11, 12] [1, 2, 4, 8, 9, 11] 3) bound (law15_LatchRow_L8_enc x0 x1 x2 x3 x4 x5 x6 x7 x8 x9 x10 x11 x12 x13 x14 x15 x16 x17 x18 x19 s) = some ((.exit 0), ([(V.d (slD encB true 1 x12 x13)), (V.ptr 0 1 0 0), V.un, (V.d (.bool ((law15_LatchRow_L8_end x0 x1 x2 x3 x13 s).c3))), (V.d (.bool ((law15_LatchRow_L8_end x0 x1 x2 x3 x13 s).c4))), (V.d (.int .i64 ((law15_LatchRow_L8_end x0 x1 x2 x3 x13 s).c6)))], [(Blk.flat 40 3 [[(.int .i64 x0), (.int .i64 x1), (.int .i64 x2)]] x9), (Blk.flat 3 1 (List.map (encI .i64) x3) x10), (Blk.flat 42 5 [[(.bool x4), (.bool x5), (.int .i64 x6), (.int .i64 x7), (.int .i64 x8)]] x11)])) := by
  have e : itS (law15_LatchRow_L8_sel x0 x1 x2 x3 x13) (law15_LatchRow_L8_nx x0 x1 x2 x3 x13) bound s = some (law15_LatchRow_L8_end x0 x1 x2 x3 x13 s) := itS_get hok
  have f := itS_false e
  exact loop_it (law15_LatchRow_L8_go x0 x1 x2 x3 x4 x5 x6 x7 x8 x9 x10 x11 x12 x13 x14 x15 x16 x17 x18 x19) bound s _ _ _ e (fun h => by cases h) (law15_LatchRow_L8_x1 x0 x1 x2 x3 x4 x5 x6 x7 x8 x9 x10 x11 x12 x13 x14 x15 x16 x17 x18 x19 (law15_LatchRow_L8_end x0 x1 x2 x3 x13 s) f c0 c1)

def law15_LatchRow_S9_e0 (x0 : Int) (x1 : Int) (x2 : Int) (x5 : List Bool) : law15_LatchRow_L8_s0 := law15_LatchRow_L8_end x0 x1 x2 (latch_Run_ai3o_r0_7 x0 x1 x2 x5) x5 (⟨false, false, 0, 0, 0⟩ : law15_LatchRow_L8_s0)

def law15_LatchRow_S9_c0 (x0 : Int) (x1 : Int) (x2 : Int) (x5 : List Bool) : Bool := (bif tb (latch_Run_ai3o_c0 x0 x1 x2 x5) then (bif tb (((latch_Run_ai3o_r0_6 x0 x1 x2) : Int) != 0) then true else (bif tb (((((latch_Run_ai3o_r0_7 x0 x1 x2 x5).length : Nat) : Int) : Int) != ((x5.length : Nat) : Int)) then true else (bif tb (law15_LatchRow_L8_ok x0 x1 x2 (latch_Run_ai3o_r0_7 x0 x1 x2 x5) x5 (⟨false, false, 0, 0, 0⟩ : law15_LatchRow_L8_s0)) then (bif tb (law15_LatchRow_L8_c0 x0 x1 x2 (latch_Run_ai3o_r0_7 x0 x1 x2 x5) x5 (law15_LatchRow_S9_e0 x0 x1 x2 x5)) then true else false) else false))) else false)

def law15_LatchRow_S9_c1 (x0 : Int) (x1 : Int) (x2 : Int) (x5 : List Bool) : Bool := (bif tb (latch_Run_ai3o_c0 x0 x1 x2 x5) then (bif tb (((latch_Run_ai3o_r0_6 x0 x1 x2) : Int) != 0) then false else (bif tb (((((latch_Run_ai3o_r0_7 x0 x1 x2 x5).length : Nat) : Int) : Int) != ((x5.length : Nat) : Int)) then false else (bif tb (law15_LatchRow_L8_ok x0 x1 x2 (latch_Run_ai3o_r0_7 x0 x1 x2 x5) x5 (⟨false, false, 0, 0, 0⟩ : law15_LatchRow_L8_s0)) then (bif tb (law15_LatchRow_L8_c0 x0 x1 x2 (latch_Run_ai3o_r0_7 x0 x1 x2 x5) x5 (law15_LatchRow_S9_e0 x0 x1 x2 x5)) then false else (bif tb (law15_LatchRow_L8_c1 x5 (law15_LatchRow_S9_e0 x0 x1 x2 x5)) then true else false)) else false))) else false)

theorem law15_LatchRow_S9_t0 (x0 : Int) (x1 : Int) (x2 : Int) (x3 : Bool) (x4 : Bool) (x5 : List Bool) : law15_LatchRow_S9_c0 x0 x1 x2 x5 = true → segG (runC E0 (cl E0) S8_9) [1, 2] [4] [1, 2, 8, 9, 11] 1 ([(V.d (slD encB true 1 x4 x5)), (V.ptr 0 1 0 0)], [(Blk.flat 40 3 [[(.int .i64 x0), (.int .i64 x1), (.int .i64 x2)]] x3)]) = some (.ret, ([(V.d (.bool false))], [(Blk.flat 40 3 [[(.int .i64 x0), (.int .i64 x1), (.int .i64 x2)]] x3)])) := by
  unfold law15_LatchRow_S9_c0
  cases h1 : tb (latch_Run_ai3o_c0 x0 x1 x2 x5)
  · intro g0
    exact absurd g0 ft
  · cases h2 : tb (((latch_Run_ai3o_r0_6 x0 x1 x2) : Int) != 0)
    · cases h3 : tb (((((latch_Run_ai3o_r0_7 x0 x1 x2 x5).length : Nat) : Int) : Int) != ((x5.length : Nat) : Int))
      · cases h4 : tb (law15_LatchRow_L8_ok x0 x1 x2 (latch_Run_ai3o_r0_7 x0 x1 x2 x5) x5 (⟨false, false, 0, 0, 0⟩ : law15_LatchRow_L8_s0))
        · intro g0
          exact absurd g0 ft
        · cases h5 : tb (law15_LatchRow_L8_c0 x0 x1 x2 (latch_Run_ai3o_r0_7 x0 x1 x2 x5) x5 (law15_LatchRow_S9_e0 x0 x1 x2 x5))
          · cases h6 : tb (law15_LatchRow_L8_c1 x5 (law15_LatchRow_S9_e0 x0 x1 x2 x5))
            · intro g0
              exact absurd g0 ft
            · intro g0
              exact absurd g0 ft
          · intro g0
            exact seg_walk [.c (latch_Run_ai3o_t0 x0 x1 x2 x4 x5 (tbE h1)), .b (tbE h2), .o 39 (fun _ => o_len_os (enc := encB) (l := x5) (fl := true) (n := x4) (s := 1)), .b (tbE h3), .l (law15_LatchRow_L8_f0_0 x0 x1 x2 (latch_Run_ai3o_r0_7 x0 x1 x2 x5) (latch_Run_ai3o_r0_0 x0 x1 x2 x5) (latch_Run_ai3o_r0_1 x0 x1 x2 x5) (latch_Run_ai3o_r0_2 x0 x1 x2 x5) (latch_Run_ai3o_r0_3 x0 x1 x2 x5) (latch_Run_ai3o_r0_4 x0 x1 x2 x5) x3 false false x4 x5 (latch_Run_ai3o_r0_5 x0 x1 x2 x5) false false 0 0 0 (⟨false, false, 0, 0, 0⟩ : law15_LatchRow_L8_s0) (tbE h4) (tbE h5))] (by kernel_rfl)
      · intro g0
        exact seg_walk [.c (latch_Run_ai3o_t0 x0 x1 x2 x4 x5 (tbE h1)), .b (tbE h2), .o 39 (fun _ => o_len_os (enc := encB) (l := x5) (fl := true) (n := x4) (s := 1)), .b (tbE h3)] (by kernel_rfl)
    · intro g0
      exact seg_walk [.c (latch_Run_ai3o_t0 x0 x1 x2 x4 x5 (tbE h1)), .b (tbE h2)] (by kernel_rfl)

theorem law15_LatchRow_S9_t1 (x0 : Int) (x1 : Int) (x2 : Int) (x3 : Bool) (x4 : Bool) (x5 : List Bool) : law15_LatchRow_S9_c0 x0 x1 x2 x5 = false → law15_LatchRow_S9_c1 x0 x1 x2 x5 = true → segG (runC E0 (cl E0) S8_9) [1, 2] [4] [1, 2, 8, 9, 11] 1 ([(V.d (slD encB true 1 x4 x5)), (V.ptr 0 1 0 0)], [(Blk.flat 40 3 [[(.int .i64 x0), (.int .i64 x1), (.int .i64 x2)]] x3)]) = some (.normal, ([(V.d (slD encB true 1 x4 x5)), (V.ptr 0 1 0 0), (V.d (.bool ((law15_LatchRow_S9_e0 x0 x1 x2 x5).c3))), (V.d (.bool ((law15_LatchRow_S9_e0 x0 x1 x2 x5).c4))), (V.d (.int .i64 ((law15_LatchRow_S9_e0 x0 x1 x2 x5).c6)))], [(Blk.flat 40 3 [[(.int .i64 x0), (.int .i64 x1), (.int .i64 x2)]] x3)])) := by
  unfold law15_LatchRow_S9_c0 law15_LatchRow_S9_c1
  cases h1 : tb (latch_Run_ai3o_c0 x0 x1 x2 x5)
  · intro g0 g1
    exact absurd g1 ft
  · cases h2 : tb (((latch_Run_ai3o_r0_6 x0 x1 x2) : Int) != 0)
    · cases h3 : tb (((((latch_Run_ai3o_r0_7 x0 x1 x2 x5).length : Nat) : Int) : Int) != ((x5.length : Nat) : Int))
      · cases h4 : tb (law15_LatchRow_L8_ok x0 x1 x2 (latch_Run_ai3o_r0_7 x0 x1 x2 x5) x5 (⟨false, false, 0, 0, 0⟩ : law15_LatchRow_L8_s0))
        · intro g0 g1
          exact absurd g1 ft
        · cases h5 : tb (law15_LatchRow_L8_c0 x0 x1 x2 (latch_Run_ai3o_r0_7 x0 x1 x2 x5) x5 (law15_LatchRow_S9_e0 x0 x1 x2 x5))
          · cases h6 : tb (law15_LatchRow_L8_c1 x5 (law15_LatchRow_S9_e0 x0 x1 x2 x5))
            · intro g0 g1
              exact absurd g1 ft
            · intro g0 g1
              exact seg_walk [.c (latch_Run_ai3o_t0 x0 x1 x2 x4 x5 (tbE h1)), .b (tbE h2), .o 39 (fun _ => o_len_os (enc := encB) (l := x5) (fl := true) (n := x4) (s := 1)), .b (tbE h3), .l (law15_LatchRow_L8_f0_1 x0 x1 x2 (latch_Run_ai3o_r0_7 x0 x1 x2 x5) (latch_Run_ai3o_r0_0 x0 x1 x2 x5) (latch_Run_ai3o_r0_1 x0 x1 x2 x5) (latch_Run_ai3o_r0_2 x0 x1 x2 x5) (latch_Run_ai3o_r0_3 x0 x1 x2 x5) (latch_Run_ai3o_r0_4 x0 x1 x2 x5) x3 false false x4 x5 (latch_Run_ai3o_r0_5 x0 x1 x2 x5) false false 0 0 0 (⟨false, false, 0, 0, 0⟩ : law15_LatchRow_L8_s0) (tbE h4) (tbE h5) (tbE h6))] (by kernel_rfl)
          · intro g0 g1
            exact absurd g0 tf
      · intro g0 g1
        exact absurd g0 tf
    · intro g0 g1
      exact absurd g0 tf

def law15_LatchRow_S10_c0 (x0 : Int) (x1 : Int) (x2 : Int) (x5 : List Bool) : Bool := (bif tb (latch_Run_ai3o_c0 x0 x1 x2 x5) then true else false)

def law15_LatchRow_S10_r0_0 (x0 : Int) (x1 : Int) (x2 : Int) (x5 : List Bool) (x6 : Bool) (x7 : Bool) (x8 : Int) : Bool := (bif tb (false != ((latch_Run_ai3o_r0_0 x0 x1 x2 x5) == x6)) then (bif tb (false != ((latch_Run_ai3o_r0_1 x0 x1 x2 x5) == x7)) then (((latch_Run_ai3o_r0_4 x0 x1 x2 x5) : Int) == x8) else false) else false)

theorem law15_LatchRow_S10_t0 (x0 : Int) (x1 : Int) (x2 : Int) (x3 : Bool) (x4 : Bool) (x5 : List Bool) (x6 : Bool) (x7 : Bool) (x8 : Int) : law15_LatchRow_S10_c0 x0 x1 x2 x5 = true → segG (runC E0 (cl E0) S8_10) [1, 2, 8, 9, 11] [] [4] 1 ([(V.d (slD encB true 1 x4 x5)), (V.ptr 0 1 0 0), (V.d (.bool x6)), (V.d (.bool x7)), (V.d (.int .i64 x8))], [(Blk.flat 40 3 [[(.int .i64 x0), (.int .i64 x1), (.int .i64 x2)]] x3)]) = some (.normal, ([(V.d (.bool (law15_LatchRow_S10_r0_0 x0 x1 x2 x5 x6 x7 x8)))], [(Blk.flat 40 3 [[(.int .i64 x0), (.int .i64 x1), (.int .i64 x2)]] x3)])) := by
  unfold law15_LatchRow_S10_c0 law15_LatchRow_S10_r0_0
  cases h1 : tb (latch_Run_ai3o_c0 x0 x1 x2 x5)
  · intro g0
    exact absurd g0 ft
  · cases h2 : tb (false != ((latch_Run_ai3o_r0_0 x0 x1 x2 x5) == x6))
    · intro g0
      exact seg_walk [.c (latch_Run_ai3o_t0 x0 x1 x2 x4 x5 (tbE h1)), .c (law15_alive_t0), .k true, .b (tbE h2)] (by kernel_rfl)
    · cases h3 : tb (false != ((latch_Run_ai3o_r0_1 x0 x1 x2 x5) == x7))
      · intro g0
        exact seg_walk [.c (latch_Run_ai3o_t0 x0 x1 x2 x4 x5 (tbE h1)), .c (law15_alive_t0), .k true, .b (tbE h2), .b (tbE h3)] (by kernel_rfl)
      · intro g0
        exact seg_walk [.c (latch_Run_ai3o_t0 x0 x1 x2 x4 x5 (tbE h1)), .c (law15_alive_t0), .k true, .b (tbE h2), .b (tbE h3)] (by kernel_rfl)

def law15_LatchRow_c0 (x0 : Int) (x1 : Int) (x2 : Int) (x4 : List Bool) : Bool := (bif tb (law15_LatchRow_S0_c0 x0 x1 x2 x4) then true else (bif tb (law15_LatchRow_S9_c0 x0 x1 x2 x4) then true else (bif tb (law15_LatchRow_S9_c1 x0 x1 x2 x4) then (bif tb (law15_LatchRow_S10_c0 x0 x1 x2 x4) then true else false) else false)))

def law15_LatchRow_r0_0 (x0 : Int) (x1 : Int) (x2 : Int) (x4 : List Bool) : Bool := (bif tb (law15_LatchRow_S0_c0 x0 x1 x2 x4) then true else (bif tb (law15_LatchRow_S9_c0 x0 x1 x2 x4) then false else (law15_LatchRow_S10_r0_0 x0 x1 x2 x4 ((law15_LatchRow_S9_e0 x0 x1 x2 x4).c3) ((law15_LatchRow_S9_e0 x0 x1 x2 x4).c4) ((law15_LatchRow_S9_e0 x0 x1 x2 x4).c6))))

theorem law15_LatchRow_t0 (x0 : Int) (x1 : Int) (x2 : Int) (x3 : Bool) (x4 : List Bool) : law15_LatchRow_c0 x0 x1 x2 x4 = true → cl E0 8 [(V.agg [(V.d (.int .i64 x0)), (V.d (.int .i64 x1)), (V.d (.int .i64 x2))]), (V.d (slD encB true 1 x3 x4))] [] = some ([(V.d (.bool (law15_LatchRow_r0_0 x0 x1 x2 x4)))], []) := by
  unfold law15_LatchRow_c0 law15_LatchRow_r0_0
  cases h1 : tb (law15_LatchRow_S0_c0 x0 x1 x2 x4)
  · cases h2 : tb (law15_LatchRow_S9_c0 x0 x1 x2 x4)
    · cases h3 : tb (law15_LatchRow_S9_c1 x0 x1 x2 x4)
      · intro g0
        exact absurd g0 ft
      · cases h4 : tb (law15_LatchRow_S10_c0 x0 x1 x2 x4)
        · intro g0
          exact absurd g0 ft
        · intro g0
          exact w8 [.s (law15_LatchRow_S0_t1 x0 x1 x2 false x3 x4 (tbE h1)), .s (law15_LatchRow_S9_t1 x0 x1 x2 false x3 x4 (tbE h2) (tbE h3)), .s (law15_LatchRow_S10_t0 x0 x1 x2 false x3 x4 ((law15_LatchRow_S9_e0 x0 x1 x2 x4).c3) ((law15_LatchRow_S9_e0 x0 x1 x2 x4).c4) ((law15_LatchRow_S9_e0 x0 x1 x2 x4).c6) (tbE h4))] (by kernel_rfl)
    · intro g0
      exact w8 [.s (law15_LatchRow_S0_t1 x0 x1 x2 false x3 x4 (tbE h1)), .s (law15_LatchRow_S9_t0 x0 x1 x2 false x3 x4 (tbE h2))] (by kernel_rfl)
  · intro g0
    exact w8 [.s (law15_LatchRow_S0_t0 x0 x1 x2 false x3 x4 (tbE h1))] (by kernel_rfl)

end Go.Proofs.Ytdjmfcdopaejcaa.Den

/- Layer 15: LatchRow. -/
namespace Go.Proofs.Ytdjmfcdopaejcaa.Den
open Go Go.Proofs
set_option linter.unusedVariables false
set_option linter.unusedSimpArgs false

theorem lrun_get {L C B : Int} {l : List Bool} {k : Nat} (h : k < l.length) {s : LS} : gt (lrun L C B s l).2 (k : Int) = (lnext L C B (lrun L C B s (l.take k)).1 (gt l (k : Int))).2 := by
  have e : lrun L C B s l = lrun L C B s (l.take (k + 1) ++ l.drop (k + 1)) := by rw [List.take_append_drop]
  rw [e, lrun_append, lrun_succ h]
  have hlen : (lrun L C B s (l.take k)).2.length = k := by rw [lrun_len]; simp; omega
  rw [gt_nat (by simp [hlen])]
  rw [List.getElem_append_left (by simp [hlen])]
  rw [List.getElem_append_right (by omega)]
  simp [hlen]

def rowOf (s : LS) : Int := if s.o then 0 else if s.l then s.cl else s.st

def rowSt (k : Nat) (s : LS) : law15_LatchRow_L8_s0 := ⟨s.l, s.o, rowOf s, s.bk, k⟩

theorem row_step {L C B : Int} {X : List Int} {l : List Bool} {k : Nat} (hk : k < l.length) (hl : l.length ≤ 100000) (hX : X.length = l.length) {s : LS} (hf : s.fine L C B) (hg : gt X (k : Int) = (lnext L C B s (gt l (k : Int))).2) :
    law15_LatchRow_L8_sel L C B X l (rowSt k s) = true ∧ law15_LatchRow_L8_nx L C B X l (rowSt k s) = rowSt (k + 1) (lnext L C B s (gt l (k : Int))).1 := by
  have i1 : inb X.length (k : Int) = true := inb_of (by omega) (by omega)
  have i2 : inb l.length (k : Int) = true := inb_of (by omega) (by omega)
  have hkl : decide ((k : Int) < (l.length : Int)) = true := by simp [hk]
  have hw : wi ((k : Int) + 1) = (k : Int) + 1 := wi_eq (by omega) (by omega)
  obtain ⟨t, ht⟩ : ∃ t, gt l (k : Int) = t := ⟨_, rfl⟩
  rw [ht] at hg
  rw [ht]
  obtain ⟨lt, o, st, cl, bk⟩ := s
  obtain ⟨hr, h⟩ := hf
  unfold rightP at hr
  simp only at h
  have w4 : wi L = L := wi_eq (by omega) (by omega)
  have w5 : wi C = C := wi_eq (by omega) (by omega)
  have w1 : wi (st + 1) = st + 1 := wi_eq (by omega) (by omega)
  have w2 : wi (cl + 1) = cl + 1 := wi_eq (by omega) (by omega)
  have w3 : wi (bk + 1) = bk + 1 := wi_eq (by omega) (by omega)
  simp only [law15_LatchRow_L8_sel, law15_LatchRow_L8_nx, rowSt, rowOf, law15_LatchRow_S1_c0, law15_LatchRow_S7_c0, law15_LatchRow_S7_c1, law15_LatchRow_S2_c0, law15_LatchRow_S2_c1, law15_LatchRow_S2_c2, law15_LatchRow_S3_c0,
    law15_LatchRow_S3_r0_5, law15_LatchRow_S4_r0_8, law15_LatchRow_S5_r0_8, law15_LatchRow_S6_c0, law15_LatchRow_S6_c1, law15_LatchRow_S7_e0, law15_LatchRow_S7_e1, law15_LatchRow_S7_r1_3, law15_LatchRow_S7_r1_4, law15_LatchRow_S7_r1_5, law15_LatchRow_S7_r1_6,
    i1, i2, hkl, hw, hg, ht, tb, cond_true, cond_false, lnext, Bool.cond_eq_ite]
  rcases h with ⟨rfl, rfl, h⟩ | ⟨rfl, rfl, h⟩ | ⟨rfl, rfl, h⟩
  · cases t
    · have e1 : ¬ (0 : Int) = L := by omega
      have e2 : ¬ B < bk := by omega
      simp [e1, e2]
    · have e2 : ¬ B < bk := by omega
      by_cases c1 : st + 1 < L
      · have e1 : ¬ st + 1 = L := by omega
        simp [c1, e1, e2, w1]
      · have e1 : st + 1 = L := by omega
        by_cases c2 : bk = B <;> simp [c1, c2, e1, e2, w4, h.2.1]
  · cases t
    · by_cases c1 : cl + 1 = C
      · have e2 : ¬ B < bk + 1 := by omega
        simp [c1, e2, w3, w5]; try omega
      · have e2 : ¬ B < bk := by omega
        simp [c1, e2, w2]
    · have e1 : ¬ (0 : Int) = C := by omega
      have e2 : ¬ B < bk := by omega
      simp [e1, e2]
  · simp

theorem row_end {L C B : Int} (hr : rightP L C B) {X : List Int} {l : List Bool} (hl : l.length ≤ 100000) (hX : X = (lrun L C B LS0 l).2) :
    law15_LatchRow_L8_ok L C B X l (⟨false, false, 0, 0, 0⟩ : law15_LatchRow_L8_s0) = true ∧ law15_LatchRow_L8_end L C B X l (⟨false, false, 0, 0, 0⟩ : law15_LatchRow_L8_s0) = rowSt l.length (lrun L C B LS0 l).1 := by
  have hit : itS (law15_LatchRow_L8_sel L C B X l) (law15_LatchRow_L8_nx L C B X l) bound (rowSt 0 (lrun L C B LS0 (l.take 0)).1) = some (rowSt l.length (lrun L C B LS0 (l.take l.length)).1) := by
    refine loop_seq (fun k => rowSt k (lrun L C B LS0 (l.take k)).1) l.length (by omega) (fun k hk => ?_) ?_
    · have hf : (lrun L C B LS0 (l.take k)).1.fine L C B := lrun_fine (LS0_fine hr)
      obtain ⟨h1, h2⟩ := row_step (X := X) hk hl (by rw [hX, lrun_len]) hf (by rw [hX]; exact lrun_get hk)
      exact ⟨h1, by rw [h2, lrun_succ hk]⟩
    · simp [rowSt, law15_LatchRow_L8_sel, law15_LatchRow_S1_c0, tb]
  have h0 : rowSt 0 (lrun L C B LS0 (l.take 0)).1 = (⟨false, false, 0, 0, 0⟩ : law15_LatchRow_L8_s0) := by simp [lrun, rowSt, rowOf, LS0]
  rw [h0, List.take_length] at hit
  constructor
  · simp only [law15_LatchRow_L8_ok, hit]; rfl
  · simp only [law15_LatchRow_L8_end, hit]; rfl

theorem pure_LatchRow (x0 : Int) (x1 : Int) (x2 : Int) (x3 : Bool) (x4 : List Bool) (wx0 : WfI .i64 x0) (wx1 : WfI .i64 x1) (wx2 : WfI .i64 x2) (wx4 : (x4.length ≤ maxLen ∧ ∀ z ∈ x4, True)) : law15_LatchRow_c0 x0 x1 x2 x4 = true ∧ (law15_LatchRow_r0_0 x0 x1 x2 x4) = true := by
  by_cases hr : rightP x0 x1 x2
  · have r1 := (rightL x0 x1 x2).2 hr
    by_cases hm : 300 < x4.length
    · have : law15_LatchRow_S0_c0 x0 x1 x2 x4 = true := by simp [law15_LatchRow_S0_c0, r1, tb]; omega
      simp [law15_LatchRow_c0, law15_LatchRow_r0_0, this, tb]
    · have h0 : law15_LatchRow_S0_c0 x0 x1 x2 x4 = false := by simp [law15_LatchRow_S0_c0, r1, tb]; omega
      obtain ⟨a1, a2⟩ := runL hr x4 (by omega)
      have e7 : latch_Run_ai3o_r0_7 x0 x1 x2 x4 = (lrun x0 x1 x2 LS0 x4).2 := by simp [latch_Run_ai3o_r0_7, r1, tb, a2, runSt]
      obtain ⟨k1, k2⟩ := row_end hr (X := latch_Run_ai3o_r0_7 x0 x1 x2 x4) (l := x4) (by omega) e7
      have e6 : latch_Run_ai3o_r0_6 x0 x1 x2 = 0 := by simp [latch_Run_ai3o_r0_6, r1, tb]
      have hlen : (latch_Run_ai3o_r0_7 x0 x1 x2 x4).length = x4.length := by rw [e7, lrun_len]
      have f0 : law15_LatchRow_S9_e0 x0 x1 x2 x4 = rowSt x4.length (lrun x0 x1 x2 LS0 x4).1 := k2
      have s1 : law15_LatchRow_S1_c0 x4 (rowSt x4.length (lrun x0 x1 x2 LS0 x4).1).c7 = false := by simp [law15_LatchRow_S1_c0, rowSt, tb]
      have c0 : law15_LatchRow_S9_c0 x0 x1 x2 x4 = false := by simp [law15_LatchRow_S9_c0, a1, e6, hlen, k1, f0, law15_LatchRow_L8_c0, s1, tb]
      have c1 : law15_LatchRow_S9_c1 x0 x1 x2 x4 = true := by simp [law15_LatchRow_S9_c1, a1, e6, hlen, k1, f0, law15_LatchRow_L8_c0, law15_LatchRow_L8_c1, s1, tb]
      constructor
      · simp only [law15_LatchRow_c0, h0, c0, c1, law15_LatchRow_S10_c0, a1, tb]; rfl
      · simp only [law15_LatchRow_r0_0, h0, c0, f0, law15_LatchRow_S10_r0_0, latch_Run_ai3o_r0_0, latch_Run_ai3o_r0_1, latch_Run_ai3o_r0_4, r1, a2, runSt, rowSt, tb, cond_true, cond_false]
        simp
  · have r1 : latch_Right_ai3_r0_0 x0 x1 x2 = false := by
      cases h : latch_Right_ai3_r0_0 x0 x1 x2 with
      | false => rfl
      | true => exact absurd ((rightL _ _ _).1 h) hr
    have : law15_LatchRow_S0_c0 x0 x1 x2 x4 = true := by simp [law15_LatchRow_S0_c0, r1, tb]
    simp [law15_LatchRow_c0, law15_LatchRow_r0_0, this, tb]

end Go.Proofs.Ytdjmfcdopaejcaa.Den

/- What all rows of a seat rest on. -/
namespace Go.Proofs.Ytdjmfcdopaejcaa.Den
open Go Go.Proofs
set_option maxRecDepth 100000

theorem own : ownKnob Try.prog.godebug = none := by kernel_rfl
theorem laidOut : laidOutB Try.prog = true := by kernel_rfl
theorem mixed : Try.prog.follows .mixedOrders = true := by kernel_rfl
theorem envOK : EnvOK Try.prog E0 := ⟨e0_cf, fun f args m r m' h => by simp [E0] at h⟩
theorem glOK (w : World) : GlOK E0 (cx0 w) := fun g cs h => by simp [E0] at h
end Go.Proofs.Ytdjmfcdopaejcaa.Den

/- The row of LatchRow. -/
namespace Go.Proofs.Ytdjmfcdopaejcaa.Den
open Go Go.Proofs Go.ChangeShapes Go.WideShapes Go.ChangeAt Go.RowKit
open Go.Proofs.Ytdjmfcdopaejcaa (Rows.latchRowSpec Rows.latchRowRow Rows.LatchRowSaid)
set_option maxRecDepth 100000
set_option linter.unusedSimpArgs false
set_option linter.unusedVariables false

theorem row8 (rs : List (List D)) (h : TyAll Try.prog 20 Try.f8.params.toList rs) : ∃ k m', callD E0 k 8 (argsV Try.prog Try.f8.params.toList rs) [] = some ([.d (.bool true)], m') := by
  rw [Try.params8] at h ⊢
  simp only [TyAll] at h
  obtain ⟨_, _, rfl, q0, _, _, rfl, q1, rfl⟩ := h
  have k0 := flatK_ok 20 _ _ _ (show flatK Try.prog 20 40 = some [.i .i64, .i .i64, .i .i64] by kernel_rfl) q0
  simp only [CellsK, CellK] at k0
  obtain ⟨_, _, rfl, ⟨a0_0, rfl, w0_0⟩, _, _, rfl, ⟨a0_1, rfl, w0_1⟩, _, _, rfl, ⟨a0_2, rfl, w0_2⟩, rfl⟩ := k0
  have k1 := flatK_ok 20 _ _ _ (show flatK Try.prog 20 57 = some [.l 4] by kernel_rfl) q1
  simp only [CellsK, CellK] at k1
  obtain ⟨d1_0, _, rfl, y1_0, rfl⟩ := k1
  obtain ⟨n1_0, a1_0, rfl, v1_0⟩ : ∃ n l, d1_0 = slD encB true 1 n l ∧ (l.length ≤ maxLen ∧ ∀ z ∈ l, True) := by
    rcases y1_0 with rfl | ⟨rows1, rfl, hl1, m1, hr1⟩
    · exact ⟨true, [], rfl, by simp [maxLen], fun z hz => by simp at hz⟩
    · obtain ⟨l2, rfl, hw2⟩ : ∃ l : List Bool, rows1 = l.map encB ∧ ∀ z ∈ l, True := rows_of (T := Ty Try.prog m1 4) (fun r hr => by
          have q := flatK_any (show flatK Try.prog 20 4 = some [.b] by kernel_rfl) hr
          simp only [CellsK, CellK] at q
          obtain ⟨_, _, rfl, ⟨b0, rfl⟩, rfl⟩ := q
          exact ⟨b0, rfl, trivial⟩) rows1 hr1
      rw [show isFlat Try.prog 4 = true by kernel_rfl, show Try.prog.cellsOf 4 = 1 by kernel_rfl]
      exact ⟨false, l2, slD_rs _ _ _ _, by simpa using hl1, hw2⟩
  simp only [argsV, argV, Try.underlying40, Try.underlying57, List.map_cons, List.map_nil]
  obtain ⟨g1, g2⟩ := pure_LatchRow a0_0 a0_1 a0_2 n1_0 a1_0 w0_0 w0_1 w0_2 v1_0
  have hc := law15_LatchRow_t0 a0_0 a0_1 a0_2 n1_0 a1_0 g1
  rw [g2] at hc
  obtain ⟨k, hk⟩ := of_cl hc
  exact ⟨k, _, hk⟩

theorem latchRow_lifted (os : Os) (started : os.Started) (H : Type) (enc : TypeId × Value → H) :
    ReturnsInHanded {} Try.checked os 8 .any (Rows.latchRowSpec.pre6 enc Try.prog Try.f8 Rows.latchRowRow.domain false) (Rows.latchRowSpec.post enc Try.prog Try.f8 false true false false) :=
  law_lifted (C := Try.checked) (fn := Try.f8) mixed envOK glOK own started (by kernel_rfl) Try.func8 laidOut
    (ChangeSpec.witness6 (enc := enc) (C := Try.checked) false ⟨#[], #[.agg #[.int .i64 0, .int .i64 0, .int .i64 0], .slice none 0 0], []⟩ 8 (by kernel_rfl) (by kernel_rfl) (by kernel_rfl) (by kernel_rfl))
    (by kernel_rfl) (rt := 4) rfl Try.underlying4 rfl
    (fun ds h => by
      match ds, h with
      | [_, _], _ => rfl)
    row8

theorem latchRow_holds : Rows.LatchRowSaid :=
  OpenClaim.holds_of_wide 8 Try.f8 rfl rfl rfl rfl rfl rfl rfl ⟨rfl, rfl, rfl, rfl, rfl⟩ rfl rfl rfl rfl rfl (by kernel_rfl) Try.func8 (by kernel_rfl)
    (of_decide_eq_true (by kernel_rfl)) (by unfold Func.isWrapper; first | (rw [if_pos (by decide +kernel)]; kernel_rfl) | (rw [if_neg (by decide +kernel)]; exact ⟨rfl, rfl⟩))
    (fun os started H enc _ => latchRow_lifted os started H enc)

end Go.Proofs.Ytdjmfcdopaejcaa.Den
