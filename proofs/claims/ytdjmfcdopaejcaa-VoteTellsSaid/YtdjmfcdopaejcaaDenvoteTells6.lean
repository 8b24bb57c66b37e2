/- VoteTells: part 6 of what its proof rests on: an evaluator of the program's code, proved sound; plain functions printed from the code by a program of this session, with proofs; plain laws. No condition. -/
import Derived.Test.YtdjmfcdopaejcaaDenvoteTells5
import Derived.Test.YtdjmfcdopaejcaaRows

namespace Go.Proofs.Ytdjmfcdopaejcaa.Den
open Go Go.Proofs
set_option maxRecDepth 100000
set_option maxHeartbeats 4000000
set_option linter.unusedVariables false
set_option linter.unusedSimpArgs false

def vote_right_i_r0_0 (x0 : Int) : Bool := (bif tb (decide ((-2147483648) ≤ x0)) then (decide (x0 ≤ 2147483647)) else false)

theorem vote_right_i_t0 (x0 : Int) : cl E0 58 [(V.d (.int .i64 x0))] [] = some ([(V.d (.bool (vote_right_i_r0_0 x0)))], []) := by
  unfold vote_right_i_r0_0
  cases h1 : tb (decide ((-2147483648) ≤ x0))
  · exact w58 [.b (tbE h1)] (by kernel_rfl)
  · exact w58 [.b (tbE h1)] (by kernel_rfl)

def vote_Right_ai3_r0_0 (x0 : Int) (x1 : Int) (x2 : Int) : Bool := (bif tb (vote_right_i_r0_0 x0) then (bif tb (vote_right_i_r0_0 x1) then (bif tb (decide (x0 ≤ x1)) then (bif tb (decide (0 ≤ x2)) then (vote_right_i_r0_0 x2) else false) else false) else false) else false)

theorem vote_Right_ai3_t0 (x0 : Int) (x1 : Int) (x2 : Int) : cl E0 45 [(V.agg [(V.d (.int .i64 x0)), (V.d (.int .i64 x1)), (V.d (.int .i64 x2))])] [] = some ([(V.d (.bool (vote_Right_ai3_r0_0 x0 x1 x2)))], []) := by
  unfold vote_Right_ai3_r0_0
  cases h1 : tb (vote_right_i_r0_0 x0)
  · exact w45 [.c (vote_right_i_t0 x0), .b (tbE h1)] (by kernel_rfl)
  · cases h2 : tb (vote_right_i_r0_0 x1)
    · exact w45 [.c (vote_right_i_t0 x0), .b (tbE h1), .c (vote_right_i_t0 x1), .b (tbE h2)] (by kernel_rfl)
    · cases h3 : tb (decide (x0 ≤ x1))
      · exact w45 [.c (vote_right_i_t0 x0), .b (tbE h1), .c (vote_right_i_t0 x1), .b (tbE h2), .b (tbE h3)] (by kernel_rfl)
      · cases h4 : tb (decide (0 ≤ x2))
        · exact w45 [.c (vote_right_i_t0 x0), .b (tbE h1), .c (vote_right_i_t0 x1), .b (tbE h2), .b (tbE h3), .b (tbE h4)] (by kernel_rfl)
        · exact w45 [.c (vote_right_i_t0 x0), .b (tbE h1), .c (vote_right_i_t0 x1), .b (tbE h2), .b (tbE h3), .b (tbE h4), .c (vote_right_i_t0 x2)] (by kernel_rfl)

theorem vote_ones_oo_t0 (x0 : Bool) (x1 : List Int) (x2 : Bool) (x3 : List Int) : cl E0 53 [(V.d (slD (encI .i64) true 1 x0 x1)), (V.d (slD (encI .i64) true 1 x2 x3))] [] = some ([(V.fn (.func 62) [] [(V.ptr 0 1 0 0), (V.ptr 1 1 0 0)])], [(Blk.gen 26 1 [[(V.d (slD (encI .i64) true 1 x0 x1))]] false), (Blk.gen 26 1 [[(V.d (slD (encI .i64) true 1 x2 x3))]] false)]) := by
  exact w53 [] (by kernel_rfl)

def vote_Vote_Y1_ai2_Y43_1p6Fi3FiFbFiFiFi_e0 (x2 : Int) (x5 : Int) (x15 : Int) (x16 : Int) : Int := wi (x16 * (fix_Clamp_iii_r0_0 x15 (wi (x5 - x2)) (wi (x5 + x2))))

def vote_Vote_Y1_ai2_Y43_1p6Fi3FiFbFiFiFi_e1 (x2 : Int) (x5 : Int) (x6 : Int) (x15 : Int) (x16 : Int) : Int := wi (x6 + (vote_Vote_Y1_ai2_Y43_1p6Fi3FiFbFiFiFi_e0 x2 x5 x15 x16))

def vote_Vote_Y1_ai2_Y43_1p6Fi3FiFbFiFiFi_c0 (x15 : Int) (x16 : Int) : Bool := (bif tb (decide (x15 < (-4294967296))) then true else (bif tb (decide (4294967296 < x15)) then true else (bif tb (decide (x16 < 1)) then true else (bif tb (decide (16 < x16)) then true else false))))

def vote_Vote_Y1_ai2_Y43_1p6Fi3FiFbFiFiFi_c1 (x2 : Int) (x5 : Int) (x15 : Int) (x16 : Int) : Bool := (bif tb (decide (x15 < (-4294967296))) then false else (bif tb (decide (4294967296 < x15)) then false else (bif tb (decide (x16 < 1)) then false else (bif tb (decide (16 < x16)) then false else (bif tb (fix_Clamp_iii_c0 x15 (wi (x5 - x2)) (wi (x5 + x2))) then true else false)))))

theorem vote_Vote_Y1_ai2_Y43_1p6Fi3FiFbFiFiFi_t0 (x0 : Int) (x1 : Int) (x2 : Int) (x3 : Int) (x4 : Bool) (x5 : Int) (x6 : Int) (x7 : Int) (x9 : Bool) (x12 : Bool) (x15 : Int) (x16 : Int) : vote_Vote_Y1_ai2_Y43_1p6Fi3FiFbFiFiFi_c0 x15 x16 = true → cl E0 yfn [(V.yl 0), (V.agg [(V.d (.int .i64 x15)), (V.d (.int .i64 x16))])] [(Blk.loop .ready none [V.un, V.un, V.un, (V.ptr 1 1 0 0), V.un, V.un, (V.ptr 2 1 0 0), (V.ptr 3 1 0 0), (V.ptr 4 1 0 0), V.un, (V.ptr 5 1 0 0), (V.ptr 6 1 0 0), V.un, V.un, V.un, V.un, V.un, V.un, V.un, V.un, V.un, V.un, V.un, V.un, V.un, V.un, V.un, V.un, V.un, V.un, V.un, V.un, V.un, V.un, V.un, V.un, V.un, V.un, V.un, V.un, V.un, V.un, V.un, V.un, V.un, V.un, V.un, V.un, V.un, V.un, V.un, V.un, V.un, V.un, V.un, V.un, V.un, V.un, V.un, V.un, V.un, V.un, V.un, V.un, V.un, V.un, V.un, V.un, V.un, V.un, V.un, V.un, V.un, V.un, V.un, V.un, V.un, V.un, V.un, V.un, V.un, V.un] [35] L43_0 L43_1 false), (Blk.flat 65 3 [[(.int .i64 x0), (.int .i64 x1), (.int .i64 x2)]] x9), (Blk.flat 3 1 [[(.int .i64 x3)]] false), (Blk.flat 4 1 [[(.bool x4)]] false), (Blk.flat 3 1 [[(.int .i64 x5)]] x12), (Blk.flat 3 1 [[(.int .i64 x6)]] false), (Blk.flat 3 1 [[(.int .i64 x7)]] false)] = some ([(V.d (.bool false))], [(Blk.loop .done (some .ret) [V.un, V.un, V.un, (V.ptr 1 1 0 0), V.un, V.un, (V.ptr 2 1 0 0), (V.ptr 3 1 0 0), (V.ptr 4 1 0 0), V.un, (V.ptr 5 1 0 0), (V.ptr 6 1 0 0), V.un, V.un, V.un, V.un, V.un, V.un, V.un, V.un, V.un, V.un, V.un, V.un, V.un, V.un, V.un, V.un, V.un, V.un, V.un, V.un, V.un, V.un, V.un, V.un, V.un, V.un, V.un, V.un, V.un, V.un, V.un, V.un, V.un, V.un, V.un, V.un, V.un, V.un, V.un, V.un, V.un, V.un, V.un, V.un, V.un, V.un, V.un, V.un, V.un, V.un, V.un, V.un, V.un, V.un, V.un, V.un, V.un, V.un, V.un, V.un, V.un, V.un, V.un, V.un, V.un, V.un, V.un, V.un, V.un, V.un] [35] L43_0 L43_1 false), (Blk.flat 65 3 [[(.int .i64 x0), (.int .i64 x1), (.int .i64 x2)]] x9), (Blk.flat 3 1 [[(.int .i64 0)]] false), (Blk.flat 4 1 [[(.bool false)]] false), (Blk.flat 3 1 [[(.int .i64 x5)]] x12), (Blk.flat 3 1 [[(.int .i64 x6)]] false), (Blk.flat 3 1 [[(.int .i64 x7)]] false)]) := by
  unfold vote_Vote_Y1_ai2_Y43_1p6Fi3FiFbFiFiFi_c0
  cases h1 : tb (decide (x15 < (-4294967296)))
  · cases h2 : tb (decide (4294967296 < x15))
    · cases h3 : tb (decide (x16 < 1))
      · cases h4 : tb (decide (16 < x16))
        · cases h5 : tb (fix_Clamp_iii_c0 x15 (wi (x5 - x2)) (wi (x5 + x2)))
          · intro g0
            exact absurd g0 ft
          · intro g0
            exact absurd g0 ft
        · intro g0
          exact round_yield [.b (tbE h1), .b (tbE h2), .b (tbE h3), .b (tbE h4)] (by kernel_rfl)
      · intro g0
        exact round_yield [.b (tbE h1), .b (tbE h2), .b (tbE h3)] (by kernel_rfl)
    · intro g0
      exact round_yield [.b (tbE h1), .b (tbE h2)] (by kernel_rfl)
  · intro g0
    exact round_yield [.b (tbE h1)] (by kernel_rfl)

theorem vote_Vote_Y1_ai2_Y43_1p6Fi3FiFbFiFiFi_t1 (x0 : Int) (x1 : Int) (x2 : Int) (x3 : Int) (x4 : Bool) (x5 : Int) (x6 : Int) (x7 : Int) (x9 : Bool) (x12 : Bool) (x15 : Int) (x16 : Int) : vote_Vote_Y1_ai2_Y43_1p6Fi3FiFbFiFiFi_c0 x15 x16 = false → vote_Vote_Y1_ai2_Y43_1p6Fi3FiFbFiFiFi_c1 x2 x5 x15 x16 = true → cl E0 yfn [(V.yl 0), (V.agg [(V.d (.int .i64 x15)), (V.d (.int .i64 x16))])] [(Blk.loop .ready none [V.un, V.un, V.un, (V.ptr 1 1 0 0), V.un, V.un, (V.ptr 2 1 0 0), (V.ptr 3 1 0 0), (V.ptr 4 1 0 0), V.un, (V.ptr 5 1 0 0), (V.ptr 6 1 0 0), V.un, V.un, V.un, V.un, V.un, V.un, V.un, V.un, V.un, V.un, V.un, V.un, V.un, V.un, V.un, V.un, V.un, V.un, V.un, V.un, V.un, V.un, V.un, V.un, V.un, V.un, V.un, V.un, V.un, V.un, V.un, V.un, V.un, V.un, V.un, V.un, V.un, V.un, V.un, V.un, V.un, V.un, V.un, V.un, V.un, V.un, V.un, V.un, V.un, V.un, V.un, V.un, V.un, V.un, V.un, V.un, V.un, V.un, V.un, V.un, V.un, V.un, V.un, V.un, V.un, V.un, V.un, V.un, V.un, V.un] [35] L43_0 L43_1 false), (Blk.flat 65 3 [[(.int .i64 x0), (.int .i64 x1), (.int .i64 x2)]] x9), (Blk.flat 3 1 [[(.int .i64 x3)]] false), (Blk.flat 4 1 [[(.bool x4)]] false), (Blk.flat 3 1 [[(.int .i64 x5)]] x12), (Blk.flat 3 1 [[(.int .i64 x6)]] false), (Blk.flat 3 1 [[(.int .i64 x7)]] false)] = some ([(V.d (.bool true))], [(Blk.loop .ready none [V.un, V.un, V.un, (V.ptr 1 1 0 0), V.un, V.un, (V.ptr 2 1 0 0), (V.ptr 3 1 0 0), (V.ptr 4 1 0 0), V.un, (V.ptr 5 1 0 0), (V.ptr 6 1 0 0), V.un, V.un, V.un, V.un, V.un, V.un, V.un, V.un, V.un, V.un, V.un, V.un, V.un, V.un, V.un, V.un, V.un, V.un, V.un, V.un, V.un, V.un, V.un, V.un, V.un, V.un, V.un, V.un, V.un, V.un, V.un, V.un, V.un, V.un, V.un, V.un, V.un, V.un, V.un, V.un, V.un, V.un, V.un, V.un, V.un, V.un, V.un, V.un, V.un, V.un, V.un, V.un, V.un, V.un, V.un, V.un, V.un, V.un, V.un, V.un, V.un, V.un, V.un, V.un, V.un, V.un, V.un, V.un, V.un, V.un] [35] L43_0 L43_1 false), (Blk.flat 65 3 [[(.int .i64 x0), (.int .i64 x1), (.int .i64 x2)]] x9), (Blk.flat 3 1 [[(.int .i64 x3)]] false), (Blk.flat 4 1 [[(.bool x4)]] false), (Blk.flat 3 1 [[(.int .i64 x5)]] x12), (Blk.flat 3 1 [[(.int .i64 (vote_Vote_Y1_ai2_Y43_1p6Fi3FiFbFiFiFi_e1 x2 x5 x6 x15 x16))]] false), (Blk.flat 3 1 [[(.int .i64 (wi (x7 + x16)))]] false)]) := by
  unfold vote_Vote_Y1_ai2_Y43_1p6Fi3FiFbFiFiFi_c0 vote_Vote_Y1_ai2_Y43_1p6Fi3FiFbFiFiFi_c1
  cases h1 : tb (decide (x15 < (-4294967296)))
  · cases h2 : tb (decide (4294967296 < x15))
    · cases h3 : tb (decide (x16 < 1))
      · cases h4 : tb (decide (16 < x16))
        · cases h5 : tb (fix_Clamp_iii_c0 x15 (wi (x5 - x2)) (wi (x5 + x2)))
          · intro g0 g1
            exact absurd g1 ft
          · intro g0 g1
            exact round_yield [.b (tbE h1), .b (tbE h2), .b (tbE h3), .b (tbE h4), .c (fix_Clamp_iii_t0 x15 (wi (x5 - x2)) (wi (x5 + x2)) (tbE h5))] (by kernel_rfl)
        · intro g0 g1
          exact absurd g0 tf
      · intro g0 g1
        exact absurd g0 tf
    · intro g0 g1
      exact absurd g0 tf
  · intro g0 g1
    exact absurd g0 tf

structure vote_ones_c1_ypp_Y43_1p6Fi3FiFbFiFiFiGoGo_L0_s0 where
  c1 : Int
  c13 : Int
  c15 : Int
  deriving Inhabited

def vote_ones_c1_ypp_Y43_1p6Fi3FiFbFiFiFiGoGo_L0_enc (x0 : Int) (x1 : Int) (x2 : Int) (x3 : Int) (x4 : Bool) (x5 : Int) (x6 : Int) (x7 : Int) (x8 : Bool) (x9 : Bool) (x10 : Bool) (x11 : Bool) (x12 : Bool) (x13 : Bool) (x14 : Bool) (x15 : Bool) (x16 : List Int) (x17 : Bool) (x18 : Bool) (x19 : List Int) (x20 : Bool) (x21 : Int) (x22 : Int) (s0 : vote_ones_c1_ypp_Y43_1p6Fi3FiFbFiFiFiGoGo_L0_s0) : List V × Mem := ([(V.yl 0), (V.ptr 7 1 0 0), (V.ptr 8 1 0 0), (V.d (.int .i64 x21)), (V.d (.int .i64 s0.c1))], [(Blk.loop .ready none [V.un, V.un, V.un, (V.ptr 1 1 0 0), V.un, V.un, (V.ptr 2 1 0 0), (V.ptr 3 1 0 0), (V.ptr 4 1 0 0), V.un, (V.ptr 5 1 0 0), (V.ptr 6 1 0 0), V.un, V.un, V.un, V.un, V.un, V.un, V.un, V.un, V.un, V.un, V.un, V.un, V.un, V.un, V.un, V.un, V.un, V.un, V.un, V.un, V.un, V.un, V.un, V.un, V.un, V.un, V.un, V.un, V.un, V.un, V.un, V.un, V.un, V.un, V.un, V.un, V.un, V.un, V.un, V.un, V.un, V.un, V.un, V.un, V.un, V.un, V.un, V.un, V.un, V.un, V.un, V.un, V.un, V.un, V.un, V.un, V.un, V.un, V.un, V.un, V.un, V.un, V.un, V.un, V.un, V.un, V.un, V.un, V.un, V.un] [35] L43_0 L43_1 false), (Blk.flat 65 3 [[(.int .i64 x0), (.int .i64 x1), (.int .i64 x2)]] x9), (Blk.flat 3 1 [[(.int .i64 x3)]] false), (Blk.flat 4 1 [[(.bool x4)]] false), (Blk.flat 3 1 [[(.int .i64 x5)]] x12), (Blk.flat 3 1 [[(.int .i64 s0.c13)]] false), (Blk.flat 3 1 [[(.int .i64 s0.c15)]] false), (Blk.gen 26 1 [[(V.d (slD (encI .i64) true 1 x15 x16))]] x17), (Blk.gen 26 1 [[(V.d (slD (encI .i64) true 1 x18 x19))]] x20)])

def vote_ones_c1_ypp_Y43_1p6Fi3FiFbFiFiFiGoGo_L0_sel (x2 : Int) (x5 : Int) (x16 : List Int) (x19 : List Int) (x21 : Int) (s0 : vote_ones_c1_ypp_Y43_1p6Fi3FiFbFiFiFiGoGo_L0_s0) : Bool := (bif tb (decide (s0.c1 < x21)) then (bif tb (inb x16.length s0.c1) then (bif tb (inb x19.length s0.c1) then (bif tb (vote_Vote_Y1_ai2_Y43_1p6Fi3FiFbFiFiFi_c0 (gt x16 s0.c1) (gt x19 s0.c1)) then false else (bif tb (vote_Vote_Y1_ai2_Y43_1p6Fi3FiFbFiFiFi_c1 x2 x5 (gt x16 s0.c1) (gt x19 s0.c1)) then true else false)) else false) else false) else false)

def vote_ones_c1_ypp_Y43_1p6Fi3FiFbFiFiFiGoGo_L0_nx (x2 : Int) (x5 : Int) (x16 : List Int) (x19 : List Int) (x21 : Int) (s0 : vote_ones_c1_ypp_Y43_1p6Fi3FiFbFiFiFiGoGo_L0_s0) : vote_ones_c1_ypp_Y43_1p6Fi3FiFbFiFiFiGoGo_L0_s0 := ⟨(wi (s0.c1 + 1)), (vote_Vote_Y1_ai2_Y43_1p6Fi3FiFbFiFiFi_e1 x2 x5 s0.c13 (gt x16 s0.c1) (gt x19 s0.c1)), (wi (s0.c15 + (gt x19 s0.c1)))⟩

def vote_ones_c1_ypp_Y43_1p6Fi3FiFbFiFiFiGoGo_L0_ok (x2 : Int) (x5 : Int) (x16 : List Int) (x19 : List Int) (x21 : Int) (s0 : vote_ones_c1_ypp_Y43_1p6Fi3FiFbFiFiFiGoGo_L0_s0) : Bool := (itS (vote_ones_c1_ypp_Y43_1p6Fi3FiFbFiFiFiGoGo_L0_sel x2 x5 x16 x19 x21) (vote_ones_c1_ypp_Y43_1p6Fi3FiFbFiFiFiGoGo_L0_nx x2 x5 x16 x19 x21) bound s0).isSome
def vote_ones_c1_ypp_Y43_1p6Fi3FiFbFiFiFiGoGo_L0_end (x2 : Int) (x5 : Int) (x16 : List Int) (x19 : List Int) (x21 : Int) (s0 : vote_ones_c1_ypp_Y43_1p6Fi3FiFbFiFiFiGoGo_L0_s0) : vote_ones_c1_ypp_Y43_1p6Fi3FiFbFiFiFiGoGo_L0_s0 := (itS (vote_ones_c1_ypp_Y43_1p6Fi3FiFbFiFiFiGoGo_L0_sel x2 x5 x16 x19 x21) (vote_ones_c1_ypp_Y43_1p6Fi3FiFbFiFiFiGoGo_L0_nx x2 x5 x16 x19 x21) bound s0).getD default

theorem vote_ones_c1_ypp_Y43_1p6Fi3FiFbFiFiFiGoGo_L0_go (x0 : Int) (x1 : Int) (x2 : Int) (x3 : Int) (x4 : Bool) (x5 : Int) (x6 : Int) (x7 : Int) (x8 : Bool) (x9 : Bool) (x10 : Bool) (x11 : Bool) (x12 : Bool) (x13 : Bool) (x14 : Bool) (x15 : Bool) (x16 : List Int) (x17 : Bool) (x18 : Bool) (x19 : List Int) (x20 : Bool) (x21 : Int) (x22 : Int) (s0 : vote_ones_c1_ypp_Y43_1p6Fi3FiFbFiFiFiGoGo_L0_s0) : vote_ones_c1_ypp_Y43_1p6Fi3FiFbFiFiFiGoGo_L0_sel x2 x5 x16 x19 x21 s0 = true → (roundG (runC E0 (cl E0) L62_0) [0, 1, 2, 6, 7] [] 9) (vote_ones_c1_ypp_Y43_1p6Fi3FiFbFiFiFiGoGo_L0_enc x0 x1 x2 x3 x4 x5 x6 x7 x8 x9 x10 x11 x12 x13 x14 x15 x16 x17 x18 x19 x20 x21 x22 s0) = some (.normal, vote_ones_c1_ypp_Y43_1p6Fi3FiFbFiFiFiGoGo_L0_enc x0 x1 x2 x3 x4 x5 x6 x7 x8 x9 x10 x11 x12 x13 x14 x15 x16 x17 x18 x19 x20 x21 x22 (vote_ones_c1_ypp_Y43_1p6Fi3FiFbFiFiFiGoGo_L0_nx x2 x5 x16 x19 x21 s0)) := by
  unfold vote_ones_c1_ypp_Y43_1p6Fi3FiFbFiFiFiGoGo_L0_sel vote_ones_c1_ypp_Y43_1p6Fi3FiFbFiFiFiGoGo_L0_nx
  cases h1 : tb (decide (s0.c1 < x21))
  · intro g0
    exact absurd g0 ft
  · cases h2 : tb (inb x16.length s0.c1)
    · intro g0
      exact absurd g0 ft
    · cases h3 : tb (inb x19.length s0.c1)
      · intro g0
        exact absurd g0 ft
      · cases h4 : tb (vote_Vote_Y1_ai2_Y43_1p6Fi3FiFbFiFiFi_c0 (gt x16 s0.c1) (gt x19 s0.c1))
        · cases h5 : tb (vote_Vote_Y1_ai2_Y43_1p6Fi3FiFbFiFiFi_c1 x2 x5 (gt x16 s0.c1) (gt x19 s0.c1))
          · intro g0
            exact absurd g0 ft
          · intro _
            exact round_walk [.b (tbE h1), .o 13 (fun _ => o_idx_os (enc := (encI .i64)) (l := x16) (fl := true) (n := x15) (s := 1) (k := .i64) (tbE h2)), .o 17 (fun _ => o_idx_os (enc := (encI .i64)) (l := x19) (fl := true) (n := x18) (s := 1) (k := .i64) (tbE h3)), .c (vote_Vote_Y1_ai2_Y43_1p6Fi3FiFbFiFiFi_t1 x0 x1 x2 x3 x4 x5 s0.c13 s0.c15 x9 x12 (gt x16 s0.c1) (gt x19 s0.c1) (tbE h4) (tbE h5)), .k false] (by kernel_rfl)
        · intro g0
          exact absurd g0 ft

def vote_ones_c1_ypp_Y43_1p6Fi3FiFbFiFiFiGoGo_L0_c0 (x16 : List Int) (x19 : List Int) (x21 : Int) (s0 : vote_ones_c1_ypp_Y43_1p6Fi3FiFbFiFiFiGoGo_L0_s0) : Bool := (bif tb (decide (s0.c1 < x21)) then (bif tb (inb x16.length s0.c1) then (bif tb (inb x19.length s0.c1) then (bif tb (vote_Vote_Y1_ai2_Y43_1p6Fi3FiFbFiFiFi_c0 (gt x16 s0.c1) (gt x19 s0.c1)) then true else false) else false) else false) else false)

def vote_ones_c1_ypp_Y43_1p6Fi3FiFbFiFiFiGoGo_L0_c1 (x21 : Int) (s0 : vote_ones_c1_ypp_Y43_1p6Fi3FiFbFiFiFiGoGo_L0_s0) : Bool := (bif tb (decide (s0.c1 < x21)) then false else true)

theorem vote_ones_c1_ypp_Y43_1p6Fi3FiFbFiFiFiGoGo_L0_x0 (x0 : Int) (x1 : Int) (x2 : Int) (x3 : Int) (x4 : Bool) (x5 : Int) (x6 : Int) (x7 : Int) (x8 : Bool) (x9 : Bool) (x10 : Bool) (x11 : Bool) (x12 : Bool) (x13 : Bool) (x14 : Bool) (x15 : Bool) (x16 : List Int) (x17 : Bool) (x18 : Bool) (x19 : List Int) (x20 : Bool) (x21 : Int) (x22 : Int) (s0 : vote_ones_c1_ypp_Y43_1p6Fi3FiFbFiFiFiGoGo_L0_s0) : vote_ones_c1_ypp_Y43_1p6Fi3FiFbFiFiFiGoGo_L0_sel x2 x5 x16 x19 x21 s0 = false → vote_ones_c1_ypp_Y43_1p6Fi3FiFbFiFiFiGoGo_L0_c0 x16 x19 x21 s0 = true → (roundG (runC E0 (cl E0) L62_0) [0, 1, 2, 6, 7] [] 9) (vote_ones_c1_ypp_Y43_1p6Fi3FiFbFiFiFiGoGo_L0_enc x0 x1 x2 x3 x4 x5 x6 x7 x8 x9 x10 x11 x12 x13 x14 x15 x16 x17 x18 x19 x20 x21 x22 s0) = some (.ret, ([], [(Blk.loop .done (some .ret) [V.un, V.un, V.un, (V.ptr 1 1 0 0), V.un, V.un, (V.ptr 2 1 0 0), (V.ptr 3 1 0 0), (V.ptr 4 1 0 0), V.un, (V.ptr 5 1 0 0), (V.ptr 6 1 0 0), V.un, V.un, V.un, V.un, V.un, V.un, V.un, V.un, V.un, V.un, V.un, V.un, V.un, V.un, V.un, V.un, V.un, V.un, V.un, V.un, V.un, V.un, V.un, V.un, V.un, V.un, V.un, V.un, V.un, V.un, V.un, V.un, V.un, V.un, V.un, V.un, V.un, V.un, V.un, V.un, V.un, V.un, V.un, V.un, V.un, V.un, V.un, V.un, V.un, V.un, V.un, V.un, V.un, V.un, V.un, V.un, V.un, V.un, V.un, V.un, V.un, V.un, V.un, V.un, V.un, V.un, V.un, V.un, V.un, V.un] [35] L43_0 L43_1 false), (Blk.flat 65 3 [[(.int .i64 x0), (.int .i64 x1), (.int .i64 x2)]] x9), (Blk.flat 3 1 [[(.int .i64 0)]] false), (Blk.flat 4 1 [[(.bool false)]] false), (Blk.flat 3 1 [[(.int .i64 x5)]] x12), (Blk.flat 3 1 [[(.int .i64 s0.c13)]] false), (Blk.flat 3 1 [[(.int .i64 s0.c15)]] false), (Blk.gen 26 1 [[(V.d (slD (encI .i64) true 1 x15 x16))]] x17), (Blk.gen 26 1 [[(V.d (slD (encI .i64) true 1 x18 x19))]] x20)])) := by
  unfold vote_ones_c1_ypp_Y43_1p6Fi3FiFbFiFiFiGoGo_L0_sel vote_ones_c1_ypp_Y43_1p6Fi3FiFbFiFiFiGoGo_L0_c0
  cases h1 : tb (decide (s0.c1 < x21))
  · intro g0 g1
    exact absurd g1 ft
  · cases h2 : tb (inb x16.length s0.c1)
    · intro g0 g1
      exact absurd g1 ft
    · cases h3 : tb (inb x19.length s0.c1)
      · intro g0 g1
        exact absurd g1 ft
      · cases h4 : tb (vote_Vote_Y1_ai2_Y43_1p6Fi3FiFbFiFiFi_c0 (gt x16 s0.c1) (gt x19 s0.c1))
        · cases h5 : tb (vote_Vote_Y1_ai2_Y43_1p6Fi3FiFbFiFiFi_c1 x2 x5 (gt x16 s0.c1) (gt x19 s0.c1))
          · intro g0 g1
            exact absurd g1 ft
          · intro g0 g1
            exact absurd g0 tf
        · intro g0 g1
          exact round_walk [.b (tbE h1), .o 13 (fun _ => o_idx_os (enc := (encI .i64)) (l := x16) (fl := true) (n := x15) (s := 1) (k := .i64) (tbE h2)), .o 17 (fun _ => o_idx_os (enc := (encI .i64)) (l := x19) (fl := true) (n := x18) (s := 1) (k := .i64) (tbE h3)), .c (vote_Vote_Y1_ai2_Y43_1p6Fi3FiFbFiFiFi_t0 x0 x1 x2 x3 x4 x5 s0.c13 s0.c15 x9 x12 (gt x16 s0.c1) (gt x19 s0.c1) (tbE h4)), .k true] (by kernel_rfl)

theorem vote_ones_c1_ypp_Y43_1p6Fi3FiFbFiFiFiGoGo_L0_x1 (x0 : Int) (x1 : Int) (x2 : Int) (x3 : Int) (x4 : Bool) (x5 : Int) (x6 : Int) (x7 : Int) (x8 : Bool) (x9 : Bool) (x10 : Bool) (x11 : Bool) (x12 : Bool) (x13 : Bool) (x14 : Bool) (x15 : Bool) (x16 : List Int) (x17 : Bool) (x18 : Bool) (x19 : List Int) (x20 : Bool) (x21 : Int) (x22 : Int) (s0 : vote_ones_c1_ypp_Y43_1p6Fi3FiFbFiFiFiGoGo_L0_s0) : vote_ones_c1_ypp_Y43_1p6Fi3FiFbFiFiFiGoGo_L0_sel x2 x5 x16 x19 x21 s0 = false → vote_ones_c1_ypp_Y43_1p6Fi3FiFbFiFiFiGoGo_L0_c0 x16 x19 x21 s0 = false → vote_ones_c1_ypp_Y43_1p6Fi3FiFbFiFiFiGoGo_L0_c1 x21 s0 = true → (roundG (runC E0 (cl E0) L62_0) [0, 1, 2, 6, 7] [] 9) (vote_ones_c1_ypp_Y43_1p6Fi3FiFbFiFiFiGoGo_L0_enc x0 x1 x2 x3 x4 x5 x6 x7 x8 x9 x10 x11 x12 x13 x14 x15 x16 x17 x18 x19 x20 x21 x22 s0) = some ((.exit 0), ([], [(Blk.loop .ready none [V.un, V.un, V.un, (V.ptr 1 1 0 0), V.un, V.un, (V.ptr 2 1 0 0), (V.ptr 3 1 0 0), (V.ptr 4 1 0 0), V.un, (V.ptr 5 1 0 0), (V.ptr 6 1 0 0), V.un, V.un, V.un, V.un, V.un, V.un, V.un, V.un, V.un, V.un, V.un, V.un, V.un, V.un, V.un, V.un, V.un, V.un, V.un, V.un, V.un, V.un, V.un, V.un, V.un, V.un, V.un, V.un, V.un, V.un, V.un, V.un, V.un, V.un, V.un, V.un, V.un, V.un, V.un, V.un, V.un, V.un, V.un, V.un, V.un, V.un, V.un, V.un, V.un, V.un, V.un, V.un, V.un, V.un, V.un, V.un, V.un, V.un, V.un, V.un, V.un, V.un, V.un, V.un, V.un, V.un, V.un, V.un, V.un, V.un] [35] L43_0 L43_1 false), (Blk.flat 65 3 [[(.int .i64 x0), (.int .i64 x1), (.int .i64 x2)]] x9), (Blk.flat 3 1 [[(.int .i64 x3)]] false), (Blk.flat 4 1 [[(.bool x4)]] false), (Blk.flat 3 1 [[(.int .i64 x5)]] x12), (Blk.flat 3 1 [[(.int .i64 s0.c13)]] false), (Blk.flat 3 1 [[(.int .i64 s0.c15)]] false), (Blk.gen 26 1 [[(V.d (slD (encI .i64) true 1 x15 x16))]] x17), (Blk.gen 26 1 [[(V.d (slD (encI .i64) true 1 x18 x19))]] x20)])) := by
  unfold vote_ones_c1_ypp_Y43_1p6Fi3FiFbFiFiFiGoGo_L0_sel vote_ones_c1_ypp_Y43_1p6Fi3FiFbFiFiFiGoGo_L0_c0 vote_ones_c1_ypp_Y43_1p6Fi3FiFbFiFiFiGoGo_L0_c1
  cases h1 : tb (decide (s0.c1 < x21))
  · intro g0 g1 g2
    exact round_walk [.b (tbE h1)] (by kernel_rfl)
  · cases h2 : tb (inb x16.length s0.c1)
    · intro g0 g1 g2
      exact absurd g2 ft
    · cases h3 : tb (inb x19.length s0.c1)
      · intro g0 g1 g2
        exact absurd g2 ft
      · cases h4 : tb (vote_Vote_Y1_ai2_Y43_1p6Fi3FiFbFiFiFi_c0 (gt x16 s0.c1) (gt x19 s0.c1))
        · cases h5 : tb (vote_Vote_Y1_ai2_Y43_1p6Fi3FiFbFiFiFi_c1 x2 x5 (gt x16 s0.c1) (gt x19 s0.c1))
          · intro g0 g1 g2
            exact absurd g2 ft
          · intro g0 g1 g2
            exact absurd g0 tf
        · intro g0 g1 g2
          exact absurd g1 tf

theorem vote_ones_c1_ypp_Y43_1p6Fi3FiFbFiFiFiGoGo_L0_f0_0 (x0 : Int) (x1 : Int) (x2 : Int) (x3 : Int) (x4 : Bool) (x5 : Int) (x6 : Int) (x7 : Int) (x8 : Bool) (x9 : Bool) (x10 : Bool) (x11 : Bool) (x12 : Bool) (x13 : Bool) (x14 : Bool) (x15 : Bool) (x16 : List Int) (x17 : Bool) (x18 : Bool) (x19 : List Int) (x20 : Bool) (x21 : Int) (x22 : Int) (s : vote_ones_c1_ypp_Y43_1p6Fi3FiFbFiFiFiGoGo_L0_s0) (hok : vote_ones_c1_ypp_Y43_1p6Fi3FiFbFiFiFiGoGo_L0_ok x2 x5 x16 x19 x21 s = true) (c0 : vote_ones_c1_ypp_Y43_1p6Fi3FiFbFiFiFiGoGo_L0_c0 x16 x19 x21 (vote_ones_c1_ypp_Y43_1p6Fi3FiFbFiFiFiGoGo_L0_end x2 x5 x16 x19 x21 s) = true) : loopG (roundG (runC E0 (cl E0) L62_0) [0, 1, 2, 6, 7] [] 9) bound (vote_ones_c1_ypp_Y43_1p6Fi3FiFbFiFiFiGoGo_L0_enc x0 x1 x2 x3 x4 x5 x6 x7 x8 x9 x10 x11 x12 x13 x14 x15 x16 x17 x18 x19 x20 x21 x22 s) = some (.ret, ([], [(Blk.loop .done (some .ret) [V.un, V.un, V.un, (V.ptr 1 1 0 0), V.un, V.un, (V.ptr 2 1 0 0), (V.ptr 3 1 0 0), (V.ptr 4 1 0 0), V.un, (V.ptr 5 1 0 0), (V.ptr 6 1 0 0), V.un, V.un, V.un, V.un, V.un, V.un, V.un, V.un, V.un, V.un, V.un, V.un, V.un, V.un, V.un, V.un, V.un, V.un, V.un, V.un, V.un, V.un, V.un, V.un, V.un, V.un, V.un, V.un, V.un, V.un, V.un, V.un, V.un, V.un, V.un, V.un, V.un, V.un, V.un, V.un, V.un, V.un, V.un, V.un, V.un, V.un, V.un, V.un, V.un, V.un, V.un, V.un, V.un, V.un, V.un, V.un, V.un, V.un, V.un, V.un, V.un, V.un, V.un, V.un, V.un, V.un, V.un, V.un, V.un, V.un] [35] L43_0 L43_1 false), (Blk.flat 65 3 [[(.int .i64 x0), (.int .i64 x1), (.int .i64 x2)]] x9), (Blk.flat 3 1 [[(.int .i64 0)]] false), (Blk.flat 4 1 [[(.bool false)]] false), (Blk.flat 3 1 [[(.int .i64 x5)]] x12), (Blk.flat 3 1 [[(.int .i64 ((vote_ones_c1_ypp_Y43_1p6Fi3FiFbFiFiFiGoGo_L0_end x2 x5 x16 x19 x21 s).c13))]] false), (Blk.flat 3 1 [[(.int .i64 ((vote_ones_c1_ypp_Y43_1p6Fi3FiFbFiFiFiGoGo_L0_end x2 x5 x16 x19 x21 s).c15))]] false), (Blk.gen 26 1 [[(V.d (slD (encI .i64) true 1 x15 x16))]] x17), (Blk.gen 26 1 [[(V.d (slD (encI .i64) true 1 x18 x19))]] x20)])) := by
  have e : itS (vote_ones_c1_ypp_Y43_1p6Fi3FiFbFiFiFiGoGo_L0_sel x2 x5 x16 x19 x21) (vote_ones_c1_ypp_Y43_1p6Fi3FiFbFiFiFiGoGo_L0_nx x2 x5 x16 x19 x21) bound s = some (vote_ones_c1_ypp_Y43_1p6Fi3FiFbFiFiFiGoGo_L0_end x2 x5 x16 x19 x21 s) := itS_get hok
  have f := itS_false e
  exact loop_it (vote_ones_c1_ypp_Y43_1p6Fi3FiFbFiFiFiGoGo_L0_go x0 x1 x2 x3 x4 x5 x6 x7 x8 x9 x10 x11 x12 x13 x14 x15 x16 x17 x18 x19 x20 x21 x22) bound s _ _ _ e (fun h => by cases h) (vote_ones_c1_ypp_Y43_1p6Fi3FiFbFiFiFiGoGo_L0_x0 x0 x1 x2 x3 x4 x5 x6 x7 x8 x9 x10 x11 x12 x13 x14 x15 x16 x17 x18 x19 x20 x21 x22 (vote_ones_c1_ypp_Y43_1p6Fi3FiFbFiFiFiGoGo_L0_end x2 x5 x16 x19 x21 s) f c0)

theorem vote_ones_c1_ypp_Y43_1p6Fi3FiFbFiFiFiGoGo_L0_f0_1 (x0 : Int) (x1 : Int) (x2 : Int) (x3 : Int) (x4 : Bool) (x5 : Int) (x6 : Int) (x7 : Int) (x8 : Bool) (x9 : Bool) (x10 : Bool) (x11 : Bool) (x12 : Bool) (x13 : Bool) (x14 : Bool) (x15 : Bool) (x16 : List Int) (x17 : Bool) (x18 : Bool) (x19 : List Int) (x20 : Bool) (x21 : Int) (x22 : Int) (s : vote_ones_c1_ypp_Y43_1p6Fi3FiFbFiFiFiGoGo_L0_s0) (hok : vote_ones_c1_ypp_Y43_1p6Fi3FiFbFiFiFiGoGo_L0_ok x2 x5 x16 x19 x21 s = true) (c0 : vote_ones_c1_ypp_Y43_1p6Fi3FiFbFiFiFiGoGo_L0_c0 x16 x19 x21 (vote_ones_c1_ypp_Y43_1p6Fi3FiFbFiFiFiGoGo_L0_end x2 x5 x16 x19 x21 s) = false) (c1 : vote_ones_c1_ypp_Y43_1p6Fi3FiFbFiFiFiGoGo_L0_c1 x21 (vote_ones_c1_ypp_Y43_1p6Fi3FiFbFiFiFiGoGo_L0_end x2 x5 x16 x19 x21 s) = true) : loopG (roundG (runC E0 (cl E0) L62_0) [0, 1, 2, 6, 7] [] 9) bound (vote_ones_c1_ypp_Y43_1p6Fi3FiFbFiFiFiGoGo_L0_enc x0 x1 x2 x3 x4 x5 x6 x7 x8 x9 x10 x11 x12 x13 x14 x15 x16 x17 x18 x19 x20 x21 x22 s) = some ((.exit 0), ([], [(Blk.loop .ready none [V.un, V.un, V.un, (V.ptr 1 1 0 0), V.un, V.un, (V.ptr 2 1 0 0), (V.ptr 3 1 0 0), (V.ptr 4 1 0 0), V.un, (V.ptr 5 1 0 0), (V.ptr 6 1 0 0), V.un, V.un, V.un, V.un, V.un, V.un, V.un, V.un, V.un, V.un, V.un, V.un, V.un, V.un, V.un, V.un, V.un, V.un, V.un, V.un, V.un, V.un, V.un, V.un, V.un, V.un, V.un, V.un, V.un, V.un, V.un, V.un, V.un, V.un, V.un, V.un, V.un, V.un, V.un, V.un, V.un, V.un, V.un, V.un, V.un, V.un, V.un, V.un, V.un, V.un, V.un, V.un, V.un, V.un, V.un, V.un, V.un, V.un, V.un, V.un, V.un, V.un, V.un, V.un, V.un, V.un, V.un, V.un, V.un, V.un] [35] L43_0 L43_1 false), (Blk.flat 65 3 [[(.int .i64 x0), (.int .i64 x1), (.int .i64 x2)]] x9), (Blk.flat 3 1 [[(.int .i64 x3)]] false), (Blk.flat 4 1 [[(.bool x4)]] false), (Blk.flat 3 1 [[(.int .i64 x5)]] x12), (Blk.flat 3 1 [[(.int .i64 ((vote_ones_c1_ypp_Y43_1p6Fi3FiFbFiFiFiGoGo_L0_end x2 x5 x16 x19 x21 s).c13))]] false), (Blk.flat 3 1 [[(.int .i64 ((vote_ones_c1_ypp_Y43_1p6Fi3FiFbFiFiFiGoGo_L0_end x2 x5 x16 x19 x21 s).c15))]] false), (Blk.gen 26 1 [[(V.d (slD (encI .i64) true 1 x15 x16))]] x17), (Blk.gen 26 1 [[(V.d (slD (encI .i64) true 1 x18 x19))]] x20)])) := by
  have e : itS (vote_ones_c1_ypp_Y43_1p6Fi3FiFbFiFiFiGoGo_L0_sel x2 x5 x16 x19 x21) (vote_ones_c1_ypp_Y43_1p6Fi3FiFbFiFiFiGoGo_L0_nx x2 x5 x16 x19 x21) bound s = some (vote_ones_c1_ypp_Y43_1p6Fi3FiFbFiFiFiGoGo_L0_end x2 x5 x16 x19 x21 s) := itS_get hok
  have f := itS_false e
  exact loop_it (vote_ones_c1_ypp_Y43_1p6Fi3FiFbFiFiFiGoGo_L0_go x0 x1 x2 x3 x4 x5 x6 x7 x8 x9 x10 x11 x12 x13 x14 x15 x16 x17 x18 x19 x20 x21 x22) bound s _ _ _ e (fun h => by cases h) (vote_ones_c1_ypp_Y43_1p6Fi3FiFbFiFiFiGoGo_L0_x1 x0 x1 x2 x3 x4 x5 x6 x7 x8 x9 x10 x11 x12 x13 x14 x15 x16 x17 x18 x19 x20 x21 x22 (vote_ones_c1_ypp_Y43_1p6Fi3FiFbFiFiFiGoGo_L0_end x2 x5 x16 x19 x21 s) f c0 c1)

def vote_ones_c1_ypp_Y43_1p6Fi3FiFbFiFiFiGoGo_e0 (x2 : Int) (x5 : Int) (x6 : Int) (x7 : Int) (x16 : List Int) (x19 : List Int) : vote_ones_c1_ypp_Y43_1p6Fi3FiFbFiFiFiGoGo_L0_s0 := vote_ones_c1_ypp_Y43_1p6Fi3FiFbFiFiFiGoGo_L0_end x2 x5 x16 x19 ((x16.length : Nat) : Int) (⟨0, x6, x7⟩ : vote_ones_c1_ypp_Y43_1p6Fi3FiFbFiFiFiGoGo_L0_s0)

def vote_ones_c1_ypp_Y43_1p6Fi3FiFbFiFiFiGoGo_c0 (x2 : Int) (x5 : Int) (x6 : Int) (x7 : Int) (x16 : List Int) (x19 : List Int) : Bool := (bif tb (vote_ones_c1_ypp_Y43_1p6Fi3FiFbFiFiFiGoGo_L0_ok x2 x5 x16 x19 ((x16.length : Nat) : Int) (⟨0, x6, x7⟩ : vote_ones_c1_ypp_Y43_1p6Fi3FiFbFiFiFiGoGo_L0_s0)) then (bif tb (vote_ones_c1_ypp_Y43_1p6Fi3FiFbFiFiFiGoGo_L0_c0 x16 x19 ((x16.length : Nat) : Int) (vote_ones_c1_ypp_Y43_1p6Fi3FiFbFiFiFiGoGo_e0 x2 x5 x6 x7 x16 x19)) then true else false) else false)

def vote_ones_c1_ypp_Y43_1p6Fi3FiFbFiFiFiGoGo_c1 (x2 : Int) (x5 : Int) (x6 : Int) (x7 : Int) (x16 : List Int) (x19 : List Int) : Bool := (bif tb (vote_ones_c1_ypp_Y43_1p6Fi3FiFbFiFiFiGoGo_L0_ok x2 x5 x16 x19 ((x16.length : Nat) : Int) (⟨0, x6, x7⟩ : vote_ones_c1_ypp_Y43_1p6Fi3FiFbFiFiFiGoGo_L0_s0)) then (bif tb (vote_ones_c1_ypp_Y43_1p6Fi3FiFbFiFiFiGoGo_L0_c0 x16 x19 ((x16.length : Nat) : Int) (vote_ones_c1_ypp_Y43_1p6Fi3FiFbFiFiFiGoGo_e0 x2 x5 x6 x7 x16 x19)) then false else (bif tb (vote_ones_c1_ypp_Y43_1p6Fi3FiFbFiFiFiGoGo_L0_c1 ((x16.length : Nat) : Int) (vote_ones_c1_ypp_Y43_1p6Fi3FiFbFiFiFiGoGo_e0 x2 x5 x6 x7 x16 x19)) then true else false)) else false)

theorem vote_ones_c1_ypp_Y43_1p6Fi3FiFbFiFiFiGoGo_t0 (x0 : Int) (x1 : Int) (x2 : Int) (x3 : Int) (x4 : Bool) (x5 : Int) (x6 : Int) (x7 : Int) (x9 : Bool) (x12 : Bool) (x15 : Bool) (x16 : List Int) (x17 : Bool) (x18 : Bool) (x19 : List Int) (x20 : Bool) : vote_ones_c1_ypp_Y43_1p6Fi3FiFbFiFiFiGoGo_c0 x2 x5 x6 x7 x16 x19 = true → cl E0 62 [(V.yl 0), (V.ptr 7 1 0 0), (V.ptr 8 1 0 0)] [(Blk.loop .ready none [V.un, V.un, V.un, (V.ptr 1 1 0 0), V.un, V.un, (V.ptr 2 1 0 0), (V.ptr 3 1 0 0), (V.ptr 4 1 0 0), V.un, (V.ptr 5 1 0 0), (V.ptr 6 1 0 0), V.un, V.un, V.un, V.un, V.un, V.un, V.un, V.un, V.un, V.un, V.un, V.un, V.un, V.un, V.un, V.un, V.un, V.un, V.un, V.un, V.un, V.un, V.un, V.un, V.un, V.un, V.un, V.un, V.un, V.un, V.un, V.un, V.un, V.un, V.un, V.un, V.un, V.un, V.un, V.un, V.un, V.un, V.un, V.un, V.un, V.un, V.un, V.un, V.un, V.un, V.un, V.un, V.un, V.un, V.un, V.un, V.un, V.un, V.un, V.un, V.un, V.un, V.un, V.un, V.un, V.un, V.un, V.un, V.un, V.un] [35] L43_0 L43_1 false), (Blk.flat 65 3 [[(.int .i64 x0), (.int .i64 x1), (.int .i64 x2)]] x9), (Blk.flat 3 1 [[(.int .i64 x3)]] false), (Blk.flat 4 1 [[(.bool x4)]] false), (Blk.flat 3 1 [[(.int .i64 x5)]] x12), (Blk.flat 3 1 [[(.int .i64 x6)]] false), (Blk.flat 3 1 [[(.int .i64 x7)]] false), (Blk.gen 26 1 [[(V.d (slD (encI .i64) true 1 x15 x16))]] x17), (Blk.gen 26 1 [[(V.d (slD (encI .i64) true 1 x18 x19))]] x20)] = some ([], [(Blk.loop .done (some .ret) [V.un, V.un, V.un, (V.ptr 1 1 0 0), V.un, V.un, (V.ptr 2 1 0 0), (V.ptr 3 1 0 0), (V.ptr 4 1 0 0), V.un, (V.ptr 5 1 0 0), (V.ptr 6 1 0 0), V.un, V.un, V.un, V.un, V.un, V.un, V.un, V.un, V.un, V.un, V.un, V.un, V.un, V.un, V.un, V.un, V.un, V.un, V.un, V.un, V.un, V.un, V.un, V.un, V.un, V.un, V.un, V.un, V.un, V.un, V.un, V.un, V.un, V.un, V.un, V.un, V.un, V.un, V.un, V.un, V.un, V.un, V.un, V.un, V.un, V.un, V.un, V.un, V.un, V.un, V.un, V.un, V.un, V.un, V.un, V.un, V.un, V.un, V.un, V.un, V.un, V.un, V.un, V.un, V.un, V.un, V.un, V.un, V.un, V.un] [35] L43_0 L43_1 false), (Blk.flat 65 3 [[(.int .i64 x0), (.int .i64 x1), (.int .i64 x2)]] x9), (Blk.flat 3 1 [[(.int .i64 0)]] false), (Blk.flat 4 1 [[(.bool false)]] false), (Blk.flat 3 1 [[(.int .i64 x5)]] x12), (Blk.flat 3 1 [[(.int .i64 ((vote_ones_c1_ypp_Y43_1p6Fi3FiFbFiFiFiGoGo_e0 x2 x5 x6 x7 x16 x19).c13))]] false), (Blk.flat 3 1 [[(.int .i64 ((vote_ones_c1_ypp_Y43_1p6Fi3FiFbFiFiFiGoGo_e0 x2 x5 x6 x7 x16 x19).c15))]] false), (Blk.gen 26 1 [[(V.d (slD (encI .i64) true 1 x15 x16))]] x17), (Blk.gen 26 1 [[(V.d (slD (encI .i64) true 1 x18 x19))]] x20)]) := by
  unfold vote_ones_c1_ypp_Y43_1p6Fi3FiFbFiFiFiGoGo_c0
  cases h1 : tb (vote_ones_c1_ypp_Y43_1p6Fi3FiFbFiFiFiGoGo_L0_ok x2 x5 x16 x19 ((x16.length : Nat) : Int) (⟨0, x6, x7⟩ : vote_ones_c1_ypp_Y43_1p6Fi3FiFbFiFiFiGoGo_L0_s0))
  · intro g0
    exact absurd g0 ft
  · cases h2 : tb (vote_ones_c1_ypp_Y43_1p6Fi3FiFbFiFiFiGoGo_L0_c0 x16 x19 ((x16.length : Nat) : Int) (vote_ones_c1_ypp_Y43_1p6Fi3FiFbFiFiFiGoGo_e0 x2 x5 x6 x7 x16 x19))
    · cases h3 : tb (vote_ones_c1_ypp_Y43_1p6Fi3FiFbFiFiFiGoGo_L0_c1 ((x16.length : Nat) : Int) (vote_ones_c1_ypp_Y43_1p6Fi3FiFbFiFiFiGoGo_e0 x2 x5 x6 x7 x16 x19))
      · intro g0
        exact absurd g0 ft
      · intro g0
        exact absurd g0 ft
    · intro g0
      exact w62 [.o 6 (fun _ => o_len_os (enc := (encI .i64)) (l := x16) (fl := true) (n := x15) (s := 1)), .l (vote_ones_c1_ypp_Y43_1p6Fi3FiFbFiFiFiGoGo_L0_f0_0 x0 x1 x2 x3 x4 x5 x6 x7 false x9 false false x12 false false x15 x16 x17 x18 x19 x20 ((x16.length : Nat) : Int) 0 (⟨0, x6, x7⟩ : vote_ones_c1_ypp_Y43_1p6Fi3FiFbFiFiFiGoGo_L0_s0) (tbE h1) (tbE h2))] (by kernel_rfl)

theorem vote_ones_c1_ypp_Y43_1p6Fi3FiFbFiFiFiGoGo_t1 (x0 : Int) (x1 : Int) (x2 : Int) (x3 : Int) (x4 : Bool) (x5 : Int) (x6 : Int) (x7 : Int) (x9 : Bool) (x12 : Bool) (x15 : Bool) (x16 : List Int) (x17 : Bool) (x18 : Bool) (x19 : List Int) (x20 : Bool) : vote_ones_c1_ypp_Y43_1p6Fi3FiFbFiFiFiGoGo_c0 x2 x5 x6 x7 x16 x19 = false → vote_ones_c1_ypp_Y43_1p6Fi3FiFbFiFiFiGoGo_c1 x2 x5 x6 x7 x16 x19 = true → cl E0 62 [(V.yl 0), (V.ptr 7 1 0 0), (V.ptr 8 1 0 0)] [(Blk.loop .ready none [V.un, V.un, V.un, (V.ptr 1 1 0 0), V.un, V.un, (V.ptr 2 1 0 0), (V.ptr 3 1 0 0), (V.ptr 4 1 0 0), V.un, (V.ptr 5 1 0 0), (V.ptr 6 1 0 0), V.un, V.un, V.un, V.un, V.un, V.un, V.un, V.un, V.un, V.un, V.un, V.un, V.un, V.un, V.un, V.un, V.un, V.un, V.un, V.un, V.un, V.un, V.un, V.un, V.un, V.un, V.un, V.un, V.un, V.un, V.un, V.un, V.un, V.un, V.un, V.un, V.un, V.un, V.un, V.un, V.un, V.un, V.un, V.un, V.un, V.un, V.un, V.un, V.un, V.un, V.un, V.un, V.un, V.un, V.un, V.un, V.un, V.un, V.un, V.un, V.un, V.un, V.un, V.un, V.un, V.un, V.un, V.un, V.un, V.un] [35] L43_0 L43_1 false), (Blk.flat 65 3 [[(.int .i64 x0), (.int .i64 x1), (.int .i64 x2)]] x9), (Blk.flat 3 1 [[(.int .i64 x3)]] false), (Blk.flat 4 1 [[(.bool x4)]] false), (Blk.flat 3 1 [[(.int .i64 x5)]] x12), (Blk.flat 3 1 [[(.int .i64 x6)]] false), (Blk.flat 3 1 [[(.int .i64 x7)]] false), (Blk.gen 26 1 [[(V.d (slD (encI .i64) true 1 x15 x16))]] x17), (Blk.gen 26 1 [[(V.d (slD (encI .i64) true 1 x18 x19))]] x20)] = some ([], [(Blk.loop .ready none [V.un, V.un, V.un, (V.ptr 1 1 0 0), V.un, V.un, (V.ptr 2 1 0 0), (V.ptr 3 1 0 0), (V.ptr 4 1 0 0), V.un, (V.ptr 5 1 0 0), (V.ptr 6 1 0 0), V.un, V.un, V.un, V.un, V.un, V.un, V.un, V.un, V.un, V.un, V.un, V.un, V.un, V.un, V.un, V.un, V.un, V.un, V.un, V.un, V.un, V.un, V.un, V.un, V.un, V.un, V.un, V.un, V.un, V.un, V.un, V.un, V.un, V.un, V.un, V.un, V.un, V.un, V.un, V.un, V.un, V.un, V.un, V.un, V.un, V.un, V.un, V.un, V.un, V.un, V.un, V.un, V.un, V.un, V.un, V.un, V.un, V.un, V.un, V.un, V.un, V.un, V.un, V.un, V.un, V.un, V.un, V.un, V.un, V.un] [35] L43_0 L43_1 false), (Blk.flat 65 3 [[(.int .i64 x0), (.int .i64 x1), (.int .i64 x2)]] x9), (Blk.flat 3 1 [[(.int .i64 x3)]] false), (Blk.flat 4 1 [[(.bool x4)]] false), (Blk.flat 3 1 [[(.int .i64 x5)]] x12), (Blk.flat 3 1 [[(.int .i64 ((vote_ones_c1_ypp_Y43_1p6Fi3FiFbFiFiFiGoGo_e0 x2 x5 x6 x7 x16 x19).c13))]] false), (Blk.flat 3 1 [[(.int .i64 ((vote_ones_c1_ypp_Y43_1p6Fi3FiFbFiFiFiGoGo_e0 x2 x5 x6 x7 x16 x19).c15))]] false), (Blk.gen 26 1 [[(V.d (slD (encI .i64) true 1 x15 x16))]] x17), (Blk.gen 26 1 [[(V.d (slD (encI .i64) true 1 x18 x19))]] x20)]) := by
  unfold vote_ones_c1_ypp_Y43_1p6Fi3FiFbFiFiFiGoGo_c0 vote_ones_c1_ypp_Y43_1p6Fi3FiFbFiFiFiGoGo_c1
  cases h1 : tb (vote_ones_c1_ypp_Y43_1p6Fi3FiFbFiFiFiGoGo_L0_ok x2 x5 x16 x19 ((x16.length : Nat) : Int) (⟨0, x6, x7⟩ : vote_ones_c1_ypp_Y43_1p6Fi3FiFbFiFiFiGoGo_L0_s0))
  · intro g0 g1
    exact absurd g1 ft
  · cases h2 : tb (vote_ones_c1_ypp_Y43_1p6Fi3FiFbFiFiFiGoGo_L0_c0 x16 x19 ((x16.length : Nat) : Int) (vote_ones_c1_ypp_Y43_1p6Fi3FiFbFiFiFiGoGo_e0 x2 x5 x6 x7 x16 x19))
    · cases h3 : tb (vote_ones_c1_ypp_Y43_1p6Fi3FiFbFiFiFiGoGo_L0_c1 ((x16.length : Nat) : Int) (vote_ones_c1_ypp_Y43_1p6Fi3FiFbFiFiFiGoGo_e0 x2 x5 x6 x7 x16 x19))
      · intro g0 g1
        exact absurd g1 ft
      · intro g0 g1
        exact w62 [.o 6 (fun _ => o_len_os (enc := (encI .i64)) (l := x16) (fl := true) (n := x15) (s := 1)), .l (vote_ones_c1_ypp_Y43_1p6Fi3FiFbFiFiFiGoGo_L0_f0_1 x0 x1 x2 x3 x4 x5 x6 x7 false x9 false false x12 false false x15 x16 x17 x18 x19 x20 ((x16.length : Nat) : Int) 0 (⟨0, x6, x7⟩ : vote_ones_c1_ypp_Y43_1p6Fi3FiFbFiFiFiGoGo_L0_s0) (tbE h1) (tbE h2) (tbE h3))] (by kernel_rfl)
    · intro g0 g1
      exact absurd g0 tf

def vote_Vote_ai3oo_S2_e0 (x2 : Int) (x7 : List Int) (x9 : List Int) : Int := ((vote_ones_c1_ypp_Y43_1p6Fi3FiFbFiFiFiGoGo_e0 x2 (order_Mid_o_r0_0 x7) 0 0 x7 x9).c13)

def vote_Vote_ai3oo_S2_e1 (x2 : Int) (x7 : List Int) (x9 : List Int) : Int := ((vote_ones_c1_ypp_Y43_1p6Fi3FiFbFiFiFiGoGo_e0 x2 (order_Mid_o_r0_0 x7) 0 0 x7 x9).c15)

def vote_Vote_ai3oo_S2_e2 (x2 : Int) (x7 : List Int) (x9 : List Int) : Int := (fix_Floor_ii_r0_0 (vote_Vote_ai3oo_S2_e0 x2 x7 x9) (vote_Vote_ai3oo_S2_e1 x2 x7 x9))

def vote_Vote_ai3oo_S2_c0 (x0 : Int) (x1 : Int) (x2 : Int) (x7 : List Int) (x9 : List Int) : Bool := (bif tb (order_Mid_o_c0 x7) then (bif tb (vote_Right_ai3_r0_0 x0 x1 x2) then (bif tb (order_Mid_o_r0_1 x7) then (bif tb ((((x9.length : Nat) : Int) : Int) != ((x7.length : Nat) : Int)) then true else (bif tb (vote_ones_c1_ypp_Y43_1p6Fi3FiFbFiFiFiGoGo_c0 x2 (order_Mid_o_r0_0 x7) 0 0 x7 x9) then true else false)) else true) else true) else false)

def vote_Vote_ai3oo_S2_c1 (x0 : Int) (x1 : Int) (x2 : Int) (x7 : List Int) (x9 : List Int) : Bool := (bif tb (order_Mid_o_c0 x7) then (bif tb (vote_Right_ai3_r0_0 x0 x1 x2) then (bif tb (order_Mid_o_r0_1 x7) then (bif tb ((((x9.length : Nat) : Int) : Int) != ((x7.length : Nat) : Int)) then false else (bif tb (vote_ones_c1_ypp_Y43_1p6Fi3FiFbFiFiFiGoGo_c0 x2 (order_Mid_o_r0_0 x7) 0 0 x7 x9) then false else (bif tb (vote_ones_c1_ypp_Y43_1p6Fi3FiFbFiFiFiGoGo_c1 x2 (order_Mid_o_r0_0 x7) 0 0 x7 x9) then (bif tb (fix_Floor_ii_c0 (vote_Vote_ai3oo_S2_e0 x2 x7 x9) (vote_Vote_ai3oo_S2_e1 x2 x7 x9)) then (bif tb (fix_Clamp_iii_c0 (vote_Vote_ai3oo_S2_e2 x2 x7 x9) x0 x1) then true else false) else false) else false))) else false) else false) else false)

theorem vote_Vote_ai3oo_S2_t0 (x0 : Int) (x1 : Int) (x2 : Int) (x3 : Bool) (x6 : Bool) (x7 : List Int) (x8 : Bool) (x9 : List Int) : vote_Vote_ai3oo_S2_c0 x0 x1 x2 x7 x9 = true → segG (runC E0 (cl E0) S43_2) [1, 2, 3, 6, 7] [6, 7] [6, 7] 3 ([(V.d (slD (encI .i64) true 1 x6 x7)), (V.d (slD (encI .i64) true 1 x8 x9)), (V.ptr 0 1 0 0), (V.ptr 1 1 0 0), (V.ptr 2 1 0 0)], [(Blk.flat 65 3 [[(.int .i64 x0), (.int .i64 x1), (.int .i64 x2)]] x3), (Blk.flat 3 1 [[(.int .i64 0)]] false), (Blk.flat 4 1 [[(.bool false)]] false)]) = some (.ret, ([(V.ptr 1 1 0 0), (V.ptr 2 1 0 0)], [(Blk.flat 65 3 [[(.int .i64 x0), (.int .i64 x1), (.int .i64 x2)]] x3), (Blk.flat 3 1 [[(.int .i64 0)]] false), (Blk.flat 4 1 [[(.bool false)]] false)])) := by
  unfold vote_Vote_ai3oo_S2_c0
  cases h1 : tb (order_Mid_o_c0 x7)
  · intro g0
    exact absurd g0 ft
  · cases h2 : tb (vote_Right_ai3_r0_0 x0 x1 x2)
    · intro g0
      exact seg_walk [.c (order_Mid_o_t0 x6 x7 (tbE h1)), .c (vote_Right_ai3_t0 x0 x1 x2), .b (notF (tbE h2))] (by kernel_rfl)
    · cases h3 : tb (order_Mid_o_r0_1 x7)
      · intro g0
        exact seg_walk [.c (order_Mid_o_t0 x6 x7 (tbE h1)), .c (vote_Right_ai3_t0 x0 x1 x2), .b (notT (tbE h2)), .b (notF (tbE h3))] (by kernel_rfl)
      · cases h4 : tb ((((x9.length : Nat) : Int) : Int) != ((x7.length : Nat) : Int))
        · cases h5 : tb (vote_ones_c1_ypp_Y43_1p6Fi3FiFbFiFiFiGoGo_c0 x2 (order_Mid_o_r0_0 x7) 0 0 x7 x9)
          · cases h6 : tb (vote_ones_c1_ypp_Y43_1p6Fi3FiFbFiFiFiGoGo_c1 x2 (order_Mid_o_r0_0 x7) 0 0 x7 x9)
            · intro g0
              exact absurd g0 ft
            · cases h7 : tb (fix_Floor_ii_c0 (vote_Vote_ai3oo_S2_e0 x2 x7 x9) (vote_Vote_ai3oo_S2_e1 x2 x7 x9))
              · intro g0
                exact absurd g0 ft
              · cases h8 : tb (fix_Clamp_iii_c0 (vote_Vote_ai3oo_S2_e2 x2 x7 x9) x0 x1)
                · intro g0
                  exact absurd g0 ft
                · intro g0
                  exact absurd g0 ft
          · intro g0
            exact seg_walk [.c (order_Mid_o_t0 x6 x7 (tbE h1)), .c (vote_Right_ai3_t0 x0 x1 x2), .b (notT (tbE h2)), .b (notT (tbE h3)), .o 27 (fun _ => o_len_os (enc := (encI .i64)) (l := x9) (fl := true) (n := x8) (s := 1)), .o 29 (fun _ => o_len_os (enc := (encI .i64)) (l := x7) (fl := true) (n := x6) (s := 1)), .b (tbE h4), .c (vote_ones_oo_t0 x6 x7 x8 x9), .c (vote_ones_c1_ypp_Y43_1p6Fi3FiFbFiFiFiGoGo_t0 x0 x1 x2 0 false (order_Mid_o_r0_0 x7) 0 0 x3 false x6 x7 false x8 x9 false (tbE h5))] (by kernel_rfl)
        · intro g0
          exact seg_walk [.c (order_Mid_o_t0 x6 x7 (tbE h1)), .c (vote_Right_ai3_t0 x0 x1 x2), .b (notT (tbE h2)), .b (notT (tbE h3)), .o 27 (fun _ => o_len_os (enc := (encI .i64)) (l := x9) (fl := true) (n := x8) (s := 1)), .o 29 (fun _ => o_len_os (enc := (encI .i64)) (l := x7) (fl := true) (n := x6) (s := 1)), .b (tbE h4)] (by kernel_rfl)

theorem vote_Vote_ai3oo_S2_t1 (x0 : Int) (x1 : Int) (x2 : Int) (x3 : Bool) (x6 : Bool) (x7 : List Int) (x8 : Bool) (x9 : List Int) : vote_Vote_ai3oo_S2_c0 x0 x1 x2 x7 x9 = false → vote_Vote_ai3oo_S2_c1 x0 x1 x2 x7 x9 = true → segG (runC E0 (cl E0) S43_2) [1, 2, 3, 6, 7] [6, 7] [6, 7] 3 ([(V.d (slD (encI .i64) true 1 x6 x7)), (V.d (slD (encI .i64) true 1 x8 x9)), (V.ptr 0 1 0 0), (V.ptr 1 1 0 0), (V.ptr 2 1 0 0)], [(Blk.flat 65 3 [[(.int .i64 x0), (.int .i64 x1), (.int .i64 x2)]] x3), (Blk.flat 3 1 [[(.int .i64 0)]] false), (Blk.flat 4 1 [[(.bool false)]] false)]) = some (.normal, ([(V.ptr 1 1 0 0), (V.ptr 2 1 0 0)], [(Blk.flat 65 3 [[(.int .i64 x0), (.int .i64 x1), (.int .i64 x2)]] x3), (Blk.flat 3 1 [[(.int .i64 (fix_Clamp_iii_r0_0 (vote_Vote_ai3oo_S2_e2 x2 x7 x9) x0 x1))]] false), (Blk.flat 4 1 [[(.bool true)]] false)])) := by
  unfold vote_Vote_ai3oo_S2_c0 vote_Vote_ai3oo_S2_c1
  cases h1 : tb (order_Mid_o_c0 x7)
  · intro g0 g1
    exact absurd g1 ft
  · cases h2 : tb (vote_Right_ai3_r0_0 x0 x1 x2)
    · intro g0 g1
      exact absurd g0 tf
    · cases h3 : tb (order_Mid_o_r0_1 x7)
      · intro g0 g1
        exact absurd g0 tf
      · cases h4 : tb ((((x9.length : Nat) : Int) : Int) != ((x7.length : Nat) : Int))
        · cases h5 : tb (vote_ones_c1_ypp_Y43_1p6Fi3FiFbFiFiFiGoGo_c0 x2 (order_Mid_o_r0_0 x7) 0 0 x7 x9)
          · cases h6 : tb (vote_ones_c1_ypp_Y43_1p6Fi3FiFbFiFiFiGoGo_c1 x2 (order_Mid_o_r0_0 x7) 0 0 x7 x9)
            · intro g0 g1
              exact absurd g1 ft
            · cases h7 : tb (fix_Floor_ii_c0 (vote_Vote_ai3oo_S2_e0 x2 x7 x9) (vote_Vote_ai3oo_S2_e1 x2 x7 x9))
              · intro g0 g1
                exact absurd g1 ft
              · cases h8 : tb (fix_Clamp_iii_c0 (vote_Vote_ai3oo_S2_e2 x2 x7 x9) x0 x1)
                · intro g0 g1
                  exact absurd g1 ft
                · intro g0 g1
                  exact seg_walk [.c (order_Mid_o_t0 x6 x7 (tbE h1)), .c (vote_Right_ai3_t0 x0 x1 x2), .b (notT (tbE h2)), .b (notT (tbE h3)), .o 27 (fun _ => o_len_os (enc := (encI .i64)) (l := x9) (fl := true) (n := x8) (s := 1)), .o 29 (fun _ => o_len_os (enc := (encI .i64)) (l := x7) (fl := true) (n := x6) (s := 1)), .b (tbE h4), .c (vote_ones_oo_t0 x6 x7 x8 x9), .c (vote_ones_c1_ypp_Y43_1p6Fi3FiFbFiFiFiGoGo_t1 x0 x1 x2 0 false (order_Mid_o_r0_0 x7) 0 0 x3 false x6 x7 false x8 x9 false (tbE h5) (tbE h6)), .c (fix_Floor_ii_t0 (vote_Vote_ai3oo_S2_e0 x2 x7 x9) (vote_Vote_ai3oo_S2_e1 x2 x7 x9) (tbE h7)), .c (fix_Clamp_iii_t0 (vote_Vote_ai3oo_S2_e2 x2 x7 x9) x0 x1 (tbE h8))] (by kernel_rfl)
          · intro g0 g1
            exact absurd g0 tf
        · intro g0 g1
          exact absurd g0 tf

def vote_Vote_ai3oo_c0 (x0 : Int) (x1 : Int) (x2 : Int) (x4 : List Int) (x6 : List Int) : Bool := (bif tb (vote_Vote_ai3oo_S2_c0 x0 x1 x2 x4 x6) then true else (bif tb (vote_Vote_ai3oo_S2_c1 x0 x1 x2 x4 x6) then true else false))

def vote_Vote_ai3oo_r0_0 (x0 : Int) (x1 : Int) (x2 : Int) (x4 : List Int) (x6 : List Int) : Int := (bif tb (vote_Vote_ai3oo_S2_c0 x0 x1 x2 x4 x6) then 0 else (fix_Clamp_iii_r0_0 (vote_Vote_ai3oo_S2_e2 x2 x4 x6) x0 x1))

def vote_Vote_ai3oo_r0_1 (x0 : Int) (x1 : Int) (x2 : Int) (x4 : List Int) (x6 : List Int) : Bool := (bif tb (vote_Vote_ai3oo_S2_c0 x0 x1 x2 x4 x6) then false else true)

theorem vote_Vote_ai3oo_t0 (x0 : Int) (x1 : Int) (x2 : Int) (x3 : Bool) (x4 : List Int) (x5 : Bool) (x6 : List Int) : vote_Vote_ai3oo_c0 x0 x1 x2 x4 x6 = true → cl E0 43 [(V.agg [(V.d (.int .i64 x0)), (V.d (.int .i64 x1)), (V.d (.int .i64 x2))]), (V.d (slD (encI .i64) true 1 x3 x4)), (V.d (slD (encI .i64) true 1 x5 x6))] [] = some ([(V.d (.int .i64 (vote_Vote_ai3oo_r0_0 x0 x1 x2 x4 x6))), (V.d (.bool (vote_Vote_ai3oo_r0_1 x0 x1 x2 x4 x6)))], []) := by
  unfold vote_Vote_ai3oo_c0 vote_Vote_ai3oo_r0_0 vote_Vote_ai3oo_r0_1
  cases h1 : tb (vote_Vote_ai3oo_S2_c0 x0 x1 x2 x4 x6)
  · cases h2 : tb (vote_Vote_ai3oo_S2_c1 x0 x1 x2 x4 x6)
    · intro g0
      exact absurd g0 ft
    · intro g0
      exact w43 [.s (vote_Vote_ai3oo_S2_t1 x0 x1 x2 false x3 x4 x5 x6 (tbE h1) (tbE h2))] (by kernel_rfl)
  · intro g0
    exact w43 [.s (vote_Vote_ai3oo_S2_t0 x0 x1 x2 false x3 x4 x5 x6 (tbE h1))] (by kernel_rfl)

end Go.Proofs.Ytdjmfcdopaejcaa.Den

namespace Go.Proofs.Ytdjmfcdopaejcaa.Den
open Go Go.Proofs
set_option maxRecDepth 100000
set_option maxHeartbeats 4000000
set_option linter.unusedVariables false
set_option linter.unusedSimpArgs false

def ref08_Right_i_r0_0 (x0 : Int) : Bool := (bif tb (decide ((-2147483648) ≤ x0)) then (decide (x0 ≤ 2147483647)) else false)

theorem ref08_Right_i_t0 (x0 : Int) : cl E0 59 [(V.d (.int .i64 x0))] [] = some ([(V.d (.bool (ref08_Right_i_r0_0 x0)))], []) := by
  unfold ref08_Right_i_r0_0
  cases h1 : tb (decide ((-2147483648) ≤ x0))
  · exact w59 [.b (tbE h1)] (by kernel_rfl)
  · exact w59 [.b (tbE h1)] (by kernel_rfl)

end Go.Proofs.Ytdjmfcdopaejcaa.Den

namespace Go.Proofs.Ytdjmfcdopaejcaa.Den
open Go Go.Proofs
set_option maxRecDepth 100000
set_option maxHeartbeats 4000000
set_option linter.unusedVariables false
set_option linter.unusedSimpArgs false

def ref12_Right_ai3_r0_0 (x0 : Int) (x1 : Int) (x2 : Int) : Bool := (bif tb (ref08_Right_i_r0_0 x0) then (bif tb (ref08_Right_i_r0_0 x1) then (bif tb (ref08_Right_i_r0_0 x2) then (bif tb (decide (x0 ≤ x1)) then (decide (0 ≤ x2)) else false) else false) else false) else false)

theorem ref12_Right_ai3_t0 (x0 : Int) (x1 : Int) (x2 : Int) : cl E0 46 [(V.agg [(V.d (.int .i64 x0)), (V.d (.int .i64 x1)), (V.d (.int .i64 x2))])] [] = some ([(V.d (.bool (ref12_Right_ai3_r0_0 x0 x1 x2)))], []) := by
  unfold ref12_Right_ai3_r0_0
  cases h1 : tb (ref08_Right_i_r0_0 x0)
  · exact w46 [.c (ref08_Right_i_t0 x0), .c (ref08_Right_i_t0 x1), .c (ref08_Right_i_t0 x2), .b (tbE h1)] (by kernel_rfl)
  · cases h2 : tb (ref08_Right_i_r0_0 x1)
    · exact w46 [.c (ref08_Right_i_t0 x0), .c (ref08_Right_i_t0 x1), .c (ref08_Right_i_t0 x2), .b (tbE h1), .b (tbE h2)] (by kernel_rfl)
    · cases h3 : tb (ref08_Right_i_r0_0 x2)
      · exact w46 [.c (ref08_Right_i_t0 x0), .c (ref08_Right_i_t0 x1), .c (ref08_Right_i_t0 x2), .b (tbE h1), .b (tbE h2), .b (tbE h3)] (by kernel_rfl)
      · cases h4 : tb (decide (x0 ≤ x1))
        · exact w46 [.c (ref08_Right_i_t0 x0), .c (ref08_Right_i_t0 x1), .c (ref08_Right_i_t0 x2), .b (tbE h1), .b (tbE h2), .b (tbE h3), .b (tbE h4)] (by kernel_rfl)
        · exact w46 [.c (ref08_Right_i_t0 x0), .c (ref08_Right_i_t0 x1), .c (ref08_Right_i_t0 x2), .b (tbE h1), .b (tbE h2), .b (tbE h3), .b (tbE h4)] (by kernel_rfl)

def ref12_Vote_ai3oo_S0_c0 (x5 : List Int) (x7 : List Int) (x8 : Bool) : Bool := (bif tb (x8) then (bif tb (decide (((x5.length : Nat) : Int) < 1)) then true else (bif tb (decide (4 < ((x5.length : Nat) : Int))) then true else (bif tb ((((x7.length : Nat) : Int) : Int) != ((x5.length : Nat) : Int)) then true else false))) else true)

theorem ref12_Vote_ai3oo_S0_t0 (x0 : Int) (x1 : Int) (x2 : Int) (x3 : Bool) (x4 : Bool) (x5 : List Int) (x6 : Bool) (x7 : List Int) (x8 : Bool) : ref12_Vote_ai3oo_S0_c0 x5 x7 x8 = true → segG (runC E0 (cl E0) S44_0) [1, 2, 3, 8] [6, 7] [1, 2, 3] 1 ([(V.d (slD (encI .i64) true 1 x4 x5)), (V.d (slD (encI .i64) true 1 x6 x7)), (V.ptr 0 1 0 0), (V.d (.bool x8))], [(Blk.flat 66 3 [[(.int .i64 x0), (.int .i64 x1), (.int .i64 x2)]] x3)]) = some (.ret, ([(V.d (.int .i64 0)), (V.d (.bool false))], [(Blk.flat 66 3 [[(.int .i64 x0), (.int .i64 x1), (.int .i64 x2)]] x3)])) := by
  unfold ref12_Vote_ai3oo_S0_c0
  cases h1 : tb (x8)
  · intro g0
    exact seg_walk [.b (notF (tbE h1))] (by kernel_rfl)
  · cases h2 : tb (decide (((x5.length : Nat) : Int) < 1))
    · cases h3 : tb (decide (4 < ((x5.length : Nat) : Int)))
      · cases h4 : tb ((((x7.length : Nat) : Int) : Int) != ((x5.length : Nat) : Int))
        · intro g0
          exact absurd g0 ft
        · intro g0
          exact seg_walk [.b (notT (tbE h1)), .o 22 (fun _ => o_len_os (enc := (encI .i64)) (l := x5) (fl := true) (n := x4) (s := 1)), .b (tbE h2), .o 27 (fun _ => o_len_os (enc := (encI .i64)) (l := x5) (fl := true) (n := x4) (s := 1)), .b (tbE h3), .o 32 (fun _ => o_len_os (enc := (encI .i64)) (l := x7) (fl := true) (n := x6) (s := 1)), .o 34 (fun _ => o_len_os (enc := (encI .i64)) (l := x5) (fl := true) (n := x4) (s := 1)), .b (tbE h4)] (by kernel_rfl)
      · intro g0
        exact seg_walk [.b (notT (tbE h1)), .o 22 (fun _ => o_len_os (enc := (encI .i64)) (l := x5) (fl := true) (n := x4) (s := 1)), .b (tbE h2), .o 27 (fun _ => o_len_os (enc := (encI .i64)) (l := x5) (fl := true) (n := x4) (s := 1)), .b (tbE h3)] (by kernel_rfl)
    · intro g0
      exact seg_walk [.b (notT (tbE h1)), .o 22 (fun _ => o_len_os (enc := (encI .i64)) (l := x5) (fl := true) (n := x4) (s := 1)), .b (tbE h2)] (by kernel_rfl)

theorem ref12_Vote_ai3oo_S0_t1 (x0 : Int) (x1 : Int) (x2 : Int) (x3 : Bool) (x4 : Bool) (x5 : List Int) (x6 : Bool) (x7 : List Int) (x8 : Bool) : ref12_Vote_ai3oo_S0_c0 x5 x7 x8 = false → segG (runC E0 (cl E0) S44_0) [1, 2, 3, 8] [6, 7] [1, 2, 3] 1 ([(V.d (slD (encI .i64) true 1 x4 x5)), (V.d (slD (encI .i64) true 1 x6 x7)), (V.ptr 0 1 0 0), (V.d (.bool x8))], [(Blk.flat 66 3 [[(.int .i64 x0), (.int .i64 x1), (.int .i64 x2)]] x3)]) = some (.normal, ([(V.d (slD (encI .i64) true 1 x4 x5)), (V.d (slD (encI .i64) true 1 x6 x7)), (V.ptr 0 1 0 0)], [(Blk.flat 66 3 [[(.int .i64 x0), (.int .i64 x1), (.int .i64 x2)]] x3)])) := by
  unfold ref12_Vote_ai3oo_S0_c0
  cases h1 : tb (x8)
  · intro g0
    exact absurd g0 tf
  · cases h2 : tb (decide (((x5.length : Nat) : Int) < 1))
    · cases h3 : tb (decide (4 < ((x5.length : Nat) : Int)))
      · cases h4 : tb ((((x7.length : Nat) : Int) : Int) != ((x5.length : Nat) : Int))
        · intro g0
          exact seg_walk [.b (notT (tbE h1)), .o 22 (fun _ => o_len_os (enc := (encI .i64)) (l := x5) (fl := true) (n := x4) (s := 1)), .b (tbE h2), .o 27 (fun _ => o_len_os (enc := (encI .i64)) (l := x5) (fl := true) (n := x4) (s := 1)), .b (tbE h3), .o 32 (fun _ => o_len_os (enc := (encI .i64)) (l := x7) (fl := true) (n := x6) (s := 1)), .o 34 (fun _ => o_len_os (enc := (encI .i64)) (l := x5) (fl := true) (n := x4) (s := 1)), .b (tbE h4)] (by kernel_rfl)
        · intro g0
          exact absurd g0 tf
      · intro g0
        exact absurd g0 tf
    · intro g0
      exact absurd g0 tf

structure ref12_Vote_ai3oo_L1_s0 where
  c4 : Int
  deriving Inhabited

def ref12_Vote_ai3oo_L1_enc (x0 : Int) (x1 : Int) (x2 : Int) (x3 : Bool) (x4 : Bool) (x5 : List Int) (x6 : Bool) (x7 : List Int) (x8 : Int) (s0 : ref12_Vote_ai3oo_L1_s0) : List V × Mem := ([(V.d (slD (encI .i64) true 1 x4 x5)), (V.d (slD (encI .i64) true 1 x6 x7)), (V.ptr 0 1 0 0), (V.d (.int .i64 s0.c4))], [(Blk.flat 66 3 [[(.int .i64 x0), (.int .i64 x1), (.int .i64 x2)]] x3)])

def ref12_Vote_ai3oo_L1_sel (x5 : List Int) (x7 : List Int) (s0 : ref12_Vote_ai3oo_L1_s0) : Bool := (bif tb (decide (s0.c4 < ((x5.length : Nat) : Int))) then (bif tb (inb x5.length s0.c4) then (bif tb (decide ((gt x5 s0.c4) < (-4294967296))) then false else (bif tb (decide (4294967296 < (gt x5 s0.c4))) then false else (bif tb (inb x7.length s0.c4) then (bif tb (decide ((gt x7 s0.c4) < 1)) then false else (bif tb (decide (16 < (gt x7 s0.c4))) then false else true)) else false))) else false) else false)

def ref12_Vote_ai3oo_L1_nx (x5 : List Int) (x7 : List Int) (s0 : ref12_Vote_ai3oo_L1_s0) : ref12_Vote_ai3oo_L1_s0 := ⟨(wi (s0.c4 + 1))⟩

def ref12_Vote_ai3oo_L1_ok (x5 : List Int) (x7 : List Int) (s0 : ref12_Vote_ai3oo_L1_s0) : Bool := (itS (ref12_Vote_ai3oo_L1_sel x5 x7) (ref12_Vote_ai3oo_L1_nx x5 x7) bound s0).isSome
def ref12_Vote_ai3oo_L1_end (x5 : List Int) (x7 : List Int) (s0 : ref12_Vote_ai3oo_L1_s0) : ref12_Vote_ai3oo_L1_s0 := (itS (ref12_Vote_ai3oo_L1_sel x5 x7) (ref12_Vote_ai3oo_L1_nx x5 x7) bound s0).getD default

theorem ref12_Vote_ai3oo_L1_go (x0 : Int) (x1 : Int) (x2 : Int) (x3 : Bool) (x4 : Bool) (x5 : List Int) (x6 : Bool) (x7 : List Int) (x8 : Int) (s0 : ref12_Vote_ai3oo_L1_s0) : ref12_Vote_ai3oo_L1_sel x5 x7 s0 = true → (roundG (runC E0 (cl E0) L44_1) [1, 2, 3, 9] [1, 2, 3, 6, 7] 1) (ref12_Vote_ai3oo_L1_enc x0 x1 x2 x3 x4 x5 x6 x7 x8 s0) = some (.normal, ref12_Vote_ai3oo_L1_enc x0 x1 x2 x3 x4 x5 x6 x7 x8 (ref12_Vote_ai3oo_L1_nx x5 x7 s0)) := by
  unfold ref12_Vote_ai3oo_L1_sel ref12_Vote_ai3oo_L1_nx
  cases h1 : tb (decide (s0.c4 < ((x5.length : Nat) : Int)))
  · intro g0
    exact absurd g0 ft
  · cases h2 : tb (inb x5.length s0.c4)
    · intro g0
      exact absurd g0 ft
    · cases h3 : tb (decide ((gt x5 s0.c4) < (-4294967296)))
      · cases h4 : tb (decide (4294967296 < (gt x5 s0.c4)))
        · cases h5 : tb (inb x7.length s0.c4)
          · intro g0
            exact absurd g0 ft
          · cases h6 : tb (decide ((gt x7 s0.c4) < 1))
            · cases h7 : tb (decide (16 < (gt x7 s0.c4)))
              · intro _
                exact round_walk [.o 39 (fun _ => o_len_os (enc := (encI .i64)) (l := x5) (fl := true) (n := x4) (s := 1)), .b (tbE h1), .o 45 (fun _ => o_idx_os (enc := (encI .i64)) (l := x5) (fl := true) (n := x4) (s := 1) (k := .i64) (tbE h2)), .b (tbE h3), .o 51 (fun _ => o_idx_os (enc := (encI .i64)) (l := x5) (fl := true) (n := x4) (s := 1) (k := .i64) (tbE h2)), .b (tbE h4), .o 58 (fun _ => o_idx_os (enc := (encI .i64)) (l := x7) (fl := true) (n := x6) (s := 1) (k := .i64) (tbE h5)), .b (tbE h6), .o 65 (fun _ => o_idx_os (enc := (encI .i64)) (l := x7) (fl := true) (n := x6) (s := 1) (k := .i64) (tbE h5)), .b (tbE h7)] (by kernel_rfl)
              · intro g0
                exact absurd g0 ft
            · intro g0
              exact absurd g0 ft
        · intro g0
          exact absurd g0 ft
      · intro g0
        exact absurd g0 ft

def ref12_Vote_ai3oo_L1_c0 (x5 : List Int) (x7 : List Int) (s0 : ref12_Vote_ai3oo_L1_s0) : Bool := (bif tb (decide (s0.c4 < ((x5.length : Nat) : Int))) then (bif tb (inb x5.length s0.c4) then (bif tb (decide ((gt x5 s0.c4) < (-4294967296))) then true else (bif tb (decide (4294967296 < (gt x5 s0.c4))) then true else (bif tb (inb x7.length s0.c4) then true else false))) else false) else false)

def ref12_Vote_ai3oo_L1_c1 (x5 : List Int) (s0 : ref12_Vote_ai3oo_L1_s0) : Bool := (bif tb (decide (s0.c4 < ((x5.length : Nat) : Int))) then false else true)

theorem ref12_Vote_ai3oo_L1_x0 (x0 : Int) (x1 : Int) (x2 : Int) (x3 : Bool) (x4 : Bool) (x5 : List Int) (x6 : Bool) (x7 : List Int) (x8 : Int) (s0 : ref12_Vote_ai3oo_L1_s0) : ref12_Vote_ai3oo_L1_sel x5 x7 s0 = false → ref12_Vote_ai3oo_L1_c0 x5 x7 s0 = true → (roundG (runC E0 (cl E0) L44_1) [1, 2, 3, 9] [1, 2, 3, 6, 7] 1) (ref12_Vote_ai3oo_L1_enc x0 x1 x2 x3 x4 x5 x6 x7 x8 s0) = some (.ret, ([(V.d (slD (encI .i64) true 1 x4 x5)), (V.d (slD (encI .i64) true 1 x6 x7)), (V.ptr 0 1 0 0), (V.d (.int .i64 0)), (V.d (.bool false))], [(Blk.flat 66 3 [[(.int .i64 x0), (.int .i64 x1), (.int .i64 x2)]] x3)])) := by
  unfold ref12_Vote_ai3oo_L1_sel ref12_Vote_ai3oo_L1_c0
  cases h1 : tb (decide (s0.c4 < ((x5.length : Nat) : Int)))
  · intro g0 g1
    exact absurd g1 ft
  · cases h2 : tb (inb x5.length s0.c4)
    · intro g0 g1
      exact absurd g1 ft
    · cases h3 : tb (decide ((gt x5 s0.c4) < (-4294967296)))
      · cases h4 : tb (decide (4294967296 < (gt x5 s0.c4)))
        · cases h5 : tb (inb x7.length s0.c4)
          · intro g0 g1
            exact absurd g1 ft
          · cases h6 : tb (decide ((gt x7 s0.c4) < 1))
            · cases h7 : tb (decide (16 < (gt x7 s0.c4)))
              · intro g0 g1
                exact absurd g0 tf
              · intro g0 g1
                exact round_walk [.o 39 (fun _ => o_len_os (enc := (encI .i64)) (l := x5) (fl := true) (n := x4) (s := 1)), .b (tbE h1), .o 45 (fun _ => o_idx_os (enc := (encI .i64)) (l := x5) (fl := true) (n := x4) (s := 1) (k := .i64) (tbE h2)), .b (tbE h3), .o 51 (fun _ => o_idx_os (enc := (encI .i64)) (l := x5) (fl := true) (n := x4) (s := 1) (k := .i64) (tbE h2)), .b (tbE h4), .o 58 (fun _ => o_idx_os (enc := (encI .i64)) (l := x7) (fl := true) (n := x6) (s := 1) (k := .i64) (tbE h5)), .b (tbE h6), .o 65 (fun _ => o_idx_os (enc := (encI .i64)) (l := x7) (fl := true) (n := x6) (s := 1) (k := .i64) (tbE h5)), .b (tbE h7)] (by kernel_rfl)
            · intro g0 g1
              exact round_walk [.o 39 (fun _ => o_len_os (enc := (encI .i64)) (l := x5) (fl := true) (n := x4) (s := 1)), .b (tbE h1), .o 45 (fun _ => o_idx_os (enc := (encI .i64)) (l := x5) (fl := true) (n := x4) (s := 1) (k := .i64) (tbE h2)), .b (tbE h3), .o 51 (fun _ => o_idx_os (enc := (encI .i64)) (l := x5) (fl := true) (n := x4) (s := 1) (k := .i64) (tbE h2)), .b (tbE h4), .o 58 (fun _ => o_idx_os (enc := (encI .i64)) (l := x7) (fl := true) (n := x6) (s := 1) (k := .i64) (tbE h5)), .b (tbE h6)] (by kernel_rfl)
        · intro g0 g1
          exact round_walk [.o 39 (fun _ => o_len_os (enc := (encI .i64)) (l := x5) (fl := true) (n := x4) (s := 1)), .b (tbE h1), .o 45 (fun _ => o_idx_os (enc := (encI .i64)) (l := x5) (fl := true) (n := x4) (s := 1) (k := .i64) (tbE h2)), .b (tbE h3), .o 51 (fun _ => o_idx_os (enc := (encI .i64)) (l := x5) (fl := true) (n := x4) (s := 1) (k := .i64) (tbE h2)), .b (tbE h4)] (by kernel_rfl)
      · intro g0 g1
        exact round_walk [.o 39 (fun _ => o_len_os (enc := (encI .i64)) (l := x5) (fl := true) (n := x4) (s := 1)), .b (tbE h1), .o 45 (fun _ => o_idx_os (enc := (encI .i64)) (l := x5) (fl := true) (n := x4) (s := 1) (k := .i64) (tbE h2)), .b (tbE h3)] (by kernel_rfl)

theorem ref12_Vote_ai3oo_L1_x1 (x0 : Int) (x1 : Int) (x2 : Int) (x3 : Bool) (x4 : Bool) (x5 : List Int) (x6 : Bool) (x7 : List Int) (x8 : Int) (s0 : ref12_Vote_ai3oo_L1_s0) : ref12_Vote_ai3oo_L1_sel x5 x7 s0 = false → ref12_Vote_ai3oo_L1_c0 x5 x7 s0 = false → ref12_Vote_ai3oo_L1_c1 x5 s0 = true → (roundG (runC E0 (cl E0) L44_1) [1, 2, 3, 9] [1, 2, 3, 6, 7] 1) (ref12_Vote_ai3oo_L1_enc x0 x1 x2 x3 x4 x5 x6 x7 x8 s0) = some ((.exit 0), ([(V.d (slD (encI .i64) true 1 x4 x5)), (V.d (slD (encI .i64) true 1 x6 x7)), (V.ptr 0 1 0 0), V.un, V.un], [(Blk.flat 66 3 [[(.int .i64 x0), (.int .i64 x1), (.int .i64 x2)]] x3)])) := by
  unfold ref12_Vote_ai3oo_L1_sel ref12_Vote_ai3oo_L1_c0 ref12_Vote_ai3oo_L1_c1
  cases h1 : tb (decide (s0.c4 < ((x5.length : Nat) : Int)))
  · intro g0 g1 g2
    exact round_walk [.o 39 (fun _ => o_len_os (enc := (encI .i64)) (l := x5) (fl := true) (n := x4) (s := 1)), .b (tbE h1)] (by kernel_rfl)
  · cases h2 : tb (inb x5.length s0.c4)
    · intro g0 g1 g2
      exact absurd g2 ft
    · cases h3 : tb (decide ((gt x5 s0.c4) < (-4294967296)))
      · cases h4 : tb (decide (4294967296 < (gt x5 s0.c4)))
        · cases h5 : tb (inb x7.length s0.c4)
          · intro g0 g1 g2
            exact absurd g2 ft
          · cases h6 : tb (decide ((gt x7 s0.c4) < 1))
            · cases h7 : tb (decide (16 < (gt x7 s0.c4)))
              · intro g0 g1 g2
                exact absurd g0 tf
              · intro g0 g1 g2
                exact absurd g1 tf
            · intro g0 g1 g2
              exact absurd g1 tf
        · intro g0 g1 g2
          exact absurd g1 tf
      · intro g0 g1 g2
        exact absurd g1 tf

theorem ref12_Vote_ai3oo_L1_f0_0 (x0 : Int) (x1 : Int) (x2 : Int) (x3 : Bool) (x4 : Bool) (x5 : List Int) (x6 : Bool) (x7 : List Int) (x8 : Int) (s : ref12_Vote_ai3oo_L1_s0) (hok : ref12_Vote_ai3oo_L1_ok x5 x7 s = true) (c0 : ref12_Vote_ai3oo_L1_c0 x5 x7 (ref12_Vote_ai3oo_L1_end x5 x7 s) = true) : loopG (roundG (runC E0 (cl E0) L44_1) [1, 2, 3, 9] [1, 2, 3, 6, 7] 1) bound (ref12_Vote_ai3oo_L1_enc x0 x1 x2 x3 x4 x5 x6 x7 x8 s) = some (.ret, ([(V.d (slD (encI .i64) true 1 x4 x5)), (V.d (slD (encI .i64) true 1 x6 x7)), (V.ptr 0 1 0 0), (V.d (.int .i64 0)), (V.d (.bool false))], [(Blk.flat 66 3 [[(.int .i64 x0), (.int .i64 x1), (.int .i64 x2)]] x3)])) := by
  have e : itS (ref12_Vote_ai3oo_L1_sel x5 x7) (ref12_Vote_ai3oo_L1_nx x5 x7) bound s = some (ref12_Vote_ai3oo_L1_end x5 x7 s) := itS_get hok
  have f := itS_false e
  exact loop_it (ref12_Vote_ai3oo_L1_go x0 x1 x2 x3 x4 x5 x6 x7 x8) bound s _ _ _ e (fun h => by cases h) (ref12_Vote_ai3oo_L1_x0 x0 x1 x2 x3 x4 x5 x6 x7 x8 (ref12_Vote_ai3oo_L1_end x5 x7 s) f c0)

theorem ref12_Vote_ai3oo_L1_f0_1 (x0 : Int) (x1 : Int) (x2 : Int) (x3 : Bool) (x4 : Bool) (x5 : List Int) (x6 : Bool) (x7 : List Int) (x8 : Int) (s : ref12_Vote_ai3oo_L1_s0) (hok : ref12_Vote_ai3oo_L1_ok x5 x7 s = true) (c0 : ref12_Vote_ai3oo_L1_c0 x5 x7 (ref12_Vote_ai3oo_L1_end x5 x7 s) = false) (c1 : ref12_Vote_ai3oo_L1_c1 x5 (ref12_Vote_ai3oo_L1_end x5 x7 s) = true) : loopG (roundG (runC E0 (cl E0) L44_1) [1, 2, 3, 9] [1, 2, 3, 6, 7] 1) bound (ref12_Vote_ai3oo_L1_enc x0 x1 x2 x3 x4 x5 x6 x7 x8 s) = some ((.exit 0), ([(V.d (slD (encI .i64) true 1 x4 x5)), (V.d (slD (encI .i64) true 1 x6 x7)), (V.ptr 0 1 0 0), V.un, V.un], [(Blk.flat 66 3 [[(.int .i64 x0), (.int .i64 x1), (.int .i64 x2)]] x3)])) := by
  have e : itS (ref12_Vote_ai3oo_L1_sel x5 x7) (ref12_Vote_ai3oo_L1_nx x5 x7) bound s = some (ref12_Vote_ai3oo_L1_end x5 x7 s) := itS_get hok
  have f := itS_false e
  exact loop_it (ref12_Vote_ai3oo_L1_go x0 x1 x2 x3 x4 x5 x6 x7 x8) bound s _ _ _ e (fun h => by cases h) (ref12_Vote_ai3oo_L1_x1 x0 x1 x2 x3 x4 x5 x6 x7 x8 (ref12_Vote_ai3oo_L1_end x5 x7 s) f c0 c1)

def ref12_Vote_ai3oo_S2_e0 (x5 : List Int) (x7 : List Int) : ref12_Vote_ai3oo_L1_s0 := ref12_Vote_ai3oo_L1_end x5 x7 (⟨0⟩ : ref12_Vote_ai3oo_L1_s0)

def ref12_Vote_ai3oo_S2_c0 (x5 : List Int) (x7 : List Int) : Bool := (bif tb (ref12_Vote_ai3oo_L1_ok x5 x7 (⟨0⟩ : ref12_Vote_ai3oo_L1_s0)) then (bif tb (ref12_Vote_ai3oo_L1_c0 x5 x7 (ref12_Vote_ai3oo_S2_e0 x5 x7)) then true else false) else false)

def ref12_Vote_ai3oo_S2_c1 (x5 : List Int) (x7 : List Int) : Bool := (bif tb (ref12_Vote_ai3oo_L1_ok x5 x7 (⟨0⟩ : ref12_Vote_ai3oo_L1_s0)) then (bif tb (ref12_Vote_ai3oo_L1_c0 x5 x7 (ref12_Vote_ai3oo_S2_e0 x5 x7)) then false else (bif tb (ref12_Vote_ai3oo_L1_c1 x5 (ref12_Vote_ai3oo_S2_e0 x5 x7)) then true else false)) else false)

theorem ref12_Vote_ai3oo_S2_t0 (x0 : Int) (x1 : Int) (x2 : Int) (x3 : Bool) (x4 : Bool) (x5 : List Int) (x6 : Bool) (x7 : List Int) : ref12_Vote_ai3oo_S2_c0 x5 x7 = true → segG (runC E0 (cl E0) S44_2) [1, 2, 3] [6, 7] [1, 2, 3] 1 ([(V.d (slD (encI .i64) true 1 x4 x5)), (V.d (slD (encI .i64) true 1 x6 x7)), (V.ptr 0 1 0 0)], [(Blk.flat 66 3 [[(.int .i64 x0), (.int .i64 x1), (.int .i64 x2)]] x3)]) = some (.ret, ([(V.d (.int .i64 0)), (V.d (.bool false))], [(Blk.flat 66 3 [[(.int .i64 x0), (.int .i64 x1), (.int .i64 x2)]] x3)])) := by
  unfold ref12_Vote_ai3oo_S2_c0
  cases h1 : tb (ref12_Vote_ai3oo_L1_ok x5 x7 (⟨0⟩ : ref12_Vote_ai3oo_L1_s0))
  · intro g0
    exact absurd g0 ft
  · cases h2 : tb (ref12_Vote_ai3oo_L1_c0 x5 x7 (ref12_Vote_ai3oo_S2_e0 x5 x7))
    · cases h3 : tb (ref12_Vote_ai3oo_L1_c1 x5 (ref12_Vote_ai3oo_S2_e0 x5 x7))
      · intro g0
        exact absurd g0 ft
      · intro g0
        exact absurd g0 ft
    · intro g0
      exact seg_walk [.l (ref12_Vote_ai3oo_L1_f0_0 x0 x1 x2 x3 x4 x5 x6 x7 0 (⟨0⟩ : ref12_Vote_ai3oo_L1_s0) (tbE h1) (tbE h2))] (by kernel_rfl)

theorem ref12_Vote_ai3oo_S2_t1 (x0 : Int) (x1 : Int) (x2 : Int) (x3 : Bool) (x4 : Bool) (x5 : List Int) (x6 : Bool) (x7 : List Int) : ref12_Vote_ai3oo_S2_c0 x5 x7 = false → ref12_Vote_ai3oo_S2_c1 x5 x7 = true → segG (runC E0 (cl E0) S44_2) [1, 2, 3] [6, 7] [1, 2, 3] 1 ([(V.d (slD (encI .i64) true 1 x4 x5)), (V.d (slD (encI .i64) true 1 x6 x7)), (V.ptr 0 1 0 0)], [(Blk.flat 66 3 [[(.int .i64 x0), (.int .i64 x1), (.int .i64 x2)]] x3)]) = some (.normal, ([(V.d (slD (encI .i64) true 1 x4 x5)), (V.d (slD (encI .i64) true 1 x6 x7)), (V.ptr 0 1 0 0)], [(Blk.flat 66 3 [[(.int .i64 x0), (.int .i64 x1), (.int .i64 x2)]] x3)])) := by
  unfold ref12_Vote_ai3oo_S2_c0 ref12_Vote_ai3oo_S2_c1
  cases h1 : tb (ref12_Vote_ai3oo_L1_ok x5 x7 (⟨0⟩ : ref12_Vote_ai3oo_L1_s0))
  · intro g0 g1
    exact absurd g1 ft
  · cases h2 : tb (ref12_Vote_ai3oo_L1_c0 x5 x7 (ref12_Vote_ai3oo_S2_e0 x5 x7))
    · cases h3 : tb (ref12_Vote_ai3oo_L1_c1 x5 (ref12_Vote_ai3oo_S2_e0 x5 x7))
      · intro g0 g1
        exact absurd g1 ft
      · intro g0 g1
        exact seg_walk [.l (ref12_Vote_ai3oo_L1_f0_1 x0 x1 x2 x3 x4 x5 x6 x7 0 (⟨0⟩ : ref12_Vote_ai3oo_L1_s0) (tbE h1) (tbE h2) (tbE h3))] (by kernel_rfl)
    · intro g0 g1
      exact absurd g0 tf

def ref12_Vote_ai3oo_S3_c0 (x5 : List Int) : Bool := (bif tb (ref02_Mid_o_c0 x5) then true else false)

theorem ref12_Vote_ai3oo_S3_t0 (x0 : Int) (x1 : Int) (x2 : Int) (x3 : Bool) (x4 : Bool) (x5 : List Int) (x6 : Bool) (x7 : List Int) : ref12_Vote_ai3oo_S3_c0 x5 = true → segG (runC E0 (cl E0) S44_3) [1, 2, 3] [] [1, 2, 3, 10] 1 ([(V.d (slD (encI .i64) true 1 x4 x5)), (V.d (slD (encI .i64) true 1 x6 x7)), (V.ptr 0 1 0 0)], [(Blk.flat 66 3 [[(.int .i64 x0), (.int .i64 x1), (.int .i64 x2)]] x3)]) = some (.normal, ([(V.d (slD (encI .i64) true 1 x4 x5)), (V.d (slD (encI .i64) true 1 x6 x7)), (V.ptr 0 1 0 0), (V.d (.int .i64 (ref02_Mid_o_r0_0 x5)))], [(Blk.flat 66 3 [[(.int .i64 x0), (.int .i64 x1), (.int .i64 x2)]] x3)])) := by
  unfold ref12_Vote_ai3oo_S3_c0
  cases h1 : tb (ref02_Mid_o_c0 x5)
  · intro g0
    exact absurd g0 ft
  · intro g0
    exact seg_walk [.c (ref02_Mid_o_t0 x4 x5 (tbE h1))] (by kernel_rfl)

structure ref12_Vote_ai3oo_L4_s0 where
  c5 : Int
  c6 : Int
  c7 : Int
  deriving Inhabited

def ref12_Vote_ai3oo_L4_enc (x0 : Int) (x1 : Int) (x2 : Int) (x3 : Bool) (x4 : Bool) (x5 : List Int) (x6 : Bool) (x7 : List Int) (x8 : Int) (x9 : Int) (x10 : Int) (x11 : Int) (s0 : ref12_Vote_ai3oo_L4_s0) : List V × Mem := ([(V.d (slD (encI .i64) true 1 x4 x5)), (V.d (slD (encI .i64) true 1 x6 x7)), (V.ptr 0 1 0 0), (V.d (.int .i64 x8)), (V.d (.int .i64 s0.c5)), (V.d (.int .i64 s0.c6)), (V.d (.int .i64 s0.c7))], [(Blk.flat 66 3 [[(.int .i64 x0), (.int .i64 x1), (.int .i64 x2)]] x3)])

def ref12_Vote_ai3oo_L4_h0_e0 (x2 : Int) (x5 : List Int) (x7 : List Int) (x8 : Int) (s0 : ref12_Vote_ai3oo_L4_s0) : Int := wi ((mnI (mxI (gt x5 s0.c7) (wi (x8 - x2))) (wi (x8 + x2))) * (gt x7 s0.c7))

def ref12_Vote_ai3oo_L4_sel (x2 : Int) (x5 : List Int) (x7 : List Int) (x8 : Int) (s0 : ref12_Vote_ai3oo_L4_s0) : Bool := (bif tb (decide (s0.c7 < ((x5.length : Nat) : Int))) then (bif tb (inb x5.length s0.c7) then (bif tb (inb x7.length s0.c7) then true else false) else false) else false)

def ref12_Vote_ai3oo_L4_nx (x2 : Int) (x5 : List Int) (x7 : List Int) (x8 : Int) (s0 : ref12_Vote_ai3oo_L4_s0) : ref12_Vote_ai3oo_L4_s0 := ⟨(wi (s0.c5 + (ref12_Vote_ai3oo_L4_h0_e0 x2 x5 x7 x8 s0))), (wi (s0.c6 + (gt x7 s0.c7))), (wi (s0.c7 + 1))⟩

def ref12_Vote_ai3oo_L4_ok (x2 : Int) (x5 : List Int) (x7 : List Int) (x8 : Int) (s0 : ref12_Vote_ai3oo_L4_s0) : Bool := (itS (ref12_Vote_ai3oo_L4_sel x2 x5 x7 x8) (ref12_Vote_ai3oo_L4_nx x2 x5 x7 x8) bound s0).isSome
def ref12_Vote_ai3oo_L4_end (x2 : Int) (x5 : List Int) (x7 : List Int) (x8 : Int) (s0 : ref12_Vote_ai3oo_L4_s0) : ref12_Vote_ai3oo_L4_s0 := (itS (ref12_Vote_ai3oo_L4_sel x2 x5 x7 x8) (ref12_Vote_ai3oo_L4_nx x2 x5 x7 x8) bound s0).getD default

theorem ref12_Vote_ai3oo_L4_go (x0 : Int) (x1 : Int) (x2 : Int) (x3 : Bool) (x4 : Bool) (x5 : List Int) (x6 : Bool) (x7 : List Int) (x8 : Int) (x9 : Int) (x10 : Int) (x11 : Int) (s0 : ref12_Vote_ai3oo_L4_s0) : ref12_Vote_ai3oo_L4_sel x2 x5 x7 x8 s0 = true → (roundG (runC E0 (cl E0) L44_4) [1, 2, 3, 10, 12, 13, 14] [3, 12, 13] 1) (ref12_Vote_ai3oo_L4_enc x0 x1 x2 x3 x4 x5 x6 x7 x8 x9 x10 x11 s0) = some (.normal, ref12_Vote_ai3oo_L4_enc x0 x1 x2 x3 x4 x5 x6 x7 x8 x9 x10 x11 (ref12_Vote_ai3oo_L4_nx x2 x5 x7 x8 s0)) := by
  unfold ref12_Vote_ai3oo_L4_sel ref12_Vote_ai3oo_L4_nx
  cases h1 : tb (decide (s0.c7 < ((x5.length : Nat) : Int)))
  · intro g0
    exact absurd g0 ft
  · cases h2 : tb (inb x5.length s0.c7)
    · intro g0
      exact absurd g0 ft
    · cases h3 : tb (inb x7.length s0.c7)
      · intro g0
        exact absurd g0 ft
      · intro _
        exact round_walk [.o 76 (fun _ => o_len_os (enc := (encI .i64)) (l := x5) (fl := true) (n := x4) (s := 1)), .b (tbE h1), .o 82 (fun _ => o_idx_os (enc := (encI .i64)) (l := x5) (fl := true) (n := x4) (s := 1) (k := .i64) (tbE h2)), .o 98 (fun _ => o_idx_os (enc := (encI .i64)) (l := x7) (fl := true) (n := x6) (s := 1) (k := .i64) (tbE h3)), .o 105 (fun _ => o_idx_os (enc := (encI .i64)) (l := x7) (fl := true) (n := x6) (s := 1) (k := .i64) (tbE h3))] (by kernel_rfl)

def ref12_Vote_ai3oo_L4_c0 (x5 : List Int) (s0 : ref12_Vote_ai3oo_L4_s0) : Bool := (bif tb (decide (s0.c7 < ((x5.length : Nat) : Int))) then false else true)

theorem ref12_Vote_ai3oo_L4_x0 (x0 : Int) (x1 : Int) (x2 : Int) (x3 : Bool) (x4 : Bool) (x5 : List Int) (x6 : Bool) (x7 : List Int) (x8 : Int) (x9 : Int) (x10 : Int) (x11 : Int) (s0 : ref12_Vote_ai3oo_L4_s0) : ref12_Vote_ai3oo_L4_sel x2 x5 x7 x8 s0 = false → ref12_Vote_ai3oo_L4_c0 x5 s0 = true → (roundG (runC E0 (cl E0) L44_4) [1, 2, 3, 10, 12, 13, 14] [3, 12, 13] 1) (ref12_Vote_ai3oo_L4_enc x0 x1 x2 x3 x4 x5 x6 x7 x8 x9 x10 x11 s0) = some ((.exit 2), ([(V.ptr 0 1 0 0), (V.d (.int .i64 s0.c5)), (V.d (.int .i64 s0.c6))], [(Blk.flat 66 3 [[(.int .i64 x0), (.int .i64 x1), (.int .i64 x2)]] x3)])) := by
  unfold ref12_Vote_ai3oo_L4_sel ref12_Vote_ai3oo_L4_c0
  cases h1 : tb (decide (s0.c7 < ((x5.length : Nat) : Int)))
  · intro g0 g1
    exact round_walk [.o 76 (fun _ => o_len_os (enc := (encI .i64)) (l := x5) (fl := true) (n := x4) (s := 1)), .b (tbE h1)] (by kernel_rfl)
  · cases h2 : tb (inb x5.length s0.c7)
    · intro g0 g1
      exact absurd g1 ft
    · cases h3 : tb (inb x7.length s0.c7)
      · intro g0 g1
        exact absurd g1 ft
      · intro g0 g1
        exact absurd g0 tf

theorem ref12_Vote_ai3oo_L4_f0_0 (x0 : Int) (x1 : Int) (x2 : Int) (x3 : Bool) (x4 : Bool) (x5 : List Int) (x6 : Bool) (x7 : List Int) (x8 : Int) (x9 : Int) (x10 : Int) (x11 : Int) (s : ref12_Vote_ai3oo_L4_s0) (hok : ref12_Vote_ai3oo_L4_ok x2 x5 x7 x8 s = true) (c0 : ref12_Vote_ai3oo_L4_c0 x5 (ref12_Vote_ai3oo_L4_end x2 x5 x7 x8 s) = true) : loopG (roundG (runC E0 (cl E0) L44_4) [1, 2, 3, 10, 12, 13, 14] [3, 12, 13] 1) bound (ref12_Vote_ai3oo_L4_enc x0 x1 x2 x3 x4 x5 x6 x7 x8 x9 x10 x11 s) = some ((.exit 2), ([(V.ptr 0 1 0 0), (V.d (.int .i64 ((ref12_Vote_ai3oo_L4_end x2 x5 x7 x8 s).c5))), (V.d (.int .i64 ((ref12_Vote_ai3oo_L4_end x2 x5 x7 x8 s).c6)))], [(Blk.flat 66 3 [[(.int .i64 x0), (.int .i64 x1), (.int .i64 x2)]] x3)])) := by
  have e : itS (ref12_Vote_ai3oo_L4_sel x2 x5 x7 x8) (ref12_Vote_ai3oo_L4_nx x2 x5 x7 x8) bound s = some (ref12_Vote_ai3oo_L4_end x2 x5 x7 x8 s) := itS_get hok
  have f := itS_false e
  exact loop_it (ref12_Vote_ai3oo_L4_go x0 x1 x2 x3 x4 x5 x6 x7 x8 x9 x10 x11) bound s _ _ _ e (fun h => by cases h) (ref12_Vote_ai3oo_L4_x0 x0 x1 x2 x3 x4 x5 x6 x7 x8 x9 x10 x11 (ref12_Vote_ai3oo_L4_end x2 x5 x7 x8 s) f c0)

def ref12_Vote_ai3oo_S5_e0 (x2 : Int) (x5 : List Int) (x7 : List Int) (x8 : Int) : ref12_Vote_ai3oo_L4_s0 := ref12_Vote_ai3oo_L4_end x2 x5 x7 x8 (⟨0, 0, 0⟩ : ref12_Vote_ai3oo_L4_s0)

def ref12_Vote_ai3oo_S5_c0 (x2 : Int) (x5 : List Int) (x7 : List Int) (x8 : Int) : Bool := (bif tb (ref12_Vote_ai3oo_L4_ok x2 x5 x7 x8 (⟨0, 0, 0⟩ : ref12_Vote_ai3oo_L4_s0)) then (bif tb (ref12_Vote_ai3oo_L4_c0 x5 (ref12_Vote_ai3oo_S5_e0 x2 x5 x7 x8)) then true else false) else false)

theorem ref12_Vote_ai3oo_S5_t0 (x0 : Int) (x1 : Int) (x2 : Int) (x3 : Bool) (x4 : Bool) (x5 : List Int) (x6 : Bool) (x7 : List Int) (x8 : Int) : ref12_Vote_ai3oo_S5_c0 x2 x5 x7 x8 = true → segG (runC E0 (cl E0) S44_5) [1, 2, 3, 10, 12, 13] [] [3, 12, 13] 1 ([(V.d (slD (encI .i64) true 1 x4 x5)), (V.d (slD (encI .i64) true 1 x6 x7)), (V.ptr 0 1 0 0), (V.d (.int .i64 x8)), (V.d (.int .i64 0)), (V.d (.int .i64 0))], [(Blk.flat 66 3 [[(.int .i64 x0), (.int .i64 x1), (.int .i64 x2)]] x3)]) = some (.normal, ([(V.ptr 0 1 0 0), (V.d (.int .i64 ((ref12_Vote_ai3oo_S5_e0 x2 x5 x7 x8).c5))), (V.d (.int .i64 ((ref12_Vote_ai3oo_S5_e0 x2 x5 x7 x8).c6)))], [(Blk.flat 66 3 [[(.int .i64 x0), (.int .i64 x1), (.int .i64 x2)]] x3)])) := by
  unfold ref12_Vote_ai3oo_S5_c0
  cases h1 : tb (ref12_Vote_ai3oo_L4_ok x2 x5 x7 x8 (⟨0, 0, 0⟩ : ref12_Vote_ai3oo_L4_s0))
  · intro g0
    exact absurd g0 ft
  · cases h2 : tb (ref12_Vote_ai3oo_L4_c0 x5 (ref12_Vote_ai3oo_S5_e0 x2 x5 x7 x8))
    · intro g0
      exact absurd g0 ft
    · intro g0
      exact seg_walk [.l (ref12_Vote_ai3oo_L4_f0_0 x0 x1 x2 x3 x4 x5 x6 x7 x8 0 0 0 (⟨0, 0, 0⟩ : ref12_Vote_ai3oo_L4_s0) (tbE h1) (tbE h2))] (by kernel_rfl)

def ref12_Vote_ai3oo_e0 (x2 : Int) (x4 : List Int) (x6 : List Int) : Int := ((ref12_Vote_ai3oo_S5_e0 x2 x4 x6 (ref02_Mid_o_r0_0 x4)).c5)

def ref12_Vote_ai3oo_e1 (x2 : Int) (x4 : List Int) (x6 : List Int) : Int := ((ref12_Vote_ai3oo_S5_e0 x2 x4 x6 (ref02_Mid_o_r0_0 x4)).c6)

def ref12_Vote_ai3oo_e2 (x0 : Int) (x2 : Int) (x4 : List Int) (x6 : List Int) : Int := mxI (ref01_Floor_ii_r0_0 (ref12_Vote_ai3oo_e0 x2 x4 x6) (ref12_Vote_ai3oo_e1 x2 x4 x6)) x0

def ref12_Vote_ai3oo_c0 (x0 : Int) (x1 : Int) (x2 : Int) (x4 : List Int) (x6 : List Int) : Bool := (bif tb (ref12_Vote_ai3oo_S0_c0 x4 x6 (ref12_Right_ai3_r0_0 x0 x1 x2)) then true else (bif tb (ref12_Vote_ai3oo_S2_c0 x4 x6) then true else (bif tb (ref12_Vote_ai3oo_S2_c1 x4 x6) then (bif tb (ref12_Vote_ai3oo_S3_c0 x4) then (bif tb (ref12_Vote_ai3oo_S5_c0 x2 x4 x6 (ref02_Mid_o_r0_0 x4)) then (bif tb (ref01_Floor_ii_c0 (ref12_Vote_ai3oo_e0 x2 x4 x6) (ref12_Vote_ai3oo_e1 x2 x4 x6)) then true else false) else false) else false) else false)))

def ref12_Vote_ai3oo_r0_0 (x0 : Int) (x1 : Int) (x2 : Int) (x4 : List Int) (x6 : List Int) : Int := (bif tb (ref12_Vote_ai3oo_S0_c0 x4 x6 (ref12_Right_ai3_r0_0 x0 x1 x2)) then 0 else (bif tb (ref12_Vote_ai3oo_S2_c0 x4 x6) then 0 else (mnI (ref12_Vote_ai3oo_e2 x0 x2 x4 x6) x1)))

def ref12_Vote_ai3oo_r0_1 (x0 : Int) (x1 : Int) (x2 : Int) (x4 : List Int) (x6 : List Int) : Bool := (bif tb (ref12_Vote_ai3oo_S0_c0 x4 x6 (ref12_Right_ai3_r0_0 x0 x1 x2)) then false else (bif tb (ref12_Vote_ai3oo_S2_c0 x4 x6) then false else true))

theorem ref12_Vote_ai3oo_t0 (x0 : Int) (x1 : Int) (x2 : Int) (x3 : Bool) (x4 : List Int) (x5 : Bool) (x6 : List Int) : ref12_Vote_ai3oo_c0 x0 x1 x2 x4 x6 = true → cl E0 44 [(V.agg [(V.d (.int .i64 x0)), (V.d (.int .i64 x1)), (V.d (.int .i64 x2))]), (V.d (slD (encI .i64) true 1 x3 x4)), (V.d (slD (encI .i64) true 1 x5 x6))] [] = some ([(V.d (.int .i64 (ref12_Vote_ai3oo_r0_0 x0 x1 x2 x4 x6))), (V.d (.bool (ref12_Vote_ai3oo_r0_1 x0 x1 x2 x4 x6)))], []) := by
  unfold ref12_Vote_ai3oo_c0 ref12_Vote_ai3oo_r0_0 ref12_Vote_ai3oo_r0_1
  cases h1 : tb (ref12_Vote_ai3oo_S0_c0 x4 x6 (ref12_Right_ai3_r0_0 x0 x1 x2))
  · cases h2 : tb (ref12_Vote_ai3oo_S2_c0 x4 x6)
    · cases h3 : tb (ref12_Vote_ai3oo_S2_c1 x4 x6)
      · intro g0
        exact absurd g0 ft
      · cases h4 : tb (ref12_Vote_ai3oo_S3_c0 x4)
        · intro g0
          exact absurd g0 ft
        · cases h5 : tb (ref12_Vote_ai3oo_S5_c0 x2 x4 x6 (ref02_Mid_o_r0_0 x4))
          · intro g0
            exact absurd g0 ft
          · cases h6 : tb (ref01_Floor_ii_c0 (ref12_Vote_ai3oo_e0 x2 x4 x6) (ref12_Vote_ai3oo_e1 x2 x4 x6))
            · intro g0
              exact absurd g0 ft
            · intro g0
              exact w44 [.c (ref12_Right_ai3_t0 x0 x1 x2), .s (ref12_Vote_ai3oo_S0_t1 x0 x1 x2 false x3 x4 x5 x6 (ref12_Right_ai3_r0_0 x0 x1 x2) (tbE h1)), .s (ref12_Vote_ai3oo_S2_t1 x0 x1 x2 false x3 x4 x5 x6 (tbE h2) (tbE h3)), .s (ref12_Vote_ai3oo_S3_t0 x0 x1 x2 false x3 x4 x5 x6 (tbE h4)), .s (ref12_Vote_ai3oo_S5_t0 x0 x1 x2 false x3 x4 x5 x6 (ref02_Mid_o_r0_0 x4) (tbE h5)), .c (ref01_Floor_ii_t0 (ref12_Vote_ai3oo_e0 x2 x4 x6) (ref12_Vote_ai3oo_e1 x2 x4 x6) (tbE h6))] (by kernel_rfl)
    · intro g0
      exact w44 [.c (ref12_Right_ai3_t0 x0 x1 x2), .s (ref12_Vote_ai3oo_S0_t1 x0 x1 x2 false x3 x4 x5 x6 (ref12_Right_ai3_r0_0 x0 x1 x2) (tbE h1)), .s (ref12_Vote_ai3oo_S2_t0 x0 x1 x2 false x3 x4 x5 x6 (tbE h2))] (by kernel_rfl)
  · intro g0
    exact w44 [.c (ref12_Right_ai3_t0 x0 x1 x2), .s (ref12_Vote_ai3oo_S0_t0 x0 x1 x2 false x3 x4 x5 x6 (ref12_Right_ai3_r0_0 x0 x1 x2) (tbE h1))] (by kernel_rfl)

end Go.Proofs.Ytdjmfcdopaejcaa.Den

/- Layer 12 (vote): the parts, told plainly. -/
namespace Go.Proofs.Ytdjmfcdopaejcaa.Den
open Go
set_option linter.unusedVariables false
set_option linter.unusedSimpArgs false

theorem lst16_eq (l : List Int) : lst16 l = lst16r l := by simp only [lst16, lst16r]; exact Bool.and_comm _ _
theorem mid4_eq (l : List Int) : mid4 l = mid4r l := by simp only [mid4, mid4r, lst16_eq]
theorem midI_eq (l : List Int) : midI l = midR l := rfl

/-- The middle of a list is as its elements are. -/
theorem mid_sm {l : List Int} (h : mid4 l = true) : -1099511627776 ≤ midI l ∧ midI l ≤ 1099511627776 := by
  simp only [mid4, Bool.and_eq_true, decide_eq_true_eq] at h
  obtain ⟨h16, h1, h2⟩ := h
  have m1 := isort_sm h16 (i := ((l.length : Int) - 1) / 2) (by omega) (by omega)
  have m2 := isort_sm h16 (i := (l.length : Int) / 2) (by omega) (by omega)
  unfold midI; omega

theorem mid_within {l : List Int} (h : mid4 l = true) {b : Int} (hb : ∀ z, z ∈ l → -b ≤ z ∧ z ≤ b) : -b ≤ midI l ∧ midI l ≤ b := by
  simp only [mid4, Bool.and_eq_true, decide_eq_true_eq] at h
  obtain ⟨h16, h1, h2⟩ := h
  have g := fun (i : Int) (x : 0 ≤ i) (y : i < l.length) => hb _ ((isort_perm l).mem_iff.1 (gt_mem (l := isort l) x (by rw [isort_len]; exact y)))
  have m1 := g (((l.length : Int) - 1) / 2) (by omega) (by omega)
  have m2 := g ((l.length : Int) / 2) (by omega) (by omega)
  unfold midI; omega

theorem ediv_is {a b k r : Int} (hb : 0 < b) (e : a = r + k * b) (h1 : 0 ≤ r) (h2 : r < b) : a / b = k := by
  rw [e, Int.add_mul_ediv_right _ _ (by omega), Int.ediv_eq_zero_of_lt h1 h2]; omega

theorem fFloor_c (a b : Int) : fix_Floor_ii_c0 a b = true := by
  simp only [fix_Floor_ii_c0, (small2 a b).1, (small2 a b).2, tb_eq, cond_true]
  cases sm a && sm b
  · rfl
  · by_cases h : b < 1
    · simp [h]
    · have : ((b : Int) == 0) = false := by simp; omega
      simp [h, this]

theorem fFloor_r (a b : Int) : fix_Floor_ii_r0_0 a b = flo a b := by
  simp only [fix_Floor_ii_r0_0, (small2 a b).2, tb_eq, flo]
  cases h1 : sm a <;> cases h2 : sm b <;> simp
  rw [sm_iff] at h1 h2
  by_cases hb : b < 1
  · have : ¬ (1 ≤ b) := by omega
    simp [hb, this]
  · have hb1 : 1 ≤ b := by omega
    have hf : a.fdiv b = a / b := Int.fdiv_eq_ediv_of_nonneg _ (by omega)
    have hdm := Int.mul_tdiv_add_tmod a b
    have q1 : -1099511627776 ≤ a.tdiv b ∧ a.tdiv b ≤ 1099511627776 := by
      by_cases ha : 0 ≤ a
      · rw [Int.tdiv_eq_ediv_of_nonneg ha]
        have := Int.ediv_nonneg ha (show 0 ≤ b by omega)
        have := Int.ediv_le_self b ha
        omega
      · have e : a.tdiv b = -((-a).tdiv b) := by rw [Int.neg_tdiv]; omega
        rw [e, Int.tdiv_eq_ediv_of_nonneg (show 0 ≤ -a by omega)]
        have := Int.ediv_nonneg (show 0 ≤ -a by omega) (show 0 ≤ b by omega)
        have := Int.ediv_le_self b (show 0 ≤ -a by omega)
        omega
    have e : quoI .i64 a b = a.tdiv b := by unfold quoI; exact wrap64 (by omega) (by omega)
    have w : wi (a.tdiv b - 1) = a.tdiv b - 1 := wi_eq (by omega) (by omega)
    have hm1 : a.tmod b < b := Int.tmod_lt_of_pos a (by omega)
    have hm2 : -b < a.tmod b := by
      have := Int.lt_tmod_of_pos a (show 0 < b by omega); omega
    simp only [hb, hb1, decide_false, cond_false, if_true, e, remI, w, hf]
    by_cases hneg : a.tmod b < 0
    · have : a / b = a.tdiv b - 1 := ediv_is (r := a.tmod b + b) (by omega) (by rw [Int.sub_mul, Int.mul_comm (a.tdiv b)]; omega) (by omega) (by omega)
      simp [hneg, this]
    · have : a / b = a.tdiv b := ediv_is (r := a.tmod b) (by omega) (by rw [Int.mul_comm (a.tdiv b)]; omega) (by omega) (by omega)
      simp [hneg, this]

end Go.Proofs.Ytdjmfcdopaejcaa.Den

namespace Go.Proofs.Ytdjmfcdopaejcaa.Den
open Go Go.Proofs
set_option maxRecDepth 100000
set_option maxHeartbeats 4000000
set_option linter.unusedVariables false
set_option linter.unusedSimpArgs false

theorem law12_alive_t0 : cl E0 42 [] [] = some ([(V.d (.bool true))], []) := cl_of (n := 60) (by kernel_rfl)

end Go.Proofs.Ytdjmfcdopaejcaa.Den

namespace Go.Proofs.Ytdjmfcdopaejcaa.Den
open Go Go.Proofs
set_option maxRecDepth 100000
set_option maxHeartbeats 4000000
set_option linter.unusedVariables false
set_option linter.unusedSimpArgs false

def law12_VoteTells_S0_c0 (x5 : List Int) (x7 : List Int) : Bool := (bif tb (decide (40 < ((x5.length : Nat) : Int))) then true else (bif tb (decide (40 < ((x7.length : Nat) : Int))) then true else false))

theorem law12_VoteTells_S0_t0 (x0 : Int) (x1 : Int) (x2 : Int) (x3 : Bool) (x4 : Bool) (x5 : List Int) (x6 : Bool) (x7 : List Int) : law12_VoteTells_S0_c0 x5 x7 = true → segG (runC E0 (cl E0) S10_0) [1, 2, 3] [6] [1, 2, 3] 1 ([(V.d (slD (encI .i64) true 1 x4 x5)), (V.d (slD (encI .i64) true 1 x6 x7)), (V.ptr 0 1 0 0)], [(Blk.flat 65 3 [[(.int .i64 x0), (.int .i64 x1), (.int .i64 x2)]] x3)]) = some (.ret, ([(V.d (.bool true))], [(Blk.flat 65 3 [[(.int .i64 x0), (.int .i64 x1), (.int .i64 x2)]] x3)])) := by
  unfold law12_VoteTells_S0_c0
  cases h1 : tb (decide (40 < ((x5.length : Nat) : Int)))
  · cases h2 : tb (decide (40 < ((x7.length : Nat) : Int)))
    · intro g0
      exact absurd g0 ft
    · intro g0
      exact seg_walk [.o 13 (fun _ => o_len_os (enc := (encI .i64)) (l := x5) (fl := true) (n := x4) (s := 1)), .b (tbE h1), .o 17 (fun _ => o_len_os (enc := (encI .i64)) (l := x7) (fl := true) (n := x6) (s := 1)), .b (tbE h2), .c (law12_alive_t0)] (by kernel_rfl)
  · intro g0
    exact seg_walk [.o 13 (fun _ => o_len_os (enc := (encI .i64)) (l := x5) (fl := true) (n := x4) (s := 1)), .b (tbE h1), .c (law12_alive_t0)] (by kernel_rfl)

theorem law12_VoteTells_S0_t1 (x0 : Int) (x1 : Int) (x2 : Int) (x3 : Bool) (x4 : Bool) (x5 : List Int) (x6 : Bool) (x7 : List Int) : law12_VoteTells_S0_c0 x5 x7 = false → segG (runC E0 (cl E0) S10_0) [1, 2, 3] [6] [1, 2, 3] 1 ([(V.d (slD (encI .i64) true 1 x4 x5)), (V.d (slD (encI .i64) true 1 x6 x7)), (V.ptr 0 1 0 0)], [(Blk.flat 65 3 [[(.int .i64 x0), (.int .i64 x1), (.int .i64 x2)]] x3)]) = some (.normal, ([(V.d (slD (encI .i64) true 1 x4 x5)), (V.d (slD (encI .i64) true 1 x6 x7)), (V.ptr 0 1 0 0)], [(Blk.flat 65 3 [[(.int .i64 x0), (.int .i64 x1), (.int .i64 x2)]] x3)])) := by
  unfold law12_VoteTells_S0_c0
  cases h1 : tb (decide (40 < ((x5.length : Nat) : Int)))
  · cases h2 : tb (decide (40 < ((x7.length : Nat) : Int)))
    · intro g0
      exact seg_walk [.o 13 (fun _ => o_len_os (enc := (encI .i64)) (l := x5) (fl := true) (n := x4) (s := 1)), .b (tbE h1), .o 17 (fun _ => o_len_os (enc := (encI .i64)) (l := x7) (fl := true) (n := x6) (s := 1)), .b (tbE h2)] (by kernel_rfl)
    · intro g0
      exact absurd g0 tf
  · intro g0
    exact absurd g0 tf

def law12_VoteTells_S1_c0 (x0 : Int) (x1 : Int) (x2 : Int) (x9 : List Int) (x11 : List Int) : Bool := (bif tb (vote_Vote_ai3oo_c0 x0 x1 x2 x9 x11) then true else false)

theorem law12_VoteTells_S1_t0 (x0 : Int) (x1 : Int) (x2 : Int) (x3 : Int) (x4 : Int) (x5 : Int) (x6 : Bool) (x7 : Bool) (x8 : Bool) (x9 : List Int) (x10 : Bool) (x11 : List Int) : law12_VoteTells_S1_c0 x0 x1 x2 x9 x11 = true → segG (runC E0 (cl E0) S10_1) [1, 2, 3, 7] [] [1, 2, 3, 7, 8, 9] 2 ([(V.d (slD (encI .i64) true 1 x8 x9)), (V.d (slD (encI .i64) true 1 x10 x11)), (V.ptr 0 1 0 0), (V.ptr 1 1 0 0)], [(Blk.flat 65 3 [[(.int .i64 x0), (.int .i64 x1), (.int .i64 x2)]] x6), (Blk.flat 66 3 [[(.int .i64 x3), (.int .i64 x4), (.int .i64 x5)]] x7)]) = some (.normal, ([(V.d (slD (encI .i64) true 1 x8 x9)), (V.d (slD (encI .i64) true 1 x10 x11)), (V.ptr 0 1 0 0), (V.ptr 1 1 0 0), (V.d (.int .i64 (vote_Vote_ai3oo_r0_0 x0 x1 x2 x9 x11))), (V.d (.bool (vote_Vote_ai3oo_r0_1 x0 x1 x2 x9 x11)))], [(Blk.flat 65 3 [[(.int .i64 x0), (.int .i64 x1), (.int .i64 x2)]] x6), (Blk.flat 66 3 [[(.int .i64 x3), (.int .i64 x4), (.int .i64 x5)]] x7)])) := by
  unfold law12_VoteTells_S1_c0
  cases h1 : tb (vote_Vote_ai3oo_c0 x0 x1 x2 x9 x11)
  · intro g0
    exact absurd g0 ft
  · intro g0
    exact seg_walk [.c (vote_Vote_ai3oo_t0 x0 x1 x2 x8 x9 x10 x11 (tbE h1))] (by kernel_rfl)

def law12_VoteTells_S2_c0 (x3 : Int) (x4 : Int) (x5 : Int) (x9 : List Int) (x11 : List Int) : Bool := (bif tb (ref12_Vote_ai3oo_c0 x3 x4 x5 x9 x11) then true else false)

theorem law12_VoteTells_S2_t0 (x0 : Int) (x1 : Int) (x2 : Int) (x3 : Int) (x4 : Int) (x5 : Int) (x6 : Bool) (x7 : Bool) (x8 : Bool) (x9 : List Int) (x10 : Bool) (x11 : List Int) (x12 : Int) (x13 : Bool) : law12_VoteTells_S2_c0 x3 x4 x5 x9 x11 = true → segG (runC E0 (cl E0) S10_2) [1, 2, 3, 7, 8, 9] [] [3, 7, 8, 9, 10, 11] 2 ([(V.d (slD (encI .i64) true 1 x8 x9)), (V.d (slD (encI .i64) true 1 x10 x11)), (V.ptr 0 1 0 0), (V.ptr 1 1 0 0), (V.d (.int .i64 x12)), (V.d (.bool x13))], [(Blk.flat 65 3 [[(.int .i64 x0), (.int .i64 x1), (.int .i64 x2)]] x6), (Blk.flat 66 3 [[(.int .i64 x3), (.int .i64 x4), (.int .i64 x5)]] x7)]) = some (.normal, ([(V.ptr 0 1 0 0), (V.ptr 1 1 0 0), (V.d (.int .i64 x12)), (V.d (.bool x13)), (V.d (.int .i64 (ref12_Vote_ai3oo_r0_0 x3 x4 x5 x9 x11))), (V.d (.bool (ref12_Vote_ai3oo_r0_1 x3 x4 x5 x9 x11)))], [(Blk.flat 65 3 [[(.int .i64 x0), (.int .i64 x1), (.int .i64 x2)]] x6), (Blk.flat 66 3 [[(.int .i64 x3), (.int .i64 x4), (.int .i64 x5)]] x7)])) := by
  unfold law12_VoteTells_S2_c0
  cases h1 : tb (ref12_Vote_ai3oo_c0 x3 x4 x5 x9 x11)
  · intro g0
    exact absurd g0 ft
  · intro g0
    exact seg_walk [.c (ref12_Vote_ai3oo_t0 x3 x4 x5 x8 x9 x10 x11 (tbE h1))] (by kernel_rfl)

def law12_VoteTells_S3_r0_0 (x0 : Int) (x1 : Int) (x2 : Int) (x3 : Int) (x4 : Int) (x5 : Int) (x8 : Int) (x9 : Bool) (x10 : Int) (x11 : Bool) : Bool := (bif tb ((x8 : Int) == x10) then (bif tb (false != (x9 == x11)) then (false != ((vote_Right_ai3_r0_0 x0 x1 x2) == (ref12_Right_ai3_r0_0 x3 x4 x5))) else false) else false)

theorem law12_VoteTells_S3_t0 (x0 : Int) (x1 : Int) (x2 : Int) (x3 : Int) (x4 : Int) (x5 : Int) (x6 : Bool) (x7 : Bool) (x8 : Int) (x9 : Bool) (x10 : Int) (x11 : Bool) : segG (runC E0 (cl E0) S10_3) [3, 7, 8, 9, 10, 11] [] [6] 2 ([(V.ptr 0 1 0 0), (V.ptr 1 1 0 0), (V.d (.int .i64 x8)), (V.d (.bool x9)), (V.d (.int .i64 x10)), (V.d (.bool x11))], [(Blk.flat 65 3 [[(.int .i64 x0), (.int .i64 x1), (.int .i64 x2)]] x6), (Blk.flat 66 3 [[(.int .i64 x3), (.int .i64 x4), (.int .i64 x5)]] x7)]) = some (.normal, ([(V.d (.bool (law12_VoteTells_S3_r0_0 x0 x1 x2 x3 x4 x5 x8 x9 x10 x11)))], [(Blk.flat 65 3 [[(.int .i64 x0), (.int .i64 x1), (.int .i64 x2)]] x6), (Blk.flat 66 3 [[(.int .i64 x3), (.int .i64 x4), (.int .i64 x5)]] x7)])) := by
  unfold law12_VoteTells_S3_r0_0
  cases h1 : tb ((x8 : Int) == x10)
  · exact seg_walk [.c (law12_alive_t0), .k true, .b (tbE h1)] (by kernel_rfl)
  · cases h2 : tb (false != (x9 == x11))
    · exact seg_walk [.c (law12_alive_t0), .k true, .b (tbE h1), .b (tbE h2)] (by kernel_rfl)
    · exact seg_walk [.c (law12_alive_t0), .k true, .b (tbE h1), .b (tbE h2), .c (vote_Right_ai3_t0 x0 x1 x2), .c (ref12_Right_ai3_t0 x3 x4 x5)] (by kernel_rfl)

def law12_VoteTells_c0 (x0 : Int) (x1 : Int) (x2 : Int) (x4 : List Int) (x6 : List Int) : Bool := (bif tb (law12_VoteTells_S0_c0 x4 x6) then true else (bif tb (law12_VoteTells_S1_c0 x0 x1 x2 x4 x6) then (bif tb (law12_VoteTells_S2_c0 x0 x1 x2 x4 x6) then true else false) else false))

def law12_VoteTells_r0_0 (x0 : Int) (x1 : Int) (x2 : Int) (x4 : List Int) (x6 : List Int) : Bool := (bif tb (law12_VoteTells_S0_c0 x4 x6) then true else (law12_VoteTells_S3_r0_0 x0 x1 x2 x0 x1 x2 (vote_Vote_ai3oo_r0_0 x0 x1 x2 x4 x6) (vote_Vote_ai3oo_r0_1 x0 x1 x2 x4 x6) (ref12_Vote_ai3oo_r0_0 x0 x1 x2 x4 x6) (ref12_Vote_ai3oo_r0_1 x0 x1 x2 x4 x6)))

theorem law12_VoteTells_t0 (x0 : Int) (x1 : Int) (x2 : Int) (x3 : Bool) (x4 : List Int) (x5 : Bool) (x6 : List Int) : law12_VoteTells_c0 x0 x1 x2 x4 x6 = true → cl E0 10 [(V.agg [(V.d (.int .i64 x0)), (V.d (.int .i64 x1)), (V.d (.int .i64 x2))]), (V.d (slD (encI .i64) true 1 x3 x4)), (V.d (slD (encI .i64) true 1 x5 x6))] [] = some ([(V.d (.bool (law12_VoteTells_r0_0 x0 x1 x2 x4 x6)))], []) := by
  unfold law12_VoteTells_c0 law12_VoteTells_r0_0
  cases h1 : tb (law12_VoteTells_S0_c0 x4 x6)
  · cases h2 : tb (law12_VoteTells_S1_c0 x0 x1 x2 x4 x6)
    · intro g0
      exact absurd g0 ft
    · cases h3 : tb (law12_VoteTells_S2_c0 x0 x1 x2 x4 x6)
      · intro g0
        exact absurd g0 ft
      · intro g0
        exact w10 [.s (law12_VoteTells_S0_t1 x0 x1 x2 false x3 x4 x5 x6 (tbE h1)), .s (law12_VoteTells_S1_t0 x0 x1 x2 x0 x1 x2 false false x3 x4 x5 x6 (tbE h2)), .s (law12_VoteTells_S2_t0 x0 x1 x2 x0 x1 x2 false false x3 x4 x5 x6 (vote_Vote_ai3oo_r0_0 x0 x1 x2 x4 x6) (vote_Vote_ai3oo_r0_1 x0 x1 x2 x4 x6) (tbE h3)), .s (law12_VoteTells_S3_t0 x0 x1 x2 x0 x1 x2 false false (vote_Vote_ai3oo_r0_0 x0 x1 x2 x4 x6) (vote_Vote_ai3oo_r0_1 x0 x1 x2 x4 x6) (ref12_Vote_ai3oo_r0_0 x0 x1 x2 x4 x6) (ref12_Vote_ai3oo_r0_1 x0 x1 x2 x4 x6))] (by kernel_rfl)
  · intro g0
    exact w10 [.s (law12_VoteTells_S0_t0 x0 x1 x2 false x3 x4 x5 x6 (tbE h1))] (by kernel_rfl)

end Go.Proofs.Ytdjmfcdopaejcaa.Den

/- Layer 12: VoteTells. -/
namespace Go.Proofs.Ytdjmfcdopaejcaa.Den
open Go Go.Proofs
set_option linter.unusedVariables false
set_option linter.unusedSimpArgs false

def rp (lo hi cl : Int) : Prop := (-2147483648 ≤ lo ∧ lo ≤ 2147483647) ∧ (-2147483648 ≤ hi ∧ hi ≤ 2147483647) ∧ lo ≤ hi ∧ 0 ≤ cl ∧ cl ≤ 2147483647

theorem vright (lo hi cl : Int) : vote_Right_ai3_r0_0 lo hi cl = true ↔ rp lo hi cl := by
  simp only [vote_Right_ai3_r0_0, vote_right_i_r0_0, tb_eq, Bool.cond_eq_ite, rp]
  by_cases h1 : -2147483648 ≤ lo <;> by_cases h2 : lo ≤ 2147483647 <;> by_cases h3 : -2147483648 ≤ hi <;> by_cases h4 : hi ≤ 2147483647 <;> by_cases h5 : lo ≤ hi <;> by_cases h6 : 0 ≤ cl <;> simp [h1, h2, h3, h4, h5, h6] <;> omega

theorem rright (lo hi cl : Int) : ref12_Right_ai3_r0_0 lo hi cl = true ↔ rp lo hi cl := by
  simp only [ref12_Right_ai3_r0_0, ref08_Right_i_r0_0, tb_eq, Bool.cond_eq_ite, rp]
  by_cases h1 : -2147483648 ≤ lo <;> by_cases h2 : lo ≤ 2147483647 <;> by_cases h3 : -2147483648 ≤ hi <;> by_cases h4 : hi ≤ 2147483647 <;> by_cases h5 : lo ≤ hi <;> by_cases h6 : 0 ≤ cl <;> simp [h1, h2, h3, h4, h5, h6] <;> omega

def goodP (v w : Int) : Bool := (decide (-4294967296 ≤ v) && decide (v ≤ 4294967296)) && (decide (1 ≤ w) && decide (w ≤ 16))

theorem yc0 (v w : Int) : vote_Vote_Y1_ai2_Y43_1p6Fi3FiFbFiFiFi_c0 v w = !goodP v w := by
  simp only [vote_Vote_Y1_ai2_Y43_1p6Fi3FiFbFiFiFi_c0, goodP, tb_eq]
  by_cases h1 : v < -4294967296
  · have : ¬ -4294967296 ≤ v := by omega
    simp [h1, this]
  · have g1 : -4294967296 ≤ v := by omega
    by_cases h2 : 4294967296 < v
    · have : ¬ v ≤ 4294967296 := by omega
      simp [h1, h2, g1, this]
    · have g2 : v ≤ 4294967296 := by omega
      by_cases h3 : w < 1
      · have : ¬ 1 ≤ w := by omega
        simp [h1, h2, h3, g1, g2, this]
      · have g3 : 1 ≤ w := by omega
        by_cases h4 : 16 < w
        · have : ¬ w ≤ 16 := by omega
          simp [h1, h2, h3, h4, g1, g2, g3, this]
        · have g4 : w ≤ 16 := by omega
          simp [h1, h2, h3, h4, g1, g2, g3, g4]

theorem yc1 (a b v w : Int) : vote_Vote_Y1_ai2_Y43_1p6Fi3FiFbFiFiFi_c1 a b v w = goodP v w := by
  have h := yc0 v w
  have : vote_Vote_Y1_ai2_Y43_1p6Fi3FiFbFiFiFi_c1 a b v w = !vote_Vote_Y1_ai2_Y43_1p6Fi3FiFbFiFiFi_c0 v w := by
    simp only [vote_Vote_Y1_ai2_Y43_1p6Fi3FiFbFiFiFi_c0, vote_Vote_Y1_ai2_Y43_1p6Fi3FiFbFiFiFi_c1, Clamp_c, tb_eq]
    cases decide (v < -4294967296) <;> cases decide (4294967296 < v) <;> cases decide (w < 1) <;> cases decide (16 < w) <;> rfl
  rw [this, h, Bool.not_not]

theorem first_not (g : Nat → Bool) : ∀ n, (∀ k, k < n → g k = true) ∨ ∃ j, j < n ∧ (∀ k, k < j → g k = true) ∧ g j = false
  | 0 => .inl fun k hk => by omega
  | n + 1 => by
    rcases first_not g n with h | ⟨j, h1, h2, h3⟩
    · cases hn : g n with
      | true => left; intro k hk; by_cases e : k = n; subst e; exact hn; exact h k (by omega)
      | false => exact .inr ⟨n, by omega, h, hn⟩
    · exact .inr ⟨j, by omega, h2, h3⟩

/-- The sums, so far. -/
def sums (m cl : Int) (v w : List Int) : Nat → Int × Int
  | 0 => (0, 0)
  | k + 1 => ((sums m cl v w k).1 + gt w (k : Int) * max (m - cl) (min (gt v (k : Int)) (m + cl)), (sums m cl v w k).2 + gt w (k : Int))

/-- What the code's loop comes to, whatever comes. -/
def vit (cl m : Int) (v w : List Int) : Nat → vote_ones_c1_ypp_Y43_1p6Fi3FiFbFiFiFiGoGo_L0_s0
  | 0 => ⟨0, 0, 0⟩
  | k + 1 => vote_ones_c1_ypp_Y43_1p6Fi3FiFbFiFiFiGoGo_L0_nx cl m v w (v.length : Int) (vit cl m v w k)

theorem vit_ix (cl m : Int) (v w : List Int) : ∀ k, k ≤ 1000 → (vit cl m v w k).c1 = (k : Int)
  | 0, _ => rfl
  | k + 1, h => by
    show wi ((vit cl m v w k).c1 + 1) = _
    rw [vit_ix cl m v w k (by omega), wi_eq (by omega) (by omega)]; simp

theorem ones_sel (cl m : Int) {v w : List Int} (hw : w.length = v.length) (hl : v.length ≤ 900) {k : Nat} (hk : k < v.length) : vote_ones_c1_ypp_Y43_1p6Fi3FiFbFiFiFiGoGo_L0_sel cl m v w (v.length : Int) (vit cl m v w k) = goodP (gt v (k : Int)) (gt w (k : Int)) := by
  have b1 : inb v.length (k : Int) = true := inb_of (by omega) (by omega)
  have b2 : inb w.length (k : Int) = true := inb_of (by omega) (by omega)
  have hlt : (k : Int) < (v.length : Int) := by omega
  simp only [vote_ones_c1_ypp_Y43_1p6Fi3FiFbFiFiFiGoGo_L0_sel, vit_ix cl m v w k (by omega), b1, b2, hlt, yc0, yc1, tb_eq, decide_true, cond_true]
  cases goodP (gt v (k : Int)) (gt w (k : Int)) <;> rfl

theorem ones_run (cl m : Int) {v w : List Int} (hw : w.length = v.length) (hl : v.length ≤ 900) {n : Nat} (hn : n ≤ v.length) (hg : ∀ (k : Nat), k < n → goodP (gt v (k : Int)) (gt w (k : Int)) = true) (he : n = v.length ∨ goodP (gt v (n : Int)) (gt w (n : Int)) = false) :
    itS (vote_ones_c1_ypp_Y43_1p6Fi3FiFbFiFiFiGoGo_L0_sel cl m v w (v.length : Int)) (vote_ones_c1_ypp_Y43_1p6Fi3FiFbFiFiFiGoGo_L0_nx cl m v w (v.length : Int)) bound ⟨0, 0, 0⟩ = some (vit cl m v w n) := by
  have := loop_seq (sel := vote_ones_c1_ypp_Y43_1p6Fi3FiFbFiFiFiGoGo_L0_sel cl m v w (v.length : Int)) (nx := vote_ones_c1_ypp_Y43_1p6Fi3FiFbFiFiFiGoGo_L0_nx cl m v w (v.length : Int)) (vit cl m v w) n (by omega) (fun k hk => ⟨by rw [ones_sel cl m hw hl (by omega)]; exact hg k hk, rfl⟩) ?_
  · exact this
  · by_cases h : n < v.length
    · rw [ones_sel cl m hw hl h]
      rcases he with e | e
      · omega
      · exact e
    · have : ¬ (n : Int) < (v.length : Int) := by omega
      simp only [vote_ones_c1_ypp_Y43_1p6Fi3FiFbFiFiFiGoGo_L0_sel, vit_ix cl m v w n (by omega), tb_eq]
      rw [decide_eq_false this]; rfl

theorem goodP_iff {v w : Int} : goodP v w = true ↔ (-4294967296 ≤ v ∧ v ≤ 4294967296) ∧ (1 ≤ w ∧ w ≤ 16) := by simp [goodP]

theorem sums_bound {m cl : Int} {v w : List Int} (hm : -4294967296 ≤ m ∧ m ≤ 4294967296) (hc : 0 ≤ cl ∧ cl ≤ 2147483647) : ∀ (k : Nat), k ≤ 4 → (∀ (j : Nat), j < k → goodP (gt v (j : Int)) (gt w (j : Int)) = true) →
    -(103079215104 * (k : Int)) ≤ (sums m cl v w k).1 ∧ (sums m cl v w k).1 ≤ 103079215104 * (k : Int) ∧ (k : Int) ≤ (sums m cl v w k).2 ∧ (sums m cl v w k).2 ≤ 16 * (k : Int)
  | 0, _, _ => by simp [sums]
  | k + 1, hk, hg => by
    obtain ⟨h1, h2, h3, h4⟩ := sums_bound hm hc k (by omega) fun j hj => hg j (by omega)
    obtain ⟨g1, g2⟩ := goodP_iff.1 (hg k (by omega))
    simp only [sums]
    have hx : -6442450944 ≤ max (m - cl) (min (gt v (k : Int)) (m + cl)) ∧ max (m - cl) (min (gt v (k : Int)) (m + cl)) ≤ 6442450944 := by omega
    generalize max (m - cl) (min (gt v (k : Int)) (m + cl)) = x at *
    generalize gt w (k : Int) = y at *
    have hp : -103079215104 ≤ y * x ∧ y * x ≤ 103079215104 := by
      have a1 : y * x ≤ y * 6442450944 := Int.mul_le_mul_of_nonneg_left hx.2 (by omega)
      have a2 : y * (-6442450944) ≤ y * x := Int.mul_le_mul_of_nonneg_left hx.1 (by omega)
      omega
    have e : ((k + 1 : Nat) : Int) = (k : Int) + 1 := by omega
    rw [e]
    omega

theorem vit_sums {m cl : Int} {v w : List Int} (hm : -4294967296 ≤ m ∧ m ≤ 4294967296) (hc : 0 ≤ cl ∧ cl ≤ 2147483647) : ∀ (k : Nat), k ≤ 4 → (∀ (j : Nat), j < k → goodP (gt v (j : Int)) (gt w (j : Int)) = true) → vit cl m v w k = ⟨(k : Int), (sums m cl v w k).1, (sums m cl v w k).2⟩
  | 0, _, _ => rfl
  | k + 1, hk, hg => by
    have ih := vit_sums hm hc k (by omega) fun j hj => hg j (by omega)
    obtain ⟨h1, h2, h3, h4⟩ := sums_bound hm hc k (by omega) fun j hj => hg j (by omega)
    have hb := sums_bound hm hc (k + 1) hk hg
    obtain ⟨g1, g2⟩ := goodP_iff.1 (hg k (by omega))
    have w1 : wi (m - cl) = m - cl := wi_eq (by omega) (by omega)
    have w2 : wi (m + cl) = m + cl := wi_eq (by omega) (by omega)
    have c1 : sm (gt v (k : Int)) = true := sm_iff.2 (by omega)
    have c2 : sm (m - cl) = true := sm_iff.2 (by omega)
    have c3 : sm (m + cl) = true := sm_iff.2 (by omega)
    show vote_ones_c1_ypp_Y43_1p6Fi3FiFbFiFiFiGoGo_L0_nx cl m v w (v.length : Int) (vit cl m v w k) = _
    rw [ih]
    simp only [vote_ones_c1_ypp_Y43_1p6Fi3FiFbFiFiFiGoGo_L0_nx, vote_Vote_Y1_ai2_Y43_1p6Fi3FiFbFiFiFi_e1, vote_Vote_Y1_ai2_Y43_1p6Fi3FiFbFiFiFi_e0, w1, w2, Clamp_r, c1, c2, c3, and_self, if_true]
    simp only [sums] at hb ⊢
    have hx : -6442450944 ≤ max (m - cl) (min (gt v (k : Int)) (m + cl)) ∧ max (m - cl) (min (gt v (k : Int)) (m + cl)) ≤ 6442450944 := by omega
    generalize max (m - cl) (min (gt v (k : Int)) (m + cl)) = x at *
    generalize gt w (k : Int) = y at *
    have hp : -103079215104 ≤ y * x ∧ y * x ≤ 103079215104 := by
      have a1 : y * x ≤ y * 6442450944 := Int.mul_le_mul_of_nonneg_left hx.2 (by omega)
      have a2 : y * (-6442450944) ≤ y * x := Int.mul_le_mul_of_nonneg_left hx.1 (by omega)
      omega
    rw [wi_eq (x := y * x) (by omega) (by omega), wi_eq (x := (k : Int) + 1) (by omega) (by omega), wi_eq (by omega) (by omega), wi_eq (by omega) (by omega)]
    simp

/-! ### the reference's loops -/

theorem chk_sel {v w : List Int} (hw : w.length = v.length) {k : Nat} (hk : k < v.length) : ref12_Vote_ai3oo_L1_sel v w ⟨(k : Int)⟩ = goodP (gt v (k : Int)) (gt w (k : Int)) := by
  have b1 : inb v.length (k : Int) = true := inb_of (by omega) (by omega)
  have b2 : inb w.length (k : Int) = true := inb_of (by omega) (by omega)
  have hlt : (k : Int) < (v.length : Int) := by omega
  have h := yc0 (gt v (k : Int)) (gt w (k : Int))
  have e : goodP (gt v (k : Int)) (gt w (k : Int)) = !vote_Vote_Y1_ai2_Y43_1p6Fi3FiFbFiFiFi_c0 (gt v (k : Int)) (gt w (k : Int)) := by rw [h, Bool.not_not]
  rw [e]
  simp only [ref12_Vote_ai3oo_L1_sel, vote_Vote_Y1_ai2_Y43_1p6Fi3FiFbFiFiFi_c0, b1, b2, hlt, tb_eq, decide_true, cond_true]
  cases decide (gt v (k : Int) < -4294967296) <;> cases decide (4294967296 < gt v (k : Int)) <;> cases decide (gt w (k : Int) < 1) <;> cases decide (16 < gt w (k : Int)) <;> rfl

theorem chk_run {v w : List Int} (hw : w.length = v.length) (hl : v.length ≤ 900) {n : Nat} (hn : n ≤ v.length) (hg : ∀ (k : Nat), k < n → goodP (gt v (k : Int)) (gt w (k : Int)) = true) (he : n = v.length ∨ goodP (gt v (n : Int)) (gt w (n : Int)) = false) :
    itS (ref12_Vote_ai3oo_L1_sel v w) (ref12_Vote_ai3oo_L1_nx v w) bound ⟨0⟩ = some ⟨(n : Int)⟩ := by
  have := loop_seq (sel := ref12_Vote_ai3oo_L1_sel v w) (nx := ref12_Vote_ai3oo_L1_nx v w) (fun k => ⟨(k : Int)⟩) n (by omega) (fun k hk => ⟨by rw [chk_sel hw (by omega)]; exact hg k hk, by simp only [ref12_Vote_ai3oo_L1_nx]; rw [wi_eq (by omega) (by omega)]; simp⟩) ?_
  · exact this
  · by_cases h : n < v.length
    · rw [chk_sel hw h]
      rcases he with e | e
      · omega
      · exact e
    · have : ¬ (n : Int) < (v.length : Int) := by omega
      simp only [ref12_Vote_ai3oo_L1_sel, tb_eq]
      rw [decide_eq_false this]; rfl

theorem sum_run {m cl : Int} {v w : List Int} (hm : -4294967296 ≤ m ∧ m ≤ 4294967296) (hc : 0 ≤ cl ∧ cl ≤ 2147483647) (hw : w.length = v.length) (hl : v.length ≤ 4) (hg : ∀ (k : Nat), k < v.length → goodP (gt v (k : Int)) (gt w (k : Int)) = true) :
    itS (ref12_Vote_ai3oo_L4_sel cl v w m) (ref12_Vote_ai3oo_L4_nx cl v w m) bound ⟨0, 0, 0⟩ = some ⟨(sums m cl v w v.length).1, (sums m cl v w v.length).2, (v.length : Int)⟩ := by
  have := loop_seq (sel := ref12_Vote_ai3oo_L4_sel cl v w m) (nx := ref12_Vote_ai3oo_L4_nx cl v w m) (fun k => ⟨(sums m cl v w k).1, (sums m cl v w k).2, (k : Int)⟩) v.length (by omega) (fun k hk => ?_) ?_
  · exact this
  · have b1 : inb v.length (k : Int) = true := inb_of (by omega) (by omega)
    have b2 : inb w.length (k : Int) = true := inb_of (by omega) (by omega)
    have hlt : (k : Int) < (v.length : Int) := by omega
    obtain ⟨h1, h2, h3, h4⟩ := sums_bound hm hc k (by omega) fun j hj => hg j (by omega)
    obtain ⟨g1, g2⟩ := goodP_iff.1 (hg k (by omega))
    have w1 : wi (m - cl) = m - cl := wi_eq (by omega) (by omega)
    have w2 : wi (m + cl) = m + cl := wi_eq (by omega) (by omega)
    constructor
    · simp only [ref12_Vote_ai3oo_L4_sel, b1, b2, hlt, tb_eq]; simp
    · simp only [ref12_Vote_ai3oo_L4_nx, ref12_Vote_ai3oo_L4_h0_e0, w1, w2, mnI_eq, mxI_eq, sums]
      have ex : min (max (gt v (k : Int)) (m - cl)) (m + cl) = max (m - cl) (min (gt v (k : Int)) (m + cl)) := by omega
      rw [ex]
      have hx : -6442450944 ≤ max (m - cl) (min (gt v (k : Int)) (m + cl)) ∧ max (m - cl) (min (gt v (k : Int)) (m + cl)) ≤ 6442450944 := by omega
      generalize max (m - cl) (min (gt v (k : Int)) (m + cl)) = x at *
      generalize gt w (k : Int) = y at *
      have hp : -103079215104 ≤ y * x ∧ y * x ≤ 103079215104 := by
        have a1 : y * x ≤ y * 6442450944 := Int.mul_le_mul_of_nonneg_left hx.2 (by omega)
        have a2 : y * (-6442450944) ≤ y * x := Int.mul_le_mul_of_nonneg_left hx.1 (by omega)
        omega
      rw [Int.mul_comm x y, wi_eq (x := y * x) (by omega) (by omega), wi_eq (x := (k : Int) + 1) (by omega) (by omega), wi_eq (by omega) (by omega), wi_eq (by omega) (by omega)]
      simp
  · simp [ref12_Vote_ai3oo_L4_sel, tb_eq]

/-! ### the votes -/

theorem cl_mm {n lo hi : Int} (h : lo ≤ hi) : max lo (min n hi) = min (max n lo) hi := by omega

theorem flo_bound {a b : Int} (ha : -412316860416 ≤ a ∧ a ≤ 412316860416) (hb : 1 ≤ b ∧ b ≤ 64) : -412316860416 ≤ flo a b ∧ flo a b ≤ 412316860416 := by
  have s1 : sm a = true := sm_iff.2 (by omega)
  have s2 : sm b = true := sm_iff.2 (by omega)
  simp only [flo, s1, s2, hb.1, and_self, if_true]
  rw [Int.fdiv_eq_ediv_of_nonneg _ (by omega)]
  constructor
  · rw [Int.le_ediv_iff_mul_le (by omega)]
    have : -412316860416 * b ≤ -412316860416 * 1 := by omega
    omega
  · have : a / b < 412316860416 + 1 := by
      rw [Int.ediv_lt_iff_lt_mul (by omega)]
      omega
    omega

theorem votes {lo hi cl : Int} {v w : List Int} (hv : v.length ≤ 40) (hw : w.length ≤ 40) : vote_Vote_ai3oo_c0 lo hi cl v w = true ∧ ref12_Vote_ai3oo_c0 lo hi cl v w = true ∧
    vote_Vote_ai3oo_r0_0 lo hi cl v w = ref12_Vote_ai3oo_r0_0 lo hi cl v w ∧ vote_Vote_ai3oo_r0_1 lo hi cl v w = ref12_Vote_ai3oo_r0_1 lo hi cl v w := by
  obtain ⟨a1, a2, a3, a4⟩ := Mid_r v (by omega)
  obtain ⟨b1, b2, b3, b4⟩ := rMid_r v (by omega)
  by_cases hr : rp lo hi cl
  · have r1 := (vright lo hi cl).2 hr
    have r2 := (rright lo hi cl).2 hr
    unfold rp at hr
    by_cases hlen : w.length = v.length
    · have hne : (((w.length : Int)) != (v.length : Int)) = false := by simp; omega
      rcases first_not (fun k => goodP (gt v (k : Int)) (gt w (k : Int))) v.length with hg | ⟨j, hj, hg, hbad⟩
      · -- all are good
        have hall : ∀ z, z ∈ v → -4294967296 ≤ z ∧ z ≤ 4294967296 := fun z hz => by
          obtain ⟨i, hi, rfl⟩ := List.mem_iff_getElem.1 hz
          have := (goodP_iff.1 (hg i hi)).1
          rw [gt_nat hi] at this; exact this
        have hsm : v.all sm = true := List.all_eq_true.2 fun z hz => sm_iff.2 (by have := hall z hz; omega)
        by_cases h4 : 1 ≤ v.length ∧ v.length ≤ 4
        · have hm4 : mid4 v = true := by simp [mid4, lst16, hsm]; omega
          have hm4r : mid4r v = true := by rw [← mid4_eq]; exact hm4
          have hmb := mid_within hm4 hall
          have hcl : 0 ≤ cl ∧ cl ≤ 2147483647 := hr.2.2.2
          have e1 := ones_run cl (midI v) hlen (by omega) (Nat.le_refl _) hg (.inl rfl)
          rw [vit_sums hmb hcl v.length h4.2 hg] at e1
          have e2 := chk_run hlen (by omega) (Nat.le_refl _) hg (.inl rfl)
          have e3 := sum_run hmb hcl hlen h4.2 hg
          obtain ⟨s1, s2, s3, s4⟩ := sums_bound hmb hcl v.length h4.2 hg
          have o1 : vote_ones_c1_ypp_Y43_1p6Fi3FiFbFiFiFiGoGo_e0 cl (midI v) 0 0 v w = ⟨(v.length : Int), (sums (midI v) cl v w v.length).1, (sums (midI v) cl v w v.length).2⟩ := by
            simp only [vote_ones_c1_ypp_Y43_1p6Fi3FiFbFiFiFiGoGo_e0, vote_ones_c1_ypp_Y43_1p6Fi3FiFbFiFiFiGoGo_L0_end, e1]; rfl
          have hnn : ¬ (v.length : Int) < (v.length : Int) := by omega
          have o2 : vote_ones_c1_ypp_Y43_1p6Fi3FiFbFiFiFiGoGo_c0 cl (midI v) 0 0 v w = false := by
            simp only [vote_ones_c1_ypp_Y43_1p6Fi3FiFbFiFiFiGoGo_c0, o1, vote_ones_c1_ypp_Y43_1p6Fi3FiFbFiFiFiGoGo_L0_c0, tb_eq]
            rw [decide_eq_false hnn]
            cases vote_ones_c1_ypp_Y43_1p6Fi3FiFbFiFiFiGoGo_L0_ok cl (midI v) v w (v.length : Int) ⟨0, 0, 0⟩ <;> rfl
          have o3 : vote_ones_c1_ypp_Y43_1p6Fi3FiFbFiFiFiGoGo_c1 cl (midI v) 0 0 v w = true := by
            simp only [vote_ones_c1_ypp_Y43_1p6Fi3FiFbFiFiFiGoGo_c1, o1, vote_ones_c1_ypp_Y43_1p6Fi3FiFbFiFiFiGoGo_L0_c0, vote_ones_c1_ypp_Y43_1p6Fi3FiFbFiFiFiGoGo_L0_c1, vote_ones_c1_ypp_Y43_1p6Fi3FiFbFiFiFiGoGo_L0_ok, e1, tb_eq]
            rw [decide_eq_false hnn]; rfl
          have c1 : ref12_Vote_ai3oo_S2_e0 v w = ⟨(v.length : Int)⟩ := by simp only [ref12_Vote_ai3oo_S2_e0, ref12_Vote_ai3oo_L1_end, e2]; rfl
          have c2 : ref12_Vote_ai3oo_S2_c0 v w = false := by
            simp only [ref12_Vote_ai3oo_S2_c0, c1, ref12_Vote_ai3oo_L1_c0, tb_eq]
            rw [decide_eq_false hnn]
            cases ref12_Vote_ai3oo_L1_ok v w ⟨0⟩ <;> rfl
          have c3 : ref12_Vote_ai3oo_S2_c1 v w = true := by
            simp only [ref12_Vote_ai3oo_S2_c1, c1, ref12_Vote_ai3oo_L1_c0, ref12_Vote_ai3oo_L1_c1, ref12_Vote_ai3oo_L1_ok, e2, tb_eq]
            rw [decide_eq_false hnn]; rfl
          have d1 : ref12_Vote_ai3oo_S5_e0 cl v w (midI v) = ⟨(sums (midI v) cl v w v.length).1, (sums (midI v) cl v w v.length).2, (v.length : Int)⟩ := by simp only [ref12_Vote_ai3oo_S5_e0, ref12_Vote_ai3oo_L4_end, e3]; rfl
          have d2 : ref12_Vote_ai3oo_S5_c0 cl v w (midI v) = true := by
            simp only [ref12_Vote_ai3oo_S5_c0, d1, ref12_Vote_ai3oo_L4_ok, e3, ref12_Vote_ai3oo_L4_c0, tb_eq]
            rw [decide_eq_false hnn]; rfl
          have am := a3 hm4
          have bm := b3 hm4r
          rw [← midI_eq] at bm
          have g1 : ¬ (v.length : Int) < 1 := by omega
          have g2 : ¬ (4 : Int) < (v.length : Int) := by omega
          have t0 : ref12_Vote_ai3oo_S0_c0 v w true = false := by
            simp only [ref12_Vote_ai3oo_S0_c0, hne, tb_eq, g1, g2]; simp
          have S2c0 : vote_Vote_ai3oo_S2_c0 lo hi cl v w = false := by
            simp only [vote_Vote_ai3oo_S2_c0, a1, r1, a2, hm4, hne, am, o2, tb_eq]; rfl
          have x0 : vote_Vote_ai3oo_S2_e0 cl v w = (sums (midI v) cl v w v.length).1 := by simp only [vote_Vote_ai3oo_S2_e0, am, o1]
          have x1 : vote_Vote_ai3oo_S2_e1 cl v w = (sums (midI v) cl v w v.length).2 := by simp only [vote_Vote_ai3oo_S2_e1, am, o1]
          have x2 : vote_Vote_ai3oo_S2_e2 cl v w = flo (sums (midI v) cl v w v.length).1 (sums (midI v) cl v w v.length).2 := by simp only [vote_Vote_ai3oo_S2_e2, x0, x1, fFloor_r]
          have S2c1 : vote_Vote_ai3oo_S2_c1 lo hi cl v w = true := by
            simp only [vote_Vote_ai3oo_S2_c1, a1, r1, a2, hm4, hne, am, o2, o3, fFloor_c, Clamp_c, tb_eq]; rfl
          have y0 : ref12_Vote_ai3oo_e0 cl v w = (sums (midI v) cl v w v.length).1 := by simp only [ref12_Vote_ai3oo_e0, bm, d1]
          have y1 : ref12_Vote_ai3oo_e1 cl v w = (sums (midI v) cl v w v.length).2 := by simp only [ref12_Vote_ai3oo_e1, bm, d1]
          have fb := flo_bound (a := (sums (midI v) cl v w v.length).1) (b := (sums (midI v) cl v w v.length).2) (by omega) (by omega)
          refine ⟨by simp only [vote_Vote_ai3oo_c0, S2c0, S2c1, tb_eq]; rfl, ?_, ?_, ?_⟩
          · simp only [ref12_Vote_ai3oo_c0, r2, t0, c2, c3, ref12_Vote_ai3oo_S3_c0, b1, bm, d2, Floor_c, tb_eq]; rfl
          · simp only [vote_Vote_ai3oo_r0_0, ref12_Vote_ai3oo_r0_0, ref12_Vote_ai3oo_e2, S2c0, r2, t0, c2, x2, y0, y1, Floor_r, Clamp_r, mnI_eq, mxI_eq, tb_eq, cond_false]
            have k1 : sm (flo (sums (midI v) cl v w v.length).1 (sums (midI v) cl v w v.length).2) = true := sm_iff.2 (by omega)
            have k2 : sm lo = true := sm_iff.2 (by omega)
            have k3 : sm hi = true := sm_iff.2 (by omega)
            rw [if_pos ⟨k1, k2, k3⟩]
            omega
          · simp only [vote_Vote_ai3oo_r0_1, ref12_Vote_ai3oo_r0_1, S2c0, r2, t0, c2, tb_eq]; rfl
        · have hm4 : mid4 v = false := by simp [mid4]; intro _ _; omega
          have t0 : ref12_Vote_ai3oo_S0_c0 v w true = true := by
            simp only [ref12_Vote_ai3oo_S0_c0, hne, tb_eq]
            by_cases h1 : v.length < 1
            · have : (v.length : Int) < 1 := by omega
              simp [this]
            · have h2 : (4 : Int) < (v.length : Int) := by omega
              simp [h2]
          have S2c0 : vote_Vote_ai3oo_S2_c0 lo hi cl v w = true := by simp only [vote_Vote_ai3oo_S2_c0, a1, r1, a2, hm4, tb_eq]; rfl
          refine ⟨by simp only [vote_Vote_ai3oo_c0, S2c0, tb_eq]; rfl, by simp only [ref12_Vote_ai3oo_c0, r2, t0, tb_eq]; rfl, by simp only [vote_Vote_ai3oo_r0_0, ref12_Vote_ai3oo_r0_0, S2c0, r2, t0, tb_eq]; rfl, by simp only [vote_Vote_ai3oo_r0_1, ref12_Vote_ai3oo_r0_1, S2c0, r2, t0, tb_eq]; rfl⟩
      · -- one is not
        have e2 := chk_run hlen (by omega) (by omega : j ≤ v.length) hg (.inr hbad)
        have c1 : ref12_Vote_ai3oo_S2_e0 v w = ⟨(j : Int)⟩ := by simp only [ref12_Vote_ai3oo_S2_e0, ref12_Vote_ai3oo_L1_end, e2]; rfl
        have hlt : (j : Int) < (v.length : Int) := by omega
        have i1 : inb v.length (j : Int) = true := inb_of (by omega) (by omega)
        have i2 : inb w.length (j : Int) = true := inb_of (by omega) (by omega)
        have c2 : ref12_Vote_ai3oo_S2_c0 v w = true := by
          simp only [ref12_Vote_ai3oo_S2_c0, c1, ref12_Vote_ai3oo_L1_c0, ref12_Vote_ai3oo_L1_ok, e2, i1, i2, hlt, tb_eq]
          cases decide (gt v (j : Int) < -4294967296) <;> cases decide (4294967296 < gt v (j : Int)) <;> simp
        have S2c0 : vote_Vote_ai3oo_S2_c0 lo hi cl v w = true := by
          simp only [vote_Vote_ai3oo_S2_c0, a1, r1, a2, hne, tb_eq]
          cases h4 : mid4 v with
          | false => rfl
          | true =>
            have e1 := ones_run cl (midI v) hlen (by omega) (by omega : j ≤ v.length) hg (.inr hbad)
            have o1 : vote_ones_c1_ypp_Y43_1p6Fi3FiFbFiFiFiGoGo_e0 cl (midI v) 0 0 v w = vit cl (midI v) v w j := by
              simp only [vote_ones_c1_ypp_Y43_1p6Fi3FiFbFiFiFiGoGo_e0, vote_ones_c1_ypp_Y43_1p6Fi3FiFbFiFiFiGoGo_L0_end, e1]; rfl
            have o2 : vote_ones_c1_ypp_Y43_1p6Fi3FiFbFiFiFiGoGo_c0 cl (midI v) 0 0 v w = true := by
              have hbad' : goodP (gt v (j : Int)) (gt w (j : Int)) = false := hbad
              simp only [vote_ones_c1_ypp_Y43_1p6Fi3FiFbFiFiFiGoGo_c0, o1, vote_ones_c1_ypp_Y43_1p6Fi3FiFbFiFiFiGoGo_L0_c0, vote_ones_c1_ypp_Y43_1p6Fi3FiFbFiFiFiGoGo_L0_ok, e1, vit_ix cl (midI v) v w j (by omega), i1, i2, hlt, yc0, hbad', tb_eq]
              simp
            simp only [a3 h4, o2]; rfl
        refine ⟨by simp only [vote_Vote_ai3oo_c0, S2c0, tb_eq]; rfl, ?_, ?_, ?_⟩
        · simp only [ref12_Vote_ai3oo_c0, c2, tb_eq]
          cases ref12_Vote_ai3oo_S0_c0 v w (ref12_Right_ai3_r0_0 lo hi cl) <;> rfl
        · simp only [vote_Vote_ai3oo_r0_0, ref12_Vote_ai3oo_r0_0, S2c0, c2, tb_eq]
          cases ref12_Vote_ai3oo_S0_c0 v w (ref12_Right_ai3_r0_0 lo hi cl) <;> rfl
        · simp only [vote_Vote_ai3oo_r0_1, ref12_Vote_ai3oo_r0_1, S2c0, c2, tb_eq]
          cases ref12_Vote_ai3oo_S0_c0 v w (ref12_Right_ai3_r0_0 lo hi cl) <;> rfl
    · have hne : (((w.length : Int)) != (v.length : Int)) = true := by simp; omega
      have t0 : ref12_Vote_ai3oo_S0_c0 v w true = true := by
        simp only [ref12_Vote_ai3oo_S0_c0, hne, tb_eq]
        cases decide ((v.length : Int) < 1) <;> cases decide ((4 : Int) < (v.length : Int)) <;> rfl
      have S2c0 : vote_Vote_ai3oo_S2_c0 lo hi cl v w = true := by
        simp only [vote_Vote_ai3oo_S2_c0, a1, r1, a2, hne, tb_eq]
        cases mid4 v <;> rfl
      refine ⟨by simp only [vote_Vote_ai3oo_c0, S2c0, tb_eq]; rfl, by simp only [ref12_Vote_ai3oo_c0, r2, t0, tb_eq]; rfl, by simp only [vote_Vote_ai3oo_r0_0, ref12_Vote_ai3oo_r0_0, S2c0, r2, t0, tb_eq]; rfl, by simp only [vote_Vote_ai3oo_r0_1, ref12_Vote_ai3oo_r0_1, S2c0, r2, t0, tb_eq]; rfl⟩
  · have r1 : vote_Right_ai3_r0_0 lo hi cl = false := by
      cases h : vote_Right_ai3_r0_0 lo hi cl with
      | false => rfl
      | true => exact absurd ((vright lo hi cl).1 h) hr
    have r2 : ref12_Right_ai3_r0_0 lo hi cl = false := by
      cases h : ref12_Right_ai3_r0_0 lo hi cl with
      | false => rfl
      | true => exact absurd ((rright lo hi cl).1 h) hr
    have t0 : ref12_Vote_ai3oo_S0_c0 v w false = true := by simp only [ref12_Vote_ai3oo_S0_c0, tb_eq]; rfl
    have S2c0 : vote_Vote_ai3oo_S2_c0 lo hi cl v w = true := by simp only [vote_Vote_ai3oo_S2_c0, a1, r1, tb_eq]; rfl
    refine ⟨by simp only [vote_Vote_ai3oo_c0, S2c0, tb_eq]; rfl, by simp only [ref12_Vote_ai3oo_c0, r2, t0, tb_eq]; rfl, by simp only [vote_Vote_ai3oo_r0_0, ref12_Vote_ai3oo_r0_0, S2c0, r2, t0, tb_eq]; rfl, by simp only [vote_Vote_ai3oo_r0_1, ref12_Vote_ai3oo_r0_1, S2c0, r2, t0, tb_eq]; rfl⟩

theorem vright_eq (a b c : Int) : vote_Right_ai3_r0_0 a b c = ref12_Right_ai3_r0_0 a b c := by
  have h1 := vright a b c
  have h2 := rright a b c
  cases h : vote_Right_ai3_r0_0 a b c <;> cases h' : ref12_Right_ai3_r0_0 a b c <;> simp_all

theorem pure_VoteTells (x0 : Int) (x1 : Int) (x2 : Int) (x3 : Bool) (x4 : List Int) (x5 : Bool) (x6 : List Int) (wx0 : WfI .i64 x0) (wx1 : WfI .i64 x1) (wx2 : WfI .i64 x2) (wx4 : (x4.length ≤ maxLen ∧ ∀ z ∈ x4, WfI .i64 z)) (wx6 : (x6.length ≤ maxLen ∧ ∀ z ∈ x6, WfI .i64 z)) : law12_VoteTells_c0 x0 x1 x2 x4 x6 = true ∧ (law12_VoteTells_r0_0 x0 x1 x2 x4 x6) = true := by
  by_cases hm : 40 < x4.length ∨ 40 < x6.length
  · have : law12_VoteTells_S0_c0 x4 x6 = true := by
      simp only [law12_VoteTells_S0_c0, tb]
      by_cases h1 : 40 < x4.length
      · have : (40 : Int) < (x4.length : Int) := by omega
        simp [this]
      · have h2 : (40 : Int) < (x6.length : Int) := by omega
        simp [h2]
    simp [law12_VoteTells_c0, law12_VoteTells_r0_0, this, tb]
  · have h1 : ¬ (40 : Int) < (x4.length : Int) := by omega
    have h2 : ¬ (40 : Int) < (x6.length : Int) := by omega
    have h0 : law12_VoteTells_S0_c0 x4 x6 = false := by simp [law12_VoteTells_S0_c0, tb, h1, h2]
    obtain ⟨c1, c2, c3, c4⟩ := votes (lo := x0) (hi := x1) (cl := x2) (v := x4) (w := x6) (by omega) (by omega)
    constructor
    · simp only [law12_VoteTells_c0, h0, law12_VoteTells_S1_c0, law12_VoteTells_S2_c0, c1, c2, tb]; rfl
    · simp only [law12_VoteTells_r0_0, h0, law12_VoteTells_S3_r0_0, c3, c4, vright_eq, tb]
      simp

end Go.Proofs.Ytdjmfcdopaejcaa.Den

/- What all rows of a seat rest on. -/
namespace Go.Proofs.Ytdjmfcdopaejcaa.Den
open Go Go.Proofs
set_option maxRecDepth 100000

theorem own : ownKnob Try.prog.godebug = none := by kernel_rfl
theorem laidOut : laidOutB Try.prog = true := by kernel_rfl
theorem mixed : Try.prog.follows .mixedOrders = true := by kernel_rfl
theorem envOK : EnvOK Try.prog E0 := ⟨e0_cf, fun f args m r m' h => by simp [E0] at h⟩
theorem glOK (w : World) : GlOK E0 (cx0 w) := fun g cs h => by simp [E0] at h
end Go.Proofs.Ytdjmfcdopaejcaa.Den

/- The row of VoteTells. -/
namespace Go.Proofs.Ytdjmfcdopaejcaa.Den
open Go Go.Proofs Go.ChangeShapes Go.WideShapes Go.ChangeAt Go.RowKit
open Go.Proofs.Ytdjmfcdopaejcaa (Rows.voteTellsSpec Rows.voteTellsRow Rows.VoteTellsSaid)
set_option maxRecDepth 100000
set_option linter.unusedSimpArgs false
set_option linter.unusedVariables false

theorem row10 (rs : List (List D)) (h : TyAll Try.prog 20 Try.f10.params.toList rs) : ∃ k m', callD E0 k 10 (argsV Try.prog Try.f10.params.toList rs) [] = some ([.d (.bool true)], m') := by
  rw [Try.params10] at h ⊢
  simp only [TyAll] at h
  obtain ⟨_, _, rfl, q0, _, _, rfl, q1, _, _, rfl, q2, rfl⟩ := h
  have k0 := flatK_ok 20 _ _ _ (show flatK Try.prog 20 65 = some [.i .i64, .i .i64, .i .i64] by kernel_rfl) q0
  simp only [CellsK, CellK] at k0
  obtain ⟨_, _, rfl, ⟨a0_0, rfl, w0_0⟩, _, _, rfl, ⟨a0_1, rfl, w0_1⟩, _, _, rfl, ⟨a0_2, rfl, w0_2⟩, rfl⟩ := k0
  have k1 := flatK_ok 20 _ _ _ (show flatK Try.prog 20 26 = some [.l 3] by kernel_rfl) q1
  simp only [CellsK, CellK] at k1
  obtain ⟨d1_0, _, rfl, y1_0, rfl⟩ := k1
  obtain ⟨n1_0, a1_0, rfl, v1_0⟩ : ∃ n l, d1_0 = slD (encI .i64) true 1 n l ∧ (l.length ≤ maxLen ∧ ∀ z ∈ l, WfI .i64 z) := by
    rcases y1_0 with rfl | ⟨rows1, rfl, hl1, m1, hr1⟩
    · exact ⟨true, [], rfl, by simp [maxLen], fun z hz => by simp at hz⟩
    · obtain ⟨l2, rfl, hw2⟩ : ∃ l : List Int, rows1 = l.map (encI .i64) ∧ ∀ z ∈ l, WfI .i64 z := rows_of (T := Ty Try.prog m1 3) (fun r hr => by
          have q := flatK_any (show flatK Try.prog 20 3 = some [.i .i64] by kernel_rfl) hr
          simp only [CellsK, CellK] at q
          obtain ⟨_, _, rfl, ⟨b0, rfl, w0⟩, rfl⟩ := q
          exact ⟨b0, rfl, w0⟩) rows1 hr1
      rw [show isFlat Try.prog 3 = true by kernel_rfl, show Try.prog.cellsOf 3 = 1 by kernel_rfl]
      exact ⟨false, l2, slD_rs _ _ _ _, by simpa using hl1, hw2⟩
  have k2 := flatK_ok 20 _ _ _ (show flatK Try.prog 20 26 = some [.l 3] by kernel_rfl) q2
  simp only [CellsK, CellK] at k2
  obtain ⟨d2_0, _, rfl, y2_0, rfl⟩ := k2
  obtain ⟨n2_0, a2_0, rfl, v2_0⟩ : ∃ n l, d2_0 = slD (encI .i64) true 1 n l ∧ (l.length ≤ maxLen ∧ ∀ z ∈ l, WfI .i64 z) := by
    rcases y2_0 with rfl | ⟨rows3, rfl, hl3, m3, hr3⟩
    · exact ⟨true, [], rfl, by simp [maxLen], fun z hz => by simp at hz⟩
    · obtain ⟨l4, rfl, hw4⟩ : ∃ l : List Int, rows3 = l.map (encI .i64) ∧ ∀ z ∈ l, WfI .i64 z := rows_of (T := Ty Try.prog m3 3) (fun r hr => by
          have q := flatK_any (show flatK Try.prog 20 3 = some [.i .i64] by kernel_rfl) hr
          simp only [CellsK, CellK] at q
          obtain ⟨_, _, rfl, ⟨b0, rfl, w0⟩, rfl⟩ := q
          exact ⟨b0, rfl, w0⟩) rows3 hr3
      rw [show isFlat Try.prog 3 = true by kernel_rfl, show Try.prog.cellsOf 3 = 1 by kernel_rfl]
      exact ⟨false, l4, slD_rs _ _ _ _, by simpa using hl3, hw4⟩
  simp only [argsV, argV, Try.underlying26, Try.underlying65, List.map_cons, List.map_nil]
  obtain ⟨g1, g2⟩ := pure_VoteTells a0_0 a0_1 a0_2 n1_0 a1_0 n2_0 a2_0 w0_0 w0_1 w0_2 v1_0 v2_0
  have hc := law12_VoteTells_t0 a0_0 a0_1 a0_2 n1_0 a1_0 n2_0 a2_0 g1
  rw [g2] at hc
  obtain ⟨k, hk⟩ := of_cl hc
  exact ⟨k, _, hk⟩

theorem voteTells_lifted (os : Os) (started : os.Started) (H : Type) (enc : TypeId × Value → H) :
    ReturnsInHanded {} Try.checked os 10 .any (Rows.voteTellsSpec.pre6 enc Try.prog Try.f10 Rows.voteTellsRow.domain false) (Rows.voteTellsSpec.post enc Try.prog Try.f10 false true false false) :=
  law_lifted (C := Try.checked) (fn := Try.f10) mixed envOK glOK own started (by kernel_rfl) Try.func10 laidOut
    (ChangeSpec.witness6 (enc := enc) (C := Try.checked) false ⟨#[], #[.agg #[.int .i64 0, .int .i64 0, .int .i64 0], .slice none 0 0, .slice none 0 0], []⟩ 8 (by kernel_rfl) (by kernel_rfl) (by kernel_rfl) (by kernel_rfl))
    (by kernel_rfl) (rt := 4) rfl Try.underlying4 rfl
    (fun ds h => by
      match ds, h with
      | [_, _, _], _ => rfl)
    row10

theorem voteTells_holds : Rows.VoteTellsSaid :=
  OpenClaim.holds_of_wide 10 Try.f10 rfl rfl rfl rfl rfl rfl rfl ⟨rfl, rfl, rfl, rfl, rfl⟩ rfl rfl rfl rfl rfl (by kernel_rfl) Try.func10 (by kernel_rfl)
    (of_decide_eq_true (by kernel_rfl)) (by unfold Func.isWrapper; first | (rw [if_pos (by decide +kernel)]; kernel_rfl) | (rw [if_neg (by decide +kernel)]; exact ⟨rfl, rfl⟩))
    (fun os started H enc _ => voteTells_lifted os started H enc)

end Go.Proofs.Ytdjmfcdopaejcaa.Den
