/- DriftBetween: part 5 of what its proof rests on: an evaluator of the program's code, proved sound; plain functions printed from the code by a program of this session, with proofs; plain laws. No condition. -/
import Derived.Test.YtgalchmjpfmemaaDendriftBetween4
import Derived.Test.YtgalchmjpfmemaaRows

namespace Go.Proofs.Ytgalchmjpfmemaa.Den
open Go Go.Proofs
set_option maxRecDepth 100000
set_option linter.unusedVariables false
set_option linter.unusedSimpArgs false

structure R_bool_i64 where
  c0 : Bool
  c1 : Int
  deriving Inhabited

def enc_R_bool_i64 (p : R_bool_i64) : List D := [(.bool p.c0), (.int .i64 p.c1)]

structure R_i64_i64 where
  c0 : Int
  c1 : Int
  deriving Inhabited

def enc_R_i64_i64 (p : R_i64_i64) : List D := [(.int .i64 p.c0), (.int .i64 p.c1)]

end Go.Proofs.Ytgalchmjpfmemaa.Den

namespace Go.Proofs.Ytgalchmjpfmemaa.Den
open Go Go.Proofs
set_option maxRecDepth 100000
set_option linter.unusedVariables false
set_option linter.unusedSimpArgs false

structure fix_small_l_L0_s0 where
  c2 : Int
  deriving Inhabited

def fix_small_l_L0_enc (x0 : List Int) (x1 : Int) (x2 : Int) (s0 : fix_small_l_L0_s0) : List V × Mem := ([(V.d (.rs true 1 (List.map (encI .i64) x0) false)), (V.d (.int .i64 x1)), (V.d (.int .i64 s0.c2))], [])

def fix_small_l_L0_sel (x0 : List Int) (x1 : Int) (s0 : fix_small_l_L0_s0) : Bool := (bif tb (decide (s0.c2 < x1)) then (bif tb (inb x0.length s0.c2) then (bif tb (decide ((gt x0 s0.c2) < (-1099511627776))) then false else (bif tb (decide (1099511627776 < (gt x0 s0.c2))) then false else true)) else false) else false)

def fix_small_l_L0_nx (x0 : List Int) (x1 : Int) (s0 : fix_small_l_L0_s0) : fix_small_l_L0_s0 := ⟨(wi (s0.c2 + 1))⟩

def fix_small_l_L0_ok (x0 : List Int) (x1 : Int) (s0 : fix_small_l_L0_s0) : Bool := (itS (fix_small_l_L0_sel x0 x1) (fix_small_l_L0_nx x0 x1) bound s0).isSome
def fix_small_l_L0_end (x0 : List Int) (x1 : Int) (s0 : fix_small_l_L0_s0) : fix_small_l_L0_s0 := (itS (fix_small_l_L0_sel x0 x1) (fix_small_l_L0_nx x0 x1) bound s0).getD default

theorem fix_small_l_L0_go (x0 : List Int) (x1 : Int) (x2 : Int) (s0 : fix_small_l_L0_s0) : fix_small_l_L0_sel x0 x1 s0 = true → (roundG (runC E0 (cl E0) L78_0) [5, 6, 7] [2] 0) (fix_small_l_L0_enc x0 x1 x2 s0) = some (.normal, fix_small_l_L0_enc x0 x1 x2 (fix_small_l_L0_nx x0 x1 s0)) := by
  unfold fix_small_l_L0_sel fix_small_l_L0_nx
  cases h1 : tb (decide (s0.c2 < x1))
  · intro g0
    exact absurd g0 ft
  · cases h2 : tb (inb x0.length s0.c2)
    · intro g0
      exact absurd g0 ft
    · cases h3 : tb (decide ((gt x0 s0.c2) < (-1099511627776)))
      · cases h4 : tb (decide (1099511627776 < (gt x0 s0.c2)))
        · intro _
          exact round_walk [.b h1, .o 9 (fun _ => o_idx_rs (enc := (encI .i64)) (l := x0) (fl := true) (tg := false) (s := 1) (k := .i64) h2), .b h3, .b h4] (by kernel_rfl)
        · intro g0
          exact absurd g0 ft
      · intro g0
        exact absurd g0 ft

def fix_small_l_L0_c0 (x0 : List Int) (x1 : Int) (s0 : fix_small_l_L0_s0) : Bool := (bif tb (decide (s0.c2 < x1)) then (bif tb (inb x0.length s0.c2) then true else false) else false)

def fix_small_l_L0_c1 (x1 : Int) (s0 : fix_small_l_L0_s0) : Bool := (bif tb (decide (s0.c2 < x1)) then false else true)

theorem fix_small_l_L0_x0 (x0 : List Int) (x1 : Int) (x2 : Int) (s0 : fix_small_l_L0_s0) : fix_small_l_L0_sel x0 x1 s0 = false → fix_small_l_L0_c0 x0 x1 s0 = true → (roundG (runC E0 (cl E0) L78_0) [5, 6, 7] [2] 0) (fix_small_l_L0_enc x0 x1 x2 s0) = some (.ret, ([(V.d (.bool false))], [])) := by
  unfold fix_small_l_L0_sel fix_small_l_L0_c0
  cases h1 : tb (decide (s0.c2 < x1))
  · intro g0 g1
    exact absurd g1 ft
  · cases h2 : tb (inb x0.length s0.c2)
    · intro g0 g1
      exact absurd g1 ft
    · cases h3 : tb (decide ((gt x0 s0.c2) < (-1099511627776)))
      · cases h4 : tb (decide (1099511627776 < (gt x0 s0.c2)))
        · intro g0 g1
          exact absurd g0 tf
        · intro g0 g1
          exact round_walk [.b h1, .o 9 (fun _ => o_idx_rs (enc := (encI .i64)) (l := x0) (fl := true) (tg := false) (s := 1) (k := .i64) h2), .b h3, .b h4] (by kernel_rfl)
      · intro g0 g1
        exact round_walk [.b h1, .o 9 (fun _ => o_idx_rs (enc := (encI .i64)) (l := x0) (fl := true) (tg := false) (s := 1) (k := .i64) h2), .b h3] (by kernel_rfl)

theorem fix_small_l_L0_x1 (x0 : List Int) (x1 : Int) (x2 : Int) (s0 : fix_small_l_L0_s0) : fix_small_l_L0_sel x0 x1 s0 = false → fix_small_l_L0_c0 x0 x1 s0 = false → fix_small_l_L0_c1 x1 s0 = true → (roundG (runC E0 (cl E0) L78_0) [5, 6, 7] [2] 0) (fix_small_l_L0_enc x0 x1 x2 s0) = some ((.exit 0), ([V.un], [])) := by
  unfold fix_small_l_L0_sel fix_small_l_L0_c0 fix_small_l_L0_c1
  cases h1 : tb (decide (s0.c2 < x1))
  · intro g0 g1 g2
    exact round_walk [.b h1] (by kernel_rfl)
  · cases h2 : tb (inb x0.length s0.c2)
    · intro g0 g1 g2
      exact absurd g2 ft
    · cases h3 : tb (decide ((gt x0 s0.c2) < (-1099511627776)))
      · cases h4 : tb (decide (1099511627776 < (gt x0 s0.c2)))
        · intro g0 g1 g2
          exact absurd g0 tf
        · intro g0 g1 g2
          exact absurd g1 tf
      · intro g0 g1 g2
        exact absurd g1 tf

theorem fix_small_l_L0_f0_0 (x0 : List Int) (x1 : Int) (x2 : Int) (s : fix_small_l_L0_s0) (hok : fix_small_l_L0_ok x0 x1 s = true) (c0 : fix_small_l_L0_c0 x0 x1 (fix_small_l_L0_end x0 x1 s) = true) : loopG (roundG (runC E0 (cl E0) L78_0) [5, 6, 7] [2] 0) bound (fix_small_l_L0_enc x0 x1 x2 s) = some (.ret, ([(V.d (.bool false))], [])) := by
  have e : itS (fix_small_l_L0_sel x0 x1) (fix_small_l_L0_nx x0 x1) bound s = some (fix_small_l_L0_end x0 x1 s) := itS_get hok
  have f := itS_false e
  exact loop_it (fix_small_l_L0_go x0 x1 x2) bound s _ _ _ e (fun h => by cases h) (fix_small_l_L0_x0 x0 x1 x2 (fix_small_l_L0_end x0 x1 s) f c0)

theorem fix_small_l_L0_f0_1 (x0 : List Int) (x1 : Int) (x2 : Int) (s : fix_small_l_L0_s0) (hok : fix_small_l_L0_ok x0 x1 s = true) (c0 : fix_small_l_L0_c0 x0 x1 (fix_small_l_L0_end x0 x1 s) = false) (c1 : fix_small_l_L0_c1 x1 (fix_small_l_L0_end x0 x1 s) = true) : loopG (roundG (runC E0 (cl E0) L78_0) [5, 6, 7] [2] 0) bound (fix_small_l_L0_enc x0 x1 x2 s) = some ((.exit 0), ([V.un], [])) := by
  have e : itS (fix_small_l_L0_sel x0 x1) (fix_small_l_L0_nx x0 x1) bound s = some (fix_small_l_L0_end x0 x1 s) := itS_get hok
  have f := itS_false e
  exact loop_it (fix_small_l_L0_go x0 x1 x2) bound s _ _ _ e (fun h => by cases h) (fix_small_l_L0_x1 x0 x1 x2 (fix_small_l_L0_end x0 x1 s) f c0 c1)

def fix_small_l_e0 (x0 : List Int) : fix_small_l_L0_s0 := fix_small_l_L0_end x0 ((x0.length : Nat) : Int) (⟨0⟩ : fix_small_l_L0_s0)

def fix_small_l_c0 (x0 : List Int) : Bool := (bif tb (fix_small_l_L0_ok x0 ((x0.length : Nat) : Int) (⟨0⟩ : fix_small_l_L0_s0)) then (bif tb (fix_small_l_L0_c0 x0 ((x0.length : Nat) : Int) (fix_small_l_e0 x0)) then true else (bif tb (fix_small_l_L0_c1 ((x0.length : Nat) : Int) (fix_small_l_e0 x0)) then true else false)) else false)

def fix_small_l_r0_0 (x0 : List Int) : Bool := (bif tb (fix_small_l_L0_c0 x0 ((x0.length : Nat) : Int) (fix_small_l_e0 x0)) then false else true)

theorem fix_small_l_t0 (x0 : List Int) : fix_small_l_c0 x0 = true → cl E0 78 [(V.d (.rs true 1 (List.map (encI .i64) x0) false))] [] = some ([(V.d (.bool (fix_small_l_r0_0 x0)))], []) := by
  unfold fix_small_l_c0 fix_small_l_r0_0
  cases h1 : tb (fix_small_l_L0_ok x0 ((x0.length : Nat) : Int) (⟨0⟩ : fix_small_l_L0_s0))
  · intro g0
    exact absurd g0 ft
  · cases h2 : tb (fix_small_l_L0_c0 x0 ((x0.length : Nat) : Int) (fix_small_l_e0 x0))
    · cases h3 : tb (fix_small_l_L0_c1 ((x0.length : Nat) : Int) (fix_small_l_e0 x0))
      · intro g0
        exact absurd g0 ft
      · intro g0
        exact w78 [.o 6 (fun _ => o_len_rs (enc := (encI .i64)) (l := x0) (fl := true) (tg := false) (s := 1)), .l (fix_small_l_L0_f0_1 x0 ((x0.length : Nat) : Int) 0 (⟨0⟩ : fix_small_l_L0_s0) h1 h2 h3)] (by kernel_rfl)
    · intro g0
      exact w78 [.o 6 (fun _ => o_len_rs (enc := (encI .i64)) (l := x0) (fl := true) (tg := false) (s := 1)), .l (fix_small_l_L0_f0_0 x0 ((x0.length : Nat) : Int) 0 (⟨0⟩ : fix_small_l_L0_s0) h1 h2)] (by kernel_rfl)

def fix_Shift_ii_c0 (x0 : Int) (x1 : Int) : Bool := (bif tb (fix_small_l_c0 [x0]) then (bif tb (fix_small_l_r0_0 [x0]) then (bif tb (decide (x1 < 0)) then true else (bif tb (decide (40 < x1)) then true else (bif tb (decide (0 ≤ x1)) then true else false))) else true) else false)

def fix_Shift_ii_r0_0 (x0 : Int) (x1 : Int) : Int := (bif tb (fix_small_l_r0_0 [x0]) then (bif tb (decide (x1 < 0)) then 0 else (bif tb (decide (40 < x1)) then 0 else (shrI .i64 x0 x1))) else 0)

theorem fix_Shift_ii_t0 (x0 : Int) (x1 : Int) : fix_Shift_ii_c0 x0 x1 = true → cl E0 60 [(V.d (.int .i64 x0)), (V.d (.int .i64 x1))] [] = some ([(V.d (.int .i64 (fix_Shift_ii_r0_0 x0 x1)))], []) := by
  unfold fix_Shift_ii_c0 fix_Shift_ii_r0_0
  cases h1 : tb (fix_small_l_c0 [x0])
  · intro g0
    exact absurd g0 ft
  · cases h2 : tb (fix_small_l_r0_0 [x0])
    · intro g0
      exact w60 [.c (fix_small_l_t0 [x0] h1), .b (notF h2)] (by kernel_rfl)
    · cases h3 : tb (decide (x1 < 0))
      · cases h4 : tb (decide (40 < x1))
        · cases h5 : tb (decide (0 ≤ x1))
          · intro g0
            exact absurd g0 ft
          · intro g0
            exact w60 [.c (fix_small_l_t0 [x0] h1), .b (notT h2), .b h3, .b h4, .o 19 (fun _ => o_shr (k := .i64) (k2 := .i64) (x := x0) (y := x1) h5)] (by kernel_rfl)
        · intro g0
          exact w60 [.c (fix_small_l_t0 [x0] h1), .b (notT h2), .b h3, .b h4] (by kernel_rfl)
      · intro g0
        exact w60 [.c (fix_small_l_t0 [x0] h1), .b (notT h2), .b h3] (by kernel_rfl)

def fix_Apart_ii_c0 (x0 : Int) (x1 : Int) : Bool := (bif tb (fix_small_l_c0 [x0, x1]) then true else false)

def fix_Apart_ii_r0_0 (x0 : Int) (x1 : Int) : Int := (bif tb (fix_small_l_r0_0 [x0, x1]) then (mxI (wi (x0 - x1)) (wi (x1 - x0))) else 0)

theorem fix_Apart_ii_t0 (x0 : Int) (x1 : Int) : fix_Apart_ii_c0 x0 x1 = true → cl E0 66 [(V.d (.int .i64 x0)), (V.d (.int .i64 x1))] [] = some ([(V.d (.int .i64 (fix_Apart_ii_r0_0 x0 x1)))], []) := by
  unfold fix_Apart_ii_c0 fix_Apart_ii_r0_0
  cases h1 : tb (fix_small_l_c0 [x0, x1])
  · intro g0
    exact absurd g0 ft
  · cases h2 : tb (fix_small_l_r0_0 [x0, x1])
    · intro g0
      exact w66 [.c (fix_small_l_t0 [x0, x1] h1), .b (notF h2)] (by kernel_rfl)
    · intro g0
      exact w66 [.c (fix_small_l_t0 [x0, x1] h1), .b (notT h2)] (by kernel_rfl)

def fix_Clamp_iii_c0 (x0 : Int) (x1 : Int) (x2 : Int) : Bool := (bif tb (fix_small_l_c0 [x0, x1, x2]) then true else false)

def fix_Clamp_iii_r0_0 (x0 : Int) (x1 : Int) (x2 : Int) : Int := (bif tb (fix_small_l_r0_0 [x0, x1, x2]) then (mxI x1 (mnI x0 x2)) else 0)

theorem fix_Clamp_iii_t0 (x0 : Int) (x1 : Int) (x2 : Int) : fix_Clamp_iii_c0 x0 x1 x2 = true → cl E0 77 [(V.d (.int .i64 x0)), (V.d (.int .i64 x1)), (V.d (.int .i64 x2))] [] = some ([(V.d (.int .i64 (fix_Clamp_iii_r0_0 x0 x1 x2)))], []) := by
  unfold fix_Clamp_iii_c0 fix_Clamp_iii_r0_0
  cases h1 : tb (fix_small_l_c0 [x0, x1, x2])
  · intro g0
    exact absurd g0 ft
  · cases h2 : tb (fix_small_l_r0_0 [x0, x1, x2])
    · intro g0
      exact w77 [.c (fix_small_l_t0 [x0, x1, x2] h1), .b (notF h2)] (by kernel_rfl)
    · intro g0
      exact w77 [.c (fix_small_l_t0 [x0, x1, x2] h1), .b (notT h2)] (by kernel_rfl)

end Go.Proofs.Ytgalchmjpfmemaa.Den

namespace Go.Proofs.Ytgalchmjpfmemaa.Den
open Go Go.Proofs
set_option maxRecDepth 100000
set_option linter.unusedVariables false
set_option linter.unusedSimpArgs false

def drift_New_ii_c0 (x0 : Int) (x1 : Int) : Bool := (bif tb (decide (x0 < 0)) then true else (bif tb (decide (8 < x0)) then true else (bif tb (decide (x1 < 0)) then true else (bif tb (decide (2147483647 < x1)) then true else false))))

theorem drift_New_ii_t0 (x0 : Int) (x1 : Int) : drift_New_ii_c0 x0 x1 = true → cl E0 16 [(V.d (.int .i64 x0)), (V.d (.int .i64 x1))] [] = some ([(V.d .nilp), (V.d (.int .i64 1))], []) := by
  unfold drift_New_ii_c0
  cases h1 : tb (decide (x0 < 0))
  · cases h2 : tb (decide (8 < x0))
    · cases h3 : tb (decide (x1 < 0))
      · cases h4 : tb (decide (2147483647 < x1))
        · intro g0
          exact absurd g0 ft
        · intro g0
          exact w16 [.b h1, .b h2, .b h3, .b h4] (by kernel_rfl)
      · intro g0
        exact w16 [.b h1, .b h2, .b h3] (by kernel_rfl)
    · intro g0
      exact w16 [.b h1, .b h2] (by kernel_rfl)
  · intro g0
    exact w16 [.b h1] (by kernel_rfl)

theorem drift_New_ii_t1 (x0 : Int) (x1 : Int) : drift_New_ii_c0 x0 x1 = false → cl E0 16 [(V.d (.int .i64 x0)), (V.d (.int .i64 x1))] [] = some ([(V.ptr 0 1 0 0), (V.d (.int .i64 0))], [(Blk.flat 92 3 [[(.int .i64 x0), (.int .i64 x1), (.int .i64 0)]] false)]) := by
  unfold drift_New_ii_c0
  cases h1 : tb (decide (x0 < 0))
  · cases h2 : tb (decide (8 < x0))
    · cases h3 : tb (decide (x1 < 0))
      · cases h4 : tb (decide (2147483647 < x1))
        · intro g0
          exact w16 [.b h1, .b h2, .b h3, .b h4] (by kernel_rfl)
        · intro g0
          exact absurd g0 tf
      · intro g0
        exact absurd g0 tf
    · intro g0
      exact absurd g0 tf
  · intro g0
    exact absurd g0 tf

theorem drift_Filter_Clear_p_Fi3_t0 (x0 : Int) (x1 : Int) (x2 : Int) : cl E0 18 [(V.ptr 0 1 0 0)] [(Blk.flat 92 3 [[(.int .i64 x0), (.int .i64 x1), (.int .i64 x2)]] false)] = some ([], [(Blk.flat 92 3 [[(.int .i64 x0), (.int .i64 x1), (.int .i64 0)]] false)]) := by
  exact w18 [.k true] (by kernel_rfl)

theorem drift_Filter_Level_p_Fi3_t0 (x0 : Int) (x1 : Int) (x2 : Int) (x3 : Bool) : cl E0 21 [(V.ptr 0 1 0 0)] [(Blk.flat 92 3 [[(.int .i64 x0), (.int .i64 x1), (.int .i64 x2)]] x3)] = some ([(V.d (.int .i64 x2))], [(Blk.flat 92 3 [[(.int .i64 x0), (.int .i64 x1), (.int .i64 x2)]] x3)]) := by
  exact w21 [.k false] (by kernel_rfl)

def drift_bounds_over_ai2i_c0 (x2 : Int) : Bool := (bif tb (fix_Apart_ii_c0 x2 0) then true else false)

theorem drift_bounds_over_ai2i_t0 (x0 : Int) (x1 : Int) (x2 : Int) : drift_bounds_over_ai2i_c0 x2 = true → cl E0 61 [(V.agg [(V.d (.int .i64 x0)), (V.d (.int .i64 x1))]), (V.d (.int .i64 x2))] [] = some ([(V.d (.bool (decide (x1 < (fix_Apart_ii_r0_0 x2 0)))))], []) := by
  unfold drift_bounds_over_ai2i_c0
  cases h1 : tb (fix_Apart_ii_c0 x2 0)
  · intro g0
    exact absurd g0 ft
  · intro g0
    exact w61 [.c (fix_Apart_ii_t0 x2 0 h1)] (by kernel_rfl)

def drift_Filter_Come_pi_Fi3_c0 (x0 : Int) (x2 : Int) (x4 : Int) : Bool := (bif tb (decide (x4 < (-4294967296))) then true else (bif tb (decide (4294967296 < x4)) then true else (bif tb (fix_Shift_ii_c0 (wi (x4 - x2)) x0) then (bif tb (drift_bounds_over_ai2i_c0 (wi (x2 + (fix_Shift_ii_r0_0 (wi (x4 - x2)) x0)))) then true else false) else false)))

def drift_Filter_Come_pi_Fi3_r0_0 (x0 : Int) (x1 : Int) (x2 : Int) (x4 : Int) : Bool := (bif tb (decide (x4 < (-4294967296))) then false else (bif tb (decide (4294967296 < x4)) then false else (decide (x1 < (fix_Apart_ii_r0_0 (wi (x2 + (fix_Shift_ii_r0_0 (wi (x4 - x2)) x0))) 0)))))

def drift_Filter_Come_pi_Fi3_r0_1 (x4 : Int) : Int := (bif tb (decide (x4 < (-4294967296))) then 1 else (bif tb (decide (4294967296 < x4)) then 1 else 0))

def drift_Filter_Come_pi_Fi3_r0_4 (x0 : Int) (x2 : Int) (x4 : Int) : Int := (bif tb (decide (x4 < (-4294967296))) then x2 else (bif tb (decide (4294967296 < x4)) then x2 else (wi (x2 + (fix_Shift_ii_r0_0 (wi (x4 - x2)) x0)))))

theorem drift_Filter_Come_pi_Fi3_t0 (x0 : Int) (x1 : Int) (x2 : Int) (x4 : Int) : drift_Filter_Come_pi_Fi3_c0 x0 x2 x4 = true → cl E0 19 [(V.ptr 0 1 0 0), (V.d (.int .i64 x4))] [(Blk.flat 92 3 [[(.int .i64 x0), (.int .i64 x1), (.int .i64 x2)]] false)] = some ([(V.d (.bool (drift_Filter_Come_pi_Fi3_r0_0 x0 x1 x2 x4))), (V.d (.int .i64 (drift_Filter_Come_pi_Fi3_r0_1 x4)))], [(Blk.flat 92 3 [[(.int .i64 x0), (.int .i64 x1), (.int .i64 (drift_Filter_Come_pi_Fi3_r0_4 x0 x2 x4))]] false)]) := by
  unfold drift_Filter_Come_pi_Fi3_c0 drift_Filter_Come_pi_Fi3_r0_0 drift_Filter_Come_pi_Fi3_r0_1 drift_Filter_Come_pi_Fi3_r0_4
  cases h1 : tb (decide (x4 < (-4294967296)))
  · cases h2 : tb (decide (4294967296 < x4))
    · cases h3 : tb (fix_Shift_ii_c0 (wi (x4 - x2)) x0)
      · intro g0
        exact absurd g0 ft
      · cases h4 : tb (drift_bounds_over_ai2i_c0 (wi (x2 + (fix_Shift_ii_r0_0 (wi (x4 - x2)) x0))))
        · intro g0
          exact absurd g0 ft
        · intro g0
          exact w19 [.k false, .b h1, .b h2, .c (fix_Shift_ii_t0 (wi (x4 - x2)) x0 h3), .c (drift_bounds_over_ai2i_t0 x0 x1 (wi (x2 + (fix_Shift_ii_r0_0 (wi (x4 - x2)) x0))) h4)] (by kernel_rfl)
    · intro g0
      exact w19 [.k false, .b h1, .b h2] (by kernel_rfl)
  · intro g0
    exact w19 [.k false, .b h1] (by kernel_rfl)

theorem drift_Filter_Clear_n_t0  : cl E0 18 [(V.d .nilp)] [] = some ([], []) := by
  exact w18 [.k false] (by kernel_rfl)

theorem drift_Filter_Come_ni_t0 (x0 : Int) : cl E0 19 [(V.d .nilp), (V.d (.int .i64 x0))] [] = some ([(V.d (.bool false)), (V.d (.int .i64 1))], []) := by
  exact w19 [.k true] (by kernel_rfl)

theorem drift_Filter_Level_n_t0  : cl E0 21 [(V.d .nilp)] [] = some ([(V.d (.int .i64 0))], []) := by
  exact w21 [.k true] (by kernel_rfl)

end Go.Proofs.Ytgalchmjpfmemaa.Den

namespace Go.Proofs.Ytgalchmjpfmemaa.Den
open Go Go.Proofs
set_option maxRecDepth 100000
set_option linter.unusedVariables false
set_option linter.unusedSimpArgs false

theorem law10_alive_t0 : cl E0 15 [] [] = some ([(V.d (.bool true))], []) := cl_of (n := 60) (by kernel_rfl)

end Go.Proofs.Ytgalchmjpfmemaa.Den

namespace Go.Proofs.Ytgalchmjpfmemaa.Den
open Go Go.Proofs
set_option maxRecDepth 100000
set_option linter.unusedVariables false
set_option linter.unusedSimpArgs false

structure law10_DriftBetween_L0_s0 where
  c5 : Int
  c6 : Int
  deriving Inhabited

def law10_DriftBetween_L0_enc (x0 : Int) (x1 : Int) (x2 : Int) (x3 : Bool) (x4 : Bool) (x5 : List Int) (x6 : Int) (x7 : Int) (x8 : Int) (x9 : Int) (x10 : Int) (s0 : law10_DriftBetween_L0_s0) : List V × Mem := ([(V.d (slD (encI .i32) true 1 x4 x5)), (V.d (.int .i16 x6)), (V.d (.int .i64 x7)), (V.ptr 0 1 0 0), (V.d (.int .i64 x8)), (V.d (.int .i64 s0.c5)), (V.d (.int .i64 s0.c6))], [(Blk.flat 92 3 [[(.int .i64 x0), (.int .i64 x1), (.int .i64 x2)]] x3)])

def law10_DriftBetween_L0_sel (x7 : Int) (s0 : law10_DriftBetween_L0_s0) : Bool := (bif tb (decide (s0.c6 < x7)) then true else false)

def law10_DriftBetween_L0_nx (x7 : Int) (s0 : law10_DriftBetween_L0_s0) : law10_DriftBetween_L0_s0 := ⟨(wi (2 * s0.c5)), (wi (s0.c6 + 1))⟩

def law10_DriftBetween_L0_ok (x7 : Int) (s0 : law10_DriftBetween_L0_s0) : Bool := (itS (law10_DriftBetween_L0_sel x7) (law10_DriftBetween_L0_nx x7) bound s0).isSome
def law10_DriftBetween_L0_end (x7 : Int) (s0 : law10_DriftBetween_L0_s0) : law10_DriftBetween_L0_s0 := (itS (law10_DriftBetween_L0_sel x7) (law10_DriftBetween_L0_nx x7) bound s0).getD default

theorem law10_DriftBetween_L0_go (x0 : Int) (x1 : Int) (x2 : Int) (x3 : Bool) (x4 : Bool) (x5 : List Int) (x6 : Int) (x7 : Int) (x8 : Int) (x9 : Int) (x10 : Int) (s0 : law10_DriftBetween_L0_s0) : law10_DriftBetween_L0_sel x7 s0 = true → (roundG (runC E0 (cl E0) L4_0) [1, 2, 7, 8, 10, 11, 12] [1, 2, 7, 8, 10, 11] 1) (law10_DriftBetween_L0_enc x0 x1 x2 x3 x4 x5 x6 x7 x8 x9 x10 s0) = some (.normal, law10_DriftBetween_L0_enc x0 x1 x2 x3 x4 x5 x6 x7 x8 x9 x10 (law10_DriftBetween_L0_nx x7 s0)) := by
  unfold law10_DriftBetween_L0_sel law10_DriftBetween_L0_nx
  cases h1 : tb (decide (s0.c6 < x7))
  · intro g0
    exact absurd g0 ft
  · intro _
    exact round_walk [.b h1] (by kernel_rfl)

theorem law10_DriftBetween_L0_x0 (x0 : Int) (x1 : Int) (x2 : Int) (x3 : Bool) (x4 : Bool) (x5 : List Int) (x6 : Int) (x7 : Int) (x8 : Int) (x9 : Int) (x10 : Int) (s0 : law10_DriftBetween_L0_s0) : law10_DriftBetween_L0_sel x7 s0 = false → (roundG (runC E0 (cl E0) L4_0) [1, 2, 7, 8, 10, 11, 12] [1, 2, 7, 8, 10, 11] 1) (law10_DriftBetween_L0_enc x0 x1 x2 x3 x4 x5 x6 x7 x8 x9 x10 s0) = some ((.exit 0), ([(V.d (slD (encI .i32) true 1 x4 x5)), (V.d (.int .i16 x6)), (V.d (.int .i64 x7)), (V.ptr 0 1 0 0), (V.d (.int .i64 x8)), (V.d (.int .i64 s0.c5))], [(Blk.flat 92 3 [[(.int .i64 x0), (.int .i64 x1), (.int .i64 x2)]] x3)])) := by
  unfold law10_DriftBetween_L0_sel
  cases h1 : tb (decide (s0.c6 < x7))
  · intro g0
    exact round_walk [.b h1] (by kernel_rfl)
  · intro g0
    exact absurd g0 tf

theorem law10_DriftBetween_L0_f0_0 (x0 : Int) (x1 : Int) (x2 : Int) (x3 : Bool) (x4 : Bool) (x5 : List Int) (x6 : Int) (x7 : Int) (x8 : Int) (x9 : Int) (x10 : Int) (s : law10_DriftBetween_L0_s0) (hok : law10_DriftBetween_L0_ok x7 s = true) : loopG (roundG (runC E0 (cl E0) L4_0) [1, 2, 7, 8, 10, 11, 12] [1, 2, 7, 8, 10, 11] 1) bound (law10_DriftBetween_L0_enc x0 x1 x2 x3 x4 x5 x6 x7 x8 x9 x10 s) = some ((.exit 0), ([(V.d (slD (encI .i32) true 1 x4 x5)), (V.d (.int .i16 x6)), (V.d (.int .i64 x7)), (V.ptr 0 1 0 0), (V.d (.int .i64 x8)), (V.d (.int .i64 ((law10_DriftBetween_L0_end x7 s).c5)))], [(Blk.flat 92 3 [[(.int .i64 x0), (.int .i64 x1), (.int .i64 x2)]] x3)])) := by
  have e : itS (law10_DriftBetween_L0_sel x7) (law10_DriftBetween_L0_nx x7) bound s = some (law10_DriftBetween_L0_end x7 s) := itS_get hok
  have f := itS_false e
  exact loop_it (law10_DriftBetween_L0_go x0 x1 x2 x3 x4 x5 x6 x7 x8 x9 x10) bound s _ _ _ e (fun h => by cases h) (law10_DriftBetween_L0_x0 x0 x1 x2 x3 x4 x5 x6 x7 x8 x9 x10 (law10_DriftBetween_L0_end x7 s) f )

structure law10_DriftBetween_L1_s0 where
  c4 : Int
  c6 : Int
  c9 : Int
  deriving Inhabited

def law10_DriftBetween_L1_enc (x0 : Int) (x1 : Int) (x2 : Int) (x3 : Bool) (x4 : Bool) (x5 : List Int) (x6 : Int) (x7 : Int) (x8 : Int) (x9 : Int) (x10 : Int) (s0 : law10_DriftBetween_L1_s0) : List V × Mem := ([(V.d (slD (encI .i32) true 1 x4 x5)), (V.d (.int .i16 x6)), (V.d (.int .i64 x7)), (V.ptr 0 1 0 0), (V.d (.int .i64 s0.c4)), (V.d (.int .i64 x9)), (V.d (.int .i64 s0.c6))], [(Blk.flat 92 3 [[(.int .i64 x0), (.int .i64 x1), (.int .i64 s0.c9)]] false)])

def law10_DriftBetween_L1_h0_e0 (x5 : List Int) (s0 : law10_DriftBetween_L1_s0) : Int := mxI (mxI s0.c4 (wi (gt x5 s0.c6))) (wi (0 - (wi (gt x5 s0.c6))))

def law10_DriftBetween_L1_sel (x0 : Int) (x5 : List Int) (x7 : Int) (s0 : law10_DriftBetween_L1_s0) : Bool := (bif tb (decide (s0.c6 < ((x5.length : Nat) : Int))) then (bif tb (inb x5.length s0.c6) then (bif tb (drift_Filter_Come_pi_Fi3_c0 x0 s0.c9 (wi (gt x5 s0.c6))) then (bif tb (((drift_Filter_Come_pi_Fi3_r0_1 (wi (gt x5 s0.c6))) : Int) != 0) then false else (bif tb (decide ((drift_Filter_Come_pi_Fi3_r0_4 x0 s0.c9 (wi (gt x5 s0.c6))) < (mnI s0.c9 (wi (gt x5 s0.c6))))) then false else (bif tb (decide ((mxI s0.c9 (wi (gt x5 s0.c6))) < (drift_Filter_Come_pi_Fi3_r0_4 x0 s0.c9 (wi (gt x5 s0.c6))))) then false else (bif tb (decide ((law10_DriftBetween_L1_h0_e0 x5 s0) < (drift_Filter_Come_pi_Fi3_r0_4 x0 s0.c9 (wi (gt x5 s0.c6))))) then false else (bif tb (decide ((drift_Filter_Come_pi_Fi3_r0_4 x0 s0.c9 (wi (gt x5 s0.c6))) < (wi (0 - (law10_DriftBetween_L1_h0_e0 x5 s0))))) then false else (bif tb ((x7 : Int) == 0) then (bif tb (((drift_Filter_Come_pi_Fi3_r0_4 x0 s0.c9 (wi (gt x5 s0.c6))) : Int) != (wi (gt x5 s0.c6))) then false else (bif tb (decide ((wi (gt x5 s0.c6)) < s0.c9)) then (bif tb (decide (s0.c9 ≤ (drift_Filter_Come_pi_Fi3_r0_4 x0 s0.c9 (wi (gt x5 s0.c6))))) then false else true) else true)) else (bif tb (decide ((wi (gt x5 s0.c6)) < s0.c9)) then (bif tb (decide (s0.c9 ≤ (drift_Filter_Come_pi_Fi3_r0_4 x0 s0.c9 (wi (gt x5 s0.c6))))) then false else (bif tb ((s0.c9 : Int) == (wi (gt x5 s0.c6))) then (bif tb (((drift_Filter_Come_pi_Fi3_r0_4 x0 s0.c9 (wi (gt x5 s0.c6))) : Int) != (wi (gt x5 s0.c6))) then false else true) else true)) else (bif tb ((s0.c9 : Int) == (wi (gt x5 s0.c6))) then (bif tb (((drift_Filter_Come_pi_Fi3_r0_4 x0 s0.c9 (wi (gt x5 s0.c6))) : Int) != (wi (gt x5 s0.c6))) then false else true) else true)))))))) else false) else false) else false)

def law10_DriftBetween_L1_nx (x0 : Int) (x5 : List Int) (x7 : Int) (s0 : law10_DriftBetween_L1_s0) : law10_DriftBetween_L1_s0 := ⟨(law10_DriftBetween_L1_h0_e0 x5 s0), (wi (s0.c6 + 1)), (drift_Filter_Come_pi_Fi3_r0_4 x0 s0.c9 (wi (gt x5 s0.c6)))⟩

def law10_DriftBetween_L1_ok (x0 : Int) (x5 : List Int) (x7 : Int) (s0 : law10_DriftBetween_L1_s0) : Bool := (itS (law10_DriftBetween_L1_sel x0 x5 x7) (law10_DriftBetween_L1_nx x0 x5 x7) bound s0).isSome
def law10_DriftBetween_L1_end (x0 : Int) (x5 : List Int) (x7 : Int) (s0 : law10_DriftBetween_L1_s0) : law10_DriftBetween_L1_s0 := (itS (law10_DriftBetween_L1_sel x0 x5 x7) (law10_DriftBetween_L1_nx x0 x5 x7) bound s0).getD default

theorem law10_DriftBetween_L1_go (x0 : Int) (x1 : Int) (x2 : Int) (x3 : Bool) (x4 : Bool) (x5 : List Int) (x6 : Int) (x7 : Int) (x8 : Int) (x9 : Int) (x10 : Int) (s0 : law10_DriftBetween_L1_s0) : law10_DriftBetween_L1_sel x0 x5 x7 s0 = true → (roundG (runC E0 (cl E0) L4_1) [1, 2, 7, 8, 10, 11, 13] [2, 6, 8, 11] 1) (law10_DriftBetween_L1_enc x0 x1 x2 x3 x4 x5 x6 x7 x8 x9 x10 s0) = some (.normal, law10_DriftBetween_L1_enc x0 x1 x2 x3 x4 x5 x6 x7 x8 x9 x10 (law10_DriftBetween_L1_nx x0 x5 x7 s0)) := by
  unfold law10_DriftBetween_L1_sel law10_DriftBetween_L1_nx
  cases h1 : tb (decide (s0.c6 < ((x5.length : Nat) : Int)))
  · intro g0
    exact absurd g0 ft
  · cases h2 : tb (inb x5.length s0.c6)
    · intro g0
      exact absurd g0 ft
    · cases h3 : tb (drift_Filter_Come_pi_Fi3_c0 x0 s0.c9 (wi (gt x5 s0.c6)))
      · intro g0
        exact absurd g0 ft
      · cases h4 : tb (((drift_Filter_Come_pi_Fi3_r0_1 (wi (gt x5 s0.c6))) : Int) != 0)
        · cases h5 : tb (decide ((drift_Filter_Come_pi_Fi3_r0_4 x0 s0.c9 (wi (gt x5 s0.c6))) < (mnI s0.c9 (wi (gt x5 s0.c6)))))
          · cases h6 : tb (decide ((mxI s0.c9 (wi (gt x5 s0.c6))) < (drift_Filter_Come_pi_Fi3_r0_4 x0 s0.c9 (wi (gt x5 s0.c6)))))
            · cases h7 : tb (decide ((law10_DriftBetween_L1_h0_e0 x5 s0) < (drift_Filter_Come_pi_Fi3_r0_4 x0 s0.c9 (wi (gt x5 s0.c6)))))
              · cases h8 : tb (decide ((drift_Filter_Come_pi_Fi3_r0_4 x0 s0.c9 (wi (gt x5 s0.c6))) < (wi (0 - (law10_DriftBetween_L1_h0_e0 x5 s0)))))
                · cases h9 : tb ((x7 : Int) == 0)
                  · cases h10 : tb (decide ((wi (gt x5 s0.c6)) < s0.c9))
                    · cases h11 : tb ((s0.c9 : Int) == (wi (gt x5 s0.c6)))
                      · intro _
                        exact round_walk [.o 48 (fun _ => o_len_os (enc := (encI .i32)) (l := x5) (fl := true) (n := x4) (s := 1)), .b h1, .o 54 (fun _ => o_idx_os (enc := (encI .i32)) (l := x5) (fl := true) (n := x4) (s := 1) (k := .i64) h2), .c (drift_Filter_Level_p_Fi3_t0 x0 x1 s0.c9 false), .c (drift_Filter_Come_pi_Fi3_t0 x0 x1 s0.c9 (wi (gt x5 s0.c6)) h3), .c (drift_Filter_Level_p_Fi3_t0 x0 x1 (drift_Filter_Come_pi_Fi3_r0_4 x0 s0.c9 (wi (gt x5 s0.c6))) false), .b h4, .b h5, .b h6, .b h7, .b h8, .b h9, .b h10, .b h11] (by kernel_rfl)
                      · cases h12 : tb (((drift_Filter_Come_pi_Fi3_r0_4 x0 s0.c9 (wi (gt x5 s0.c6))) : Int) != (wi (gt x5 s0.c6)))
                        · intro _
                          exact round_walk [.o 48 (fun _ => o_len_os (enc := (encI .i32)) (l := x5) (fl := true) (n := x4) (s := 1)), .b h1, .o 54 (fun _ => o_idx_os (enc := (encI .i32)) (l := x5) (fl := true) (n := x4) (s := 1) (k := .i64) h2), .c (drift_Filter_Level_p_Fi3_t0 x0 x1 s0.c9 false), .c (drift_Filter_Come_pi_Fi3_t0 x0 x1 s0.c9 (wi (gt x5 s0.c6)) h3), .c (drift_Filter_Level_p_Fi3_t0 x0 x1 (drift_Filter_Come_pi_Fi3_r0_4 x0 s0.c9 (wi (gt x5 s0.c6))) false), .b h4, .b h5, .b h6, .b h7, .b h8, .b h9, .b h10, .b h11, .b h12] (by kernel_rfl)
                        · intro g0
                          exact absurd g0 ft
                    · cases h11 : tb (decide (s0.c9 ≤ (drift_Filter_Come_pi_Fi3_r0_4 x0 s0.c9 (wi (gt x5 s0.c6)))))
                      · cases h12 : tb ((s0.c9 : Int) == (wi (gt x5 s0.c6)))
                        · intro _
                          exact round_walk [.o 48 (fun _ => o_len_os (enc := (encI .i32)) (l := x5) (fl := true) (n := x4) (s := 1)), .b h1, .o 54 (fun _ => o_idx_os (enc := (encI .i32)) (l := x5) (fl := true) (n := x4) (s := 1) (k := .i64) h2), .c (drift_Filter_Level_p_Fi3_t0 x0 x1 s0.c9 false), .c (drift_Filter_Come_pi_Fi3_t0 x0 x1 s0.c9 (wi (gt x5 s0.c6)) h3), .c (drift_Filter_Level_p_Fi3_t0 x0 x1 (drift_Filter_Come_pi_Fi3_r0_4 x0 s0.c9 (wi (gt x5 s0.c6))) false), .b h4, .b h5, .b h6, .b h7, .b h8, .b h9, .b h10, .b h11, .b h12] (by kernel_rfl)
                        · cases h13 : tb (((drift_Filter_Come_pi_Fi3_r0_4 x0 s0.c9 (wi (gt x5 s0.c6))) : Int) != (wi (gt x5 s0.c6)))
                          · intro _
                            exact round_walk [.o 48 (fun _ => o_len_os (enc := (encI .i32)) (l := x5) (fl := true) (n := x4) (s := 1)), .b h1, .o 54 (fun _ => o_idx_os (enc := (encI .i32)) (l := x5) (fl := true) (n := x4) (s := 1) (k := .i64) h2), .c (drift_Filter_Level_p_Fi3_t0 x0 x1 s0.c9 false), .c (drift_Filter_Come_pi_Fi3_t0 x0 x1 s0.c9 (wi (gt x5 s0.c6)) h3), .c (drift_Filter_Level_p_Fi3_t0 x0 x1 (drift_Filter_Come_pi_Fi3_r0_4 x0 s0.c9 (wi (gt x5 s0.c6))) false), .b h4, .b h5, .b h6, .b h7, .b h8, .b h9, .b h10, .b h11, .b h12, .b h13] (by kernel_rfl)
                          · intro g0
                            exact absurd g0 ft
                      · intro g0
                        exact absurd g0 ft
                  · cases h10 : tb (((drift_Filter_Come_pi_Fi3_r0_4 x0 s0.c9 (wi (gt x5 s0.c6))) : Int) != (wi (gt x5 s0.c6)))
                    · cases h11 : tb (decide ((wi (gt x5 s0.c6)) < s0.c9))
                      · cases h12 : tb ((s0.c9 : Int) == (wi (gt x5 s0.c6)))
                        · intro _
                          exact round_walk [.o 48 (fun _ => o_len_os (enc := (encI .i32)) (l := x5) (fl := true) (n := x4) (s := 1)), .b h1, .o 54 (fun _ => o_idx_os (enc := (encI .i32)) (l := x5) (fl := true) (n := x4) (s := 1) (k := .i64) h2), .c (drift_Filter_Level_p_Fi3_t0 x0 x1 s0.c9 false), .c (drift_Filter_Come_pi_Fi3_t0 x0 x1 s0.c9 (wi (gt x5 s0.c6)) h3), .c (drift_Filter_Level_p_Fi3_t0 x0 x1 (drift_Filter_Come_pi_Fi3_r0_4 x0 s0.c9 (wi (gt x5 s0.c6))) false), .b h4, .b h5, .b h6, .b h7, .b h8, .b h9, .b h10, .b h11, .b h12] (by kernel_rfl)
                        · intro _
                          exact round_walk [.o 48 (fun _ => o_len_os (enc := (encI .i32)) (l := x5) (fl := true) (n := x4) (s := 1)), .b h1, .o 54 (fun _ => o_idx_os (enc := (encI .i32)) (l := x5) (fl := true) (n := x4) (s := 1) (k := .i64) h2), .c (drift_Filter_Level_p_Fi3_t0 x0 x1 s0.c9 false), .c (drift_Filter_Come_pi_Fi3_t0 x0 x1 s0.c9 (wi (gt x5 s0.c6)) h3), .c (drift_Filter_Level_p_Fi3_t0 x0 x1 (drift_Filter_Come_pi_Fi3_r0_4 x0 s0.c9 (wi (gt x5 s0.c6))) false), .b h4, .b h5, .b h6, .b h7, .b h8, .b h9, .b h10, .b h11, .b h12, .b h10] (by kernel_rfl)
                      · cases h12 : tb (decide (s0.c9 ≤ (drift_Filter_Come_pi_Fi3_r0_4 x0 s0.c9 (wi (gt x5 s0.c6)))))
                        · cases h13 : tb ((s0.c9 : Int) == (wi (gt x5 s0.c6)))
                          · intro _
                            exact round_walk [.o 48 (fun _ => o_len_os (enc := (encI .i32)) (l := x5) (fl := true) (n := x4) (s := 1)), .b h1, .o 54 (fun _ => o_idx_os (enc := (encI .i32)) (l := x5) (fl := true) (n := x4) (s := 1) (k := .i64) h2), .c (drift_Filter_Level_p_Fi3_t0 x0 x1 s0.c9 false), .c (drift_Filter_Come_pi_Fi3_t0 x0 x1 s0.c9 (wi (gt x5 s0.c6)) h3), .c (drift_Filter_Level_p_Fi3_t0 x0 x1 (drift_Filter_Come_pi_Fi3_r0_4 x0 s0.c9 (wi (gt x5 s0.c6))) false), .b h4, .b h5, .b h6, .b h7, .b h8, .b h9, .b h10, .b h11, .b h12, .b h13] (by kernel_rfl)
                          · intro _
                            exact round_walk [.o 48 (fun _ => o_len_os (enc := (encI .i32)) (l := x5) (fl := true) (n := x4) (s := 1)), .b h1, .o 54 (fun _ => o_idx_os (enc := (encI .i32)) (l := x5) (fl := true) (n := x4) (s := 1) (k := .i64) h2), .c (drift_Filter_Level_p_Fi3_t0 x0 x1 s0.c9 false), .c (drift_Filter_Come_pi_Fi3_t0 x0 x1 s0.c9 (wi (gt x5 s0.c6)) h3), .c (drift_Filter_Level_p_Fi3_t0 x0 x1 (drift_Filter_Come_pi_Fi3_r0_4 x0 s0.c9 (wi (gt x5 s0.c6))) false), .b h4, .b h5, .b h6, .b h7, .b h8, .b h9, .b h10, .b h11, .b h12, .b h13, .b h10] (by kernel_rfl)
                        · intro g0
                          exact absurd g0 ft
                    · intro g0
                      exact absurd g0 ft
                · intro g0
                  exact absurd g0 ft
              · intro g0
                exact absurd g0 ft
            · intro g0
              exact absurd g0 ft
          · intro g0
            exact absurd g0 ft
        · intro g0
          exact absurd g0 ft

def law10_DriftBetween_L1_c0 (x0 : Int) (x5 : List Int) (s0 : law10_DriftBetween_L1_s0) : Bool := (bif tb (decide (s0.c6 < ((x5.length : Nat) : Int))) then (bif tb (inb x5.length s0.c6) then (bif tb (drift_Filter_Come_pi_Fi3_c0 x0 s0.c9 (wi (gt x5 s0.c6))) then true else false) else false) else false)

def law10_DriftBetween_L1_c1 (x5 : List Int) (s0 : law10_DriftBetween_L1_s0) : Bool := (bif tb (decide (s0.c6 < ((x5.length : Nat) : Int))) then false else true)

theorem law10_DriftBetween_L1_x0 (x0 : Int) (x1 : Int) (x2 : Int) (x3 : Bool) (x4 : Bool) (x5 : List Int) (x6 : Int) (x7 : Int) (x8 : Int) (x9 : Int) (x10 : Int) (s0 : law10_DriftBetween_L1_s0) : law10_DriftBetween_L1_sel x0 x5 x7 s0 = false → law10_DriftBetween_L1_c0 x0 x5 s0 = true → (roundG (runC E0 (cl E0) L4_1) [1, 2, 7, 8, 10, 11, 13] [2, 6, 8, 11] 1) (law10_DriftBetween_L1_enc x0 x1 x2 x3 x4 x5 x6 x7 x8 x9 x10 s0) = some (.ret, ([(V.d (.int .i16 x6)), (V.d (.bool false)), (V.ptr 0 1 0 0), (V.d (.int .i64 x9))], [(Blk.flat 92 3 [[(.int .i64 x0), (.int .i64 x1), (.int .i64 (drift_Filter_Come_pi_Fi3_r0_4 x0 s0.c9 (wi (gt x5 s0.c6))))]] false)])) := by
  unfold law10_DriftBetween_L1_sel law10_DriftBetween_L1_c0
  cases h1 : tb (decide (s0.c6 < ((x5.length : Nat) : Int)))
  · intro g0 g1
    exact absurd g1 ft
  · cases h2 : tb (inb x5.length s0.c6)
    · intro g0 g1
      exact absurd g1 ft
    · cases h3 : tb (drift_Filter_Come_pi_Fi3_c0 x0 s0.c9 (wi (gt x5 s0.c6)))
      · intro g0 g1
        exact absurd g1 ft
      · cases h4 : tb (((drift_Filter_Come_pi_Fi3_r0_1 (wi (gt x5 s0.c6))) : Int) != 0)
        · cases h5 : tb (decide ((drift_Filter_Come_pi_Fi3_r0_4 x0 s0.c9 (wi (gt x5 s0.c6))) < (mnI s0.c9 (wi (gt x5 s0.c6)))))
          · cases h6 : tb (decide ((mxI s0.c9 (wi (gt x5 s0.c6))) < (drift_Filter_Come_pi_Fi3_r0_4 x0 s0.c9 (wi (gt x5 s0.c6)))))
            · cases h7 : tb (decide ((law10_DriftBetween_L1_h0_e0 x5 s0) < (drift_Filter_Come_pi_Fi3_r0_4 x0 s0.c9 (wi (gt x5 s0.c6)))))
              · cases h8 : tb (decide ((drift_Filter_Come_pi_Fi3_r0_4 x0 s0.c9 (wi (gt x5 s0.c6))) < (wi (0 - (law10_DriftBetween_L1_h0_e0 x5 s0)))))
                · cases h9 : tb ((x7 : Int) == 0)
                  · cases h10 : tb (decide ((wi (gt x5 s0.c6)) < s0.c9))
                    · cases h11 : tb ((s0.c9 : Int) == (wi (gt x5 s0.c6)))
                      · intro g0 g1
                        exact absurd g0 tf
                      · cases h12 : tb (((drift_Filter_Come_pi_Fi3_r0_4 x0 s0.c9 (wi (gt x5 s0.c6))) : Int) != (wi (gt x5 s0.c6)))
                        · intro g0 g1
                          exact absurd g0 tf
                        · intro g0 g1
                          exact round_walk [.o 48 (fun _ => o_len_os (enc := (encI .i32)) (l := x5) (fl := true) (n := x4) (s := 1)), .b h1, .o 54 (fun _ => o_idx_os (enc := (encI .i32)) (l := x5) (fl := true) (n := x4) (s := 1) (k := .i64) h2), .c (drift_Filter_Level_p_Fi3_t0 x0 x1 s0.c9 false), .c (drift_Filter_Come_pi_Fi3_t0 x0 x1 s0.c9 (wi (gt x5 s0.c6)) h3), .c (drift_Filter_Level_p_Fi3_t0 x0 x1 (drift_Filter_Come_pi_Fi3_r0_4 x0 s0.c9 (wi (gt x5 s0.c6))) false), .b h4, .b h5, .b h6, .b h7, .b h8, .b h9, .b h10, .b h11, .b h12] (by kernel_rfl)
                    · cases h11 : tb (decide (s0.c9 ≤ (drift_Filter_Come_pi_Fi3_r0_4 x0 s0.c9 (wi (gt x5 s0.c6)))))
                      · cases h12 : tb ((s0.c9 : Int) == (wi (gt x5 s0.c6)))
                        · intro g0 g1
                          exact absurd g0 tf
                        · cases h13 : tb (((drift_Filter_Come_pi_Fi3_r0_4 x0 s0.c9 (wi (gt x5 s0.c6))) : Int) != (wi (gt x5 s0.c6)))
                          · intro g0 g1
                            exact absurd g0 tf
                          · intro g0 g1
                            exact round_walk [.o 48 (fun _ => o_len_os (enc := (encI .i32)) (l := x5) (fl := true) (n := x4) (s := 1)), .b h1, .o 54 (fun _ => o_idx_os (enc := (encI .i32)) (l := x5) (fl := true) (n := x4) (s := 1) (k := .i64) h2), .c (drift_Filter_Level_p_Fi3_t0 x0 x1 s0.c9 false), .c (drift_Filter_Come_pi_Fi3_t0 x0 x1 s0.c9 (wi (gt x5 s0.c6)) h3), .c (drift_Filter_Level_p_Fi3_t0 x0 x1 (drift_Filter_Come_pi_Fi3_r0_4 x0 s0.c9 (wi (gt x5 s0.c6))) false), .b h4, .b h5, .b h6, .b h7, .b h8, .b h9, .b h10, .b h11, .b h12, .b h13] (by kernel_rfl)
                      · intro g0 g1
                        exact round_walk [.o 48 (fun _ => o_len_os (enc := (encI .i32)) (l := x5) (fl := true) (n := x4) (s := 1)), .b h1, .o 54 (fun _ => o_idx_os (enc := (encI .i32)) (l := x5) (fl := true) (n := x4) (s := 1) (k := .i64) h2), .c (drift_Filter_Level_p_Fi3_t0 x0 x1 s0.c9 false), .c (drift_Filter_Come_pi_Fi3_t0 x0 x1 s0.c9 (wi (gt x5 s0.c6)) h3), .c (drift_Filter_Level_p_Fi3_t0 x0 x1 (drift_Filter_Come_pi_Fi3_r0_4 x0 s0.c9 (wi (gt x5 s0.c6))) false), .b h4, .b h5, .b h6, .b h7, .b h8, .b h9, .b h10, .b h11] (by kernel_rfl)
                  · cases h10 : tb (((drift_Filter_Come_pi_Fi3_r0_4 x0 s0.c9 (wi (gt x5 s0.c6))) : Int) != (wi (gt x5 s0.c6)))
                    · cases h11 : tb (decide ((wi (gt x5 s0.c6)) < s0.c9))
                      · cases h12 : tb ((s0.c9 : Int) == (wi (gt x5 s0.c6)))
                        · intro g0 g1
                          exact absurd g0 tf
                        · intro g0 g1
                          exact absurd g0 tf
                      · cases h12 : tb (decide (s0.c9 ≤ (drift_Filter_Come_pi_Fi3_r0_4 x0 s0.c9 (wi (gt x5 s0.c6)))))
                        · cases h13 : tb ((s0.c9 : Int) == (wi (gt x5 s0.c6)))
                          · intro g0 g1
                            exact absurd g0 tf
                          · intro g0 g1
                            exact absurd g0 tf
                        · intro g0 g1
                          exact round_walk [.o 48 (fun _ => o_len_os (enc := (encI .i32)) (l := x5) (fl := true) (n := x4) (s := 1)), .b h1, .o 54 (fun _ => o_idx_os (enc := (encI .i32)) (l := x5) (fl := true) (n := x4) (s := 1) (k := .i64) h2), .c (drift_Filter_Level_p_Fi3_t0 x0 x1 s0.c9 false), .c (drift_Filter_Come_pi_Fi3_t0 x0 x1 s0.c9 (wi (gt x5 s0.c6)) h3), .c (drift_Filter_Level_p_Fi3_t0 x0 x1 (drift_Filter_Come_pi_Fi3_r0_4 x0 s0.c9 (wi (gt x5 s0.c6))) false), .b h4, .b h5, .b h6, .b h7, .b h8, .b h9, .b h10, .b h11, .b h12] (by kernel_rfl)
                    · intro g0 g1
                      exact round_walk [.o 48 (fun _ => o_len_os (enc := (encI .i32)) (l := x5) (fl := true) (n := x4) (s := 1)), .b h1, .o 54 (fun _ => o_idx_os (enc := (encI .i32)) (l := x5) (fl := true) (n := x4) (s := 1) (k := .i64) h2), .c (drift_Filter_Level_p_Fi3_t0 x0 x1 s0.c9 false), .c (drift_Filter_Come_pi_Fi3_t0 x0 x1 s0.c9 (wi (gt x5 s0.c6)) h3), .c (drift_Filter_Level_p_Fi3_t0 x0 x1 (drift_Filter_Come_pi_Fi3_r0_4 x0 s0.c9 (wi (gt x5 s0.c6))) false), .b h4, .b h5, .b h6, .b h7, .b h8, .b h9, .b h10] (by kernel_rfl)
                · intro g0 g1
                  exact round_walk [.o 48 (fun _ => o_len_os (enc := (encI .i32)) (l := x5) (fl := true) (n := x4) (s := 1)), .b h1, .o 54 (fun _ => o_idx_os (enc := (encI .i32)) (l := x5) (fl := true) (n := x4) (s := 1) (k := .i64) h2), .c (drift_Filter_Level_p_Fi3_t0 x0 x1 s0.c9 false), .c (drift_Filter_Come_pi_Fi3_t0 x0 x1 s0.c9 (wi (gt x5 s0.c6)) h3), .c (drift_Filter_Level_p_Fi3_t0 x0 x1 (drift_Filter_Come_pi_Fi3_r0_4 x0 s0.c9 (wi (gt x5 s0.c6))) false), .b h4, .b h5, .b h6, .b h7, .b h8] (by kernel_rfl)
              · intro g0 g1
                exact round_walk [.o 48 (fun _ => o_len_os (enc := (encI .i32)) (l := x5) (fl := true) (n := x4) (s := 1)), .b h1, .o 54 (fun _ => o_idx_os (enc := (encI .i32)) (l := x5) (fl := true) (n := x4) (s := 1) (k := .i64) h2), .c (drift_Filter_Level_p_Fi3_t0 x0 x1 s0.c9 false), .c (drift_Filter_Come_pi_Fi3_t0 x0 x1 s0.c9 (wi (gt x5 s0.c6)) h3), .c (drift_Filter_Level_p_Fi3_t0 x0 x1 (drift_Filter_Come_pi_Fi3_r0_4 x0 s0.c9 (wi (gt x5 s0.c6))) false), .b h4, .b h5, .b h6, .b h7] (by kernel_rfl)
            · intro g0 g1
              exact round_walk [.o 48 (fun _ => o_len_os (enc := (encI .i32)) (l := x5) (fl := true) (n := x4) (s := 1)), .b h1, .o 54 (fun _ => o_idx_os (enc := (encI .i32)) (l := x5) (fl := true) (n := x4) (s := 1) (k := .i64) h2), .c (drift_Filter_Level_p_Fi3_t0 x0 x1 s0.c9 false), .c (drift_Filter_Come_pi_Fi3_t0 x0 x1 s0.c9 (wi (gt x5 s0.c6)) h3), .c (drift_Filter_Level_p_Fi3_t0 x0 x1 (drift_Filter_Come_pi_Fi3_r0_4 x0 s0.c9 (wi (gt x5 s0.c6))) false), .b h4, .b h5, .b h6] (by kernel_rfl)
          · intro g0 g1
            exact round_walk [.o 48 (fun _ => o_len_os (enc := (encI .i32)) (l := x5) (fl := true) (n := x4) (s := 1)), .b h1, .o 54 (fun _ => o_idx_os (enc := (encI .i32)) (l := x5) (fl := true) (n := x4) (s := 1) (k := .i64) h2), .c (drift_Filter_Level_p_Fi3_t0 x0 x1 s0.c9 false), .c (drift_Filter_Come_pi_Fi3_t0 x0 x1 s0.c9 (wi (gt x5 s0.c6)) h3), .c (drift_Filter_Level_p_Fi3_t0 x0 x1 (drift_Filter_Come_pi_Fi3_r0_4 x0 s0.c9 (wi (gt x5 s0.c6))) false), .b h4, .b h5] (by kernel_rfl)
        · intro g0 g1
          exact round_walk [.o 48 (fun _ => o_len_os (enc := (encI .i32)) (l := x5) (fl := true) (n := x4) (s := 1)), .b h1, .o 54 (fun _ => o_idx_os (enc := (encI .i32)) (l := x5) (fl := true) (n := x4) (s := 1) (k := .i64) h2), .c (drift_Filter_Level_p_Fi3_t0 x0 x1 s0.c9 false), .c (drift_Filter_Come_pi_Fi3_t0 x0 x1 s0.c9 (wi (gt x5 s0.c6)) h3), .c (drift_Filter_Level_p_Fi3_t0 x0 x1 (drift_Filter_Come_pi_Fi3_r0_4 x0 s0.c9 (wi (gt x5 s0.c6))) false), .b h4] (by kernel_rfl)

theorem law10_DriftBetween_L1_x1 (x0 : Int) (x1 : Int) (x2 : Int) (x3 : Bool) (x4 : Bool) (x5 : List Int) (x6 : Int) (x7 : Int) (x8 : Int) (x9 : Int) (x10 : Int) (s0 : law10_DriftBetween_L1_s0) : law10_DriftBetween_L1_sel x0 x5 x7 s0 = false → law10_DriftBetween_L1_c0 x0 x5 s0 = false → law10_DriftBetween_L1_c1 x5 s0 = true → (roundG (runC E0 (cl E0) L4_1) [1, 2, 7, 8, 10, 11, 13] [2, 6, 8, 11] 1) (law10_DriftBetween_L1_enc x0 x1 x2 x3 x4 x5 x6 x7 x8 x9 x10 s0) = some ((.exit 2), ([(V.d (.int .i16 x6)), V.un, (V.ptr 0 1 0 0), (V.d (.int .i64 x9))], [(Blk.flat 92 3 [[(.int .i64 x0), (.int .i64 x1), (.int .i64 s0.c9)]] false)])) := by
  unfold law10_DriftBetween_L1_sel law10_DriftBetween_L1_c0 law10_DriftBetween_L1_c1
  cases h1 : tb (decide (s0.c6 < ((x5.length : Nat) : Int)))
  · intro g0 g1 g2
    exact round_walk [.o 48 (fun _ => o_len_os (enc := (encI .i32)) (l := x5) (fl := true) (n := x4) (s := 1)), .b h1] (by kernel_rfl)
  · cases h2 : tb (inb x5.length s0.c6)
    · intro g0 g1 g2
      exact absurd g2 ft
    · cases h3 : tb (drift_Filter_Come_pi_Fi3_c0 x0 s0.c9 (wi (gt x5 s0.c6)))
      · intro g0 g1 g2
        exact absurd g2 ft
      · cases h4 : tb (((drift_Filter_Come_pi_Fi3_r0_1 (wi (gt x5 s0.c6))) : Int) != 0)
        · cases h5 : tb (decide ((drift_Filter_Come_pi_Fi3_r0_4 x0 s0.c9 (wi (gt x5 s0.c6))) < (mnI s0.c9 (wi (gt x5 s0.c6)))))
          · cases h6 : tb (decide ((mxI s0.c9 (wi (gt x5 s0.c6))) < (drift_Filter_Come_pi_Fi3_r0_4 x0 s0.c9 (wi (gt x5 s0.c6)))))
            · cases h7 : tb (decide ((law10_DriftBetween_L1_h0_e0 x5 s0) < (drift_Filter_Come_pi_Fi3_r0_4 x0 s0.c9 (wi (gt x5 s0.c6)))))
              · cases h8 : tb (decide ((drift_Filter_Come_pi_Fi3_r0_4 x0 s0.c9 (wi (gt x5 s0.c6))) < (wi (0 - (law10_DriftBetween_L1_h0_e0 x5 s0)))))
                · cases h9 : tb ((x7 : Int) == 0)
                  · cases h10 : tb (decide ((wi (gt x5 s0.c6)) < s0.c9))
                    · cases h11 : tb ((s0.c9 : Int) == (wi (gt x5 s0.c6)))
                      · intro g0 g1 g2
                        exact absurd g0 tf
                      · cases h12 : tb (((drift_Filter_Come_pi_Fi3_r0_4 x0 s0.c9 (wi (gt x5 s0.c6))) : Int) != (wi (gt x5 s0.c6)))
                        · intro g0 g1 g2
                          exact absurd g0 tf
                        · intro g0 g1 g2
                          exact absurd g1 tf
                    · cases h11 : tb (decide (s0.c9 ≤ (drift_Filter_Come_pi_Fi3_r0_4 x0 s0.c9 (wi (gt x5 s0.c6)))))
                      · cases h12 : tb ((s0.c9 : Int) == (wi (gt x5 s0.c6)))
                        · intro g0 g1 g2
                          exact absurd g0 tf
                        · cases h13 : tb (((drift_Filter_Come_pi_Fi3_r0_4 x0 s0.c9 (wi (gt x5 s0.c6))) : Int) != (wi (gt x5 s0.c6)))
                          · intro g0 g1 g2
                            exact absurd g0 tf
                          · intro g0 g1 g2
                            exact absurd g1 tf
                      · intro g0 g1 g2
                        exact absurd g1 tf
                  · cases h10 : tb (((drift_Filter_Come_pi_Fi3_r0_4 x0 s0.c9 (wi (gt x5 s0.c6))) : Int) != (wi (gt x5 s0.c6)))
                    · cases h11 : tb (decide ((wi (gt x5 s0.c6)) < s0.c9))
                      · cases h12 : tb ((s0.c9 : Int) == (wi (gt x5 s0.c6)))
                        · intro g0 g1 g2
                          exact absurd g0 tf
                        · intro g0 g1 g2
                          exact absurd g0 tf
                      · cases h12 : tb (decide (s0.c9 ≤ (drift_Filter_Come_pi_Fi3_r0_4 x0 s0.c9 (wi (gt x5 s0.c6)))))
                        · cases h13 : tb ((s0.c9 : Int) == (wi (gt x5 s0.c6)))
                          · intro g0 g1 g2
                            exact absurd g0 tf
                          · intro g0 g1 g2
                            exact absurd g0 tf
                        · intro g0 g1 g2
                          exact absurd g1 tf
                    · intro g0 g1 g2
                      exact absurd g1 tf
                · intro g0 g1 g2
                  exact absurd g1 tf
              · intro g0 g1 g2
                exact absurd g1 tf
            · intro g0 g1 g2
              exact absurd g1 tf
          · intro g0 g1 g2
            exact absurd g1 tf
        · intro g0 g1 g2
          exact absurd g1 tf

theorem law10_DriftBetween_L1_f0_0 (x0 : Int) (x1 : Int) (x2 : Int) (x3 : Bool) (x4 : Bool) (x5 : List Int) (x6 : Int) (x7 : Int) (x8 : Int) (x9 : Int) (x10 : Int) (s : law10_DriftBetween_L1_s0) (hok : law10_DriftBetween_L1_ok x0 x5 x7 s = true) (c0 : law10_DriftBetween_L1_c0 x0 x5 (law10_DriftBetween_L1_end x0 x5 x7 s) = true) : loopG (roundG (runC E0 (cl E0) L4_1) [1, 2, 7, 8, 10, 11, 13] [2, 6, 8, 11] 1) bound (law10_DriftBetween_L1_enc x0 x1 x2 x3 x4 x5 x6 x7 x8 x9 x10 s) = some (.ret, ([(V.d (.int .i16 x6)), (V.d (.bool false)), (V.ptr 0 1 0 0), (V.d (.int .i64 x9))], [(Blk.flat 92 3 [[(.int .i64 x0), (.int .i64 x1), (.int .i64 (drift_Filter_Come_pi_Fi3_r0_4 x0 (law10_DriftBetween_L1_end x0 x5 x7 s).c9 (wi (gt x5 (law10_DriftBetween_L1_end x0 x5 x7 s).c6))))]] false)])) := by
  have e : itS (law10_DriftBetween_L1_sel x0 x5 x7) (law10_DriftBetween_L1_nx x0 x5 x7) bound s = some (law10_DriftBetween_L1_end x0 x5 x7 s) := itS_get hok
  have f := itS_false e
  exact loop_it (law10_DriftBetween_L1_go x0 x1 x2 x3 x4 x5 x6 x7 x8 x9 x10) bound s _ _ _ e (fun h => by cases h) (law10_DriftBetween_L1_x0 x0 x1 x2 x3 x4 x5 x6 x7 x8 x9 x10 (law10_DriftBetween_L1_end x0 x5 x7 s) f c0)

theorem law10_DriftBetween_L1_f0_1 (x0 : Int) (x1 : Int) (x2 : Int) (x3 : Bool) (x4 : Bool) (x5 : List Int) (x6 : Int) (x7 : Int) (x8 : Int) (x9 : Int) (x10 : Int) (s : law10_DriftBetween_L1_s0) (hok : law10_DriftBetween_L1_ok x0 x5 x7 s = true) (c0 : law10_DriftBetween_L1_c0 x0 x5 (law10_DriftBetween_L1_end x0 x5 x7 s) = false) (c1 : law10_DriftBetween_L1_c1 x5 (law10_DriftBetween_L1_end x0 x5 x7 s) = true) : loopG (roundG (runC E0 (cl E0) L4_1) [1, 2, 7, 8, 10, 11, 13] [2, 6, 8, 11] 1) bound (law10_DriftBetween_L1_enc x0 x1 x2 x3 x4 x5 x6 x7 x8 x9 x10 s) = some ((.exit 2), ([(V.d (.int .i16 x6)), V.un, (V.ptr 0 1 0 0), (V.d (.int .i64 x9))], [(Blk.flat 92 3 [[(.int .i64 x0), (.int .i64 x1), (.int .i64 ((law10_DriftBetween_L1_end x0 x5 x7 s).c9))]] false)])) := by
  have e : itS (law10_DriftBetween_L1_sel x0 x5 x7) (law10_DriftBetween_L1_nx x0 x5 x7) bound s = some (law10_DriftBetween_L1_end x0 x5 x7 s) := itS_get hok
  have f := itS_false e
  exact loop_it (law10_DriftBetween_L1_go x0 x1 x2 x3 x4 x5 x6 x7 x8 x9 x10) bound s _ _ _ e (fun h => by cases h) (law10_DriftBetween_L1_x1 x0 x1 x2 x3 x4 x5 x6 x7 x8 x9 x10 (law10_DriftBetween_L1_end x0 x5 x7 s) f c0 c1)

structure law10_DriftBetween_L2_s0 where
  c2 : Int
  c5 : Int
  deriving Inhabited

def law10_DriftBetween_L2_enc (x0 : Int) (x1 : Int) (x2 : Int) (x3 : Bool) (x4 : Int) (x5 : Int) (x6 : Int) (s0 : law10_DriftBetween_L2_s0) : List V × Mem := ([(V.d (.int .i16 x4)), (V.ptr 0 1 0 0), (V.d (.int .i64 x5)), (V.d (.int .i64 s0.c2))], [(Blk.flat 92 3 [[(.int .i64 x0), (.int .i64 x1), (.int .i64 s0.c5)]] false)])

def law10_DriftBetween_L2_sel (x0 : Int) (x4 : Int) (x5 : Int) (s0 : law10_DriftBetween_L2_s0) : Bool := (bif tb (decide (s0.c2 < (wi (40 * x5)))) then (bif tb (drift_Filter_Come_pi_Fi3_c0 x0 s0.c5 (wi (x4))) then true else false) else false)

def law10_DriftBetween_L2_nx (x0 : Int) (x4 : Int) (x5 : Int) (s0 : law10_DriftBetween_L2_s0) : law10_DriftBetween_L2_s0 := ⟨(wi (s0.c2 + 1)), (drift_Filter_Come_pi_Fi3_r0_4 x0 s0.c5 (wi (x4)))⟩

def law10_DriftBetween_L2_ok (x0 : Int) (x4 : Int) (x5 : Int) (s0 : law10_DriftBetween_L2_s0) : Bool := (itS (law10_DriftBetween_L2_sel x0 x4 x5) (law10_DriftBetween_L2_nx x0 x4 x5) bound s0).isSome
def law10_DriftBetween_L2_end (x0 : Int) (x4 : Int) (x5 : Int) (s0 : law10_DriftBetween_L2_s0) : law10_DriftBetween_L2_s0 := (itS (law10_DriftBetween_L2_sel x0 x4 x5) (law10_DriftBetween_L2_nx x0 x4 x5) bound s0).getD default

theorem law10_DriftBetween_L2_go (x0 : Int) (x1 : Int) (x2 : Int) (x3 : Bool) (x4 : Int) (x5 : Int) (x6 : Int) (s0 : law10_DriftBetween_L2_s0) : law10_DriftBetween_L2_sel x0 x4 x5 s0 = true → (roundG (runC E0 (cl E0) L4_2) [2, 8, 11, 19] [2, 8, 11] 1) (law10_DriftBetween_L2_enc x0 x1 x2 x3 x4 x5 x6 s0) = some (.normal, law10_DriftBetween_L2_enc x0 x1 x2 x3 x4 x5 x6 (law10_DriftBetween_L2_nx x0 x4 x5 s0)) := by
  unfold law10_DriftBetween_L2_sel law10_DriftBetween_L2_nx
  cases h1 : tb (decide (s0.c2 < (wi (40 * x5))))
  · intro g0
    exact absurd g0 ft
  · cases h2 : tb (drift_Filter_Come_pi_Fi3_c0 x0 s0.c5 (wi (x4)))
    · intro g0
      exact absurd g0 ft
    · intro _
      exact round_walk [.b h1, .c (drift_Filter_Come_pi_Fi3_t0 x0 x1 s0.c5 (wi (x4)) h2)] (by kernel_rfl)

def law10_DriftBetween_L2_c0 (x5 : Int) (s0 : law10_DriftBetween_L2_s0) : Bool := (bif tb (decide (s0.c2 < (wi (40 * x5)))) then false else true)

theorem law10_DriftBetween_L2_x0 (x0 : Int) (x1 : Int) (x2 : Int) (x3 : Bool) (x4 : Int) (x5 : Int) (x6 : Int) (s0 : law10_DriftBetween_L2_s0) : law10_DriftBetween_L2_sel x0 x4 x5 s0 = false → law10_DriftBetween_L2_c0 x5 s0 = true → (roundG (runC E0 (cl E0) L4_2) [2, 8, 11, 19] [2, 8, 11] 1) (law10_DriftBetween_L2_enc x0 x1 x2 x3 x4 x5 x6 s0) = some ((.exit 4), ([(V.d (.int .i16 x4)), (V.ptr 0 1 0 0), (V.d (.int .i64 x5))], [(Blk.flat 92 3 [[(.int .i64 x0), (.int .i64 x1), (.int .i64 s0.c5)]] false)])) := by
  unfold law10_DriftBetween_L2_sel law10_DriftBetween_L2_c0
  cases h1 : tb (decide (s0.c2 < (wi (40 * x5))))
  · intro g0 g1
    exact round_walk [.b h1] (by kernel_rfl)
  · cases h2 : tb (drift_Filter_Come_pi_Fi3_c0 x0 s0.c5 (wi (x4)))
    · intro g0 g1
      exact absurd g1 ft
    · intro g0 g1
      exact absurd g0 tf

theorem law10_DriftBetween_L2_f0_0 (x0 : Int) (x1 : Int) (x2 : Int) (x3 : Bool) (x4 : Int) (x5 : Int) (x6 : Int) (s : law10_DriftBetween_L2_s0) (hok : law10_DriftBetween_L2_ok x0 x4 x5 s = true) (c0 : law10_DriftBetween_L2_c0 x5 (law10_DriftBetween_L2_end x0 x4 x5 s) = true) : loopG (roundG (runC E0 (cl E0) L4_2) [2, 8, 11, 19] [2, 8, 11] 1) bound (law10_DriftBetween_L2_enc x0 x1 x2 x3 x4 x5 x6 s) = some ((.exit 4), ([(V.d (.int .i16 x4)), (V.ptr 0 1 0 0), (V.d (.int .i64 x5))], [(Blk.flat 92 3 [[(.int .i64 x0), (.int .i64 x1), (.int .i64 ((law10_DriftBetween_L2_end x0 x4 x5 s).c5))]] false)])) := by
  have e : itS (law10_DriftBetween_L2_sel x0 x4 x5) (law10_DriftBetween_L2_nx x0 x4 x5) bound s = some (law10_DriftBetween_L2_end x0 x4 x5 s) := itS_get hok
  have f := itS_false e
  exact loop_it (law10_DriftBetween_L2_go x0 x1 x2 x3 x4 x5 x6) bound s _ _ _ e (fun h => by cases h) (law10_DriftBetween_L2_x0 x0 x1 x2 x3 x4 x5 x6 (law10_DriftBetween_L2_end x0 x4 x5 s) f c0)

def law10_DriftBetween_e0 (x0 : Int) : law10_DriftBetween_L0_s0 := law10_DriftBetween_L0_end (wi (remI .u8 x0 9)) (⟨1, 0⟩ : law10_DriftBetween_L0_s0)

def law10_DriftBetween_e1 (x0 : Int) (x2 : List Int) : law10_DriftBetween_L1_s0 := law10_DriftBetween_L1_end (wi (remI .u8 x0 9)) x2 (wi (remI .u8 x0 9)) (⟨0, 0, 0⟩ : law10_DriftBetween_L1_s0)

def law10_DriftBetween_e2 (x0 : Int) (x3 : Int) : law10_DriftBetween_L2_s0 := law10_DriftBetween_L2_end (wi (remI .u8 x0 9)) x3 ((law10_DriftBetween_e0 x0).c5) (⟨0, 0⟩ : law10_DriftBetween_L2_s0)

def law10_DriftBetween_c0 (x0 : Int) (x2 : List Int) (x3 : Int) : Bool := (bif tb (decide (200 < ((x2.length : Nat) : Int))) then true else (bif tb (drift_New_ii_c0 (wi (remI .u8 x0 9)) 2147483647) then true else (bif tb (law10_DriftBetween_L0_ok (wi (remI .u8 x0 9)) (⟨1, 0⟩ : law10_DriftBetween_L0_s0)) then (bif tb (law10_DriftBetween_L1_ok (wi (remI .u8 x0 9)) x2 (wi (remI .u8 x0 9)) (⟨0, 0, 0⟩ : law10_DriftBetween_L1_s0)) then (bif tb (law10_DriftBetween_L1_c0 (wi (remI .u8 x0 9)) x2 (law10_DriftBetween_e1 x0 x2)) then true else (bif tb (law10_DriftBetween_L1_c1 x2 (law10_DriftBetween_e1 x0 x2)) then (bif tb (law10_DriftBetween_L2_ok (wi (remI .u8 x0 9)) x3 ((law10_DriftBetween_e0 x0).c5) (⟨0, 0⟩ : law10_DriftBetween_L2_s0)) then (bif tb (law10_DriftBetween_L2_c0 ((law10_DriftBetween_e0 x0).c5) (law10_DriftBetween_e2 x0 x3)) then true else false) else false) else false)) else false) else false)))

def law10_DriftBetween_r0_0 (x0 : Int) (x2 : List Int) (x3 : Int) : Bool := (bif tb (decide (200 < ((x2.length : Nat) : Int))) then true else (bif tb (drift_New_ii_c0 (wi (remI .u8 x0 9)) 2147483647) then false else (bif tb (law10_DriftBetween_L1_c0 (wi (remI .u8 x0 9)) x2 (law10_DriftBetween_e1 x0 x2)) then false else (bif tb (decide (((law10_DriftBetween_e2 x0 x3).c5) ≤ (mxI 0 (wi (x3))))) then (bif tb (decide (0 < (wi (x3)))) then (bif tb (decide ((wi (x3)) ≤ 0)) then true else (decide ((wi ((wi (x3)) - ((law10_DriftBetween_e2 x0 x3).c5))) < ((law10_DriftBetween_e0 x0).c5)))) else (bif tb ((((law10_DriftBetween_e2 x0 x3).c5) : Int) == (wi (x3))) then (bif tb (decide ((wi (x3)) ≤ 0)) then true else (decide ((wi ((wi (x3)) - ((law10_DriftBetween_e2 x0 x3).c5))) < ((law10_DriftBetween_e0 x0).c5)))) else false)) else false))))

theorem law10_DriftBetween_t0 (x0 : Int) (x1 : Bool) (x2 : List Int) (x3 : Int) : law10_DriftBetween_c0 x0 x2 x3 = true → cl E0 4 [(V.d (.int .u8 x0)), (V.d (slD (encI .i32) true 1 x1 x2)), (V.d (.int .i16 x3))] [] = some ([(V.d (.bool (law10_DriftBetween_r0_0 x0 x2 x3)))], []) := by
  unfold law10_DriftBetween_c0 law10_DriftBetween_r0_0
  cases h1 : tb (decide (200 < ((x2.length : Nat) : Int)))
  · cases h2 : tb (drift_New_ii_c0 (wi (remI .u8 x0 9)) 2147483647)
    · cases h3 : tb (law10_DriftBetween_L0_ok (wi (remI .u8 x0 9)) (⟨1, 0⟩ : law10_DriftBetween_L0_s0))
      · intro g0
        exact absurd g0 ft
      · cases h4 : tb (law10_DriftBetween_L1_ok (wi (remI .u8 x0 9)) x2 (wi (remI .u8 x0 9)) (⟨0, 0, 0⟩ : law10_DriftBetween_L1_s0))
        · intro g0
          exact absurd g0 ft
        · cases h5 : tb (law10_DriftBetween_L1_c0 (wi (remI .u8 x0 9)) x2 (law10_DriftBetween_e1 x0 x2))
          · cases h6 : tb (law10_DriftBetween_L1_c1 x2 (law10_DriftBetween_e1 x0 x2))
            · intro g0
              exact absurd g0 ft
            · cases h7 : tb (law10_DriftBetween_L2_ok (wi (remI .u8 x0 9)) x3 ((law10_DriftBetween_e0 x0).c5) (⟨0, 0⟩ : law10_DriftBetween_L2_s0))
              · intro g0
                exact absurd g0 ft
              · cases h8 : tb (law10_DriftBetween_L2_c0 ((law10_DriftBetween_e0 x0).c5) (law10_DriftBetween_e2 x0 x3))
                · intro g0
                  exact absurd g0 ft
                · cases h9 : tb (decide (((law10_DriftBetween_e2 x0 x3).c5) ≤ (mxI 0 (wi (x3)))))
                  · intro g0
                    exact w4 [.o 22 (fun _ => o_len_os (enc := (encI .i32)) (l := x2) (fl := true) (n := x1) (s := 1)), .b h1, .c (drift_New_ii_t1 (wi (remI .u8 x0 9)) 2147483647 h2), .k false, .k false, .l (law10_DriftBetween_L0_f0_0 (wi (remI .u8 x0 9)) 2147483647 0 false x1 x2 x3 (wi (remI .u8 x0 9)) 0 1 0 (⟨1, 0⟩ : law10_DriftBetween_L0_s0) h3), .l (law10_DriftBetween_L1_f0_1 (wi (remI .u8 x0 9)) 2147483647 0 false x1 x2 x3 (wi (remI .u8 x0 9)) 0 ((law10_DriftBetween_e0 x0).c5) 0 (⟨0, 0, 0⟩ : law10_DriftBetween_L1_s0) h4 h5 h6), .c (drift_Filter_Clear_p_Fi3_t0 (wi (remI .u8 x0 9)) 2147483647 ((law10_DriftBetween_e1 x0 x2).c9)), .l (law10_DriftBetween_L2_f0_0 (wi (remI .u8 x0 9)) 2147483647 0 false x3 ((law10_DriftBetween_e0 x0).c5) 0 (⟨0, 0⟩ : law10_DriftBetween_L2_s0) h7 h8), .c (drift_Filter_Level_p_Fi3_t0 (wi (remI .u8 x0 9)) 2147483647 ((law10_DriftBetween_e2 x0 x3).c5) false), .c (law10_alive_t0), .k true, .b h9] (by kernel_rfl)
                  · cases h10 : tb (decide (0 < (wi (x3))))
                    · cases h11 : tb ((((law10_DriftBetween_e2 x0 x3).c5) : Int) == (wi (x3)))
                      · intro g0
                        exact w4 [.o 22 (fun _ => o_len_os (enc := (encI .i32)) (l := x2) (fl := true) (n := x1) (s := 1)), .b h1, .c (drift_New_ii_t1 (wi (remI .u8 x0 9)) 2147483647 h2), .k false, .k false, .l (law10_DriftBetween_L0_f0_0 (wi (remI .u8 x0 9)) 2147483647 0 false x1 x2 x3 (wi (remI .u8 x0 9)) 0 1 0 (⟨1, 0⟩ : law10_DriftBetween_L0_s0) h3), .l (law10_DriftBetween_L1_f0_1 (wi (remI .u8 x0 9)) 2147483647 0 false x1 x2 x3 (wi (remI .u8 x0 9)) 0 ((law10_DriftBetween_e0 x0).c5) 0 (⟨0, 0, 0⟩ : law10_DriftBetween_L1_s0) h4 h5 h6), .c (drift_Filter_Clear_p_Fi3_t0 (wi (remI .u8 x0 9)) 2147483647 ((law10_DriftBetween_e1 x0 x2).c9)), .l (law10_DriftBetween_L2_f0_0 (wi (remI .u8 x0 9)) 2147483647 0 false x3 ((law10_DriftBetween_e0 x0).c5) 0 (⟨0, 0⟩ : law10_DriftBetween_L2_s0) h7 h8), .c (drift_Filter_Level_p_Fi3_t0 (wi (remI .u8 x0 9)) 2147483647 ((law10_DriftBetween_e2 x0 x3).c5) false), .c (law10_alive_t0), .k true, .b h9, .b h10, .b h11] (by kernel_rfl)
                      · cases h12 : tb (decide ((wi (x3)) ≤ 0))
                        · intro g0
                          exact w4 [.o 22 (fun _ => o_len_os (enc := (encI .i32)) (l := x2) (fl := true) (n := x1) (s := 1)), .b h1, .c (drift_New_ii_t1 (wi (remI .u8 x0 9)) 2147483647 h2), .k false, .k false, .l (law10_DriftBetween_L0_f0_0 (wi (remI .u8 x0 9)) 2147483647 0 false x1 x2 x3 (wi (remI .u8 x0 9)) 0 1 0 (⟨1, 0⟩ : law10_DriftBetween_L0_s0) h3), .l (law10_DriftBetween_L1_f0_1 (wi (remI .u8 x0 9)) 2147483647 0 false x1 x2 x3 (wi (remI .u8 x0 9)) 0 ((law10_DriftBetween_e0 x0).c5) 0 (⟨0, 0, 0⟩ : law10_DriftBetween_L1_s0) h4 h5 h6), .c (drift_Filter_Clear_p_Fi3_t0 (wi (remI .u8 x0 9)) 2147483647 ((law10_DriftBetween_e1 x0 x2).c9)), .l (law10_DriftBetween_L2_f0_0 (wi (remI .u8 x0 9)) 2147483647 0 false x3 ((law10_DriftBetween_e0 x0).c5) 0 (⟨0, 0⟩ : law10_DriftBetween_L2_s0) h7 h8), .c (drift_Filter_Level_p_Fi3_t0 (wi (remI .u8 x0 9)) 2147483647 ((law10_DriftBetween_e2 x0 x3).c5) false), .c (law10_alive_t0), .k true, .b h9, .b h10, .b h11, .b h12] (by kernel_rfl)
                        · intro g0
                          exact w4 [.o 22 (fun _ => o_len_os (enc := (encI .i32)) (l := x2) (fl := true) (n := x1) (s := 1)), .b h1, .c (drift_New_ii_t1 (wi (remI .u8 x0 9)) 2147483647 h2), .k false, .k false, .l (law10_DriftBetween_L0_f0_0 (wi (remI .u8 x0 9)) 2147483647 0 false x1 x2 x3 (wi (remI .u8 x0 9)) 0 1 0 (⟨1, 0⟩ : law10_DriftBetween_L0_s0) h3), .l (law10_DriftBetween_L1_f0_1 (wi (remI .u8 x0 9)) 2147483647 0 false x1 x2 x3 (wi (remI .u8 x0 9)) 0 ((law10_DriftBetween_e0 x0).c5) 0 (⟨0, 0, 0⟩ : law10_DriftBetween_L1_s0) h4 h5 h6), .c (drift_Filter_Clear_p_Fi3_t0 (wi (remI .u8 x0 9)) 2147483647 ((law10_DriftBetween_e1 x0 x2).c9)), .l (law10_DriftBetween_L2_f0_0 (wi (remI .u8 x0 9)) 2147483647 0 false x3 ((law10_DriftBetween_e0 x0).c5) 0 (⟨0, 0⟩ : law10_DriftBetween_L2_s0) h7 h8), .c (drift_Filter_Level_p_Fi3_t0 (wi (remI .u8 x0 9)) 2147483647 ((law10_DriftBetween_e2 x0 x3).c5) false), .c (law10_alive_t0), .k true, .b h9, .b h10, .b h11, .b h12] (by kernel_rfl)
                    · cases h11 : tb (decide ((wi (x3)) ≤ 0))
                      · intro g0
                        exact w4 [.o 22 (fun _ => o_len_os (enc := (encI .i32)) (l := x2) (fl := true) (n := x1) (s := 1)), .b h1, .c (drift_New_ii_t1 (wi (remI .u8 x0 9)) 2147483647 h2), .k false, .k false, .l (law10_DriftBetween_L0_f0_0 (wi (remI .u8 x0 9)) 2147483647 0 false x1 x2 x3 (wi (remI .u8 x0 9)) 0 1 0 (⟨1, 0⟩ : law10_DriftBetween_L0_s0) h3), .l (law10_DriftBetween_L1_f0_1 (wi (remI .u8 x0 9)) 2147483647 0 false x1 x2 x3 (wi (remI .u8 x0 9)) 0 ((law10_DriftBetween_e0 x0).c5) 0 (⟨0, 0, 0⟩ : law10_DriftBetween_L1_s0) h4 h5 h6), .c (drift_Filter_Clear_p_Fi3_t0 (wi (remI .u8 x0 9)) 2147483647 ((law10_DriftBetween_e1 x0 x2).c9)), .l (law10_DriftBetween_L2_f0_0 (wi (remI .u8 x0 9)) 2147483647 0 false x3 ((law10_DriftBetween_e0 x0).c5) 0 (⟨0, 0⟩ : law10_DriftBetween_L2_s0) h7 h8), .c (drift_Filter_Level_p_Fi3_t0 (wi (remI .u8 x0 9)) 2147483647 ((law10_DriftBetween_e2 x0 x3).c5) false), .c (law10_alive_t0), .k true, .b h9, .b h10, .b h11] (by kernel_rfl)
                      · intro g0
                        exact w4 [.o 22 (fun _ => o_len_os (enc := (encI .i32)) (l := x2) (fl := true) (n := x1) (s := 1)), .b h1, .c (drift_New_ii_t1 (wi (remI .u8 x0 9)) 2147483647 h2), .k false, .k false, .l (law10_DriftBetween_L0_f0_0 (wi (remI .u8 x0 9)) 2147483647 0 false x1 x2 x3 (wi (remI .u8 x0 9)) 0 1 0 (⟨1, 0⟩ : law10_DriftBetween_L0_s0) h3), .l (law10_DriftBetween_L1_f0_1 (wi (remI .u8 x0 9)) 2147483647 0 false x1 x2 x3 (wi (remI .u8 x0 9)) 0 ((law10_DriftBetween_e0 x0).c5) 0 (⟨0, 0, 0⟩ : law10_DriftBetween_L1_s0) h4 h5 h6), .c (drift_Filter_Clear_p_Fi3_t0 (wi (remI .u8 x0 9)) 2147483647 ((law10_DriftBetween_e1 x0 x2).c9)), .l (law10_DriftBetween_L2_f0_0 (wi (remI .u8 x0 9)) 2147483647 0 false x3 ((law10_DriftBetween_e0 x0).c5) 0 (⟨0, 0⟩ : law10_DriftBetween_L2_s0) h7 h8), .c (drift_Filter_Level_p_Fi3_t0 (wi (remI .u8 x0 9)) 2147483647 ((law10_DriftBetween_e2 x0 x3).c5) false), .c (law10_alive_t0), .k true, .b h9, .b h10, .b h11] (by kernel_rfl)
          · intro g0
            exact w4 [.o 22 (fun _ => o_len_os (enc := (encI .i32)) (l := x2) (fl := true) (n := x1) (s := 1)), .b h1, .c (drift_New_ii_t1 (wi (remI .u8 x0 9)) 2147483647 h2), .k false, .k false, .l (law10_DriftBetween_L0_f0_0 (wi (remI .u8 x0 9)) 2147483647 0 false x1 x2 x3 (wi (remI .u8 x0 9)) 0 1 0 (⟨1, 0⟩ : law10_DriftBetween_L0_s0) h3), .l (law10_DriftBetween_L1_f0_0 (wi (remI .u8 x0 9)) 2147483647 0 false x1 x2 x3 (wi (remI .u8 x0 9)) 0 ((law10_DriftBetween_e0 x0).c5) 0 (⟨0, 0, 0⟩ : law10_DriftBetween_L1_s0) h4 h5)] (by kernel_rfl)
    · intro g0
      exact w4 [.o 22 (fun _ => o_len_os (enc := (encI .i32)) (l := x2) (fl := true) (n := x1) (s := 1)), .b h1, .c (drift_New_ii_t0 (wi (remI .u8 x0 9)) 2147483647 h2), .k true] (by kernel_rfl)
  · intro g0
    exact w4 [.o 22 (fun _ => o_len_os (enc := (encI .i32)) (l := x2) (fl := true) (n := x1) (s := 1)), .b h1, .c (law10_alive_t0)] (by kernel_rfl)

end Go.Proofs.Ytgalchmjpfmemaa.Den

/- A type's data, opened cell by cell. -/
namespace Go.Proofs.Ytgalchmjpfmemaa.Den
open Go
set_option linter.unusedVariables false
set_option linter.unusedSimpArgs false

inductive CK where
  | b
  | i (k : IntKind)
  | s
  | l (e : TypeId)

def flatK (P : Program) : Nat → TypeId → Option (List CK)
  | 0, _ => none
  | n + 1, t => match P.underlying t with
    | some .bool => some [.b]
    | some (.int k) => some [.i k]
    | some .string => some [.s]
    | some (.slice e) => some [.l e]
    | some (.struct fs) => (fs.toList.mapM fun f => flatK P n f.type).map List.flatten
    | some (.array m e) => (flatK P n e).map fun l => (List.replicate m l).flatten
    | _ => none

def WfI (k : IntKind) (z : Int) : Prop := (Lit.int k z).wf = true

def CellK (P : Program) : CK → D → Prop
  | .b, d => ∃ b, d = .bool b
  | .i k, d => ∃ z, d = .int k z ∧ WfI k z
  | .s, d => ∃ s, d = .str s ∧ s.size ≤ maxLen
  | .l e, d => d = .nils ∨ ∃ rows, d = .rs (isFlat P e) (P.cellsOf e) rows false ∧ rows.length ≤ maxLen ∧ ∃ n, ∀ r, r ∈ rows → Ty P n e r

def CellsK (P : Program) : List CK → List D → Prop
  | [], ds => ds = []
  | k :: ks, ds => ∃ d r, ds = d :: r ∧ CellK P k d ∧ CellsK P ks r

theorem CellsK.append {P : Program} : ∀ {a b : List CK} {x y : List D}, CellsK P a x → CellsK P b y → CellsK P (a ++ b) (x ++ y)
  | [], _, _, _, h, h' => by simp only [CellsK] at h; subst h; simpa using h'
  | k :: a, b, x, y, h, h' => by
    simp only [CellsK] at h
    obtain ⟨d, r, rfl, h1, h2⟩ := h
    simp only [List.cons_append, CellsK]
    exact ⟨d, _, rfl, h1, CellsK.append h2 h'⟩

theorem flatK_fs {P : Program} {n : Nat} (ih : ∀ t ks ds, flatK P n t = some ks → Ty P n t ds → CellsK P ks ds) : ∀ (fs : List Field) (l : List (List CK)) (ds : List D), fs.mapM (fun f => flatK P n f.type) = some l → TyFs (Ty P n) fs ds → CellsK P l.flatten ds
  | [], l, ds, h, ht => by
    simp at h; subst h
    obtain rfl := tyfs_nil ht
    simp [CellsK]
  | f :: fs, l, ds, h, ht => by
    rw [List.mapM_cons] at h
    simp only [Option.bind_eq_bind, Option.bind_eq_some_iff, Option.pure_def, Option.some.injEq] at h
    obtain ⟨a, h1, b, h2, rfl⟩ := h
    obtain ⟨x, y, rfl, g1, g2⟩ := tyfs_cons ht
    simp only [List.flatten_cons]
    exact (ih _ _ _ h1 g1).append (flatK_fs ih fs b y h2 g2)

theorem flatK_ok {P : Program} : ∀ (n : Nat) (t : TypeId) (ks : List CK) (ds : List D), flatK P n t = some ks → Ty P n t ds → CellsK P ks ds
  | 0, _, _, _, h, _ => by simp [flatK] at h
  | n + 1, t, ks, ds, h, ht => by
    simp only [flatK] at h
    cases hu : P.underlying t with
    | none => simp [hu] at h
    | some u =>
      rw [hu] at h
      cases u with
      | bool => cases h; obtain ⟨b, rfl⟩ := ty_bool ht hu; exact ⟨_, [], rfl, ⟨b, rfl⟩, rfl⟩
      | int k => cases h; obtain ⟨z, rfl, hz⟩ := ty_int ht hu; exact ⟨_, [], rfl, ⟨z, rfl, hz⟩, rfl⟩
      | string => cases h; obtain ⟨z, rfl, hz⟩ := ty_str ht hu; exact ⟨_, [], rfl, ⟨z, rfl, hz⟩, rfl⟩
      | slice e =>
        cases h
        rcases ty_slice ht hu with rfl | ⟨rows, rfl, h1, h2⟩
        · exact ⟨_, [], rfl, .inl rfl, rfl⟩
        · exact ⟨_, [], rfl, .inr ⟨rows, rfl, h1, n, h2⟩, rfl⟩
      | struct fs =>
        obtain ⟨l, hl, rfl⟩ := Option.map_eq_some_iff.1 h
        exact flatK_fs (fun t ks ds => flatK_ok n t ks ds) fs.toList l ds hl (ty_struct ht hu)
      | array m e =>
        obtain ⟨l, hl, rfl⟩ := Option.map_eq_some_iff.1 h
        obtain ⟨rows, hr, rfl, hall⟩ := ty_arr ht hu
        have key : ∀ (rows : List (List D)), (∀ r, r ∈ rows → Ty P n e r) → CellsK P (List.replicate rows.length l).flatten rows.flatten := by
          intro rows
          induction rows with
          | nil => intro _; simp [CellsK]
          | cons r rows ih =>
            intro hall
            simp only [List.length_cons, List.replicate_succ, List.flatten_cons]
            exact (flatK_ok n e l r hl (hall r (by simp))).append (ih fun x hx => hall x (by simp [hx]))
        rw [← hr]; exact key rows hall
      | _ => simp at h

/-- The rows of a list, told by an encoding. -/
theorem rows_of {α : Type} {enc : α → List D} {wf : α → Prop} {T : List D → Prop} (h : ∀ r, T r → ∃ x, r = enc x ∧ wf x) : ∀ rows : List (List D), (∀ r, r ∈ rows → T r) → ∃ l : List α, rows = l.map enc ∧ ∀ x, x ∈ l → wf x
  | [], _ => ⟨[], rfl, fun _ h => by simp at h⟩
  | r :: rows, hr => by
    obtain ⟨x, rfl, hx⟩ := h r (hr r (by simp))
    obtain ⟨l, rfl, hl⟩ := rows_of h rows fun y hy => hr y (by simp [hy])
    refine ⟨x :: l, rfl, fun y hy => ?_⟩
    rcases List.mem_cons.1 hy with rfl | hy
    · exact hx
    · exact hl y hy

theorem ints_of {P : Program} {n : Nat} {e : TypeId} {k : IntKind} (hu : P.underlying e = some (.int k)) {rows : List (List D)} (h : ∀ r, r ∈ rows → Ty P n e r) : ∃ l : List Int, rows = l.map (encI k) ∧ ∀ z, z ∈ l → WfI k z :=
  rows_of (T := Ty P n e) (fun r hr => by
    cases n with
    | zero => simp [Ty] at hr
    | succ n => obtain ⟨z, rfl, hz⟩ := ty_int hr hu; exact ⟨z, rfl, hz⟩) rows h

theorem bools_of {P : Program} {n : Nat} {e : TypeId} (hu : P.underlying e = some .bool) {rows : List (List D)} (h : ∀ r, r ∈ rows → Ty P n e r) : ∃ l : List Bool, rows = l.map encB ∧ ∀ z, z ∈ l → True :=
  rows_of (T := Ty P n e) (fun r hr => by
    cases n with
    | zero => simp [Ty] at hr
    | succ n => obtain ⟨z, rfl⟩ := ty_bool hr hu; exact ⟨z, rfl, trivial⟩) rows h

theorem tyFs_mono {T T' : TypeId → List D → Prop} (h : ∀ t ds, T t ds → T' t ds) : ∀ (fs : List Field) (ds : List D), TyFs T fs ds → TyFs T' fs ds
  | [], ds, ht => ht
  | f :: fs, ds, ht => by
    obtain ⟨x, y, rfl, g1, g2⟩ := tyfs_cons ht
    simp only [TyFs]
    exact ⟨x, y, rfl, h _ _ g1, tyFs_mono h fs y g2⟩

theorem ty_mono {P : Program} : ∀ (n : Nat) (t : TypeId) (ds : List D), Ty P n t ds → Ty P (n + 1) t ds
  | 0, _, _, h => by simp [Ty] at h
  | n + 1, t, ds, h => by
    rw [Ty] at h ⊢
    cases hu : P.underlying t with
    | none => simp [hu] at h
    | some u =>
      rw [hu] at h
      cases u with
      | slice e =>
        rcases h with rfl | ⟨rows, rfl, h1, h2⟩
        · exact .inl rfl
        · exact .inr ⟨rows, rfl, h1, fun r hr => ty_mono n _ _ (h2 r hr)⟩
      | struct fs => exact tyFs_mono (fun t ds => ty_mono n t ds) _ _ h
      | array m e =>
        obtain ⟨rows, h1, rfl, h2⟩ := h
        exact ⟨rows, h1, rfl, fun r hr => ty_mono n _ _ (h2 r hr)⟩
      | _ => exact h

theorem mapM_mono {α β : Type} {f g : α → Option β} (h : ∀ a b, f a = some b → g a = some b) : ∀ (l : List α) (r : List β), l.mapM f = some r → l.mapM g = some r
  | [], r, hr => by simpa using hr
  | a :: l, r, hr => by
    rw [List.mapM_cons] at hr ⊢
    simp only [Option.bind_eq_bind, Option.bind_eq_some_iff, Option.pure_def, Option.some.injEq] at hr ⊢
    obtain ⟨x, h1, y, h2, rfl⟩ := hr
    exact ⟨x, h a x h1, y, mapM_mono h l y h2, rfl⟩

theorem flatK_mono {P : Program} : ∀ (n : Nat) (t : TypeId) (ks : List CK), flatK P n t = some ks → flatK P (n + 1) t = some ks
  | 0, _, _, h => by simp [flatK] at h
  | n + 1, t, ks, h => by
    rw [flatK] at h ⊢
    cases hu : P.underlying t with
    | none => simp [hu] at h
    | some u =>
      rw [hu] at h
      cases u with
      | struct fs =>
        obtain ⟨l, hl, rfl⟩ := Option.map_eq_some_iff.1 h
        simp only [mapM_mono (fun f b hb => flatK_mono n _ _ hb) _ _ hl, Option.map_some]
      | array m e =>
        obtain ⟨l, hl, rfl⟩ := Option.map_eq_some_iff.1 h
        simp only [flatK_mono n _ _ hl, Option.map_some]
      | _ => exact h

/-- The cells of an element's type, at any depth. -/
theorem flatK_any {P : Program} {k : Nat} {t : TypeId} {ks : List CK} {ds : List D} (h : flatK P k t = some ks) {n : Nat} (ht : Ty P n t ds) : CellsK P ks ds := by
  have h1 : ∀ j, flatK P (k + j) t = some ks := fun j => by
    induction j with
    | zero => exact h
    | succ j ih => exact flatK_mono _ _ _ ih
  have h2 : ∀ j, Ty P (n + j) t ds := fun j => by
    induction j with
    | zero => exact ht
    | succ j ih => exact ty_mono _ _ _ ih
  refine flatK_ok (k + n) t ks ds (h1 n) ?_
  rw [Nat.add_comm]; exact h2 k

theorem wfI_i64 {z : Int} (h : WfI .i64 z) : -9223372036854775808 ≤ z ∧ z ≤ 9223372036854775807 := by
  simp [WfI, Lit.wf, IntKind.min, IntKind.max, IntKind.signed, IntKind.bits] at h
  omega
end Go.Proofs.Ytgalchmjpfmemaa.Den

/- Plain laws on the words of the printed texts. -/
namespace Go.Proofs.Ytgalchmjpfmemaa.Den
open Go
set_option linter.unusedVariables false
set_option linter.unusedSimpArgs false

@[simp] theorem tb_eq (b : Bool) : tb b = b := rfl

theorem wrap64 {x : Int} (h1 : -9223372036854775808 ≤ x) (h2 : x ≤ 9223372036854775807) : IntKind.i64.wrap x = x := by
  unfold IntKind.wrap
  simp [IntKind.bits, IntKind.signed]
  omega

theorem wi_eq {x : Int} (h1 : -9223372036854775808 ≤ x) (h2 : x ≤ 9223372036854775807) : wi x = x := wrap64 h1 h2

theorem wfI_i32 {z : Int} (h : WfI .i32 z) : -2147483648 ≤ z ∧ z ≤ 2147483647 := by
  simp [WfI, Lit.wf, IntKind.min, IntKind.max, IntKind.signed, IntKind.bits] at h
  omega
theorem wfI_i16 {z : Int} (h : WfI .i16 z) : -32768 ≤ z ∧ z ≤ 32767 := by
  simp [WfI, Lit.wf, IntKind.min, IntKind.max, IntKind.signed, IntKind.bits] at h
  omega
theorem wfI_u8 {z : Int} (h : WfI .u8 z) : 0 ≤ z ∧ z ≤ 255 := by
  simp [WfI, Lit.wf, IntKind.min, IntKind.max, IntKind.signed, IntKind.bits] at h
  omega
theorem wfI_u16 {z : Int} (h : WfI .u16 z) : 0 ≤ z ∧ z ≤ 65535 := by
  simp [WfI, Lit.wf, IntKind.min, IntKind.max, IntKind.signed, IntKind.bits] at h
  omega
theorem wfI_u32 {z : Int} (h : WfI .u32 z) : 0 ≤ z ∧ z ≤ 4294967295 := by
  simp [WfI, Lit.wf, IntKind.min, IntKind.max, IntKind.signed, IntKind.bits] at h
  omega

theorem mxI_eq (a b : Int) : mxI a b = max a b := by unfold mxI; split <;> omega
theorem mnI_eq (a b : Int) : mnI a b = min a b := by unfold mnI; split <;> omega

theorem inb_iff {n : Nat} {i : Int} : inb n i = true ↔ 0 ≤ i ∧ i < n := by simp [inb]
theorem inb_of {n : Nat} {i : Int} (h1 : 0 ≤ i) (h2 : i < n) : inb n i = true := inb_iff.2 ⟨h1, h2⟩

theorem loop_inv {S : Type} {sel : S → Bool} {nx : S → S} (J : S → Prop) (μ : S → Nat) {s0 : S} (h0 : J s0) (hb : μ s0 < 1152921504606846976) (hn : ∀ s, J s → sel s = true → J (nx s) ∧ μ (nx s) < μ s) :
    ∃ s1, itS sel nx bound s0 = some s1 ∧ J s1 ∧ sel s1 = false := itS_inv J μ hn bound s0 h0 hb

/-- A loop told by a function of its states. -/
theorem loop_fun {S : Type} {sel : S → Bool} {nx : S → S} (J : S → Prop) (μ : S → Nat) (g : S → S) {s0 : S} (h0 : J s0) (hb : μ s0 < 1152921504606846976) (hs : ∀ s, J s → sel s = false → g s = s) (hn : ∀ s, J s → sel s = true → J (nx s) ∧ μ (nx s) < μ s ∧ g (nx s) = g s) :
    itS sel nx bound s0 = some (g s0) := itS_eq J μ g hs hn bound s0 h0 hb

theorem gt_mem {α : Type} [Inhabited α] {l : List α} {i : Int} (h1 : 0 ≤ i) (h2 : i < l.length) : gt l i ∈ l := by
  have h : i.toNat < l.length := by omega
  have : gt l i = l[i.toNat] := by simp [gt, List.getD, h]
  rw [this]; exact List.getElem_mem h

theorem gt_nat {α : Type} [Inhabited α] {l : List α} {k : Nat} (h : k < l.length) : gt l (k : Int) = l[k] := by simp [gt, List.getD, h]

theorem gt_getElem {α : Type} [Inhabited α] {l : List α} {i : Int} (h1 : 0 ≤ i) (h2 : i.toNat < l.length) : gt l i = l[i.toNat] := by simp [gt, List.getD, h2]

/-- A loop over a list by an index, that stops where a test fails. -/
theorem all_loop {S α : Type} [Inhabited α] {sel : S → Bool} {nx : S → S} {s0 : S} (l : List α) (ix : S → Int) (p : α → Bool) (J : S → Prop) (hl : l.length < 1152921504606846976) (h0 : ix s0 = 0) (hJ0 : J s0)
    (hnx : ∀ s, J s → 0 ≤ ix s → ix s < l.length → sel s = true → ix (nx s) = ix s + 1 ∧ J (nx s)) (hsel : ∀ s, J s → 0 ≤ ix s → ix s ≤ l.length → sel s = (decide (ix s < l.length) && p (gt l (ix s)))) :
    ∃ s1, itS sel nx bound s0 = some s1 ∧ J s1 ∧ 0 ≤ ix s1 ∧ ((ix s1 = l.length ∧ l.all p = true) ∨ (ix s1 < l.length ∧ p (gt l (ix s1)) = false ∧ l.all p = false)) := by
  obtain ⟨s1, e, ⟨hJ, a1, a2, a3⟩, hs⟩ := loop_inv (sel := sel) (nx := nx) (fun s => J s ∧ 0 ≤ ix s ∧ ix s ≤ l.length ∧ ∀ j : Nat, (j : Int) < ix s → p (gt l j) = true) (fun s => (l.length - ix s).toNat) (s0 := s0)
    ⟨hJ0, by omega, by omega, fun j hj => by omega⟩ (by omega) (fun s ⟨hJ, b1, b2, b3⟩ hs => by
      have h1 := hsel s hJ b1 b2
      rw [hs] at h1
      have h2 := (Bool.and_eq_true _ _).mp h1.symm
      have h3 : ix s < l.length := by simpa using h2.1
      obtain ⟨h4, h5⟩ := hnx s hJ b1 h3 hs
      refine ⟨⟨h5, by omega, by omega, fun j hj => ?_⟩, by omega⟩
      by_cases hjj : (j : Int) < ix s
      · exact b3 j hjj
      · have : (j : Int) = ix s := by omega
        rw [this]; exact h2.2)
  refine ⟨s1, e, hJ, a1, ?_⟩
  rcases Int.lt_or_eq_of_le a2 with h | h
  · have h1 := hsel s1 hJ a1 a2
    rw [hs] at h1
    have hp : p (gt l (ix s1)) = false := by simpa [h] using h1.symm
    refine .inr ⟨h, hp, ?_⟩
    rw [List.all_eq_false]
    exact ⟨_, gt_mem a1 h, by simp [hp]⟩
  · refine .inl ⟨h, ?_⟩
    rw [List.all_eq_true]
    intro x hx
    obtain ⟨j, hj, rfl⟩ := List.getElem_of_mem hx
    have := a3 j (by omega)
    rwa [gt_nat hj] at this

end Go.Proofs.Ytgalchmjpfmemaa.Den

/- The functions of layer 1 (fix), told plainly. -/
namespace Go.Proofs.Ytgalchmjpfmemaa.Den
open Go
set_option linter.unusedVariables false
set_option linter.unusedSimpArgs false

def sm (z : Int) : Bool := decide (-1099511627776 ≤ z) && decide (z ≤ 1099511627776)
theorem sm_iff {z : Int} : sm z = true ↔ -1099511627776 ≤ z ∧ z ≤ 1099511627776 := by simp [sm]

theorem small_eq (l : List Int) (hl : l.length < 1152921504606846976) : fix_small_l_c0 l = true ∧ fix_small_l_r0_0 l = l.all sm := by
  obtain ⟨s1, e, -, h0, h⟩ := all_loop (sel := fix_small_l_L0_sel l l.length) (nx := fix_small_l_L0_nx l l.length) (s0 := ⟨0⟩) l (fun s => s.c2) sm (fun _ => True) hl rfl trivial
    (fun s _ h1 h2 _ => ⟨by show wi _ = _; exact wi_eq (by omega) (by omega), trivial⟩)
    (fun s _ h1 h2 => by
      by_cases h : s.c2 < l.length
      · have hi := inb_of h1 h
        by_cases g1 : gt l s.c2 < -1099511627776
        · have : sm (gt l s.c2) = false := by simp [sm]; omega
          simp [fix_small_l_L0_sel, h, hi, g1, this]
        · by_cases g2 : 1099511627776 < gt l s.c2
          · have : sm (gt l s.c2) = false := by simp [sm]; omega
            simp [fix_small_l_L0_sel, h, hi, g1, g2, this]
          · have : sm (gt l s.c2) = true := by simp [sm]; omega
            simp [fix_small_l_L0_sel, h, hi, g1, g2, this]
      · simp [fix_small_l_L0_sel, h])
  have hok : fix_small_l_L0_ok l l.length ⟨0⟩ = true := by simp [fix_small_l_L0_ok, e]
  have hend : fix_small_l_e0 l = s1 := by simp [fix_small_l_e0, fix_small_l_L0_end, e]
  simp only [fix_small_l_c0, fix_small_l_r0_0, hok, hend, tb_eq, cond_true]
  rcases h with ⟨h1, h2⟩ | ⟨h1, h2, h3⟩
  · simp [fix_small_l_L0_c0, fix_small_l_L0_c1, h1, h2]
  · simp [fix_small_l_L0_c0, fix_small_l_L0_c1, h1, h3, inb_of h0 h1]

theorem small1 (a : Int) : fix_small_l_c0 [a] = true ∧ fix_small_l_r0_0 [a] = sm a := by simpa using small_eq [a] (by simp)
theorem small2 (a b : Int) : fix_small_l_c0 [a, b] = true ∧ fix_small_l_r0_0 [a, b] = (sm a && sm b) := by simpa using small_eq [a, b] (by simp)
theorem small3 (a b c : Int) : fix_small_l_c0 [a, b, c] = true ∧ fix_small_l_r0_0 [a, b, c] = (sm a && sm b && sm c) := by simpa [Bool.and_assoc] using small_eq [a, b, c] (by simp)

theorem Shift_c (a b : Int) : fix_Shift_ii_c0 a b = true := by
  simp only [fix_Shift_ii_c0, (small1 a).1, (small1 a).2, tb_eq, cond_true]
  cases sm a <;> simp
  omega

/-- Divided by a power of two, floored. -/
def shf (a b : Int) : Int := if sm a = true ∧ 0 ≤ b ∧ b ≤ 40 then a.fdiv (2 ^ b.toNat) else 0

theorem Shift_r (a b : Int) : fix_Shift_ii_r0_0 a b = shf a b := by
  simp only [fix_Shift_ii_r0_0, (small1 a).2, tb_eq, shf]
  cases h : sm a
  · simp
  · by_cases h1 : b < 0
    · simp [h1]; omega
    · by_cases h2 : 40 < b
      · simp [h1, h2]; omega
      · have h3 : min b.toNat 64 = b.toNat := by omega
        have h4 : 0 ≤ b ∧ b ≤ 40 := by omega
        simp [h1, h2, h4, shrI, IntKind.bits, h3]

theorem Apart_c (a b : Int) : fix_Apart_ii_c0 a b = true := by simp [fix_Apart_ii_c0, (small2 a b).1]

def apt (a b : Int) : Int := if sm a = true ∧ sm b = true then max (a - b) (b - a) else 0

theorem Apart_r (a b : Int) : fix_Apart_ii_r0_0 a b = apt a b := by
  simp only [fix_Apart_ii_r0_0, (small2 a b).2, tb_eq, apt]
  cases h1 : sm a <;> cases h2 : sm b <;> simp
  rw [sm_iff] at h1 h2
  rw [mxI_eq, wi_eq (by omega) (by omega), wi_eq (by omega) (by omega)]

theorem Clamp_c (a b c : Int) : fix_Clamp_iii_c0 a b c = true := by simp [fix_Clamp_iii_c0, (small3 a b c).1]
theorem Clamp_r (a b c : Int) : fix_Clamp_iii_r0_0 a b c = if sm a = true ∧ sm b = true ∧ sm c = true then max b (min a c) else 0 := by
  simp only [fix_Clamp_iii_r0_0, (small3 a b c).2, tb_eq, mxI_eq, mnI_eq]
  cases sm a <;> cases sm b <;> cases sm c <;> simp

end Go.Proofs.Ytgalchmjpfmemaa.Den

/- Levels, plainly. -/
namespace Go.Proofs.Ytgalchmjpfmemaa.Den
open Go
set_option linter.unusedVariables false
set_option linter.unusedSimpArgs false

def lev (g l d : Int) : Int := l + (d - l).fdiv (2 ^ g.toNat)

theorem fdiv_between (x : Int) (k : Nat) : (0 ≤ x → 0 ≤ x.fdiv (2 ^ k) ∧ x.fdiv (2 ^ k) ≤ x) ∧ (x ≤ 0 → x ≤ x.fdiv (2 ^ k) ∧ x.fdiv (2 ^ k) ≤ 0) := by
  have hp : (0 : Int) < 2 ^ k := Int.pow_pos (by decide)
  have e : x.fdiv (2 ^ k) = x / 2 ^ k := Int.fdiv_eq_ediv_of_nonneg _ (Int.le_of_lt hp)
  rw [e]
  have h1 : (1 : Int) ≤ 2 ^ k := hp
  refine ⟨fun h => ⟨Int.ediv_nonneg h (Int.le_of_lt hp), Int.ediv_le_self _ h⟩, fun h => ⟨?_, ?_⟩⟩
  · rw [Int.le_ediv_iff_mul_le hp]
    have := Int.mul_le_mul_of_nonpos_left h h1
    omega
  · have := Int.ediv_le_ediv hp h
    simpa using this

theorem lev_between (g l d : Int) : min l d ≤ lev g l d ∧ lev g l d ≤ max l d := by
  unfold lev
  obtain ⟨h1, h2⟩ := fdiv_between (d - l) g.toNat
  rcases Int.le_total l d with h | h
  · have := h1 (by omega); omega
  · have := h2 (by omega); omega

/-- What falls by at least a part of itself, falls below its bound. -/
theorem falls {p q : Nat} (hp : 1 ≤ p) {u : Nat → Nat} {f : Nat → Nat} (hu : ∀ n, u (n + 1) = u n - f (u n)) (hf : ∀ x, q ≤ x → x ≤ 2 * p * f x) : ∀ (j X : Nat), X = 2 ^ j → ∀ n, u n < X → u (n + 2 * p * j) < q ∨ u (n + 2 * p * j) < 1
  | 0, X, hX, n, h => by right; subst hX; simpa using h
  | j + 1, X, hX, n, h => by
    have mono : ∀ m k, u (m + k) ≤ u m := by
      intro m k
      induction k with
      | zero => exact Nat.le_refl _
      | succ k ih => rw [show m + (k + 1) = m + k + 1 by omega, hu]; omega
    have hX2 : X = 2 * 2 ^ j := by rw [hX, Nat.pow_succ]; omega
    have key : ∀ m, m ≤ 2 * p → u (n + m) < q ∨ u (n + m) < 2 ^ j ∨ 4 * p * u (n + m) + m * X + 4 * p ≤ 4 * p * X := by
      intro m
      induction m with
      | zero =>
        intro _
        right; right
        have : 4 * p * (u n + 1) ≤ 4 * p * X := Nat.mul_le_mul_left _ h
        simp only [Nat.add_zero, Nat.zero_mul]
        rw [Nat.mul_add] at this
        omega
      | succ m ih =>
        intro hm
        rcases ih (by omega) with h1 | h1 | h1
        · left; exact Nat.lt_of_le_of_lt (mono (n + m) 1) h1
        · right; left; exact Nat.lt_of_le_of_lt (mono (n + m) 1) h1
        · by_cases hq : u (n + m) < q
          · left; exact Nat.lt_of_le_of_lt (mono (n + m) 1) hq
          · by_cases hh : u (n + m) < 2 ^ j
            · right; left; exact Nat.lt_of_le_of_lt (mono (n + m) 1) hh
            · right; right
              have hfx := hf (u (n + m)) (by omega)
              rw [show n + (m + 1) = n + m + 1 by omega, hu]
              generalize u (n + m) = y at *
              generalize f y = z at *
              have e1 : 4 * p * (y - z) = 4 * p * y - 4 * p * z := Nat.mul_sub _ _ _
              have e2 : X ≤ 4 * p * z := by
                have : 2 * (2 * p * z) = 4 * p * z := by rw [← Nat.mul_assoc, ← Nat.mul_assoc]
                omega
              rw [e1, Nat.add_mul, Nat.one_mul]
              by_cases hzy : 4 * p * z ≤ 4 * p * y
              · omega
              · have : 4 * p * y - 4 * p * z = 0 := by omega
                rw [this]
                have h3 : (m + 1) * X + 4 * p ≤ 4 * p * X := by
                  have h4 : (m + 1) * X ≤ 2 * p * X := Nat.mul_le_mul_right _ hm
                  have h5 : 4 * p * X = 2 * p * X + 2 * p * X := by rw [← Nat.add_mul]; congr 1; omega
                  have h6 : 4 * p ≤ 2 * p * X := by
                    have : 2 * p * 2 ≤ 2 * p * X := Nat.mul_le_mul_left _ (by have := Nat.one_le_two_pow (n := j); omega)
                    omega
                  omega
                rw [Nat.add_mul, Nat.one_mul] at h3
                omega
    have hend := key (2 * p) (Nat.le_refl _)
    have hstep : u (n + 2 * p) < q ∨ u (n + 2 * p) < 2 ^ j := by
      rcases hend with h1 | h1 | h1
      · exact .inl h1
      · exact .inr h1
      · right
        have h5 : 4 * p * X = 2 * p * X + 2 * p * X := by rw [← Nat.add_mul]; congr 1; omega
        have h6 : 4 * p * u (n + 2 * p) + 4 * p ≤ 2 * p * X := by omega
        rw [hX2] at h6
        have h7 : 2 * p * (2 * 2 ^ j) = 4 * p * 2 ^ j := by rw [← Nat.mul_assoc]; congr 1; omega
        rw [h7] at h6
        have h8 : 4 * p * (u (n + 2 * p) + 1) ≤ 4 * p * 2 ^ j := by rw [Nat.mul_add]; omega
        have := Nat.le_of_mul_le_mul_left h8 (by omega)
        omega
    rcases hstep with h1 | h1
    · left; exact Nat.lt_of_le_of_lt (by have := mono (n + 2 * p) (2 * p * j); rw [show n + 2 * p * (j + 1) = n + 2 * p + 2 * p * j by rw [Nat.mul_add]; omega]; exact this) h1
    · have := falls hp hu hf j (2 ^ j) rfl (n + 2 * p) h1
      rw [show n + 2 * p * (j + 1) = n + 2 * p + 2 * p * j by rw [Nat.mul_add]; omega]; exact this

/-- Levels, one after the other, at one difference. -/
def levs (g d : Int) : Nat → Int
  | 0 => 0
  | n + 1 => lev g (levs g d n) d

theorem levs_bounds (g d : Int) : ∀ n, min 0 d ≤ levs g d n ∧ levs g d n ≤ max 0 d
  | 0 => by simp only [levs]; omega
  | n + 1 => by
    have h1 := levs_bounds g d n
    have h2 := lev_between g (levs g d n) d
    simp only [levs]; omega

theorem levs_end (g d : Int) (hg : 0 ≤ g ∧ g ≤ 8) (hd : -32768 ≤ d ∧ d ≤ 32767) (n : Nat) (hn : n = 40 * 2 ^ g.toNat) : (0 < d → d - levs g d n < 2 ^ g.toNat) ∧ (d ≤ 0 → levs g d n = d) := by
  obtain ⟨p, hp⟩ : ∃ p : Nat, p = 2 ^ g.toNat := ⟨_, rfl⟩
  have hp1 : 1 ≤ p := by rw [hp]; exact Nat.one_le_two_pow
  have hpi : (2 : Int) ^ g.toNat = (p : Int) := by rw [hp]; simp
  have hle : ∀ (u : Nat → Nat) (f : Nat → Nat), (∀ n, u (n + 1) = u n - f (u n)) → ∀ m k, u (m + k) ≤ u m := by
    intro u f hu m k
    induction k with
    | zero => exact Nat.le_refl _
    | succ k ih => rw [show m + (k + 1) = m + k + 1 by omega, hu]; omega
  constructor
  · intro h
    -- the rest above the level
    have hu : ∀ n, ((d - levs g d (n + 1)).toNat) = (d - levs g d n).toNat - (d - levs g d n).toNat / p := by
      intro n
      have hb := levs_bounds g d n
      obtain ⟨x, hx⟩ : ∃ x : Nat, d - levs g d n = x := ⟨(d - levs g d n).toNat, by omega⟩
      simp only [levs, lev, hpi]
      rw [hx]
      have e : (x : Int).fdiv (p : Int) = ((x / p : Nat) : Int) := by rw [Int.fdiv_eq_ediv_of_nonneg _ (by omega)]; simp
      rw [e]
      have := Nat.div_le_self x p
      simp only [Int.toNat_natCast]
      omega
    have hf : ∀ x, p ≤ x → x ≤ 2 * p * (x / p) := by
      intro x hx
      have h1 := Nat.div_add_mod x p
      have h2 := Nat.mod_lt x (show 0 < p by omega)
      have h3 : 1 ≤ x / p := (Nat.le_div_iff_mul_le (by omega)).2 (by omega)
      have h4 : p * 1 ≤ p * (x / p) := Nat.mul_le_mul_left _ h3
      rw [Nat.mul_assoc]
      omega
    have := falls hp1 (q := p) (u := fun n => (d - levs g d n).toNat) (f := fun x => x / p) hu hf 16 (2 ^ 16) rfl 0 (by simp only [levs]; omega)
    have h2 := hle (fun n => (d - levs g d n).toNat) (fun x => x / p) hu (0 + 2 * p * 16) (8 * p)
    rw [hpi, hn, ← hp, show 40 * p = 0 + 2 * p * 16 + 8 * p by omega]
    omega
  · intro h
    have hu : ∀ n, ((levs g d (n + 1) - d).toNat) = (levs g d n - d).toNat - ((levs g d n - d).toNat + p - 1) / p := by
      intro n
      have hb := levs_bounds g d n
      obtain ⟨x, hx⟩ : ∃ x : Nat, levs g d n - d = x := ⟨(levs g d n - d).toNat, by omega⟩
      simp only [levs, lev, hpi]
      rw [hx, show d - levs g d n = -(x : Int) by omega]
      have e : (-(x : Int)).fdiv (p : Int) = -(((x + p - 1) / p : Nat) : Int) := by
        rw [Int.fdiv_eq_ediv_of_nonneg _ (by omega)]
        have h1 := Nat.div_add_mod (x + p - 1) p
        have h2 := Nat.mod_lt (x + p - 1) (show 0 < p by omega)
        generalize (x + p - 1) / p = a at *
        generalize (x + p - 1) % p = r at *
        have h3 : ((p * a : Nat) : Int) = (p : Int) * (a : Int) := by simp
        have e1 : -(x : Int) = (p - 1 - r : Int) + (p : Int) * (-(a : Int)) := by
          rw [Int.mul_neg, ← h3]; omega
        rw [e1, Int.add_mul_ediv_left _ _ (by omega)]
        have : ((p : Int) - 1 - r) / p = 0 := Int.ediv_eq_zero_of_lt (by omega) (by omega)
        rw [this]; omega
      rw [e]
      have : (x + p - 1) / p ≤ x := by
        rcases Nat.eq_zero_or_pos x with h0 | h0
        · subst h0
          have : (0 + p - 1) / p = 0 := Nat.div_eq_of_lt (by omega)
          omega
        · rw [Nat.div_le_iff_le_mul_add_pred (by omega)]
          have : p * 1 ≤ p * x := Nat.mul_le_mul_left _ h0
          have h2 : x * 1 ≤ x * p := Nat.mul_le_mul_left _ hp1
          rw [Nat.mul_comm p x]
          omega
      simp only [Int.toNat_natCast]
      omega
    have hf : ∀ x, 1 ≤ x → x ≤ 2 * p * ((x + p - 1) / p) := by
      intro x hx
      have h1 := Nat.div_add_mod (x + p - 1) p
      have h2 := Nat.mod_lt (x + p - 1) (show 0 < p by omega)
      rw [Nat.mul_assoc]
      omega
    have := falls hp1 (q := 1) (u := fun n => (levs g d n - d).toNat) (f := fun x => (x + p - 1) / p) hu hf 16 (2 ^ 16) rfl 0 (by simp only [levs]; omega)
    have h2 := hle (fun n => (levs g d n - d).toNat) (fun x => (x + p - 1) / p) hu (0 + 2 * p * 16) (8 * p)
    have hb := levs_bounds g d (0 + 2 * p * 16 + 8 * p)
    rw [hn, ← hp, show 40 * p = 0 + 2 * p * 16 + 8 * p by omega]
    omega



end Go.Proofs.Ytgalchmjpfmemaa.Den

/- The functions of layer 10 (drift), told plainly. -/
namespace Go.Proofs.Ytgalchmjpfmemaa.Den
open Go
set_option linter.unusedVariables false
set_option linter.unusedSimpArgs false

theorem sm_of {z : Int} (h1 : -1099511627776 ≤ z) (h2 : z ≤ 1099511627776) : sm z = true := sm_iff.2 ⟨h1, h2⟩

theorem New_c (g b : Int) : drift_New_ii_c0 g b = !(decide (0 ≤ g ∧ g ≤ 8 ∧ 0 ≤ b ∧ b ≤ 2147483647)) := by
  simp only [drift_New_ii_c0, tb_eq, Bool.cond_decide]
  by_cases h1 : g < 0
  · simp [h1] <;> omega
  · by_cases h2 : 8 < g
    · simp [h1, h2] <;> omega
    · by_cases h3 : b < 0
      · simp [h1, h2, h3] <;> omega
      · by_cases h4 : 2147483647 < b
        · simp [h1, h2, h3, h4] <;> omega
        · simp [h1, h2, h3, h4] <;> omega

theorem shf_lev {g l d : Int} (hg : 0 ≤ g ∧ g ≤ 8) (hl : -4294967296 ≤ l ∧ l ≤ 4294967296) (hd : -4294967296 ≤ d ∧ d ≤ 4294967296) :
    wi (d - l) = d - l ∧ wi (l + shf (d - l) g) = lev g l d := by
  have hb := lev_between g l d
  have h1 : sm (d - l) = true := sm_of (by omega) (by omega)
  have h2 : shf (d - l) g = (d - l).fdiv (2 ^ g.toNat) := by unfold shf; rw [if_pos ⟨h1, by omega, by omega⟩]
  refine ⟨wi_eq (by omega) (by omega), ?_⟩
  rw [h2]
  unfold lev at hb ⊢
  exact wi_eq (by omega) (by omega)

theorem lev_less {g l d : Int} (h : d < l) : lev g l d < l := by
  unfold lev
  have hp : (0 : Int) < 2 ^ g.toNat := Int.pow_pos (by decide)
  have : (d - l).fdiv (2 ^ g.toNat) < 0 := by
    rw [Int.fdiv_eq_ediv_of_nonneg _ (Int.le_of_lt hp)]
    exact Int.ediv_neg_of_neg_of_pos (by omega) hp
  omega

theorem lev_same (g d : Int) : lev g d d = d := by unfold lev; simp

theorem lev_zero (l d : Int) : lev 0 l d = d := by unfold lev; simp; omega

theorem Come_ok {g l d : Int} (b : Int) (hg : 0 ≤ g ∧ g ≤ 8) (hl : -4294967296 ≤ l ∧ l ≤ 4294967296) (hd : -4294967296 ≤ d ∧ d ≤ 4294967296) :
    drift_Filter_Come_pi_Fi3_c0 g l d = true ∧ drift_Filter_Come_pi_Fi3_r0_1 d = 0 ∧ drift_Filter_Come_pi_Fi3_r0_4 g l d = lev g l d ∧
    drift_Filter_Come_pi_Fi3_r0_0 g b l d = decide (b < max (lev g l d) (-lev g l d)) ∧ (-4294967296 ≤ lev g l d ∧ lev g l d ≤ 4294967296) := by
  obtain ⟨w1, w2⟩ := shf_lev hg hl hd
  have hb := lev_between g l d
  have n1 : ¬ (d < -4294967296) := by omega
  have n2 : ¬ (4294967296 < d) := by omega
  have hlev : -4294967296 ≤ lev g l d ∧ lev g l d ≤ 4294967296 := by omega
  refine ⟨?_, ?_, ?_, ?_, hlev⟩
  · simp [drift_Filter_Come_pi_Fi3_c0, n1, n2, Shift_c, drift_bounds_over_ai2i_c0, Apart_c]
  · simp [drift_Filter_Come_pi_Fi3_r0_1, n1, n2]
  · simp only [drift_Filter_Come_pi_Fi3_r0_4, Shift_r, w1, w2]; simp [n1, n2]
  · simp only [drift_Filter_Come_pi_Fi3_r0_0, Shift_r, w1, w2, Apart_r]
    have h1 : sm (lev g l d) = true := sm_of (by omega) (by omega)
    have h2 : sm 0 = true := by decide
    simp [n1, n2, apt, h1, h2]

end Go.Proofs.Ytgalchmjpfmemaa.Den

/- DriftBetween, plainly. -/
namespace Go.Proofs.Ytgalchmjpfmemaa.Den
open Go
set_option linter.unusedVariables false
set_option linter.unusedSimpArgs false

theorem between_L0 {g : Int} (hg : 0 ≤ g ∧ g ≤ 8) : itS (law10_DriftBetween_L0_sel g) (law10_DriftBetween_L0_nx g) bound ⟨1, 0⟩ = some ⟨2 ^ g.toNat, g⟩ := by
  have hp : ∀ i : Int, 0 ≤ i → i ≤ 8 → (2 : Int) ^ i.toNat ≤ 256 ∧ (1 : Int) ≤ 2 ^ i.toNat := fun i h1 h2 => by
    have : i = 0 ∨ i = 1 ∨ i = 2 ∨ i = 3 ∨ i = 4 ∨ i = 5 ∨ i = 6 ∨ i = 7 ∨ i = 8 := by omega
    rcases this with rfl | rfl | rfl | rfl | rfl | rfl | rfl | rfl | rfl <;> decide
  refine loop_fun (sel := law10_DriftBetween_L0_sel g) (nx := law10_DriftBetween_L0_nx g) (fun s => 0 ≤ s.c6 ∧ s.c6 ≤ g ∧ s.c5 = 2 ^ s.c6.toNat) (fun s => (g - s.c6).toNat) (fun _ => ⟨2 ^ g.toNat, g⟩) ⟨by decide, hg.1, rfl⟩ (by simp; omega) ?_ ?_
  · rintro ⟨p, i⟩ ⟨h1, h2, h3⟩ h
    simp [law10_DriftBetween_L0_sel] at h h1 h2 h3
    have : i = g := by omega
    subst this; subst h3; rfl
  · rintro ⟨p, i⟩ ⟨h1, h2, h3⟩ h
    simp [law10_DriftBetween_L0_sel] at h h1 h2 h3
    have h4 := hp i h1 (by omega)
    have w1 : wi (i + 1) = i + 1 := wi_eq (by omega) (by omega)
    have w2 : wi (2 * p) = 2 * p := wi_eq (by omega) (by omega)
    have e : (i + 1).toNat = i.toNat + 1 := by omega
    simp only [law10_DriftBetween_L0_nx, w1, w2]
    refine ⟨⟨by omega, by omega, ?_⟩, by omega, trivial⟩
    rw [e, Int.pow_succ, h3]; omega

/-- The states of the loop over differences. -/
def JB (l : List Int) (s : law10_DriftBetween_L1_s0) : Prop := 0 ≤ s.c6 ∧ s.c6 ≤ l.length ∧ (0 ≤ s.c4 ∧ s.c4 ≤ 2147483648) ∧ -s.c4 ≤ s.c9 ∧ s.c9 ≤ s.c4

theorem between_round {g : Int} (hg : 0 ≤ g ∧ g ≤ 8) {l : List Int} (hl : l.length ≤ 200) (hw : ∀ z ∈ l, WfI .i32 z) {s : law10_DriftBetween_L1_s0} (hJ : JB l s) (h : s.c6 < l.length) :
    law10_DriftBetween_L1_sel g l g s = true ∧ JB l (law10_DriftBetween_L1_nx g l g s) ∧ (law10_DriftBetween_L1_nx g l g s).c6 = s.c6 + 1 := by
  obtain ⟨most, i, was⟩ := s
  obtain ⟨a1, a2, a3, a4, a5⟩ := hJ
  simp only at a1 a2 a3 a4 a5 h
  have hd := wfI_i32 (hw _ (gt_mem a1 h))
  obtain ⟨d, hdd⟩ : ∃ d, gt l i = d := ⟨_, rfl⟩
  rw [hdd] at hd
  have w1 : wi d = d := wi_eq (by omega) (by omega)
  have w2 : wi (0 - d) = -d := by rw [wi_eq (by omega) (by omega)]; omega
  obtain ⟨k1, k2, k3, k4, k5⟩ := Come_ok (g := g) (l := was) (d := d) 0 hg (by omega) (by omega)
  have hb := lev_between g was d
  have e0 : law10_DriftBetween_L1_h0_e0 l ⟨most, i, was⟩ = max (max most d) (-d) := by simp only [law10_DriftBetween_L1_h0_e0, hdd, w1, w2, mxI_eq]
  have w3 : wi (0 - max (max most d) (-d)) = - max (max most d) (-d) := by rw [wi_eq (by omega) (by omega)]; omega
  have w4 : wi (i + 1) = i + 1 := wi_eq (by omega) (by omega)
  refine ⟨?_, ?_, ?_⟩
  · simp only [law10_DriftBetween_L1_sel, hdd, w1, k1, k2, k3, e0, w3, mxI_eq, mnI_eq, tb_eq, h, inb_of a1 h, decide_true, cond_true]
    have c1 : ¬ (lev g was d < min was d) := by omega
    have c2 : ¬ (max was d < lev g was d) := by omega
    have c3 : ¬ (max (max most d) (-d) < lev g was d) := by omega
    have c4 : ¬ (lev g was d < - max (max most d) (-d)) := by omega
    simp only [c1, c2, c3, c4, decide_false, cond_false]
    have c5 : g = 0 → lev g was d = d := fun e => by subst e; exact lev_zero was d
    have c6 : d < was → ¬ (was ≤ lev g was d) := fun e => by have := lev_less (g := g) e; omega
    have c7 : was = d → lev g was d = d := fun e => by subst e; exact lev_same g was
    by_cases q1 : g = 0 <;> by_cases q2 : d < was <;> by_cases q3 : was = d <;> simp_all <;> (intros; omega)
  · simp only [law10_DriftBetween_L1_nx, hdd, w1, k3, e0, w4]
    refine ⟨by simp only; omega, by simp only; omega, by simp only; omega, by simp only; omega, by simp only; omega⟩
  · simp only [law10_DriftBetween_L1_nx, w4]

theorem between_L1 {g : Int} (hg : 0 ≤ g ∧ g ≤ 8) {l : List Int} (hl : l.length ≤ 200) (hw : ∀ z ∈ l, WfI .i32 z) :
    ∃ s, itS (law10_DriftBetween_L1_sel g l g) (law10_DriftBetween_L1_nx g l g) bound ⟨0, 0, 0⟩ = some s ∧ s.c6 = l.length := by
  obtain ⟨s1, e, hJ, hs⟩ := loop_inv (sel := law10_DriftBetween_L1_sel g l g) (nx := law10_DriftBetween_L1_nx g l g) (JB l)
    (fun s => (l.length - s.c6).toNat) (s0 := ⟨0, 0, 0⟩) ⟨by decide, by simp, by decide, by decide, by decide⟩ (by simp; omega) (fun s hJ hs => by
      by_cases h : s.c6 < l.length
      · obtain ⟨_, h2, h3⟩ := between_round hg hl hw hJ h
        exact ⟨h2, by rw [h3]; omega⟩
      · simp [law10_DriftBetween_L1_sel, h] at hs)
  refine ⟨s1, e, ?_⟩
  by_cases h : s1.c6 < l.length
  · rw [(between_round hg hl hw hJ h).1] at hs; cases hs
  · have := hJ.2.1; omega

theorem pow_256 {g : Int} (hg : 0 ≤ g ∧ g ≤ 8) : (2 : Int) ^ g.toNat ≤ 256 ∧ (1 : Int) ≤ 2 ^ g.toNat ∧ (2 : Int) ^ g.toNat = ((2 ^ g.toNat : Nat) : Int) := by
  have : g = 0 ∨ g = 1 ∨ g = 2 ∨ g = 3 ∨ g = 4 ∨ g = 5 ∨ g = 6 ∨ g = 7 ∨ g = 8 := by omega
  rcases this with rfl | rfl | rfl | rfl | rfl | rfl | rfl | rfl | rfl <;> decide

theorem between_L2 {g d : Int} (hg : 0 ≤ g ∧ g ≤ 8) (hd : -32768 ≤ d ∧ d ≤ 32767) :
    itS (law10_DriftBetween_L2_sel g d (2 ^ g.toNat)) (law10_DriftBetween_L2_nx g d (2 ^ g.toNat)) bound ⟨0, 0⟩ = some ⟨40 * 2 ^ g.toNat, levs g d (40 * 2 ^ g.toNat)⟩ := by
  obtain ⟨p1, p2, p3⟩ := pow_256 hg
  have w40 : wi (40 * 2 ^ g.toNat) = 40 * 2 ^ g.toNat := wi_eq (by omega) (by omega)
  have wd : wi d = d := wi_eq (by omega) (by omega)
  refine loop_fun (sel := law10_DriftBetween_L2_sel g d (2 ^ g.toNat)) (nx := law10_DriftBetween_L2_nx g d (2 ^ g.toNat)) (fun s => 0 ≤ s.c2 ∧ s.c2 ≤ 40 * 2 ^ g.toNat ∧ s.c5 = levs g d s.c2.toNat) (fun s => (40 * 2 ^ g.toNat - s.c2).toNat) (fun _ => ⟨40 * 2 ^ g.toNat, levs g d (40 * 2 ^ g.toNat)⟩)
    ⟨by decide, by simp only; omega, rfl⟩ (by simp only; omega) ?_ ?_
  · rintro ⟨i, v⟩ ⟨h1, h2, h3⟩ h
    simp only at h1 h2 h3
    have hb := levs_bounds g d i.toNat
    have hc := (Come_ok (g := g) (l := v) (d := d) 0 hg (by omega) (by omega)).1
    simp [law10_DriftBetween_L2_sel, w40, wd, hc] at h
    have e : i = 40 * 2 ^ g.toNat := by omega
    have e2 : i.toNat = 40 * 2 ^ g.toNat := by omega
    rw [h3, e2, e]
  · rintro ⟨i, v⟩ ⟨h1, h2, h3⟩ h
    simp only at h1 h2 h3
    have hb := levs_bounds g d i.toNat
    obtain ⟨hc, _, hl, _⟩ := Come_ok (g := g) (l := v) (d := d) 0 hg (by omega) (by omega)
    simp [law10_DriftBetween_L2_sel, w40, wd, hc] at h
    have w1 : wi (i + 1) = i + 1 := wi_eq (by omega) (by omega)
    simp only [law10_DriftBetween_L2_nx, w1, wd, hl]
    refine ⟨⟨by omega, by omega, ?_⟩, by omega, trivial⟩
    rw [show (i + 1).toNat = i.toNat + 1 by omega]
    simp only [levs]; rw [h3]

theorem remI_u8 {x : Int} (h : WfI .u8 x) : 0 ≤ wi (remI .u8 x 9) ∧ wi (remI .u8 x 9) ≤ 8 := by
  have := wfI_u8 h
  have e : remI .u8 x 9 = x % 9 := by unfold remI; exact Int.tmod_eq_emod_of_nonneg this.1
  rw [e, wi_eq (by omega) (by omega)]; omega

theorem pure_DriftBetween (x0 : Int) (x1 : Bool) (x2 : List Int) (x3 : Int) (wx0 : WfI .u8 x0) (wx2 : (x2.length ≤ maxLen ∧ ∀ z ∈ x2, WfI .i32 z)) (wx3 : WfI .i16 x3) : law10_DriftBetween_c0 x0 x2 x3 = true ∧ (law10_DriftBetween_r0_0 x0 x2 x3) = true := by
  have hg := remI_u8 wx0
  obtain ⟨g, hgg⟩ : ∃ g, wi (remI .u8 x0 9) = g := ⟨_, rfl⟩
  rw [hgg] at hg
  have hd := wfI_i16 wx3
  have wd : wi x3 = x3 := wi_eq (by omega) (by omega)
  by_cases hl : 200 < (x2.length : Int)
  · simp [law10_DriftBetween_c0, law10_DriftBetween_r0_0, hl]
  · have hN : drift_New_ii_c0 g 2147483647 = false := by rw [New_c]; simp; omega
    have l0 := between_L0 hg
    obtain ⟨s1, l1, hs1⟩ := between_L1 hg (l := x2) (by omega) wx2.2
    have l2 := between_L2 hg hd
    obtain ⟨p1, p2, p3⟩ := pow_256 hg
    have w40 : wi (40 * 2 ^ g.toNat) = 40 * 2 ^ g.toNat := wi_eq (by omega) (by omega)
    have e0 : law10_DriftBetween_e0 x0 = ⟨2 ^ g.toNat, g⟩ := by simp [law10_DriftBetween_e0, law10_DriftBetween_L0_end, hgg, l0]
    have e1 : law10_DriftBetween_e1 x0 x2 = s1 := by simp [law10_DriftBetween_e1, law10_DriftBetween_L1_end, hgg, l1]
    have e2 : law10_DriftBetween_e2 x0 x3 = ⟨40 * 2 ^ g.toNat, levs g x3 (40 * 2 ^ g.toNat)⟩ := by simp [law10_DriftBetween_e2, law10_DriftBetween_L2_end, hgg, e0, l2]
    have o0 : law10_DriftBetween_L0_ok g ⟨1, 0⟩ = true := by simp [law10_DriftBetween_L0_ok, l0]
    have o1 : law10_DriftBetween_L1_ok g x2 g ⟨0, 0, 0⟩ = true := by simp [law10_DriftBetween_L1_ok, l1]
    have o2 : law10_DriftBetween_L2_ok g x3 (2 ^ g.toNat) ⟨0, 0⟩ = true := by simp [law10_DriftBetween_L2_ok, l2]
    have c0 : law10_DriftBetween_L1_c0 g x2 s1 = false := by simp [law10_DriftBetween_L1_c0, hs1]
    have c1 : law10_DriftBetween_L1_c1 x2 s1 = true := by simp [law10_DriftBetween_L1_c1, hs1]
    have c2 : law10_DriftBetween_L2_c0 (2 ^ g.toNat) ⟨40 * 2 ^ g.toNat, levs g x3 (40 * 2 ^ g.toNat)⟩ = true := by simp [law10_DriftBetween_L2_c0, w40]
    have hE := levs_end g x3 hg hd _ rfl
    have hB := levs_bounds g x3 (40 * 2 ^ g.toNat)
    refine ⟨?_, ?_⟩
    · simp only [law10_DriftBetween_c0, hgg, hl, hN, e0, e1, e2, o0, o1, o2, c0, c1, c2, tb_eq, decide_false, cond_false, cond_true]
    · simp only [law10_DriftBetween_r0_0, hgg, hl, hN, e0, e1, e2, c0, wd, tb_eq, decide_false, cond_false, cond_true, mxI_eq]
      have q1 : levs g x3 (40 * 2 ^ g.toNat) ≤ max 0 x3 := hB.2
      have w5 : wi (x3 - levs g x3 (40 * 2 ^ g.toNat)) = x3 - levs g x3 (40 * 2 ^ g.toNat) := wi_eq (by omega) (by omega)
      rw [w5]
      by_cases q2 : 0 < x3
      · have q3 : ¬ (x3 ≤ 0) := by omega
        have q4 := hE.1 q2
        simp only [q1, q2, q3, q4, decide_true, decide_false, cond_true, cond_false]
      · have q3 : x3 ≤ 0 := by omega
        have q4 := hE.2 q3
        have q5 : x3 ≤ max 0 x3 := by omega
        rw [q4]
        simp only [q5, q2, q3, beq_self_eq_true, decide_true, decide_false, cond_true, cond_false]

end Go.Proofs.Ytgalchmjpfmemaa.Den

/- What all rows of a seat rest on. -/
namespace Go.Proofs.Ytgalchmjpfmemaa.Den
open Go Go.Proofs
set_option maxRecDepth 100000

theorem own : ownKnob Try.prog.godebug = none := by kernel_rfl
theorem laidOut : laidOutB Try.prog = true := by kernel_rfl
theorem mixed : Try.prog.follows .mixedOrders = true := by kernel_rfl
theorem envOK : EnvOK Try.prog E0 := ⟨e0_cf, fun f args m r m' h => by simp [E0] at h⟩
theorem glOK (w : World) : GlOK E0 (cx0 w) := fun g cs h => by simp [E0] at h
end Go.Proofs.Ytgalchmjpfmemaa.Den

/- The row of DriftBetween. -/
namespace Go.Proofs.Ytgalchmjpfmemaa.Den
open Go Go.Proofs Go.ChangeShapes Go.WideShapes Go.ChangeAt Go.RowKit
open Go.Proofs.Ytgalchmjpfmemaa (Rows.driftBetweenSpec Rows.driftBetweenRow Rows.DriftBetweenSaid)
set_option maxRecDepth 100000
set_option linter.unusedSimpArgs false
set_option linter.unusedVariables false

theorem row4 (rs : List (List D)) (h : TyAll Try.prog 20 Try.f4.params.toList rs) : ∃ k m', callD E0 k 4 (argsV Try.prog Try.f4.params.toList rs) [] = some ([.d (.bool true)], m') := by
  rw [Try.params4] at h ⊢
  simp only [TyAll] at h
  obtain ⟨_, _, rfl, q0, _, _, rfl, q1, _, _, rfl, q2, rfl⟩ := h
  have k0 := flatK_ok 20 _ _ _ (show flatK Try.prog 20 5 = some [.i .u8] by kernel_rfl) q0
  simp only [CellsK, CellK] at k0
  obtain ⟨_, _, rfl, ⟨a0_0, rfl, w0_0⟩, rfl⟩ := k0
  have k1 := flatK_ok 20 _ _ _ (show flatK Try.prog 20 37 = some [.l 21] by kernel_rfl) q1
  simp only [CellsK, CellK] at k1
  obtain ⟨d1_0, _, rfl, y1_0, rfl⟩ := k1
  obtain ⟨n1_0, a1_0, rfl, v1_0⟩ : ∃ n l, d1_0 = slD (encI .i32) true 1 n l ∧ (l.length ≤ maxLen ∧ ∀ z ∈ l, WfI .i32 z) := by
    rcases y1_0 with rfl | ⟨rows1, rfl, hl1, m1, hr1⟩
    · exact ⟨true, [], rfl, by simp [maxLen], fun z hz => by simp at hz⟩
    · obtain ⟨l2, rfl, hw2⟩ : ∃ l : List Int, rows1 = l.map (encI .i32) ∧ ∀ z ∈ l, WfI .i32 z := rows_of (T := Ty Try.prog m1 21) (fun r hr => by
          have q := flatK_any (show flatK Try.prog 20 21 = some [.i .i32] by kernel_rfl) hr
          simp only [CellsK, CellK] at q
          obtain ⟨_, _, rfl, ⟨b0, rfl, w0⟩, rfl⟩ := q
          exact ⟨b0, rfl, w0⟩) rows1 hr1
      rw [show isFlat Try.prog 21 = true by kernel_rfl, show Try.prog.cellsOf 21 = 1 by kernel_rfl]
      exact ⟨false, l2, slD_rs _ _ _ _, by simpa using hl1, hw2⟩
  have k2 := flatK_ok 20 _ _ _ (show flatK Try.prog 20 38 = some [.i .i16] by kernel_rfl) q2
  simp only [CellsK, CellK] at k2
  obtain ⟨_, _, rfl, ⟨a2_0, rfl, w2_0⟩, rfl⟩ := k2
  simp only [argsV, argV, Try.underlying5, Try.underlying37, Try.underlying38, List.map_cons, List.map_nil]
  obtain ⟨g1, g2⟩ := pure_DriftBetween a0_0 n1_0 a1_0 a2_0 w0_0 v1_0 w2_0
  have hc := law10_DriftBetween_t0 a0_0 n1_0 a1_0 a2_0 g1
  rw [g2] at hc
  obtain ⟨k, hk⟩ := of_cl hc
  exact ⟨k, _, hk⟩

theorem driftBetween_lifted (os : Os) (started : os.Started) (H : Type) (enc : TypeId × Value → H) :
    ReturnsInHanded {} Try.checked os 4 .any (Rows.driftBetweenSpec.pre6 enc Try.prog Try.f4 Rows.driftBetweenRow.domain false) (Rows.driftBetweenSpec.post enc Try.prog Try.f4 false true false false) :=
  law_lifted (C := Try.checked) (fn := Try.f4) mixed envOK glOK own started (by kernel_rfl) Try.func4 laidOut
    (ChangeSpec.witness6 (enc := enc) (C := Try.checked) false ⟨#[], #[.int .u8 0, .slice none 0 0, .int .i16 0], []⟩ 8 (by kernel_rfl) (by kernel_rfl) (by kernel_rfl) (by kernel_rfl))
    (by kernel_rfl) (rt := 4) rfl Try.underlying4 rfl
    (fun ds h => by
      match ds, h with
      | [_, _, _], _ => rfl)
    row4

theorem driftBetween_holds : Rows.DriftBetweenSaid :=
  OpenClaim.holds_of_wide 4 Try.f4 rfl rfl rfl rfl rfl rfl rfl ⟨rfl, rfl, rfl, rfl, rfl⟩ rfl rfl rfl rfl rfl (by kernel_rfl) Try.func4 (by kernel_rfl)
    (of_decide_eq_true (by kernel_rfl)) (by unfold Func.isWrapper; first | (rw [if_pos (by decide +kernel)]; kernel_rfl) | (rw [if_neg (by decide +kernel)]; exact ⟨rfl, rfl⟩))
    (fun os started H enc _ => driftBetween_lifted os started H enc)

end Go.Proofs.Ytgalchmjpfmemaa.Den
