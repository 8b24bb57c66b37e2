/- JumpSmooth: part 5 of what its proof rests on: an evaluator of the program's code, proved sound; plain functions printed from the code by a program of this session, with proofs; plain laws. No condition. -/
import Derived.Test.YtgalchmjpfmemaaDenjumpSmooth4
import Derived.Test.YtgalchmjpfmemaaRows

namespace Go.Proofs.Ytgalchmjpfmemaa.Den
open Go Go.Proofs
set_option maxRecDepth 100000
set_option linter.unusedVariables false
set_option linter.unusedSimpArgs false

structure R_bool_i64 where
  c0 : Bool
  c1 : Int
  deriving Inhabited

def enc_R_bool_i64 (p : R_bool_i64) : List D := [(.bool p.c0), (.int .i64 p.c1)]

structure R_i64_i64 where
  c0 : Int
  c1 : Int
  deriving Inhabited

def enc_R_i64_i64 (p : R_i64_i64) : List D := [(.int .i64 p.c0), (.int .i64 p.c1)]

end Go.Proofs.Ytgalchmjpfmemaa.Den

namespace Go.Proofs.Ytgalchmjpfmemaa.Den
open Go Go.Proofs
set_option maxRecDepth 100000
set_option linter.unusedVariables false
set_option linter.unusedSimpArgs false

structure fix_small_l_L0_s0 where
  c2 : Int
  deriving Inhabited

def fix_small_l_L0_enc (x0 : List Int) (x1 : Int) (x2 : Int) (s0 : fix_small_l_L0_s0) : List V × Mem := ([(V.d (.rs true 1 (List.map (encI .i64) x0) false)), (V.d (.int .i64 x1)), (V.d (.int .i64 s0.c2))], [])

def fix_small_l_L0_sel (x0 : List Int) (x1 : Int) (s0 : fix_small_l_L0_s0) : Bool := (bif tb (decide (s0.c2 < x1)) then (bif tb (inb x0.length s0.c2) then (bif tb (decide ((gt x0 s0.c2) < (-1099511627776))) then false else (bif tb (decide (1099511627776 < (gt x0 s0.c2))) then false else true)) else false) else false)

def fix_small_l_L0_nx (x0 : List Int) (x1 : Int) (s0 : fix_small_l_L0_s0) : fix_small_l_L0_s0 := ⟨(wi (s0.c2 + 1))⟩

def fix_small_l_L0_ok (x0 : List Int) (x1 : Int) (s0 : fix_small_l_L0_s0) : Bool := (itS (fix_small_l_L0_sel x0 x1) (fix_small_l_L0_nx x0 x1) bound s0).isSome
def fix_small_l_L0_end (x0 : List Int) (x1 : Int) (s0 : fix_small_l_L0_s0) : fix_small_l_L0_s0 := (itS (fix_small_l_L0_sel x0 x1) (fix_small_l_L0_nx x0 x1) bound s0).getD default

theorem fix_small_l_L0_go (x0 : List Int) (x1 : Int) (x2 : Int) (s0 : fix_small_l_L0_s0) : fix_small_l_L0_sel x0 x1 s0 = true → (roundG (runC E0 (cl E0) L78_0) [5, 6, 7] [2] 0) (fix_small_l_L0_enc x0 x1 x2 s0) = some (.normal, fix_small_l_L0_enc x0 x1 x2 (fix_small_l_L0_nx x0 x1 s0)) := by
  unfold fix_small_l_L0_sel fix_small_l_L0_nx
  cases h1 : tb (decide (s0.c2 < x1))
  · intro g0
    exact absurd g0 ft
  · cases h2 : tb (inb x0.length s0.c2)
    · intro g0
      exact absurd g0 ft
    · cases h3 : tb (decide ((gt x0 s0.c2) < (-1099511627776)))
      · cases h4 : tb (decide (1099511627776 < (gt x0 s0.c2)))
        · intro _
          exact round_walk [.b h1, .o 9 (fun _ => o_idx_rs (enc := (encI .i64)) (l := x0) (fl := true) (tg := false) (s := 1) (k := .i64) h2), .b h3, .b h4] (by kernel_rfl)
        · intro g0
          exact absurd g0 ft
      · intro g0
        exact absurd g0 ft

def fix_small_l_L0_c0 (x0 : List Int) (x1 : Int) (s0 : fix_small_l_L0_s0) : Bool := (bif tb (decide (s0.c2 < x1)) then (bif tb (inb x0.length s0.c2) then true else false) else false)

def fix_small_l_L0_c1 (x1 : Int) (s0 : fix_small_l_L0_s0) : Bool := (bif tb (decide (s0.c2 < x1)) then false else true)

theorem fix_small_l_L0_x0 (x0 : List Int) (x1 : Int) (x2 : Int) (s0 : fix_small_l_L0_s0) : fix_small_l_L0_sel x0 x1 s0 = false → fix_small_l_L0_c0 x0 x1 s0 = true → (roundG (runC E0 (cl E0) L78_0) [5, 6, 7] [2] 0) (fix_small_l_L0_enc x0 x1 x2 s0) = some (.ret, ([(V.d (.bool false))], [])) := by
  unfold fix_small_l_L0_sel fix_small_l_L0_c0
  cases h1 : tb (decide (s0.c2 < x1))
  · intro g0 g1
    exact absurd g1 ft
  · cases h2 : tb (inb x0.length s0.c2)
    · intro g0 g1
      exact absurd g1 ft
    · cases h3 : tb (decide ((gt x0 s0.c2) < (-1099511627776)))
      · cases h4 : tb (decide (1099511627776 < (gt x0 s0.c2)))
        · intro g0 g1
          exact absurd g0 tf
        · intro g0 g1
          exact round_walk [.b h1, .o 9 (fun _ => o_idx_rs (enc := (encI .i64)) (l := x0) (fl := true) (tg := false) (s := 1) (k := .i64) h2), .b h3, .b h4] (by kernel_rfl)
      · intro g0 g1
        exact round_walk [.b h1, .o 9 (fun _ => o_idx_rs (enc := (encI .i64)) (l := x0) (fl := true) (tg := false) (s := 1) (k := .i64) h2), .b h3] (by kernel_rfl)

theorem fix_small_l_L0_x1 (x0 : List Int) (x1 : Int) (x2 : Int) (s0 : fix_small_l_L0_s0) : fix_small_l_L0_sel x0 x1 s0 = false → fix_small_l_L0_c0 x0 x1 s0 = false → fix_small_l_L0_c1 x1 s0 = true → (roundG (runC E0 (cl E0) L78_0) [5, 6, 7] [2] 0) (fix_small_l_L0_enc x0 x1 x2 s0) = some ((.exit 0), ([V.un], [])) := by
  unfold fix_small_l_L0_sel fix_small_l_L0_c0 fix_small_l_L0_c1
  cases h1 : tb (decide (s0.c2 < x1))
  · intro g0 g1 g2
    exact round_walk [.b h1] (by kernel_rfl)
  · cases h2 : tb (inb x0.length s0.c2)
    · intro g0 g1 g2
      exact absurd g2 ft
    · cases h3 : tb (decide ((gt x0 s0.c2) < (-1099511627776)))
      · cases h4 : tb (decide (1099511627776 < (gt x0 s0.c2)))
        · intro g0 g1 g2
          exact absurd g0 tf
        · intro g0 g1 g2
          exact absurd g1 tf
      · intro g0 g1 g2
        exact absurd g1 tf

theorem fix_small_l_L0_f0_0 (x0 : List Int) (x1 : Int) (x2 : Int) (s : fix_small_l_L0_s0) (hok : fix_small_l_L0_ok x0 x1 s = true) (c0 : fix_small_l_L0_c0 x0 x1 (fix_small_l_L0_end x0 x1 s) = true) : loopG (roundG (runC E0 (cl E0) L78_0) [5, 6, 7] [2] 0) bound (fix_small_l_L0_enc x0 x1 x2 s) = some (.ret, ([(V.d (.bool false))], [])) := by
  have e : itS (fix_small_l_L0_sel x0 x1) (fix_small_l_L0_nx x0 x1) bound s = some (fix_small_l_L0_end x0 x1 s) := itS_get hok
  have f := itS_false e
  exact loop_it (fix_small_l_L0_go x0 x1 x2) bound s _ _ _ e (fun h => by cases h) (fix_small_l_L0_x0 x0 x1 x2 (fix_small_l_L0_end x0 x1 s) f c0)

theorem fix_small_l_L0_f0_1 (x0 : List Int) (x1 : Int) (x2 : Int) (s : fix_small_l_L0_s0) (hok : fix_small_l_L0_ok x0 x1 s = true) (c0 : fix_small_l_L0_c0 x0 x1 (fix_small_l_L0_end x0 x1 s) = false) (c1 : fix_small_l_L0_c1 x1 (fix_small_l_L0_end x0 x1 s) = true) : loopG (roundG (runC E0 (cl E0) L78_0) [5, 6, 7] [2] 0) bound (fix_small_l_L0_enc x0 x1 x2 s) = some ((.exit 0), ([V.un], [])) := by
  have e : itS (fix_small_l_L0_sel x0 x1) (fix_small_l_L0_nx x0 x1) bound s = some (fix_small_l_L0_end x0 x1 s) := itS_get hok
  have f := itS_false e
  exact loop_it (fix_small_l_L0_go x0 x1 x2) bound s _ _ _ e (fun h => by cases h) (fix_small_l_L0_x1 x0 x1 x2 (fix_small_l_L0_end x0 x1 s) f c0 c1)

def fix_small_l_e0 (x0 : List Int) : fix_small_l_L0_s0 := fix_small_l_L0_end x0 ((x0.length : Nat) : Int) (⟨0⟩ : fix_small_l_L0_s0)

def fix_small_l_c0 (x0 : List Int) : Bool := (bif tb (fix_small_l_L0_ok x0 ((x0.length : Nat) : Int) (⟨0⟩ : fix_small_l_L0_s0)) then (bif tb (fix_small_l_L0_c0 x0 ((x0.length : Nat) : Int) (fix_small_l_e0 x0)) then true else (bif tb (fix_small_l_L0_c1 ((x0.length : Nat) : Int) (fix_small_l_e0 x0)) then true else false)) else false)

def fix_small_l_r0_0 (x0 : List Int) : Bool := (bif tb (fix_small_l_L0_c0 x0 ((x0.length : Nat) : Int) (fix_small_l_e0 x0)) then false else true)

theorem fix_small_l_t0 (x0 : List Int) : fix_small_l_c0 x0 = true → cl E0 78 [(V.d (.rs true 1 (List.map (encI .i64) x0) false))] [] = some ([(V.d (.bool (fix_small_l_r0_0 x0)))], []) := by
  unfold fix_small_l_c0 fix_small_l_r0_0
  cases h1 : tb (fix_small_l_L0_ok x0 ((x0.length : Nat) : Int) (⟨0⟩ : fix_small_l_L0_s0))
  · intro g0
    exact absurd g0 ft
  · cases h2 : tb (fix_small_l_L0_c0 x0 ((x0.length : Nat) : Int) (fix_small_l_e0 x0))
    · cases h3 : tb (fix_small_l_L0_c1 ((x0.length : Nat) : Int) (fix_small_l_e0 x0))
      · intro g0
        exact absurd g0 ft
      · intro g0
        exact w78 [.o 6 (fun _ => o_len_rs (enc := (encI .i64)) (l := x0) (fl := true) (tg := false) (s := 1)), .l (fix_small_l_L0_f0_1 x0 ((x0.length : Nat) : Int) 0 (⟨0⟩ : fix_small_l_L0_s0) h1 h2 h3)] (by kernel_rfl)
    · intro g0
      exact w78 [.o 6 (fun _ => o_len_rs (enc := (encI .i64)) (l := x0) (fl := true) (tg := false) (s := 1)), .l (fix_small_l_L0_f0_0 x0 ((x0.length : Nat) : Int) 0 (⟨0⟩ : fix_small_l_L0_s0) h1 h2)] (by kernel_rfl)

def fix_Shift_ii_c0 (x0 : Int) (x1 : Int) : Bool := (bif tb (fix_small_l_c0 [x0]) then (bif tb (fix_small_l_r0_0 [x0]) then (bif tb (decide (x1 < 0)) then true else (bif tb (decide (40 < x1)) then true else (bif tb (decide (0 ≤ x1)) then true else false))) else true) else false)

def fix_Shift_ii_r0_0 (x0 : Int) (x1 : Int) : Int := (bif tb (fix_small_l_r0_0 [x0]) then (bif tb (decide (x1 < 0)) then 0 else (bif tb (decide (40 < x1)) then 0 else (shrI .i64 x0 x1))) else 0)

theorem fix_Shift_ii_t0 (x0 : Int) (x1 : Int) : fix_Shift_ii_c0 x0 x1 = true → cl E0 60 [(V.d (.int .i64 x0)), (V.d (.int .i64 x1))] [] = some ([(V.d (.int .i64 (fix_Shift_ii_r0_0 x0 x1)))], []) := by
  unfold fix_Shift_ii_c0 fix_Shift_ii_r0_0
  cases h1 : tb (fix_small_l_c0 [x0])
  · intro g0
    exact absurd g0 ft
  · cases h2 : tb (fix_small_l_r0_0 [x0])
    · intro g0
      exact w60 [.c (fix_small_l_t0 [x0] h1), .b (notF h2)] (by kernel_rfl)
    · cases h3 : tb (decide (x1 < 0))
      · cases h4 : tb (decide (40 < x1))
        · cases h5 : tb (decide (0 ≤ x1))
          · intro g0
            exact absurd g0 ft
          · intro g0
            exact w60 [.c (fix_small_l_t0 [x0] h1), .b (notT h2), .b h3, .b h4, .o 19 (fun _ => o_shr (k := .i64) (k2 := .i64) (x := x0) (y := x1) h5)] (by kernel_rfl)
        · intro g0
          exact w60 [.c (fix_small_l_t0 [x0] h1), .b (notT h2), .b h3, .b h4] (by kernel_rfl)
      · intro g0
        exact w60 [.c (fix_small_l_t0 [x0] h1), .b (notT h2), .b h3] (by kernel_rfl)

def fix_Apart_ii_c0 (x0 : Int) (x1 : Int) : Bool := (bif tb (fix_small_l_c0 [x0, x1]) then true else false)

def fix_Apart_ii_r0_0 (x0 : Int) (x1 : Int) : Int := (bif tb (fix_small_l_r0_0 [x0, x1]) then (mxI (wi (x0 - x1)) (wi (x1 - x0))) else 0)

theorem fix_Apart_ii_t0 (x0 : Int) (x1 : Int) : fix_Apart_ii_c0 x0 x1 = true → cl E0 66 [(V.d (.int .i64 x0)), (V.d (.int .i64 x1))] [] = some ([(V.d (.int .i64 (fix_Apart_ii_r0_0 x0 x1)))], []) := by
  unfold fix_Apart_ii_c0 fix_Apart_ii_r0_0
  cases h1 : tb (fix_small_l_c0 [x0, x1])
  · intro g0
    exact absurd g0 ft
  · cases h2 : tb (fix_small_l_r0_0 [x0, x1])
    · intro g0
      exact w66 [.c (fix_small_l_t0 [x0, x1] h1), .b (notF h2)] (by kernel_rfl)
    · intro g0
      exact w66 [.c (fix_small_l_t0 [x0, x1] h1), .b (notT h2)] (by kernel_rfl)

def fix_Clamp_iii_c0 (x0 : Int) (x1 : Int) (x2 : Int) : Bool := (bif tb (fix_small_l_c0 [x0, x1, x2]) then true else false)

def fix_Clamp_iii_r0_0 (x0 : Int) (x1 : Int) (x2 : Int) : Int := (bif tb (fix_small_l_r0_0 [x0, x1, x2]) then (mxI x1 (mnI x0 x2)) else 0)

theorem fix_Clamp_iii_t0 (x0 : Int) (x1 : Int) (x2 : Int) : fix_Clamp_iii_c0 x0 x1 x2 = true → cl E0 77 [(V.d (.int .i64 x0)), (V.d (.int .i64 x1)), (V.d (.int .i64 x2))] [] = some ([(V.d (.int .i64 (fix_Clamp_iii_r0_0 x0 x1 x2)))], []) := by
  unfold fix_Clamp_iii_c0 fix_Clamp_iii_r0_0
  cases h1 : tb (fix_small_l_c0 [x0, x1, x2])
  · intro g0
    exact absurd g0 ft
  · cases h2 : tb (fix_small_l_r0_0 [x0, x1, x2])
    · intro g0
      exact w77 [.c (fix_small_l_t0 [x0, x1, x2] h1), .b (notF h2)] (by kernel_rfl)
    · intro g0
      exact w77 [.c (fix_small_l_t0 [x0, x1, x2] h1), .b (notT h2)] (by kernel_rfl)

end Go.Proofs.Ytgalchmjpfmemaa.Den

namespace Go.Proofs.Ytgalchmjpfmemaa.Den
open Go Go.Proofs
set_option maxRecDepth 100000
set_option linter.unusedVariables false
set_option linter.unusedSimpArgs false

def jump_right_i_r0_0 (x0 : Int) : Bool := (bif tb (decide ((-2147483648) ≤ x0)) then (decide (x0 ≤ 2147483647)) else false)

theorem jump_right_i_t0 (x0 : Int) : cl E0 63 [(V.d (.int .i64 x0))] [] = some ([(V.d (.bool (jump_right_i_r0_0 x0)))], []) := by
  unfold jump_right_i_r0_0
  cases h1 : tb (decide ((-2147483648) ≤ x0))
  · exact w63 [.b h1] (by kernel_rfl)
  · exact w63 [.b h1] (by kernel_rfl)

def jump_New_iii_c0 (x0 : Int) (x1 : Int) (x2 : Int) : Bool := (bif tb (jump_right_i_r0_0 x0) then (bif tb (jump_right_i_r0_0 x1) then (bif tb (decide (x1 < x0)) then true else (bif tb (decide (x2 < 0)) then true else (bif tb (jump_right_i_r0_0 x2) then false else true))) else true) else true)

theorem jump_New_iii_t0 (x0 : Int) (x1 : Int) (x2 : Int) : jump_New_iii_c0 x0 x1 x2 = true → cl E0 23 [(V.d (.int .i64 x0)), (V.d (.int .i64 x1)), (V.d (.int .i64 x2))] [] = some ([(V.d .nilp), (V.d (.int .i64 1))], []) := by
  unfold jump_New_iii_c0
  cases h1 : tb (jump_right_i_r0_0 x0)
  · intro g0
    exact w23 [.c (jump_right_i_t0 x0), .b (notF h1)] (by kernel_rfl)
  · cases h2 : tb (jump_right_i_r0_0 x1)
    · intro g0
      exact w23 [.c (jump_right_i_t0 x0), .b (notT h1), .c (jump_right_i_t0 x1), .b (notF h2)] (by kernel_rfl)
    · cases h3 : tb (decide (x1 < x0))
      · cases h4 : tb (decide (x2 < 0))
        · cases h5 : tb (jump_right_i_r0_0 x2)
          · intro g0
            exact w23 [.c (jump_right_i_t0 x0), .b (notT h1), .c (jump_right_i_t0 x1), .b (notT h2), .b h3, .b h4, .c (jump_right_i_t0 x2), .b (notF h5)] (by kernel_rfl)
          · intro g0
            exact absurd g0 ft
        · intro g0
          exact w23 [.c (jump_right_i_t0 x0), .b (notT h1), .c (jump_right_i_t0 x1), .b (notT h2), .b h3, .b h4] (by kernel_rfl)
      · intro g0
        exact w23 [.c (jump_right_i_t0 x0), .b (notT h1), .c (jump_right_i_t0 x1), .b (notT h2), .b h3] (by kernel_rfl)

theorem jump_New_iii_t1 (x0 : Int) (x1 : Int) (x2 : Int) : jump_New_iii_c0 x0 x1 x2 = false → cl E0 23 [(V.d (.int .i64 x0)), (V.d (.int .i64 x1)), (V.d (.int .i64 x2))] [] = some ([(V.ptr 0 1 0 0), (V.d (.int .i64 0))], [(Blk.flat 96 5 [[(.int .i64 x0), (.int .i64 x1), (.int .i64 x2), (.int .i64 0), (.bool false)]] false)]) := by
  unfold jump_New_iii_c0
  cases h1 : tb (jump_right_i_r0_0 x0)
  · intro g0
    exact absurd g0 tf
  · cases h2 : tb (jump_right_i_r0_0 x1)
    · intro g0
      exact absurd g0 tf
    · cases h3 : tb (decide (x1 < x0))
      · cases h4 : tb (decide (x2 < 0))
        · cases h5 : tb (jump_right_i_r0_0 x2)
          · intro g0
            exact absurd g0 tf
          · intro g0
            exact w23 [.c (jump_right_i_t0 x0), .b (notT h1), .c (jump_right_i_t0 x1), .b (notT h2), .b h3, .b h4, .c (jump_right_i_t0 x2), .b (notT h5)] (by kernel_rfl)
        · intro g0
          exact absurd g0 tf
      · intro g0
        exact absurd g0 tf

theorem jump_Watch_Miss_p_Fi4b_t0 (x0 : Int) (x1 : Int) (x2 : Int) (x3 : Int) (x4 : Bool) : cl E0 26 [(V.ptr 0 1 0 0)] [(Blk.flat 96 5 [[(.int .i64 x0), (.int .i64 x1), (.int .i64 x2), (.int .i64 x3), (.bool x4)]] false)] = some ([], [(Blk.flat 96 5 [[(.int .i64 x0), (.int .i64 x1), (.int .i64 x2), (.int .i64 0), (.bool false)]] false)]) := by
  exact w26 [.k true] (by kernel_rfl)

theorem jump_Watch_Last_p_Fi4b_t0 (x0 : Int) (x1 : Int) (x2 : Int) (x3 : Int) (x4 : Bool) (x5 : Bool) : cl E0 30 [(V.ptr 0 1 0 0)] [(Blk.flat 96 5 [[(.int .i64 x0), (.int .i64 x1), (.int .i64 x2), (.int .i64 x3), (.bool x4)]] x5)] = some ([(V.d (.int .i64 x3)), (V.d (.bool x4))], [(Blk.flat 96 5 [[(.int .i64 x0), (.int .i64 x1), (.int .i64 x2), (.int .i64 x3), (.bool x4)]] x5)]) := by
  exact w30 [.k false] (by kernel_rfl)

def jump_Watch_Come_c1_bip_Fi_r0_0 (x0 : Int) (x2 : Bool) (x3 : Int) : Int := (bif tb (x2) then (orI .i64 x0 x3) else x0)

theorem jump_Watch_Come_c1_bip_Fi_t0 (x0 : Int) (x2 : Bool) (x3 : Int) : cl E0 65 [(V.d (.bool x2)), (V.d (.int .i64 x3)), (V.ptr 0 1 0 0)] [(Blk.flat 3 1 [[(.int .i64 x0)]] false)] = some ([], [(Blk.flat 3 1 [[(.int .i64 (jump_Watch_Come_c1_bip_Fi_r0_0 x0 x2 x3))]] false)]) := by
  unfold jump_Watch_Come_c1_bip_Fi_r0_0
  cases h1 : tb (x2)
  · exact w65 [.b h1] (by kernel_rfl)
  · exact w65 [.b h1] (by kernel_rfl)

def jump_Watch_Come_pi_Fi4b_c0 (x3 : Int) (x4 : Bool) (x6 : Int) : Bool := (bif tb (jump_right_i_r0_0 x6) then (bif tb (x4) then (bif tb (fix_Apart_ii_c0 x6 x3) then true else false) else true) else true)

def jump_Watch_Come_pi_Fi4b_r0_0 (x0 : Int) (x1 : Int) (x2 : Int) (x3 : Int) (x4 : Bool) (x6 : Int) : Int := (bif tb (jump_right_i_r0_0 x6) then (bif tb (decide (x6 < x0)) then (bif tb (x4) then (jump_Watch_Come_c1_bip_Fi_r0_0 (jump_Watch_Come_c1_bip_Fi_r0_0 0 true 2) (decide (x2 < (fix_Apart_ii_r0_0 x6 x3))) 4) else (jump_Watch_Come_c1_bip_Fi_r0_0 (jump_Watch_Come_c1_bip_Fi_r0_0 0 true 2) false 4)) else (bif tb (x4) then (jump_Watch_Come_c1_bip_Fi_r0_0 (jump_Watch_Come_c1_bip_Fi_r0_0 0 (decide (x1 < x6)) 2) (decide (x2 < (fix_Apart_ii_r0_0 x6 x3))) 4) else (jump_Watch_Come_c1_bip_Fi_r0_0 (jump_Watch_Come_c1_bip_Fi_r0_0 0 (decide (x1 < x6)) 2) false 4))) else 0)

def jump_Watch_Come_pi_Fi4b_r0_1 (x6 : Int) : Int := (bif tb (jump_right_i_r0_0 x6) then 0 else 1)

def jump_Watch_Come_pi_Fi4b_r0_5 (x3 : Int) (x6 : Int) : Int := (bif tb (jump_right_i_r0_0 x6) then x6 else x3)

def jump_Watch_Come_pi_Fi4b_r0_6 (x4 : Bool) (x6 : Int) : Bool := (bif tb (jump_right_i_r0_0 x6) then true else x4)

theorem jump_Watch_Come_pi_Fi4b_t0 (x0 : Int) (x1 : Int) (x2 : Int) (x3 : Int) (x4 : Bool) (x6 : Int) : jump_Watch_Come_pi_Fi4b_c0 x3 x4 x6 = true → cl E0 28 [(V.ptr 0 1 0 0), (V.d (.int .i64 x6))] [(Blk.flat 96 5 [[(.int .i64 x0), (.int .i64 x1), (.int .i64 x2), (.int .i64 x3), (.bool x4)]] false)] = some ([(V.d (.int .i64 (jump_Watch_Come_pi_Fi4b_r0_0 x0 x1 x2 x3 x4 x6))), (V.d (.int .i64 (jump_Watch_Come_pi_Fi4b_r0_1 x6)))], [(Blk.flat 96 5 [[(.int .i64 x0), (.int .i64 x1), (.int .i64 x2), (.int .i64 (jump_Watch_Come_pi_Fi4b_r0_5 x3 x6)), (.bool (jump_Watch_Come_pi_Fi4b_r0_6 x4 x6))]] false)]) := by
  unfold jump_Watch_Come_pi_Fi4b_c0 jump_Watch_Come_pi_Fi4b_r0_0 jump_Watch_Come_pi_Fi4b_r0_1 jump_Watch_Come_pi_Fi4b_r0_5 jump_Watch_Come_pi_Fi4b_r0_6
  cases h1 : tb (jump_right_i_r0_0 x6)
  · intro g0
    exact w28 [.k false, .c (jump_right_i_t0 x6), .b (notF h1)] (by kernel_rfl)
  · cases h2 : tb (decide (x6 < x0))
    · cases h3 : tb (x4)
      · intro g0
        exact w28 [.k false, .c (jump_right_i_t0 x6), .b (notT h1), .b h2, .c (jump_Watch_Come_c1_bip_Fi_t0 0 (decide (x1 < x6)) 2), .b h3, .c (jump_Watch_Come_c1_bip_Fi_t0 (jump_Watch_Come_c1_bip_Fi_r0_0 0 (decide (x1 < x6)) 2) false 4)] (by kernel_rfl)
      · cases h4 : tb (fix_Apart_ii_c0 x6 x3)
        · intro g0
          exact absurd g0 ft
        · intro g0
          exact w28 [.k false, .c (jump_right_i_t0 x6), .b (notT h1), .b h2, .c (jump_Watch_Come_c1_bip_Fi_t0 0 (decide (x1 < x6)) 2), .b h3, .c (fix_Apart_ii_t0 x6 x3 h4), .c (jump_Watch_Come_c1_bip_Fi_t0 (jump_Watch_Come_c1_bip_Fi_r0_0 0 (decide (x1 < x6)) 2) (decide (x2 < (fix_Apart_ii_r0_0 x6 x3))) 4)] (by kernel_rfl)
    · cases h3 : tb (x4)
      · intro g0
        exact w28 [.k false, .c (jump_right_i_t0 x6), .b (notT h1), .b h2, .c (jump_Watch_Come_c1_bip_Fi_t0 0 true 2), .b h3, .c (jump_Watch_Come_c1_bip_Fi_t0 (jump_Watch_Come_c1_bip_Fi_r0_0 0 true 2) false 4)] (by kernel_rfl)
      · cases h4 : tb (fix_Apart_ii_c0 x6 x3)
        · intro g0
          exact absurd g0 ft
        · intro g0
          exact w28 [.k false, .c (jump_right_i_t0 x6), .b (notT h1), .b h2, .c (jump_Watch_Come_c1_bip_Fi_t0 0 true 2), .b h3, .c (fix_Apart_ii_t0 x6 x3 h4), .c (jump_Watch_Come_c1_bip_Fi_t0 (jump_Watch_Come_c1_bip_Fi_r0_0 0 true 2) (decide (x2 < (fix_Apart_ii_r0_0 x6 x3))) 4)] (by kernel_rfl)

theorem jump_Watch_Miss_n_t0  : cl E0 26 [(V.d .nilp)] [] = some ([], []) := by
  exact w26 [.k false] (by kernel_rfl)

theorem jump_Watch_Come_ni_t0 (x0 : Int) : cl E0 28 [(V.d .nilp), (V.d (.int .i64 x0))] [] = some ([(V.d (.int .i64 0)), (V.d (.int .i64 1))], []) := by
  exact w28 [.k true] (by kernel_rfl)

theorem jump_Watch_Last_n_t0  : cl E0 30 [(V.d .nilp)] [] = some ([(V.d (.int .i64 0)), (V.d (.bool false))], []) := by
  exact w30 [.k true] (by kernel_rfl)

end Go.Proofs.Ytgalchmjpfmemaa.Den

namespace Go.Proofs.Ytgalchmjpfmemaa.Den
open Go Go.Proofs
set_option maxRecDepth 100000
set_option linter.unusedVariables false
set_option linter.unusedSimpArgs false

theorem law08_alive_t0 : cl E0 22 [] [] = some ([(V.d (.bool true))], []) := cl_of (n := 60) (by kernel_rfl)

end Go.Proofs.Ytgalchmjpfmemaa.Den

namespace Go.Proofs.Ytgalchmjpfmemaa.Den
open Go Go.Proofs
set_option maxRecDepth 100000
set_option linter.unusedVariables false
set_option linter.unusedSimpArgs false

structure law08_JumpSmooth_L0_s0 where
  c3 : Int
  c4 : Bool
  c5 : Int
  c9 : Int
  c10 : Bool
  deriving Inhabited

def law08_JumpSmooth_L0_enc (x0 : Int) (x1 : Int) (x2 : Int) (x3 : Int) (x4 : Bool) (x5 : Bool) (x6 : Int) (x7 : Bool) (x8 : List R_bool_i64) (x9 : Int) (x10 : Bool) (x11 : Int) (s0 : law08_JumpSmooth_L0_s0) : List V × Mem := ([(V.d (.int .u16 x6)), (V.d (slD enc_R_bool_i64 true 2 x7 x8)), (V.ptr 0 1 0 0), (V.d (.int .i64 s0.c3)), (V.d (.bool s0.c4)), (V.d (.int .i64 s0.c5))], [(Blk.flat 96 5 [[(.int .i64 x0), (.int .i64 x1), (.int .i64 x2), (.int .i64 s0.c9), (.bool s0.c10)]] false)])

def law08_JumpSmooth_L0_h0_e0 (x6 : Int) (x8 : List R_bool_i64) (s0 : law08_JumpSmooth_L0_s0) : Int := wi (s0.c3 + (remI .i64 ((gt x8 s0.c5).c1) (wi ((wi (x6)) + 1))))

def law08_JumpSmooth_L0_sel (x0 : Int) (x1 : Int) (x2 : Int) (x6 : Int) (x8 : List R_bool_i64) (s0 : law08_JumpSmooth_L0_s0) : Bool := (bif tb (decide (s0.c5 < ((x8.length : Nat) : Int))) then (bif tb (inb x8.length s0.c5) then (bif tb ((gt x8 s0.c5).c0) then true else (bif tb (((wi ((wi (x6)) + 1)) : Int) == 0) then false else (bif tb (decide (100000 < (law08_JumpSmooth_L0_h0_e0 x6 x8 s0))) then (bif tb (jump_Watch_Come_pi_Fi4b_c0 s0.c9 s0.c10 (wi (s0.c3 + 0))) then (bif tb (jump_Watch_Come_pi_Fi4b_c0 (jump_Watch_Come_pi_Fi4b_r0_5 s0.c9 (wi (s0.c3 + 0))) (jump_Watch_Come_pi_Fi4b_r0_6 s0.c10 (wi (s0.c3 + 0))) (wi (s0.c3 + 0))) then (bif tb (((jump_Watch_Come_pi_Fi4b_r0_0 x0 x1 x2 s0.c9 s0.c10 (wi (s0.c3 + 0))) : Int) != 0) then false else (bif tb (((jump_Watch_Come_pi_Fi4b_r0_0 x0 x1 x2 (jump_Watch_Come_pi_Fi4b_r0_5 s0.c9 (wi (s0.c3 + 0))) (jump_Watch_Come_pi_Fi4b_r0_6 s0.c10 (wi (s0.c3 + 0))) (wi (s0.c3 + 0))) : Int) != 0) then false else (bif tb (((jump_Watch_Come_pi_Fi4b_r0_1 (wi (s0.c3 + 0))) : Int) != 0) then false else true))) else false) else false) else (bif tb (decide ((law08_JumpSmooth_L0_h0_e0 x6 x8 s0) < (-100000))) then (bif tb (jump_Watch_Come_pi_Fi4b_c0 s0.c9 s0.c10 (wi (s0.c3 + 0))) then (bif tb (jump_Watch_Come_pi_Fi4b_c0 (jump_Watch_Come_pi_Fi4b_r0_5 s0.c9 (wi (s0.c3 + 0))) (jump_Watch_Come_pi_Fi4b_r0_6 s0.c10 (wi (s0.c3 + 0))) (wi (s0.c3 + 0))) then (bif tb (((jump_Watch_Come_pi_Fi4b_r0_0 x0 x1 x2 s0.c9 s0.c10 (wi (s0.c3 + 0))) : Int) != 0) then false else (bif tb (((jump_Watch_Come_pi_Fi4b_r0_0 x0 x1 x2 (jump_Watch_Come_pi_Fi4b_r0_5 s0.c9 (wi (s0.c3 + 0))) (jump_Watch_Come_pi_Fi4b_r0_6 s0.c10 (wi (s0.c3 + 0))) (wi (s0.c3 + 0))) : Int) != 0) then false else (bif tb (((jump_Watch_Come_pi_Fi4b_r0_1 (wi (s0.c3 + 0))) : Int) != 0) then false else true))) else false) else false) else (bif tb (jump_Watch_Come_pi_Fi4b_c0 s0.c9 s0.c10 (law08_JumpSmooth_L0_h0_e0 x6 x8 s0)) then (bif tb (jump_Watch_Come_pi_Fi4b_c0 (jump_Watch_Come_pi_Fi4b_r0_5 s0.c9 (law08_JumpSmooth_L0_h0_e0 x6 x8 s0)) (jump_Watch_Come_pi_Fi4b_r0_6 s0.c10 (law08_JumpSmooth_L0_h0_e0 x6 x8 s0)) (law08_JumpSmooth_L0_h0_e0 x6 x8 s0)) then (bif tb (((jump_Watch_Come_pi_Fi4b_r0_0 x0 x1 x2 s0.c9 s0.c10 (law08_JumpSmooth_L0_h0_e0 x6 x8 s0)) : Int) != 0) then false else (bif tb (((jump_Watch_Come_pi_Fi4b_r0_0 x0 x1 x2 (jump_Watch_Come_pi_Fi4b_r0_5 s0.c9 (law08_JumpSmooth_L0_h0_e0 x6 x8 s0)) (jump_Watch_Come_pi_Fi4b_r0_6 s0.c10 (law08_JumpSmooth_L0_h0_e0 x6 x8 s0)) (law08_JumpSmooth_L0_h0_e0 x6 x8 s0)) : Int) != 0) then false else (bif tb (((jump_Watch_Come_pi_Fi4b_r0_1 (law08_JumpSmooth_L0_h0_e0 x6 x8 s0)) : Int) != 0) then false else true))) else false) else false))))) else false) else false)

def law08_JumpSmooth_L0_nx (x0 : Int) (x1 : Int) (x2 : Int) (x6 : Int) (x8 : List R_bool_i64) (s0 : law08_JumpSmooth_L0_s0) : law08_JumpSmooth_L0_s0 := (bif tb ((gt x8 s0.c5).c0) then ⟨s0.c3, true, (wi (s0.c5 + 1)), 0, false⟩ else (bif tb (decide (100000 < (law08_JumpSmooth_L0_h0_e0 x6 x8 s0))) then ⟨(wi (s0.c3 + 0)), false, (wi (s0.c5 + 1)), (jump_Watch_Come_pi_Fi4b_r0_5 (jump_Watch_Come_pi_Fi4b_r0_5 s0.c9 (wi (s0.c3 + 0))) (wi (s0.c3 + 0))), (jump_Watch_Come_pi_Fi4b_r0_6 (jump_Watch_Come_pi_Fi4b_r0_6 s0.c10 (wi (s0.c3 + 0))) (wi (s0.c3 + 0)))⟩ else (bif tb (decide ((law08_JumpSmooth_L0_h0_e0 x6 x8 s0) < (-100000))) then ⟨(wi (s0.c3 + 0)), false, (wi (s0.c5 + 1)), (jump_Watch_Come_pi_Fi4b_r0_5 (jump_Watch_Come_pi_Fi4b_r0_5 s0.c9 (wi (s0.c3 + 0))) (wi (s0.c3 + 0))), (jump_Watch_Come_pi_Fi4b_r0_6 (jump_Watch_Come_pi_Fi4b_r0_6 s0.c10 (wi (s0.c3 + 0))) (wi (s0.c3 + 0)))⟩ else ⟨(law08_JumpSmooth_L0_h0_e0 x6 x8 s0), false, (wi (s0.c5 + 1)), (jump_Watch_Come_pi_Fi4b_r0_5 (jump_Watch_Come_pi_Fi4b_r0_5 s0.c9 (law08_JumpSmooth_L0_h0_e0 x6 x8 s0)) (law08_JumpSmooth_L0_h0_e0 x6 x8 s0)), (jump_Watch_Come_pi_Fi4b_r0_6 (jump_Watch_Come_pi_Fi4b_r0_6 s0.c10 (law08_JumpSmooth_L0_h0_e0 x6 x8 s0)) (law08_JumpSmooth_L0_h0_e0 x6 x8 s0))⟩)))

def law08_JumpSmooth_L0_ok (x0 : Int) (x1 : Int) (x2 : Int) (x6 : Int) (x8 : List R_bool_i64) (s0 : law08_JumpSmooth_L0_s0) : Bool := (itS (law08_JumpSmooth_L0_sel x0 x1 x2 x6 x8) (law08_JumpSmooth_L0_nx x0 x1 x2 x6 x8) bound s0).isSome
def law08_JumpSmooth_L0_end (x0 : Int) (x1 : Int) (x2 : Int) (x6 : Int) (x8 : List R_bool_i64) (s0 : law08_JumpSmooth_L0_s0) : law08_JumpSmooth_L0_s0 := (itS (law08_JumpSmooth_L0_sel x0 x1 x2 x6 x8) (law08_JumpSmooth_L0_nx x0 x1 x2 x6 x8) bound s0).getD default

theorem law08_JumpSmooth_L0_go (x0 : Int) (x1 : Int) (x2 : Int) (x3 : Int) (x4 : Bool) (x5 : Bool) (x6 : Int) (x7 : Bool) (x8 : List R_bool_i64) (x9 : Int) (x10 : Bool) (x11 : Int) (s0 : law08_JumpSmooth_L0_s0) : law08_JumpSmooth_L0_sel x0 x1 x2 x6 x8 s0 = true → (roundG (runC E0 (cl E0) L6_0) [0, 1, 5, 7, 8, 9] [0, 4, 5, 7, 8] 1) (law08_JumpSmooth_L0_enc x0 x1 x2 x3 x4 x5 x6 x7 x8 x9 x10 x11 s0) = some (.normal, law08_JumpSmooth_L0_enc x0 x1 x2 x3 x4 x5 x6 x7 x8 x9 x10 x11 (law08_JumpSmooth_L0_nx x0 x1 x2 x6 x8 s0)) := by
  unfold law08_JumpSmooth_L0_sel law08_JumpSmooth_L0_nx
  cases h1 : tb (decide (s0.c5 < ((x8.length : Nat) : Int)))
  · intro g0
    exact absurd g0 ft
  · cases h2 : tb (inb x8.length s0.c5)
    · intro g0
      exact absurd g0 ft
    · cases h3 : tb ((gt x8 s0.c5).c0)
      · cases h4 : tb (((wi ((wi (x6)) + 1)) : Int) == 0)
        · cases h5 : tb (decide (100000 < (law08_JumpSmooth_L0_h0_e0 x6 x8 s0)))
          · cases h6 : tb (decide ((law08_JumpSmooth_L0_h0_e0 x6 x8 s0) < (-100000)))
            · cases h7 : tb (jump_Watch_Come_pi_Fi4b_c0 s0.c9 s0.c10 (law08_JumpSmooth_L0_h0_e0 x6 x8 s0))
              · intro g0
                exact absurd g0 ft
              · cases h8 : tb (jump_Watch_Come_pi_Fi4b_c0 (jump_Watch_Come_pi_Fi4b_r0_5 s0.c9 (law08_JumpSmooth_L0_h0_e0 x6 x8 s0)) (jump_Watch_Come_pi_Fi4b_r0_6 s0.c10 (law08_JumpSmooth_L0_h0_e0 x6 x8 s0)) (law08_JumpSmooth_L0_h0_e0 x6 x8 s0))
                · intro g0
                  exact absurd g0 ft
                · cases h9 : tb (((jump_Watch_Come_pi_Fi4b_r0_0 x0 x1 x2 s0.c9 s0.c10 (law08_JumpSmooth_L0_h0_e0 x6 x8 s0)) : Int) != 0)
                  · cases h10 : tb (((jump_Watch_Come_pi_Fi4b_r0_0 x0 x1 x2 (jump_Watch_Come_pi_Fi4b_r0_5 s0.c9 (law08_JumpSmooth_L0_h0_e0 x6 x8 s0)) (jump_Watch_Come_pi_Fi4b_r0_6 s0.c10 (law08_JumpSmooth_L0_h0_e0 x6 x8 s0)) (law08_JumpSmooth_L0_h0_e0 x6 x8 s0)) : Int) != 0)
                    · cases h11 : tb (((jump_Watch_Come_pi_Fi4b_r0_1 (law08_JumpSmooth_L0_h0_e0 x6 x8 s0)) : Int) != 0)
                      · intro _
                        exact round_walk [.o 38 (fun _ => o_len_os (enc := enc_R_bool_i64) (l := x8) (fl := true) (n := x7) (s := 2)), .b h1, .o 44 (fun _ => o_idx_os (enc := enc_R_bool_i64) (l := x8) (fl := true) (n := x7) (s := 2) (k := .i64) h2), .b h3, .o 51 (fun _ => o_idx_os (enc := enc_R_bool_i64) (l := x8) (fl := true) (n := x7) (s := 2) (k := .i64) h2), .o 57 (fun _ => o_rem (k := .i64) (x := ((gt x8 s0.c5).c1)) (y := (wi ((wi (x6)) + 1))) h4), .b h5, .b h6, .c (jump_Watch_Come_pi_Fi4b_t0 x0 x1 x2 s0.c9 s0.c10 (law08_JumpSmooth_L0_h0_e0 x6 x8 s0) h7), .c (jump_Watch_Come_pi_Fi4b_t0 x0 x1 x2 (jump_Watch_Come_pi_Fi4b_r0_5 s0.c9 (law08_JumpSmooth_L0_h0_e0 x6 x8 s0)) (jump_Watch_Come_pi_Fi4b_r0_6 s0.c10 (law08_JumpSmooth_L0_h0_e0 x6 x8 s0)) (law08_JumpSmooth_L0_h0_e0 x6 x8 s0) h8), .b h9, .b h10, .b h11, .b h11] (by kernel_rfl)
                      · intro g0
                        exact absurd g0 ft
                    · intro g0
                      exact absurd g0 ft
                  · intro g0
                    exact absurd g0 ft
            · cases h7 : tb (jump_Watch_Come_pi_Fi4b_c0 s0.c9 s0.c10 (wi (s0.c3 + 0)))
              · intro g0
                exact absurd g0 ft
              · cases h8 : tb (jump_Watch_Come_pi_Fi4b_c0 (jump_Watch_Come_pi_Fi4b_r0_5 s0.c9 (wi (s0.c3 + 0))) (jump_Watch_Come_pi_Fi4b_r0_6 s0.c10 (wi (s0.c3 + 0))) (wi (s0.c3 + 0)))
                · intro g0
                  exact absurd g0 ft
                · cases h9 : tb (((jump_Watch_Come_pi_Fi4b_r0_0 x0 x1 x2 s0.c9 s0.c10 (wi (s0.c3 + 0))) : Int) != 0)
                  · cases h10 : tb (((jump_Watch_Come_pi_Fi4b_r0_0 x0 x1 x2 (jump_Watch_Come_pi_Fi4b_r0_5 s0.c9 (wi (s0.c3 + 0))) (jump_Watch_Come_pi_Fi4b_r0_6 s0.c10 (wi (s0.c3 + 0))) (wi (s0.c3 + 0))) : Int) != 0)
                    · cases h11 : tb (((jump_Watch_Come_pi_Fi4b_r0_1 (wi (s0.c3 + 0))) : Int) != 0)
                      · intro _
                        exact round_walk [.o 38 (fun _ => o_len_os (enc := enc_R_bool_i64) (l := x8) (fl := true) (n := x7) (s := 2)), .b h1, .o 44 (fun _ => o_idx_os (enc := enc_R_bool_i64) (l := x8) (fl := true) (n := x7) (s := 2) (k := .i64) h2), .b h3, .o 51 (fun _ => o_idx_os (enc := enc_R_bool_i64) (l := x8) (fl := true) (n := x7) (s := 2) (k := .i64) h2), .o 57 (fun _ => o_rem (k := .i64) (x := ((gt x8 s0.c5).c1)) (y := (wi ((wi (x6)) + 1))) h4), .b h5, .b h6, .c (jump_Watch_Come_pi_Fi4b_t0 x0 x1 x2 s0.c9 s0.c10 (wi (s0.c3 + 0)) h7), .c (jump_Watch_Come_pi_Fi4b_t0 x0 x1 x2 (jump_Watch_Come_pi_Fi4b_r0_5 s0.c9 (wi (s0.c3 + 0))) (jump_Watch_Come_pi_Fi4b_r0_6 s0.c10 (wi (s0.c3 + 0))) (wi (s0.c3 + 0)) h8), .b h9, .b h10, .b h11, .b h11] (by kernel_rfl)
                      · intro g0
                        exact absurd g0 ft
                    · intro g0
                      exact absurd g0 ft
                  · intro g0
                    exact absurd g0 ft
          · cases h6 : tb (jump_Watch_Come_pi_Fi4b_c0 s0.c9 s0.c10 (wi (s0.c3 + 0)))
            · intro g0
              exact absurd g0 ft
            · cases h7 : tb (jump_Watch_Come_pi_Fi4b_c0 (jump_Watch_Come_pi_Fi4b_r0_5 s0.c9 (wi (s0.c3 + 0))) (jump_Watch_Come_pi_Fi4b_r0_6 s0.c10 (wi (s0.c3 + 0))) (wi (s0.c3 + 0)))
              · intro g0
                exact absurd g0 ft
              · cases h8 : tb (((jump_Watch_Come_pi_Fi4b_r0_0 x0 x1 x2 s0.c9 s0.c10 (wi (s0.c3 + 0))) : Int) != 0)
                · cases h9 : tb (((jump_Watch_Come_pi_Fi4b_r0_0 x0 x1 x2 (jump_Watch_Come_pi_Fi4b_r0_5 s0.c9 (wi (s0.c3 + 0))) (jump_Watch_Come_pi_Fi4b_r0_6 s0.c10 (wi (s0.c3 + 0))) (wi (s0.c3 + 0))) : Int) != 0)
                  · cases h10 : tb (((jump_Watch_Come_pi_Fi4b_r0_1 (wi (s0.c3 + 0))) : Int) != 0)
                    · intro _
                      exact round_walk [.o 38 (fun _ => o_len_os (enc := enc_R_bool_i64) (l := x8) (fl := true) (n := x7) (s := 2)), .b h1, .o 44 (fun _ => o_idx_os (enc := enc_R_bool_i64) (l := x8) (fl := true) (n := x7) (s := 2) (k := .i64) h2), .b h3, .o 51 (fun _ => o_idx_os (enc := enc_R_bool_i64) (l := x8) (fl := true) (n := x7) (s := 2) (k := .i64) h2), .o 57 (fun _ => o_rem (k := .i64) (x := ((gt x8 s0.c5).c1)) (y := (wi ((wi (x6)) + 1))) h4), .b h5, .c (jump_Watch_Come_pi_Fi4b_t0 x0 x1 x2 s0.c9 s0.c10 (wi (s0.c3 + 0)) h6), .c (jump_Watch_Come_pi_Fi4b_t0 x0 x1 x2 (jump_Watch_Come_pi_Fi4b_r0_5 s0.c9 (wi (s0.c3 + 0))) (jump_Watch_Come_pi_Fi4b_r0_6 s0.c10 (wi (s0.c3 + 0))) (wi (s0.c3 + 0)) h7), .b h8, .b h9, .b h10, .b h10] (by kernel_rfl)
                    · intro g0
                      exact absurd g0 ft
                  · intro g0
                    exact absurd g0 ft
                · intro g0
                  exact absurd g0 ft
        · intro g0
          exact absurd g0 ft
      · intro _
        exact round_walk [.o 38 (fun _ => o_len_os (enc := enc_R_bool_i64) (l := x8) (fl := true) (n := x7) (s := 2)), .b h1, .o 44 (fun _ => o_idx_os (enc := enc_R_bool_i64) (l := x8) (fl := true) (n := x7) (s := 2) (k := .i64) h2), .b h3, .c (jump_Watch_Miss_p_Fi4b_t0 x0 x1 x2 s0.c9 s0.c10)] (by kernel_rfl)

def law08_JumpSmooth_L0_c0 (x6 : Int) (x8 : List R_bool_i64) (s0 : law08_JumpSmooth_L0_s0) : Bool := (bif tb (decide (s0.c5 < ((x8.length : Nat) : Int))) then (bif tb (inb x8.length s0.c5) then (bif tb (((wi ((wi (x6)) + 1)) : Int) == 0) then false else (bif tb (decide (100000 < (law08_JumpSmooth_L0_h0_e0 x6 x8 s0))) then (bif tb (jump_Watch_Come_pi_Fi4b_c0 s0.c9 s0.c10 (wi (s0.c3 + 0))) then (bif tb (jump_Watch_Come_pi_Fi4b_c0 (jump_Watch_Come_pi_Fi4b_r0_5 s0.c9 (wi (s0.c3 + 0))) (jump_Watch_Come_pi_Fi4b_r0_6 s0.c10 (wi (s0.c3 + 0))) (wi (s0.c3 + 0))) then true else false) else false) else (bif tb (decide ((law08_JumpSmooth_L0_h0_e0 x6 x8 s0) < (-100000))) then (bif tb (jump_Watch_Come_pi_Fi4b_c0 s0.c9 s0.c10 (wi (s0.c3 + 0))) then (bif tb (jump_Watch_Come_pi_Fi4b_c0 (jump_Watch_Come_pi_Fi4b_r0_5 s0.c9 (wi (s0.c3 + 0))) (jump_Watch_Come_pi_Fi4b_r0_6 s0.c10 (wi (s0.c3 + 0))) (wi (s0.c3 + 0))) then true else false) else false) else (bif tb (jump_Watch_Come_pi_Fi4b_c0 s0.c9 s0.c10 (law08_JumpSmooth_L0_h0_e0 x6 x8 s0)) then (bif tb (jump_Watch_Come_pi_Fi4b_c0 (jump_Watch_Come_pi_Fi4b_r0_5 s0.c9 (law08_JumpSmooth_L0_h0_e0 x6 x8 s0)) (jump_Watch_Come_pi_Fi4b_r0_6 s0.c10 (law08_JumpSmooth_L0_h0_e0 x6 x8 s0)) (law08_JumpSmooth_L0_h0_e0 x6 x8 s0)) then true else false) else false)))) else false) else false)

def law08_JumpSmooth_L0_r0_2 (x6 : Int) (x8 : List R_bool_i64) (s0 : law08_JumpSmooth_L0_s0) : Int := (bif tb (decide (100000 < (law08_JumpSmooth_L0_h0_e0 x6 x8 s0))) then (wi (s0.c3 + 0)) else (bif tb (decide ((law08_JumpSmooth_L0_h0_e0 x6 x8 s0) < (-100000))) then (wi (s0.c3 + 0)) else (law08_JumpSmooth_L0_h0_e0 x6 x8 s0)))

def law08_JumpSmooth_L0_r0_7 (x6 : Int) (x8 : List R_bool_i64) (s0 : law08_JumpSmooth_L0_s0) : Int := (bif tb (decide (100000 < (law08_JumpSmooth_L0_h0_e0 x6 x8 s0))) then (jump_Watch_Come_pi_Fi4b_r0_5 (jump_Watch_Come_pi_Fi4b_r0_5 s0.c9 (wi (s0.c3 + 0))) (wi (s0.c3 + 0))) else (bif tb (decide ((law08_JumpSmooth_L0_h0_e0 x6 x8 s0) < (-100000))) then (jump_Watch_Come_pi_Fi4b_r0_5 (jump_Watch_Come_pi_Fi4b_r0_5 s0.c9 (wi (s0.c3 + 0))) (wi (s0.c3 + 0))) else (jump_Watch_Come_pi_Fi4b_r0_5 (jump_Watch_Come_pi_Fi4b_r0_5 s0.c9 (law08_JumpSmooth_L0_h0_e0 x6 x8 s0)) (law08_JumpSmooth_L0_h0_e0 x6 x8 s0))))

def law08_JumpSmooth_L0_r0_8 (x6 : Int) (x8 : List R_bool_i64) (s0 : law08_JumpSmooth_L0_s0) : Bool := (bif tb (decide (100000 < (law08_JumpSmooth_L0_h0_e0 x6 x8 s0))) then (jump_Watch_Come_pi_Fi4b_r0_6 (jump_Watch_Come_pi_Fi4b_r0_6 s0.c10 (wi (s0.c3 + 0))) (wi (s0.c3 + 0))) else (bif tb (decide ((law08_JumpSmooth_L0_h0_e0 x6 x8 s0) < (-100000))) then (jump_Watch_Come_pi_Fi4b_r0_6 (jump_Watch_Come_pi_Fi4b_r0_6 s0.c10 (wi (s0.c3 + 0))) (wi (s0.c3 + 0))) else (jump_Watch_Come_pi_Fi4b_r0_6 (jump_Watch_Come_pi_Fi4b_r0_6 s0.c10 (law08_JumpSmooth_L0_h0_e0 x6 x8 s0)) (law08_JumpSmooth_L0_h0_e0 x6 x8 s0))))

def law08_JumpSmooth_L0_c1 (x8 : List R_bool_i64) (s0 : law08_JumpSmooth_L0_s0) : Bool := (bif tb (decide (s0.c5 < ((x8.length : Nat) : Int))) then false else true)

theorem law08_JumpSmooth_L0_x0 (x0 : Int) (x1 : Int) (x2 : Int) (x3 : Int) (x4 : Bool) (x5 : Bool) (x6 : Int) (x7 : Bool) (x8 : List R_bool_i64) (x9 : Int) (x10 : Bool) (x11 : Int) (s0 : law08_JumpSmooth_L0_s0) : law08_JumpSmooth_L0_sel x0 x1 x2 x6 x8 s0 = false → law08_JumpSmooth_L0_c0 x6 x8 s0 = true → (roundG (runC E0 (cl E0) L6_0) [0, 1, 5, 7, 8, 9] [0, 4, 5, 7, 8] 1) (law08_JumpSmooth_L0_enc x0 x1 x2 x3 x4 x5 x6 x7 x8 x9 x10 x11 s0) = some (.ret, ([(V.d (.int .u16 x6)), (V.d (.bool false)), (V.ptr 0 1 0 0), (V.d (.int .i64 (law08_JumpSmooth_L0_r0_2 x6 x8 s0))), (V.d (.bool s0.c4))], [(Blk.flat 96 5 [[(.int .i64 x0), (.int .i64 x1), (.int .i64 x2), (.int .i64 (law08_JumpSmooth_L0_r0_7 x6 x8 s0)), (.bool (law08_JumpSmooth_L0_r0_8 x6 x8 s0))]] false)])) := by
  unfold law08_JumpSmooth_L0_sel law08_JumpSmooth_L0_c0 law08_JumpSmooth_L0_r0_2 law08_JumpSmooth_L0_r0_7 law08_JumpSmooth_L0_r0_8
  cases h1 : tb (decide (s0.c5 < ((x8.length : Nat) : Int)))
  · intro g0 g1
    exact absurd g1 ft
  · cases h2 : tb (inb x8.length s0.c5)
    · intro g0 g1
      exact absurd g1 ft
    · cases h3 : tb ((gt x8 s0.c5).c0)
      · cases h4 : tb (((wi ((wi (x6)) + 1)) : Int) == 0)
        · cases h5 : tb (decide (100000 < (law08_JumpSmooth_L0_h0_e0 x6 x8 s0)))
          · cases h6 : tb (decide ((law08_JumpSmooth_L0_h0_e0 x6 x8 s0) < (-100000)))
            · cases h7 : tb (jump_Watch_Come_pi_Fi4b_c0 s0.c9 s0.c10 (law08_JumpSmooth_L0_h0_e0 x6 x8 s0))
              · intro g0 g1
                exact absurd g1 ft
              · cases h8 : tb (jump_Watch_Come_pi_Fi4b_c0 (jump_Watch_Come_pi_Fi4b_r0_5 s0.c9 (law08_JumpSmooth_L0_h0_e0 x6 x8 s0)) (jump_Watch_Come_pi_Fi4b_r0_6 s0.c10 (law08_JumpSmooth_L0_h0_e0 x6 x8 s0)) (law08_JumpSmooth_L0_h0_e0 x6 x8 s0))
                · intro g0 g1
                  exact absurd g1 ft
                · cases h9 : tb (((jump_Watch_Come_pi_Fi4b_r0_0 x0 x1 x2 s0.c9 s0.c10 (law08_JumpSmooth_L0_h0_e0 x6 x8 s0)) : Int) != 0)
                  · cases h10 : tb (((jump_Watch_Come_pi_Fi4b_r0_0 x0 x1 x2 (jump_Watch_Come_pi_Fi4b_r0_5 s0.c9 (law08_JumpSmooth_L0_h0_e0 x6 x8 s0)) (jump_Watch_Come_pi_Fi4b_r0_6 s0.c10 (law08_JumpSmooth_L0_h0_e0 x6 x8 s0)) (law08_JumpSmooth_L0_h0_e0 x6 x8 s0)) : Int) != 0)
                    · cases h11 : tb (((jump_Watch_Come_pi_Fi4b_r0_1 (law08_JumpSmooth_L0_h0_e0 x6 x8 s0)) : Int) != 0)
                      · intro g0 g1
                        exact absurd g0 tf
                      · intro g0 g1
                        exact round_walk [.o 38 (fun _ => o_len_os (enc := enc_R_bool_i64) (l := x8) (fl := true) (n := x7) (s := 2)), .b h1, .o 44 (fun _ => o_idx_os (enc := enc_R_bool_i64) (l := x8) (fl := true) (n := x7) (s := 2) (k := .i64) h2), .b h3, .o 51 (fun _ => o_idx_os (enc := enc_R_bool_i64) (l := x8) (fl := true) (n := x7) (s := 2) (k := .i64) h2), .o 57 (fun _ => o_rem (k := .i64) (x := ((gt x8 s0.c5).c1)) (y := (wi ((wi (x6)) + 1))) h4), .b h5, .b h6, .c (jump_Watch_Come_pi_Fi4b_t0 x0 x1 x2 s0.c9 s0.c10 (law08_JumpSmooth_L0_h0_e0 x6 x8 s0) h7), .c (jump_Watch_Come_pi_Fi4b_t0 x0 x1 x2 (jump_Watch_Come_pi_Fi4b_r0_5 s0.c9 (law08_JumpSmooth_L0_h0_e0 x6 x8 s0)) (jump_Watch_Come_pi_Fi4b_r0_6 s0.c10 (law08_JumpSmooth_L0_h0_e0 x6 x8 s0)) (law08_JumpSmooth_L0_h0_e0 x6 x8 s0) h8), .b h9, .b h10, .b h11] (by kernel_rfl)
                    · intro g0 g1
                      exact round_walk [.o 38 (fun _ => o_len_os (enc := enc_R_bool_i64) (l := x8) (fl := true) (n := x7) (s := 2)), .b h1, .o 44 (fun _ => o_idx_os (enc := enc_R_bool_i64) (l := x8) (fl := true) (n := x7) (s := 2) (k := .i64) h2), .b h3, .o 51 (fun _ => o_idx_os (enc := enc_R_bool_i64) (l := x8) (fl := true) (n := x7) (s := 2) (k := .i64) h2), .o 57 (fun _ => o_rem (k := .i64) (x := ((gt x8 s0.c5).c1)) (y := (wi ((wi (x6)) + 1))) h4), .b h5, .b h6, .c (jump_Watch_Come_pi_Fi4b_t0 x0 x1 x2 s0.c9 s0.c10 (law08_JumpSmooth_L0_h0_e0 x6 x8 s0) h7), .c (jump_Watch_Come_pi_Fi4b_t0 x0 x1 x2 (jump_Watch_Come_pi_Fi4b_r0_5 s0.c9 (law08_JumpSmooth_L0_h0_e0 x6 x8 s0)) (jump_Watch_Come_pi_Fi4b_r0_6 s0.c10 (law08_JumpSmooth_L0_h0_e0 x6 x8 s0)) (law08_JumpSmooth_L0_h0_e0 x6 x8 s0) h8), .b h9, .b h10] (by kernel_rfl)
                  · intro g0 g1
                    exact round_walk [.o 38 (fun _ => o_len_os (enc := enc_R_bool_i64) (l := x8) (fl := true) (n := x7) (s := 2)), .b h1, .o 44 (fun _ => o_idx_os (enc := enc_R_bool_i64) (l := x8) (fl := true) (n := x7) (s := 2) (k := .i64) h2), .b h3, .o 51 (fun _ => o_idx_os (enc := enc_R_bool_i64) (l := x8) (fl := true) (n := x7) (s := 2) (k := .i64) h2), .o 57 (fun _ => o_rem (k := .i64) (x := ((gt x8 s0.c5).c1)) (y := (wi ((wi (x6)) + 1))) h4), .b h5, .b h6, .c (jump_Watch_Come_pi_Fi4b_t0 x0 x1 x2 s0.c9 s0.c10 (law08_JumpSmooth_L0_h0_e0 x6 x8 s0) h7), .c (jump_Watch_Come_pi_Fi4b_t0 x0 x1 x2 (jump_Watch_Come_pi_Fi4b_r0_5 s0.c9 (law08_JumpSmooth_L0_h0_e0 x6 x8 s0)) (jump_Watch_Come_pi_Fi4b_r0_6 s0.c10 (law08_JumpSmooth_L0_h0_e0 x6 x8 s0)) (law08_JumpSmooth_L0_h0_e0 x6 x8 s0) h8), .b h9] (by kernel_rfl)
            · cases h7 : tb (jump_Watch_Come_pi_Fi4b_c0 s0.c9 s0.c10 (wi (s0.c3 + 0)))
              · intro g0 g1
                exact absurd g1 ft
              · cases h8 : tb (jump_Watch_Come_pi_Fi4b_c0 (jump_Watch_Come_pi_Fi4b_r0_5 s0.c9 (wi (s0.c3 + 0))) (jump_Watch_Come_pi_Fi4b_r0_6 s0.c10 (wi (s0.c3 + 0))) (wi (s0.c3 + 0)))
                · intro g0 g1
                  exact absurd g1 ft
                · cases h9 : tb (((jump_Watch_Come_pi_Fi4b_r0_0 x0 x1 x2 s0.c9 s0.c10 (wi (s0.c3 + 0))) : Int) != 0)
                  · cases h10 : tb (((jump_Watch_Come_pi_Fi4b_r0_0 x0 x1 x2 (jump_Watch_Come_pi_Fi4b_r0_5 s0.c9 (wi (s0.c3 + 0))) (jump_Watch_Come_pi_Fi4b_r0_6 s0.c10 (wi (s0.c3 + 0))) (wi (s0.c3 + 0))) : Int) != 0)
                    · cases h11 : tb (((jump_Watch_Come_pi_Fi4b_r0_1 (wi (s0.c3 + 0))) : Int) != 0)
                      · intro g0 g1
                        exact absurd g0 tf
                      · intro g0 g1
                        exact round_walk [.o 38 (fun _ => o_len_os (enc := enc_R_bool_i64) (l := x8) (fl := true) (n := x7) (s := 2)), .b h1, .o 44 (fun _ => o_idx_os (enc := enc_R_bool_i64) (l := x8) (fl := true) (n := x7) (s := 2) (k := .i64) h2), .b h3, .o 51 (fun _ => o_idx_os (enc := enc_R_bool_i64) (l := x8) (fl := true) (n := x7) (s := 2) (k := .i64) h2), .o 57 (fun _ => o_rem (k := .i64) (x := ((gt x8 s0.c5).c1)) (y := (wi ((wi (x6)) + 1))) h4), .b h5, .b h6, .c (jump_Watch_Come_pi_Fi4b_t0 x0 x1 x2 s0.c9 s0.c10 (wi (s0.c3 + 0)) h7), .c (jump_Watch_Come_pi_Fi4b_t0 x0 x1 x2 (jump_Watch_Come_pi_Fi4b_r0_5 s0.c9 (wi (s0.c3 + 0))) (jump_Watch_Come_pi_Fi4b_r0_6 s0.c10 (wi (s0.c3 + 0))) (wi (s0.c3 + 0)) h8), .b h9, .b h10, .b h11] (by kernel_rfl)
                    · intro g0 g1
                      exact round_walk [.o 38 (fun _ => o_len_os (enc := enc_R_bool_i64) (l := x8) (fl := true) (n := x7) (s := 2)), .b h1, .o 44 (fun _ => o_idx_os (enc := enc_R_bool_i64) (l := x8) (fl := true) (n := x7) (s := 2) (k := .i64) h2), .b h3, .o 51 (fun _ => o_idx_os (enc := enc_R_bool_i64) (l := x8) (fl := true) (n := x7) (s := 2) (k := .i64) h2), .o 57 (fun _ => o_rem (k := .i64) (x := ((gt x8 s0.c5).c1)) (y := (wi ((wi (x6)) + 1))) h4), .b h5, .b h6, .c (jump_Watch_Come_pi_Fi4b_t0 x0 x1 x2 s0.c9 s0.c10 (wi (s0.c3 + 0)) h7), .c (jump_Watch_Come_pi_Fi4b_t0 x0 x1 x2 (jump_Watch_Come_pi_Fi4b_r0_5 s0.c9 (wi (s0.c3 + 0))) (jump_Watch_Come_pi_Fi4b_r0_6 s0.c10 (wi (s0.c3 + 0))) (wi (s0.c3 + 0)) h8), .b h9, .b h10] (by kernel_rfl)
                  · intro g0 g1
                    exact round_walk [.o 38 (fun _ => o_len_os (enc := enc_R_bool_i64) (l := x8) (fl := true) (n := x7) (s := 2)), .b h1, .o 44 (fun _ => o_idx_os (enc := enc_R_bool_i64) (l := x8) (fl := true) (n := x7) (s := 2) (k := .i64) h2), .b h3, .o 51 (fun _ => o_idx_os (enc := enc_R_bool_i64) (l := x8) (fl := true) (n := x7) (s := 2) (k := .i64) h2), .o 57 (fun _ => o_rem (k := .i64) (x := ((gt x8 s0.c5).c1)) (y := (wi ((wi (x6)) + 1))) h4), .b h5, .b h6, .c (jump_Watch_Come_pi_Fi4b_t0 x0 x1 x2 s0.c9 s0.c10 (wi (s0.c3 + 0)) h7), .c (jump_Watch_Come_pi_Fi4b_t0 x0 x1 x2 (jump_Watch_Come_pi_Fi4b_r0_5 s0.c9 (wi (s0.c3 + 0))) (jump_Watch_Come_pi_Fi4b_r0_6 s0.c10 (wi (s0.c3 + 0))) (wi (s0.c3 + 0)) h8), .b h9] (by kernel_rfl)
          · cases h6 : tb (jump_Watch_Come_pi_Fi4b_c0 s0.c9 s0.c10 (wi (s0.c3 + 0)))
            · intro g0 g1
              exact absurd g1 ft
            · cases h7 : tb (jump_Watch_Come_pi_Fi4b_c0 (jump_Watch_Come_pi_Fi4b_r0_5 s0.c9 (wi (s0.c3 + 0))) (jump_Watch_Come_pi_Fi4b_r0_6 s0.c10 (wi (s0.c3 + 0))) (wi (s0.c3 + 0)))
              · intro g0 g1
                exact absurd g1 ft
              · cases h8 : tb (((jump_Watch_Come_pi_Fi4b_r0_0 x0 x1 x2 s0.c9 s0.c10 (wi (s0.c3 + 0))) : Int) != 0)
                · cases h9 : tb (((jump_Watch_Come_pi_Fi4b_r0_0 x0 x1 x2 (jump_Watch_Come_pi_Fi4b_r0_5 s0.c9 (wi (s0.c3 + 0))) (jump_Watch_Come_pi_Fi4b_r0_6 s0.c10 (wi (s0.c3 + 0))) (wi (s0.c3 + 0))) : Int) != 0)
                  · cases h10 : tb (((jump_Watch_Come_pi_Fi4b_r0_1 (wi (s0.c3 + 0))) : Int) != 0)
                    · intro g0 g1
                      exact absurd g0 tf
                    · intro g0 g1
                      exact round_walk [.o 38 (fun _ => o_len_os (enc := enc_R_bool_i64) (l := x8) (fl := true) (n := x7) (s := 2)), .b h1, .o 44 (fun _ => o_idx_os (enc := enc_R_bool_i64) (l := x8) (fl := true) (n := x7) (s := 2) (k := .i64) h2), .b h3, .o 51 (fun _ => o_idx_os (enc := enc_R_bool_i64) (l := x8) (fl := true) (n := x7) (s := 2) (k := .i64) h2), .o 57 (fun _ => o_rem (k := .i64) (x := ((gt x8 s0.c5).c1)) (y := (wi ((wi (x6)) + 1))) h4), .b h5, .c (jump_Watch_Come_pi_Fi4b_t0 x0 x1 x2 s0.c9 s0.c10 (wi (s0.c3 + 0)) h6), .c (jump_Watch_Come_pi_Fi4b_t0 x0 x1 x2 (jump_Watch_Come_pi_Fi4b_r0_5 s0.c9 (wi (s0.c3 + 0))) (jump_Watch_Come_pi_Fi4b_r0_6 s0.c10 (wi (s0.c3 + 0))) (wi (s0.c3 + 0)) h7), .b h8, .b h9, .b h10] (by kernel_rfl)
                  · intro g0 g1
                    exact round_walk [.o 38 (fun _ => o_len_os (enc := enc_R_bool_i64) (l := x8) (fl := true) (n := x7) (s := 2)), .b h1, .o 44 (fun _ => o_idx_os (enc := enc_R_bool_i64) (l := x8) (fl := true) (n := x7) (s := 2) (k := .i64) h2), .b h3, .o 51 (fun _ => o_idx_os (enc := enc_R_bool_i64) (l := x8) (fl := true) (n := x7) (s := 2) (k := .i64) h2), .o 57 (fun _ => o_rem (k := .i64) (x := ((gt x8 s0.c5).c1)) (y := (wi ((wi (x6)) + 1))) h4), .b h5, .c (jump_Watch_Come_pi_Fi4b_t0 x0 x1 x2 s0.c9 s0.c10 (wi (s0.c3 + 0)) h6), .c (jump_Watch_Come_pi_Fi4b_t0 x0 x1 x2 (jump_Watch_Come_pi_Fi4b_r0_5 s0.c9 (wi (s0.c3 + 0))) (jump_Watch_Come_pi_Fi4b_r0_6 s0.c10 (wi (s0.c3 + 0))) (wi (s0.c3 + 0)) h7), .b h8, .b h9] (by kernel_rfl)
                · intro g0 g1
                  exact round_walk [.o 38 (fun _ => o_len_os (enc := enc_R_bool_i64) (l := x8) (fl := true) (n := x7) (s := 2)), .b h1, .o 44 (fun _ => o_idx_os (enc := enc_R_bool_i64) (l := x8) (fl := true) (n := x7) (s := 2) (k := .i64) h2), .b h3, .o 51 (fun _ => o_idx_os (enc := enc_R_bool_i64) (l := x8) (fl := true) (n := x7) (s := 2) (k := .i64) h2), .o 57 (fun _ => o_rem (k := .i64) (x := ((gt x8 s0.c5).c1)) (y := (wi ((wi (x6)) + 1))) h4), .b h5, .c (jump_Watch_Come_pi_Fi4b_t0 x0 x1 x2 s0.c9 s0.c10 (wi (s0.c3 + 0)) h6), .c (jump_Watch_Come_pi_Fi4b_t0 x0 x1 x2 (jump_Watch_Come_pi_Fi4b_r0_5 s0.c9 (wi (s0.c3 + 0))) (jump_Watch_Come_pi_Fi4b_r0_6 s0.c10 (wi (s0.c3 + 0))) (wi (s0.c3 + 0)) h7), .b h8] (by kernel_rfl)
        · intro g0 g1
          exact absurd g1 ft
      · intro g0 g1
        exact absurd g0 tf

theorem law08_JumpSmooth_L0_x1 (x0 : Int) (x1 : Int) (x2 : Int) (x3 : Int) (x4 : Bool) (x5 : Bool) (x6 : Int) (x7 : Bool) (x8 : List R_bool_i64) (x9 : Int) (x10 : Bool) (x11 : Int) (s0 : law08_JumpSmooth_L0_s0) : law08_JumpSmooth_L0_sel x0 x1 x2 x6 x8 s0 = false → law08_JumpSmooth_L0_c0 x6 x8 s0 = false → law08_JumpSmooth_L0_c1 x8 s0 = true → (roundG (runC E0 (cl E0) L6_0) [0, 1, 5, 7, 8, 9] [0, 4, 5, 7, 8] 1) (law08_JumpSmooth_L0_enc x0 x1 x2 x3 x4 x5 x6 x7 x8 x9 x10 x11 s0) = some ((.exit 0), ([(V.d (.int .u16 x6)), V.un, (V.ptr 0 1 0 0), (V.d (.int .i64 s0.c3)), (V.d (.bool s0.c4))], [(Blk.flat 96 5 [[(.int .i64 x0), (.int .i64 x1), (.int .i64 x2), (.int .i64 s0.c9), (.bool s0.c10)]] false)])) := by
  unfold law08_JumpSmooth_L0_sel law08_JumpSmooth_L0_c0 law08_JumpSmooth_L0_c1
  cases h1 : tb (decide (s0.c5 < ((x8.length : Nat) : Int)))
  · intro g0 g1 g2
    exact round_walk [.o 38 (fun _ => o_len_os (enc := enc_R_bool_i64) (l := x8) (fl := true) (n := x7) (s := 2)), .b h1] (by kernel_rfl)
  · cases h2 : tb (inb x8.length s0.c5)
    · intro g0 g1 g2
      exact absurd g2 ft
    · cases h3 : tb ((gt x8 s0.c5).c0)
      · cases h4 : tb (((wi ((wi (x6)) + 1)) : Int) == 0)
        · cases h5 : tb (decide (100000 < (law08_JumpSmooth_L0_h0_e0 x6 x8 s0)))
          · cases h6 : tb (decide ((law08_JumpSmooth_L0_h0_e0 x6 x8 s0) < (-100000)))
            · cases h7 : tb (jump_Watch_Come_pi_Fi4b_c0 s0.c9 s0.c10 (law08_JumpSmooth_L0_h0_e0 x6 x8 s0))
              · intro g0 g1 g2
                exact absurd g2 ft
              · cases h8 : tb (jump_Watch_Come_pi_Fi4b_c0 (jump_Watch_Come_pi_Fi4b_r0_5 s0.c9 (law08_JumpSmooth_L0_h0_e0 x6 x8 s0)) (jump_Watch_Come_pi_Fi4b_r0_6 s0.c10 (law08_JumpSmooth_L0_h0_e0 x6 x8 s0)) (law08_JumpSmooth_L0_h0_e0 x6 x8 s0))
                · intro g0 g1 g2
                  exact absurd g2 ft
                · cases h9 : tb (((jump_Watch_Come_pi_Fi4b_r0_0 x0 x1 x2 s0.c9 s0.c10 (law08_JumpSmooth_L0_h0_e0 x6 x8 s0)) : Int) != 0)
                  · cases h10 : tb (((jump_Watch_Come_pi_Fi4b_r0_0 x0 x1 x2 (jump_Watch_Come_pi_Fi4b_r0_5 s0.c9 (law08_JumpSmooth_L0_h0_e0 x6 x8 s0)) (jump_Watch_Come_pi_Fi4b_r0_6 s0.c10 (law08_JumpSmooth_L0_h0_e0 x6 x8 s0)) (law08_JumpSmooth_L0_h0_e0 x6 x8 s0)) : Int) != 0)
                    · cases h11 : tb (((jump_Watch_Come_pi_Fi4b_r0_1 (law08_JumpSmooth_L0_h0_e0 x6 x8 s0)) : Int) != 0)
                      · intro g0 g1 g2
                        exact absurd g0 tf
                      · intro g0 g1 g2
                        exact absurd g1 tf
                    · intro g0 g1 g2
                      exact absurd g1 tf
                  · intro g0 g1 g2
                    exact absurd g1 tf
            · cases h7 : tb (jump_Watch_Come_pi_Fi4b_c0 s0.c9 s0.c10 (wi (s0.c3 + 0)))
              · intro g0 g1 g2
                exact absurd g2 ft
              · cases h8 : tb (jump_Watch_Come_pi_Fi4b_c0 (jump_Watch_Come_pi_Fi4b_r0_5 s0.c9 (wi (s0.c3 + 0))) (jump_Watch_Come_pi_Fi4b_r0_6 s0.c10 (wi (s0.c3 + 0))) (wi (s0.c3 + 0)))
                · intro g0 g1 g2
                  exact absurd g2 ft
                · cases h9 : tb (((jump_Watch_Come_pi_Fi4b_r0_0 x0 x1 x2 s0.c9 s0.c10 (wi (s0.c3 + 0))) : Int) != 0)
                  · cases h10 : tb (((jump_Watch_Come_pi_Fi4b_r0_0 x0 x1 x2 (jump_Watch_Come_pi_Fi4b_r0_5 s0.c9 (wi (s0.c3 + 0))) (jump_Watch_Come_pi_Fi4b_r0_6 s0.c10 (wi (s0.c3 + 0))) (wi (s0.c3 + 0))) : Int) != 0)
                    · cases h11 : tb (((jump_Watch_Come_pi_Fi4b_r0_1 (wi (s0.c3 + 0))) : Int) != 0)
                      · intro g0 g1 g2
                        exact absurd g0 tf
                      · intro g0 g1 g2
                        exact absurd g1 tf
                    · intro g0 g1 g2
                      exact absurd g1 tf
                  · intro g0 g1 g2
                    exact absurd g1 tf
          · cases h6 : tb (jump_Watch_Come_pi_Fi4b_c0 s0.c9 s0.c10 (wi (s0.c3 + 0)))
            · intro g0 g1 g2
              exact absurd g2 ft
            · cases h7 : tb (jump_Watch_Come_pi_Fi4b_c0 (jump_Watch_Come_pi_Fi4b_r0_5 s0.c9 (wi (s0.c3 + 0))) (jump_Watch_Come_pi_Fi4b_r0_6 s0.c10 (wi (s0.c3 + 0))) (wi (s0.c3 + 0)))
              · intro g0 g1 g2
                exact absurd g2 ft
              · cases h8 : tb (((jump_Watch_Come_pi_Fi4b_r0_0 x0 x1 x2 s0.c9 s0.c10 (wi (s0.c3 + 0))) : Int) != 0)
                · cases h9 : tb (((jump_Watch_Come_pi_Fi4b_r0_0 x0 x1 x2 (jump_Watch_Come_pi_Fi4b_r0_5 s0.c9 (wi (s0.c3 + 0))) (jump_Watch_Come_pi_Fi4b_r0_6 s0.c10 (wi (s0.c3 + 0))) (wi (s0.c3 + 0))) : Int) != 0)
                  · cases h10 : tb (((jump_Watch_Come_pi_Fi4b_r0_1 (wi (s0.c3 + 0))) : Int) != 0)
                    · intro g0 g1 g2
                      exact absurd g0 tf
                    · intro g0 g1 g2
                      exact absurd g1 tf
                  · intro g0 g1 g2
                    exact absurd g1 tf
                · intro g0 g1 g2
                  exact absurd g1 tf
        · intro g0 g1 g2
          exact absurd g2 ft
      · intro g0 g1 g2
        exact absurd g0 tf

theorem law08_JumpSmooth_L0_f0_0 (x0 : Int) (x1 : Int) (x2 : Int) (x3 : Int) (x4 : Bool) (x5 : Bool) (x6 : Int) (x7 : Bool) (x8 : List R_bool_i64) (x9 : Int) (x10 : Bool) (x11 : Int) (s : law08_JumpSmooth_L0_s0) (hok : law08_JumpSmooth_L0_ok x0 x1 x2 x6 x8 s = true) (c0 : law08_JumpSmooth_L0_c0 x6 x8 (law08_JumpSmooth_L0_end x0 x1 x2 x6 x8 s) = true) : loopG (roundG (runC E0 (cl E0) L6_0) [0, 1, 5, 7, 8, 9] [0, 4, 5, 7, 8] 1) bound (law08_JumpSmooth_L0_enc x0 x1 x2 x3 x4 x5 x6 x7 x8 x9 x10 x11 s) = some (.ret, ([(V.d (.int .u16 x6)), (V.d (.bool false)), (V.ptr 0 1 0 0), (V.d (.int .i64 (law08_JumpSmooth_L0_r0_2 x6 x8 (law08_JumpSmooth_L0_end x0 x1 x2 x6 x8 s)))), (V.d (.bool ((law08_JumpSmooth_L0_end x0 x1 x2 x6 x8 s).c4)))], [(Blk.flat 96 5 [[(.int .i64 x0), (.int .i64 x1), (.int .i64 x2), (.int .i64 (law08_JumpSmooth_L0_r0_7 x6 x8 (law08_JumpSmooth_L0_end x0 x1 x2 x6 x8 s))), (.bool (law08_JumpSmooth_L0_r0_8 x6 x8 (law08_JumpSmooth_L0_end x0 x1 x2 x6 x8 s)))]] false)])) := by
  have e : itS (law08_JumpSmooth_L0_sel x0 x1 x2 x6 x8) (law08_JumpSmooth_L0_nx x0 x1 x2 x6 x8) bound s = some (law08_JumpSmooth_L0_end x0 x1 x2 x6 x8 s) := itS_get hok
  have f := itS_false e
  exact loop_it (law08_JumpSmooth_L0_go x0 x1 x2 x3 x4 x5 x6 x7 x8 x9 x10 x11) bound s _ _ _ e (fun h => by cases h) (law08_JumpSmooth_L0_x0 x0 x1 x2 x3 x4 x5 x6 x7 x8 x9 x10 x11 (law08_JumpSmooth_L0_end x0 x1 x2 x6 x8 s) f c0)

theorem law08_JumpSmooth_L0_f0_1 (x0 : Int) (x1 : Int) (x2 : Int) (x3 : Int) (x4 : Bool) (x5 : Bool) (x6 : Int) (x7 : Bool) (x8 : List R_bool_i64) (x9 : Int) (x10 : Bool) (x11 : Int) (s : law08_JumpSmooth_L0_s0) (hok : law08_JumpSmooth_L0_ok x0 x1 x2 x6 x8 s = true) (c0 : law08_JumpSmooth_L0_c0 x6 x8 (law08_JumpSmooth_L0_end x0 x1 x2 x6 x8 s) = false) (c1 : law08_JumpSmooth_L0_c1 x8 (law08_JumpSmooth_L0_end x0 x1 x2 x6 x8 s) = true) : loopG (roundG (runC E0 (cl E0) L6_0) [0, 1, 5, 7, 8, 9] [0, 4, 5, 7, 8] 1) bound (law08_JumpSmooth_L0_enc x0 x1 x2 x3 x4 x5 x6 x7 x8 x9 x10 x11 s) = some ((.exit 0), ([(V.d (.int .u16 x6)), V.un, (V.ptr 0 1 0 0), (V.d (.int .i64 ((law08_JumpSmooth_L0_end x0 x1 x2 x6 x8 s).c3))), (V.d (.bool ((law08_JumpSmooth_L0_end x0 x1 x2 x6 x8 s).c4)))], [(Blk.flat 96 5 [[(.int .i64 x0), (.int .i64 x1), (.int .i64 x2), (.int .i64 ((law08_JumpSmooth_L0_end x0 x1 x2 x6 x8 s).c9)), (.bool ((law08_JumpSmooth_L0_end x0 x1 x2 x6 x8 s).c10))]] false)])) := by
  have e : itS (law08_JumpSmooth_L0_sel x0 x1 x2 x6 x8) (law08_JumpSmooth_L0_nx x0 x1 x2 x6 x8) bound s = some (law08_JumpSmooth_L0_end x0 x1 x2 x6 x8 s) := itS_get hok
  have f := itS_false e
  exact loop_it (law08_JumpSmooth_L0_go x0 x1 x2 x3 x4 x5 x6 x7 x8 x9 x10 x11) bound s _ _ _ e (fun h => by cases h) (law08_JumpSmooth_L0_x1 x0 x1 x2 x3 x4 x5 x6 x7 x8 x9 x10 x11 (law08_JumpSmooth_L0_end x0 x1 x2 x6 x8 s) f c0 c1)

def law08_JumpSmooth_e0 (x0 : Int) (x2 : List R_bool_i64) : law08_JumpSmooth_L0_s0 := law08_JumpSmooth_L0_end (-100000) 100000 (wi (x0)) x0 x2 (⟨0, true, 0, 0, false⟩ : law08_JumpSmooth_L0_s0)

def law08_JumpSmooth_c0 (x0 : Int) (x2 : List R_bool_i64) : Bool := (bif tb (decide (200 < ((x2.length : Nat) : Int))) then true else (bif tb (jump_New_iii_c0 (-100000) 100000 (wi (x0))) then true else (bif tb (law08_JumpSmooth_L0_ok (-100000) 100000 (wi (x0)) x0 x2 (⟨0, true, 0, 0, false⟩ : law08_JumpSmooth_L0_s0)) then (bif tb (law08_JumpSmooth_L0_c0 x0 x2 (law08_JumpSmooth_e0 x0 x2)) then true else (bif tb (law08_JumpSmooth_L0_c1 x2 (law08_JumpSmooth_e0 x0 x2)) then (bif tb (jump_Watch_Come_pi_Fi4b_c0 ((law08_JumpSmooth_e0 x0 x2).c9) ((law08_JumpSmooth_e0 x0 x2).c10) 100001) then (bif tb (jump_Watch_Come_pi_Fi4b_c0 (jump_Watch_Come_pi_Fi4b_r0_5 ((law08_JumpSmooth_e0 x0 x2).c9) 100001) (jump_Watch_Come_pi_Fi4b_r0_6 ((law08_JumpSmooth_e0 x0 x2).c10) 100001) 100001) then true else false) else false) else false)) else false)))

def law08_JumpSmooth_r0_0 (x0 : Int) (x2 : List R_bool_i64) : Bool := (bif tb (decide (200 < ((x2.length : Nat) : Int))) then true else (bif tb (jump_New_iii_c0 (-100000) 100000 (wi (x0))) then false else (bif tb (law08_JumpSmooth_L0_c0 x0 x2 (law08_JumpSmooth_e0 x0 x2)) then false else (bif tb ((law08_JumpSmooth_e0 x0 x2).c4) then (bif tb (((jump_Watch_Come_pi_Fi4b_r0_1 100001) : Int) == 0) then (bif tb (((jump_Watch_Come_pi_Fi4b_r0_0 (-100000) 100000 (wi (x0)) (jump_Watch_Come_pi_Fi4b_r0_5 ((law08_JumpSmooth_e0 x0 x2).c9) 100001) (jump_Watch_Come_pi_Fi4b_r0_6 ((law08_JumpSmooth_e0 x0 x2).c10) 100001) 100001) : Int) == 2) then (bif tb (false != ((((jump_Watch_Come_pi_Fi4b_r0_0 (-100000) 100000 (wi (x0)) ((law08_JumpSmooth_e0 x0 x2).c9) ((law08_JumpSmooth_e0 x0 x2).c10) 100001) : Int) == 6) == false)) then (false != ((((jump_Watch_Come_pi_Fi4b_r0_0 (-100000) 100000 (wi (x0)) ((law08_JumpSmooth_e0 x0 x2).c9) ((law08_JumpSmooth_e0 x0 x2).c10) 100001) : Int) == 2) == true)) else false) else false) else false) else (bif tb (((jump_Watch_Come_pi_Fi4b_r0_1 100001) : Int) == 0) then (bif tb (((jump_Watch_Come_pi_Fi4b_r0_0 (-100000) 100000 (wi (x0)) (jump_Watch_Come_pi_Fi4b_r0_5 ((law08_JumpSmooth_e0 x0 x2).c9) 100001) (jump_Watch_Come_pi_Fi4b_r0_6 ((law08_JumpSmooth_e0 x0 x2).c10) 100001) 100001) : Int) == 2) then (bif tb (false != ((((jump_Watch_Come_pi_Fi4b_r0_0 (-100000) 100000 (wi (x0)) ((law08_JumpSmooth_e0 x0 x2).c9) ((law08_JumpSmooth_e0 x0 x2).c10) 100001) : Int) == 6) == (decide ((wi (x0)) < (wi (100001 - ((law08_JumpSmooth_e0 x0 x2).c3))))))) then (false != ((((jump_Watch_Come_pi_Fi4b_r0_0 (-100000) 100000 (wi (x0)) ((law08_JumpSmooth_e0 x0 x2).c9) ((law08_JumpSmooth_e0 x0 x2).c10) 100001) : Int) == 2) == (!(decide ((wi (x0)) < (wi (100001 - ((law08_JumpSmooth_e0 x0 x2).c3)))))))) else false) else false) else false)))))

theorem law08_JumpSmooth_t0 (x0 : Int) (x1 : Bool) (x2 : List R_bool_i64) : law08_JumpSmooth_c0 x0 x2 = true → cl E0 6 [(V.d (.int .u16 x0)), (V.d (slD enc_R_bool_i64 true 2 x1 x2))] [] = some ([(V.d (.bool (law08_JumpSmooth_r0_0 x0 x2)))], []) := by
  unfold law08_JumpSmooth_c0 law08_JumpSmooth_r0_0
  cases h1 : tb (decide (200 < ((x2.length : Nat) : Int)))
  · cases h2 : tb (jump_New_iii_c0 (-100000) 100000 (wi (x0)))
    · cases h3 : tb (law08_JumpSmooth_L0_ok (-100000) 100000 (wi (x0)) x0 x2 (⟨0, true, 0, 0, false⟩ : law08_JumpSmooth_L0_s0))
      · intro g0
        exact absurd g0 ft
      · cases h4 : tb (law08_JumpSmooth_L0_c0 x0 x2 (law08_JumpSmooth_e0 x0 x2))
        · cases h5 : tb (law08_JumpSmooth_L0_c1 x2 (law08_JumpSmooth_e0 x0 x2))
          · intro g0
            exact absurd g0 ft
          · cases h6 : tb (jump_Watch_Come_pi_Fi4b_c0 ((law08_JumpSmooth_e0 x0 x2).c9) ((law08_JumpSmooth_e0 x0 x2).c10) 100001)
            · intro g0
              exact absurd g0 ft
            · cases h7 : tb (jump_Watch_Come_pi_Fi4b_c0 (jump_Watch_Come_pi_Fi4b_r0_5 ((law08_JumpSmooth_e0 x0 x2).c9) 100001) (jump_Watch_Come_pi_Fi4b_r0_6 ((law08_JumpSmooth_e0 x0 x2).c10) 100001) 100001)
              · intro g0
                exact absurd g0 ft
              · cases h8 : tb ((law08_JumpSmooth_e0 x0 x2).c4)
                · cases h9 : tb (((jump_Watch_Come_pi_Fi4b_r0_1 100001) : Int) == 0)
                  · intro g0
                    exact w6 [.o 21 (fun _ => o_len_os (enc := enc_R_bool_i64) (l := x2) (fl := true) (n := x1) (s := 2)), .b h1, .c (jump_New_iii_t1 (-100000) 100000 (wi (x0)) h2), .k false, .k false, .l (law08_JumpSmooth_L0_f0_1 (-100000) 100000 (wi (x0)) 0 false false x0 x1 x2 0 true 0 (⟨0, true, 0, 0, false⟩ : law08_JumpSmooth_L0_s0) h3 h4 h5), .c (jump_Watch_Come_pi_Fi4b_t0 (-100000) 100000 (wi (x0)) ((law08_JumpSmooth_e0 x0 x2).c9) ((law08_JumpSmooth_e0 x0 x2).c10) 100001 h6), .c (jump_Watch_Come_pi_Fi4b_t0 (-100000) 100000 (wi (x0)) (jump_Watch_Come_pi_Fi4b_r0_5 ((law08_JumpSmooth_e0 x0 x2).c9) 100001) (jump_Watch_Come_pi_Fi4b_r0_6 ((law08_JumpSmooth_e0 x0 x2).c10) 100001) 100001 h7), .b (notF h8), .c (law08_alive_t0), .k true, .b h9] (by kernel_rfl)
                  · cases h10 : tb (((jump_Watch_Come_pi_Fi4b_r0_0 (-100000) 100000 (wi (x0)) (jump_Watch_Come_pi_Fi4b_r0_5 ((law08_JumpSmooth_e0 x0 x2).c9) 100001) (jump_Watch_Come_pi_Fi4b_r0_6 ((law08_JumpSmooth_e0 x0 x2).c10) 100001) 100001) : Int) == 2)
                    · intro g0
                      exact w6 [.o 21 (fun _ => o_len_os (enc := enc_R_bool_i64) (l := x2) (fl := true) (n := x1) (s := 2)), .b h1, .c (jump_New_iii_t1 (-100000) 100000 (wi (x0)) h2), .k false, .k false, .l (law08_JumpSmooth_L0_f0_1 (-100000) 100000 (wi (x0)) 0 false false x0 x1 x2 0 true 0 (⟨0, true, 0, 0, false⟩ : law08_JumpSmooth_L0_s0) h3 h4 h5), .c (jump_Watch_Come_pi_Fi4b_t0 (-100000) 100000 (wi (x0)) ((law08_JumpSmooth_e0 x0 x2).c9) ((law08_JumpSmooth_e0 x0 x2).c10) 100001 h6), .c (jump_Watch_Come_pi_Fi4b_t0 (-100000) 100000 (wi (x0)) (jump_Watch_Come_pi_Fi4b_r0_5 ((law08_JumpSmooth_e0 x0 x2).c9) 100001) (jump_Watch_Come_pi_Fi4b_r0_6 ((law08_JumpSmooth_e0 x0 x2).c10) 100001) 100001 h7), .b (notF h8), .c (law08_alive_t0), .k true, .b h9, .b h9, .b h10] (by kernel_rfl)
                    · cases h11 : tb (false != ((((jump_Watch_Come_pi_Fi4b_r0_0 (-100000) 100000 (wi (x0)) ((law08_JumpSmooth_e0 x0 x2).c9) ((law08_JumpSmooth_e0 x0 x2).c10) 100001) : Int) == 6) == (decide ((wi (x0)) < (wi (100001 - ((law08_JumpSmooth_e0 x0 x2).c3)))))))
                      · intro g0
                        exact w6 [.o 21 (fun _ => o_len_os (enc := enc_R_bool_i64) (l := x2) (fl := true) (n := x1) (s := 2)), .b h1, .c (jump_New_iii_t1 (-100000) 100000 (wi (x0)) h2), .k false, .k false, .l (law08_JumpSmooth_L0_f0_1 (-100000) 100000 (wi (x0)) 0 false false x0 x1 x2 0 true 0 (⟨0, true, 0, 0, false⟩ : law08_JumpSmooth_L0_s0) h3 h4 h5), .c (jump_Watch_Come_pi_Fi4b_t0 (-100000) 100000 (wi (x0)) ((law08_JumpSmooth_e0 x0 x2).c9) ((law08_JumpSmooth_e0 x0 x2).c10) 100001 h6), .c (jump_Watch_Come_pi_Fi4b_t0 (-100000) 100000 (wi (x0)) (jump_Watch_Come_pi_Fi4b_r0_5 ((law08_JumpSmooth_e0 x0 x2).c9) 100001) (jump_Watch_Come_pi_Fi4b_r0_6 ((law08_JumpSmooth_e0 x0 x2).c10) 100001) 100001 h7), .b (notF h8), .c (law08_alive_t0), .k true, .b h9, .b h9, .b h10, .b h11] (by kernel_rfl)
                      · intro g0
                        exact w6 [.o 21 (fun _ => o_len_os (enc := enc_R_bool_i64) (l := x2) (fl := true) (n := x1) (s := 2)), .b h1, .c (jump_New_iii_t1 (-100000) 100000 (wi (x0)) h2), .k false, .k false, .l (law08_JumpSmooth_L0_f0_1 (-100000) 100000 (wi (x0)) 0 false false x0 x1 x2 0 true 0 (⟨0, true, 0, 0, false⟩ : law08_JumpSmooth_L0_s0) h3 h4 h5), .c (jump_Watch_Come_pi_Fi4b_t0 (-100000) 100000 (wi (x0)) ((law08_JumpSmooth_e0 x0 x2).c9) ((law08_JumpSmooth_e0 x0 x2).c10) 100001 h6), .c (jump_Watch_Come_pi_Fi4b_t0 (-100000) 100000 (wi (x0)) (jump_Watch_Come_pi_Fi4b_r0_5 ((law08_JumpSmooth_e0 x0 x2).c9) 100001) (jump_Watch_Come_pi_Fi4b_r0_6 ((law08_JumpSmooth_e0 x0 x2).c10) 100001) 100001 h7), .b (notF h8), .c (law08_alive_t0), .k true, .b h9, .b h9, .b h10, .b h11] (by kernel_rfl)
                · cases h9 : tb (((jump_Watch_Come_pi_Fi4b_r0_1 100001) : Int) == 0)
                  · intro g0
                    exact w6 [.o 21 (fun _ => o_len_os (enc := enc_R_bool_i64) (l := x2) (fl := true) (n := x1) (s := 2)), .b h1, .c (jump_New_iii_t1 (-100000) 100000 (wi (x0)) h2), .k false, .k false, .l (law08_JumpSmooth_L0_f0_1 (-100000) 100000 (wi (x0)) 0 false false x0 x1 x2 0 true 0 (⟨0, true, 0, 0, false⟩ : law08_JumpSmooth_L0_s0) h3 h4 h5), .c (jump_Watch_Come_pi_Fi4b_t0 (-100000) 100000 (wi (x0)) ((law08_JumpSmooth_e0 x0 x2).c9) ((law08_JumpSmooth_e0 x0 x2).c10) 100001 h6), .c (jump_Watch_Come_pi_Fi4b_t0 (-100000) 100000 (wi (x0)) (jump_Watch_Come_pi_Fi4b_r0_5 ((law08_JumpSmooth_e0 x0 x2).c9) 100001) (jump_Watch_Come_pi_Fi4b_r0_6 ((law08_JumpSmooth_e0 x0 x2).c10) 100001) 100001 h7), .b (notT h8), .c (law08_alive_t0), .k true, .b h9] (by kernel_rfl)
                  · cases h10 : tb (((jump_Watch_Come_pi_Fi4b_r0_0 (-100000) 100000 (wi (x0)) (jump_Watch_Come_pi_Fi4b_r0_5 ((law08_JumpSmooth_e0 x0 x2).c9) 100001) (jump_Watch_Come_pi_Fi4b_r0_6 ((law08_JumpSmooth_e0 x0 x2).c10) 100001) 100001) : Int) == 2)
                    · intro g0
                      exact w6 [.o 21 (fun _ => o_len_os (enc := enc_R_bool_i64) (l := x2) (fl := true) (n := x1) (s := 2)), .b h1, .c (jump_New_iii_t1 (-100000) 100000 (wi (x0)) h2), .k false, .k false, .l (law08_JumpSmooth_L0_f0_1 (-100000) 100000 (wi (x0)) 0 false false x0 x1 x2 0 true 0 (⟨0, true, 0, 0, false⟩ : law08_JumpSmooth_L0_s0) h3 h4 h5), .c (jump_Watch_Come_pi_Fi4b_t0 (-100000) 100000 (wi (x0)) ((law08_JumpSmooth_e0 x0 x2).c9) ((law08_JumpSmooth_e0 x0 x2).c10) 100001 h6), .c (jump_Watch_Come_pi_Fi4b_t0 (-100000) 100000 (wi (x0)) (jump_Watch_Come_pi_Fi4b_r0_5 ((law08_JumpSmooth_e0 x0 x2).c9) 100001) (jump_Watch_Come_pi_Fi4b_r0_6 ((law08_JumpSmooth_e0 x0 x2).c10) 100001) 100001 h7), .b (notT h8), .c (law08_alive_t0), .k true, .b h9, .b h9, .b h10] (by kernel_rfl)
                    · cases h11 : tb (false != ((((jump_Watch_Come_pi_Fi4b_r0_0 (-100000) 100000 (wi (x0)) ((law08_JumpSmooth_e0 x0 x2).c9) ((law08_JumpSmooth_e0 x0 x2).c10) 100001) : Int) == 6) == false))
                      · intro g0
                        exact w6 [.o 21 (fun _ => o_len_os (enc := enc_R_bool_i64) (l := x2) (fl := true) (n := x1) (s := 2)), .b h1, .c (jump_New_iii_t1 (-100000) 100000 (wi (x0)) h2), .k false, .k false, .l (law08_JumpSmooth_L0_f0_1 (-100000) 100000 (wi (x0)) 0 false false x0 x1 x2 0 true 0 (⟨0, true, 0, 0, false⟩ : law08_JumpSmooth_L0_s0) h3 h4 h5), .c (jump_Watch_Come_pi_Fi4b_t0 (-100000) 100000 (wi (x0)) ((law08_JumpSmooth_e0 x0 x2).c9) ((law08_JumpSmooth_e0 x0 x2).c10) 100001 h6), .c (jump_Watch_Come_pi_Fi4b_t0 (-100000) 100000 (wi (x0)) (jump_Watch_Come_pi_Fi4b_r0_5 ((law08_JumpSmooth_e0 x0 x2).c9) 100001) (jump_Watch_Come_pi_Fi4b_r0_6 ((law08_JumpSmooth_e0 x0 x2).c10) 100001) 100001 h7), .b (notT h8), .c (law08_alive_t0), .k true, .b h9, .b h9, .b h10, .b h11] (by kernel_rfl)
                      · intro g0
                        exact w6 [.o 21 (fun _ => o_len_os (enc := enc_R_bool_i64) (l := x2) (fl := true) (n := x1) (s := 2)), .b h1, .c (jump_New_iii_t1 (-100000) 100000 (wi (x0)) h2), .k false, .k false, .l (law08_JumpSmooth_L0_f0_1 (-100000) 100000 (wi (x0)) 0 false false x0 x1 x2 0 true 0 (⟨0, true, 0, 0, false⟩ : law08_JumpSmooth_L0_s0) h3 h4 h5), .c (jump_Watch_Come_pi_Fi4b_t0 (-100000) 100000 (wi (x0)) ((law08_JumpSmooth_e0 x0 x2).c9) ((law08_JumpSmooth_e0 x0 x2).c10) 100001 h6), .c (jump_Watch_Come_pi_Fi4b_t0 (-100000) 100000 (wi (x0)) (jump_Watch_Come_pi_Fi4b_r0_5 ((law08_JumpSmooth_e0 x0 x2).c9) 100001) (jump_Watch_Come_pi_Fi4b_r0_6 ((law08_JumpSmooth_e0 x0 x2).c10) 100001) 100001 h7), .b (notT h8), .c (law08_alive_t0), .k true, .b h9, .b h9, .b h10, .b h11] (by kernel_rfl)
        · intro g0
          exact w6 [.o 21 (fun _ => o_len_os (enc := enc_R_bool_i64) (l := x2) (fl := true) (n := x1) (s := 2)), .b h1, .c (jump_New_iii_t1 (-100000) 100000 (wi (x0)) h2), .k false, .k false, .l (law08_JumpSmooth_L0_f0_0 (-100000) 100000 (wi (x0)) 0 false false x0 x1 x2 0 true 0 (⟨0, true, 0, 0, false⟩ : law08_JumpSmooth_L0_s0) h3 h4)] (by kernel_rfl)
    · intro g0
      exact w6 [.o 21 (fun _ => o_len_os (enc := enc_R_bool_i64) (l := x2) (fl := true) (n := x1) (s := 2)), .b h1, .c (jump_New_iii_t0 (-100000) 100000 (wi (x0)) h2), .k true] (by kernel_rfl)
  · intro g0
    exact w6 [.o 21 (fun _ => o_len_os (enc := enc_R_bool_i64) (l := x2) (fl := true) (n := x1) (s := 2)), .b h1, .c (law08_alive_t0)] (by kernel_rfl)

end Go.Proofs.Ytgalchmjpfmemaa.Den

namespace Go.Proofs.Ytgalchmjpfmemaa.Den
open Go Go.Proofs
set_option maxRecDepth 100000
set_option linter.unusedVariables false
set_option linter.unusedSimpArgs false

def ref08_Right_i_r0_0 (x0 : Int) : Bool := (bif tb (decide ((-2147483648) ≤ x0)) then (decide (x0 ≤ 2147483647)) else false)

theorem ref08_Right_i_t0 (x0 : Int) : cl E0 64 [(V.d (.int .i64 x0))] [] = some ([(V.d (.bool (ref08_Right_i_r0_0 x0)))], []) := by
  unfold ref08_Right_i_r0_0
  cases h1 : tb (decide ((-2147483648) ≤ x0))
  · exact w64 [.b h1] (by kernel_rfl)
  · exact w64 [.b h1] (by kernel_rfl)

def ref08_May_iii_r0_0 (x0 : Int) (x1 : Int) (x2 : Int) : Bool := (bif tb (ref08_Right_i_r0_0 x0) then (bif tb (ref08_Right_i_r0_0 x1) then (bif tb (ref08_Right_i_r0_0 x2) then (bif tb (decide (x0 ≤ x1)) then (decide (0 ≤ x2)) else false) else false) else false) else false)

theorem ref08_May_iii_t0 (x0 : Int) (x1 : Int) (x2 : Int) : cl E0 24 [(V.d (.int .i64 x0)), (V.d (.int .i64 x1)), (V.d (.int .i64 x2))] [] = some ([(V.d (.bool (ref08_May_iii_r0_0 x0 x1 x2)))], []) := by
  unfold ref08_May_iii_r0_0
  cases h1 : tb (ref08_Right_i_r0_0 x0)
  · exact w24 [.c (ref08_Right_i_t0 x0), .c (ref08_Right_i_t0 x1), .c (ref08_Right_i_t0 x2), .b h1] (by kernel_rfl)
  · cases h2 : tb (ref08_Right_i_r0_0 x1)
    · exact w24 [.c (ref08_Right_i_t0 x0), .c (ref08_Right_i_t0 x1), .c (ref08_Right_i_t0 x2), .b h1, .b h2] (by kernel_rfl)
    · cases h3 : tb (ref08_Right_i_r0_0 x2)
      · exact w24 [.c (ref08_Right_i_t0 x0), .c (ref08_Right_i_t0 x1), .c (ref08_Right_i_t0 x2), .b h1, .b h2, .b h3] (by kernel_rfl)
      · cases h4 : tb (decide (x0 ≤ x1))
        · exact w24 [.c (ref08_Right_i_t0 x0), .c (ref08_Right_i_t0 x1), .c (ref08_Right_i_t0 x2), .b h1, .b h2, .b h3, .b h4] (by kernel_rfl)
        · exact w24 [.c (ref08_Right_i_t0 x0), .c (ref08_Right_i_t0 x1), .c (ref08_Right_i_t0 x2), .b h1, .b h2, .b h3, .b h4] (by kernel_rfl)

theorem ref08_Begin_iii_t0 (x0 : Int) (x1 : Int) (x2 : Int) : cl E0 25 [(V.d (.int .i64 x0)), (V.d (.int .i64 x1)), (V.d (.int .i64 x2))] [] = some ([(V.ptr 0 1 0 0)], [(Blk.gen 99 4 [[(V.d (.int .i64 x0)), (V.d (.int .i64 x1)), (V.d (.int .i64 x2)), (V.d .nils)]] false)]) := by
  exact w25 [] (by kernel_rfl)

theorem ref08_Watch_Miss_p_Gi3n_t0 (x0 : Int) (x1 : Int) (x2 : Int) : cl E0 27 [(V.ptr 0 1 0 0)] [(Blk.gen 99 4 [[(V.d (.int .i64 x0)), (V.d (.int .i64 x1)), (V.d (.int .i64 x2)), (V.d .nils)]] false)] = some ([], [(Blk.gen 99 4 [[(V.d (.int .i64 x0)), (V.d (.int .i64 x1)), (V.d (.int .i64 x2)), (V.d .nils)]] false)]) := by
  exact w27 [] (by kernel_rfl)

theorem ref08_Watch_Last_p_Gi3n_t0 (x0 : Int) (x1 : Int) (x2 : Int) (x3 : Bool) : cl E0 31 [(V.ptr 0 1 0 0)] [(Blk.gen 99 4 [[(V.d (.int .i64 x0)), (V.d (.int .i64 x1)), (V.d (.int .i64 x2)), (V.d .nils)]] x3)] = some ([(V.d (.int .i64 0)), (V.d (.bool false))], [(Blk.gen 99 4 [[(V.d (.int .i64 x0)), (V.d (.int .i64 x1)), (V.d (.int .i64 x2)), (V.d .nils)]] x3)]) := by
  exact w31 [.k true] (by kernel_rfl)

def ref08_Watch_Come_pi_Gi3n_c0 (x4 : Int) : Bool := (bif tb (ref08_Right_i_r0_0 x4) then true else false)

def ref08_Watch_Come_pi_Gi3n_r0_0 (x0 : Int) (x1 : Int) (x4 : Int) : Int := (bif tb (decide (x4 < x0)) then 2 else (bif tb (decide (x1 < x4)) then 2 else 0))

theorem ref08_Watch_Come_pi_Gi3n_t0 (x0 : Int) (x1 : Int) (x2 : Int) (x4 : Int) : ref08_Watch_Come_pi_Gi3n_c0 x4 = true → cl E0 29 [(V.ptr 0 1 0 0), (V.d (.int .i64 x4))] [(Blk.gen 99 4 [[(V.d (.int .i64 x0)), (V.d (.int .i64 x1)), (V.d (.int .i64 x2)), (V.d .nils)]] false)] = some ([(V.d (.int .i64 (ref08_Watch_Come_pi_Gi3n_r0_0 x0 x1 x4))), (V.d (.int .i64 0))], [(Blk.gen 99 4 [[(V.d (.int .i64 x0)), (V.d (.int .i64 x1)), (V.d (.int .i64 x2)), (V.sl 1 1 0 1)]] false), (Blk.flat 3 1 [[(.int .i64 x4)]] false)]) := by
  unfold ref08_Watch_Come_pi_Gi3n_c0 ref08_Watch_Come_pi_Gi3n_r0_0
  cases h1 : tb (ref08_Right_i_r0_0 x4)
  · intro g0
    exact absurd g0 ft
  · cases h2 : tb (decide (x4 < x0))
    · cases h3 : tb (decide (x1 < x4))
      · intro g0
        exact w29 [.c (ref08_Right_i_t0 x4), .b (notT h1), .b h2, .b h3, .k false] (by kernel_rfl)
      · intro g0
        exact w29 [.c (ref08_Right_i_t0 x4), .b (notT h1), .b h2, .b h3, .k false] (by kernel_rfl)
    · intro g0
      exact w29 [.c (ref08_Right_i_t0 x4), .b (notT h1), .b h2, .k false] (by kernel_rfl)

theorem ref08_Watch_Come_pi_Gi3n_t1 (x0 : Int) (x1 : Int) (x2 : Int) (x4 : Int) : ref08_Watch_Come_pi_Gi3n_c0 x4 = false → cl E0 29 [(V.ptr 0 1 0 0), (V.d (.int .i64 x4))] [(Blk.gen 99 4 [[(V.d (.int .i64 x0)), (V.d (.int .i64 x1)), (V.d (.int .i64 x2)), (V.d .nils)]] false)] = some ([(V.d (.int .i64 0)), (V.d (.int .i64 1))], [(Blk.gen 99 4 [[(V.d (.int .i64 x0)), (V.d (.int .i64 x1)), (V.d (.int .i64 x2)), (V.d .nils)]] false)]) := by
  unfold ref08_Watch_Come_pi_Gi3n_c0
  cases h1 : tb (ref08_Right_i_r0_0 x4)
  · intro g0
    exact w29 [.c (ref08_Right_i_t0 x4), .b (notF h1)] (by kernel_rfl)
  · cases h2 : tb (decide (x4 < x0))
    · cases h3 : tb (decide (x1 < x4))
      · intro g0
        exact absurd g0 tf
      · intro g0
        exact absurd g0 tf
    · intro g0
      exact absurd g0 tf

theorem ref08_Watch_Last_p_Gi3vFi_t0 (x0 : Int) (x1 : Int) (x2 : Int) (x3 : Int) (x4 : Bool) (x5 : Bool) : cl E0 31 [(V.ptr 0 1 0 0)] [(Blk.gen 99 4 [[(V.d (.int .i64 x1)), (V.d (.int .i64 x2)), (V.d (.int .i64 x3)), (V.sl 1 1 0 1)]] x4), (Blk.flat 3 1 [[(.int .i64 x0)]] x5)] = some ([(V.d (.int .i64 x0)), (V.d (.bool true))], [(Blk.gen 99 4 [[(V.d (.int .i64 x1)), (V.d (.int .i64 x2)), (V.d (.int .i64 x3)), (V.sl 1 1 0 1)]] x4), (Blk.flat 3 1 [[(.int .i64 x0)]] x5)]) := by
  exact w31 [.k false] (by kernel_rfl)

theorem ref08_Watch_Miss_p_Gi3vFi_t0 (x0 : Int) (x1 : Int) (x2 : Int) (x3 : Int) (x5 : Bool) : cl E0 27 [(V.ptr 0 1 0 0)] [(Blk.gen 99 4 [[(V.d (.int .i64 x1)), (V.d (.int .i64 x2)), (V.d (.int .i64 x3)), (V.sl 1 1 0 1)]] false), (Blk.flat 3 1 [[(.int .i64 x0)]] x5)] = some ([], [(Blk.gen 99 4 [[(V.d (.int .i64 x1)), (V.d (.int .i64 x2)), (V.d (.int .i64 x3)), (V.d .nils)]] false), (Blk.flat 3 1 [[(.int .i64 x0)]] x5)]) := by
  exact w27 [] (by kernel_rfl)

def ref08_Watch_Come_pi_Gi3vFi_c0 (x6 : Int) : Bool := (bif tb (ref08_Right_i_r0_0 x6) then true else false)

def ref08_Watch_Come_pi_Gi3vFi_r0_0 (x0 : Int) (x1 : Int) (x2 : Int) (x3 : Int) (x6 : Int) : Int := (bif tb (decide (x6 < x1)) then (bif tb (decide (x3 < (wi (x6 - x0)))) then 6 else (bif tb (decide (x3 < (wi (x0 - x6)))) then 6 else 2)) else (bif tb (decide (x2 < x6)) then (bif tb (decide (x3 < (wi (x6 - x0)))) then 6 else (bif tb (decide (x3 < (wi (x0 - x6)))) then 6 else 2)) else (bif tb (decide (x3 < (wi (x6 - x0)))) then 4 else (bif tb (decide (x3 < (wi (x0 - x6)))) then 4 else 0))))

theorem ref08_Watch_Come_pi_Gi3vFi_t0 (x0 : Int) (x1 : Int) (x2 : Int) (x3 : Int) (x5 : Bool) (x6 : Int) : ref08_Watch_Come_pi_Gi3vFi_c0 x6 = true → cl E0 29 [(V.ptr 0 1 0 0), (V.d (.int .i64 x6))] [(Blk.gen 99 4 [[(V.d (.int .i64 x1)), (V.d (.int .i64 x2)), (V.d (.int .i64 x3)), (V.sl 1 1 0 1)]] false), (Blk.flat 3 1 [[(.int .i64 x0)]] x5)] = some ([(V.d (.int .i64 (ref08_Watch_Come_pi_Gi3vFi_r0_0 x0 x1 x2 x3 x6))), (V.d (.int .i64 0))], [(Blk.gen 99 4 [[(V.d (.int .i64 x1)), (V.d (.int .i64 x2)), (V.d (.int .i64 x3)), (V.sl 2 1 0 1)]] false), (Blk.flat 3 1 [[(.int .i64 x0)]] x5), (Blk.flat 3 1 [[(.int .i64 x6)]] false)]) := by
  unfold ref08_Watch_Come_pi_Gi3vFi_c0 ref08_Watch_Come_pi_Gi3vFi_r0_0
  cases h1 : tb (ref08_Right_i_r0_0 x6)
  · intro g0
    exact absurd g0 ft
  · cases h2 : tb (decide (x6 < x1))
    · cases h3 : tb (decide (x2 < x6))
      · cases h4 : tb (decide (x3 < (wi (x6 - x0))))
        · cases h5 : tb (decide (x3 < (wi (x0 - x6))))
          · intro g0
            exact w29 [.c (ref08_Right_i_t0 x6), .b (notT h1), .b h2, .b h3, .k true, .b h4, .b h5] (by kernel_rfl)
          · intro g0
            exact w29 [.c (ref08_Right_i_t0 x6), .b (notT h1), .b h2, .b h3, .k true, .b h4, .b h5] (by kernel_rfl)
        · intro g0
          exact w29 [.c (ref08_Right_i_t0 x6), .b (notT h1), .b h2, .b h3, .k true, .b h4] (by kernel_rfl)
      · cases h4 : tb (decide (x3 < (wi (x6 - x0))))
        · cases h5 : tb (decide (x3 < (wi (x0 - x6))))
          · intro g0
            exact w29 [.c (ref08_Right_i_t0 x6), .b (notT h1), .b h2, .b h3, .k true, .b h4, .b h5] (by kernel_rfl)
          · intro g0
            exact w29 [.c (ref08_Right_i_t0 x6), .b (notT h1), .b h2, .b h3, .k true, .b h4, .b h5] (by kernel_rfl)
        · intro g0
          exact w29 [.c (ref08_Right_i_t0 x6), .b (notT h1), .b h2, .b h3, .k true, .b h4] (by kernel_rfl)
    · cases h3 : tb (decide (x3 < (wi (x6 - x0))))
      · cases h4 : tb (decide (x3 < (wi (x0 - x6))))
        · intro g0
          exact w29 [.c (ref08_Right_i_t0 x6), .b (notT h1), .b h2, .k true, .b h3, .b h4] (by kernel_rfl)
        · intro g0
          exact w29 [.c (ref08_Right_i_t0 x6), .b (notT h1), .b h2, .k true, .b h3, .b h4] (by kernel_rfl)
      · intro g0
        exact w29 [.c (ref08_Right_i_t0 x6), .b (notT h1), .b h2, .k true, .b h3] (by kernel_rfl)

theorem ref08_Watch_Come_pi_Gi3vFi_t1 (x0 : Int) (x1 : Int) (x2 : Int) (x3 : Int) (x5 : Bool) (x6 : Int) : ref08_Watch_Come_pi_Gi3vFi_c0 x6 = false → cl E0 29 [(V.ptr 0 1 0 0), (V.d (.int .i64 x6))] [(Blk.gen 99 4 [[(V.d (.int .i64 x1)), (V.d (.int .i64 x2)), (V.d (.int .i64 x3)), (V.sl 1 1 0 1)]] false), (Blk.flat 3 1 [[(.int .i64 x0)]] x5)] = some ([(V.d (.int .i64 0)), (V.d (.int .i64 1))], [(Blk.gen 99 4 [[(V.d (.int .i64 x1)), (V.d (.int .i64 x2)), (V.d (.int .i64 x3)), (V.sl 1 1 0 1)]] false), (Blk.flat 3 1 [[(.int .i64 x0)]] x5)]) := by
  unfold ref08_Watch_Come_pi_Gi3vFi_c0
  cases h1 : tb (ref08_Right_i_r0_0 x6)
  · intro g0
    exact w29 [.c (ref08_Right_i_t0 x6), .b (notF h1)] (by kernel_rfl)
  · cases h2 : tb (decide (x6 < x1))
    · cases h3 : tb (decide (x2 < x6))
      · cases h4 : tb (decide (x3 < (wi (x6 - x0))))
        · cases h5 : tb (decide (x3 < (wi (x0 - x6))))
          · intro g0
            exact absurd g0 tf
          · intro g0
            exact absurd g0 tf
        · intro g0
          exact absurd g0 tf
      · cases h4 : tb (decide (x3 < (wi (x6 - x0))))
        · cases h5 : tb (decide (x3 < (wi (x0 - x6))))
          · intro g0
            exact absurd g0 tf
          · intro g0
            exact absurd g0 tf
        · intro g0
          exact absurd g0 tf
    · cases h3 : tb (decide (x3 < (wi (x6 - x0))))
      · cases h4 : tb (decide (x3 < (wi (x0 - x6))))
        · intro g0
          exact absurd g0 tf
        · intro g0
          exact absurd g0 tf
      · intro g0
        exact absurd g0 tf

end Go.Proofs.Ytgalchmjpfmemaa.Den

/- A type's data, opened cell by cell. -/
namespace Go.Proofs.Ytgalchmjpfmemaa.Den
open Go
set_option linter.unusedVariables false
set_option linter.unusedSimpArgs false

inductive CK where
  | b
  | i (k : IntKind)
  | s
  | l (e : TypeId)

def flatK (P : Program) : Nat → TypeId → Option (List CK)
  | 0, _ => none
  | n + 1, t => match P.underlying t with
    | some .bool => some [.b]
    | some (.int k) => some [.i k]
    | some .string => some [.s]
    | some (.slice e) => some [.l e]
    | some (.struct fs) => (fs.toList.mapM fun f => flatK P n f.type).map List.flatten
    | some (.array m e) => (flatK P n e).map fun l => (List.replicate m l).flatten
    | _ => none

def WfI (k : IntKind) (z : Int) : Prop := (Lit.int k z).wf = true

def CellK (P : Program) : CK → D → Prop
  | .b, d => ∃ b, d = .bool b
  | .i k, d => ∃ z, d = .int k z ∧ WfI k z
  | .s, d => ∃ s, d = .str s ∧ s.size ≤ maxLen
  | .l e, d => d = .nils ∨ ∃ rows, d = .rs (isFlat P e) (P.cellsOf e) rows false ∧ rows.length ≤ maxLen ∧ ∃ n, ∀ r, r ∈ rows → Ty P n e r

def CellsK (P : Program) : List CK → List D → Prop
  | [], ds => ds = []
  | k :: ks, ds => ∃ d r, ds = d :: r ∧ CellK P k d ∧ CellsK P ks r

theorem CellsK.append {P : Program} : ∀ {a b : List CK} {x y : List D}, CellsK P a x → CellsK P b y → CellsK P (a ++ b) (x ++ y)
  | [], _, _, _, h, h' => by simp only [CellsK] at h; subst h; simpa using h'
  | k :: a, b, x, y, h, h' => by
    simp only [CellsK] at h
    obtain ⟨d, r, rfl, h1, h2⟩ := h
    simp only [List.cons_append, CellsK]
    exact ⟨d, _, rfl, h1, CellsK.append h2 h'⟩

theorem flatK_fs {P : Program} {n : Nat} (ih : ∀ t ks ds, flatK P n t = some ks → Ty P n t ds → CellsK P ks ds) : ∀ (fs : List Field) (l : List (List CK)) (ds : List D), fs.mapM (fun f => flatK P n f.type) = some l → TyFs (Ty P n) fs ds → CellsK P l.flatten ds
  | [], l, ds, h, ht => by
    simp at h; subst h
    obtain rfl := tyfs_nil ht
    simp [CellsK]
  | f :: fs, l, ds, h, ht => by
    rw [List.mapM_cons] at h
    simp only [Option.bind_eq_bind, Option.bind_eq_some_iff, Option.pure_def, Option.some.injEq] at h
    obtain ⟨a, h1, b, h2, rfl⟩ := h
    obtain ⟨x, y, rfl, g1, g2⟩ := tyfs_cons ht
    simp only [List.flatten_cons]
    exact (ih _ _ _ h1 g1).append (flatK_fs ih fs b y h2 g2)

theorem flatK_ok {P : Program} : ∀ (n : Nat) (t : TypeId) (ks : List CK) (ds : List D), flatK P n t = some ks → Ty P n t ds → CellsK P ks ds
  | 0, _, _, _, h, _ => by simp [flatK] at h
  | n + 1, t, ks, ds, h, ht => by
    simp only [flatK] at h
    cases hu : P.underlying t with
    | none => simp [hu] at h
    | some u =>
      rw [hu] at h
      cases u with
      | bool => cases h; obtain ⟨b, rfl⟩ := ty_bool ht hu; exact ⟨_, [], rfl, ⟨b, rfl⟩, rfl⟩
      | int k => cases h; obtain ⟨z, rfl, hz⟩ := ty_int ht hu; exact ⟨_, [], rfl, ⟨z, rfl, hz⟩, rfl⟩
      | string => cases h; obtain ⟨z, rfl, hz⟩ := ty_str ht hu; exact ⟨_, [], rfl, ⟨z, rfl, hz⟩, rfl⟩
      | slice e =>
        cases h
        rcases ty_slice ht hu with rfl | ⟨rows, rfl, h1, h2⟩
        · exact ⟨_, [], rfl, .inl rfl, rfl⟩
        · exact ⟨_, [], rfl, .inr ⟨rows, rfl, h1, n, h2⟩, rfl⟩
      | struct fs =>
        obtain ⟨l, hl, rfl⟩ := Option.map_eq_some_iff.1 h
        exact flatK_fs (fun t ks ds => flatK_ok n t ks ds) fs.toList l ds hl (ty_struct ht hu)
      | array m e =>
        obtain ⟨l, hl, rfl⟩ := Option.map_eq_some_iff.1 h
        obtain ⟨rows, hr, rfl, hall⟩ := ty_arr ht hu
        have key : ∀ (rows : List (List D)), (∀ r, r ∈ rows → Ty P n e r) → CellsK P (List.replicate rows.length l).flatten rows.flatten := by
          intro rows
          induction rows with
          | nil => intro _; simp [CellsK]
          | cons r rows ih =>
            intro hall
            simp only [List.length_cons, List.replicate_succ, List.flatten_cons]
            exact (flatK_ok n e l r hl (hall r (by simp))).append (ih fun x hx => hall x (by simp [hx]))
        rw [← hr]; exact key rows hall
      | _ => simp at h

/-- The rows of a list, told by an encoding. -/
theorem rows_of {α : Type} {enc : α → List D} {wf : α → Prop} {T : List D → Prop} (h : ∀ r, T r → ∃ x, r = enc x ∧ wf x) : ∀ rows : List (List D), (∀ r, r ∈ rows → T r) → ∃ l : List α, rows = l.map enc ∧ ∀ x, x ∈ l → wf x
  | [], _ => ⟨[], rfl, fun _ h => by simp at h⟩
  | r :: rows, hr => by
    obtain ⟨x, rfl, hx⟩ := h r (hr r (by simp))
    obtain ⟨l, rfl, hl⟩ := rows_of h rows fun y hy => hr y (by simp [hy])
    refine ⟨x :: l, rfl, fun y hy => ?_⟩
    rcases List.mem_cons.1 hy with rfl | hy
    · exact hx
    · exact hl y hy

theorem ints_of {P : Program} {n : Nat} {e : TypeId} {k : IntKind} (hu : P.underlying e = some (.int k)) {rows : List (List D)} (h : ∀ r, r ∈ rows → Ty P n e r) : ∃ l : List Int, rows = l.map (encI k) ∧ ∀ z, z ∈ l → WfI k z :=
  rows_of (T := Ty P n e) (fun r hr => by
    cases n with
    | zero => simp [Ty] at hr
    | succ n => obtain ⟨z, rfl, hz⟩ := ty_int hr hu; exact ⟨z, rfl, hz⟩) rows h

theorem bools_of {P : Program} {n : Nat} {e : TypeId} (hu : P.underlying e = some .bool) {rows : List (List D)} (h : ∀ r, r ∈ rows → Ty P n e r) : ∃ l : List Bool, rows = l.map encB ∧ ∀ z, z ∈ l → True :=
  rows_of (T := Ty P n e) (fun r hr => by
    cases n with
    | zero => simp [Ty] at hr
    | succ n => obtain ⟨z, rfl⟩ := ty_bool hr hu; exact ⟨z, rfl, trivial⟩) rows h

theorem tyFs_mono {T T' : TypeId → List D → Prop} (h : ∀ t ds, T t ds → T' t ds) : ∀ (fs : List Field) (ds : List D), TyFs T fs ds → TyFs T' fs ds
  | [], ds, ht => ht
  | f :: fs, ds, ht => by
    obtain ⟨x, y, rfl, g1, g2⟩ := tyfs_cons ht
    simp only [TyFs]
    exact ⟨x, y, rfl, h _ _ g1, tyFs_mono h fs y g2⟩

theorem ty_mono {P : Program} : ∀ (n : Nat) (t : TypeId) (ds : List D), Ty P n t ds → Ty P (n + 1) t ds
  | 0, _, _, h => by simp [Ty] at h
  | n + 1, t, ds, h => by
    rw [Ty] at h ⊢
    cases hu : P.underlying t with
    | none => simp [hu] at h
    | some u =>
      rw [hu] at h
      cases u with
      | slice e =>
        rcases h with rfl | ⟨rows, rfl, h1, h2⟩
        · exact .inl rfl
        · exact .inr ⟨rows, rfl, h1, fun r hr => ty_mono n _ _ (h2 r hr)⟩
      | struct fs => exact tyFs_mono (fun t ds => ty_mono n t ds) _ _ h
      | array m e =>
        obtain ⟨rows, h1, rfl, h2⟩ := h
        exact ⟨rows, h1, rfl, fun r hr => ty_mono n _ _ (h2 r hr)⟩
      | _ => exact h

theorem mapM_mono {α β : Type} {f g : α → Option β} (h : ∀ a b, f a = some b → g a = some b) : ∀ (l : List α) (r : List β), l.mapM f = some r → l.mapM g = some r
  | [], r, hr => by simpa using hr
  | a :: l, r, hr => by
    rw [List.mapM_cons] at hr ⊢
    simp only [Option.bind_eq_bind, Option.bind_eq_some_iff, Option.pure_def, Option.some.injEq] at hr ⊢
    obtain ⟨x, h1, y, h2, rfl⟩ := hr
    exact ⟨x, h a x h1, y, mapM_mono h l y h2, rfl⟩

theorem flatK_mono {P : Program} : ∀ (n : Nat) (t : TypeId) (ks : List CK), flatK P n t = some ks → flatK P (n + 1) t = some ks
  | 0, _, _, h => by simp [flatK] at h
  | n + 1, t, ks, h => by
    rw [flatK] at h ⊢
    cases hu : P.underlying t with
    | none => simp [hu] at h
    | some u =>
      rw [hu] at h
      cases u with
      | struct fs =>
        obtain ⟨l, hl, rfl⟩ := Option.map_eq_some_iff.1 h
        simp only [mapM_mono (fun f b hb => flatK_mono n _ _ hb) _ _ hl, Option.map_some]
      | array m e =>
        obtain ⟨l, hl, rfl⟩ := Option.map_eq_some_iff.1 h
        simp only [flatK_mono n _ _ hl, Option.map_some]
      | _ => exact h

/-- The cells of an element's type, at any depth. -/
theorem flatK_any {P : Program} {k : Nat} {t : TypeId} {ks : List CK} {ds : List D} (h : flatK P k t = some ks) {n : Nat} (ht : Ty P n t ds) : CellsK P ks ds := by
  have h1 : ∀ j, flatK P (k + j) t = some ks := fun j => by
    induction j with
    | zero => exact h
    | succ j ih => exact flatK_mono _ _ _ ih
  have h2 : ∀ j, Ty P (n + j) t ds := fun j => by
    induction j with
    | zero => exact ht
    | succ j ih => exact ty_mono _ _ _ ih
  refine flatK_ok (k + n) t ks ds (h1 n) ?_
  rw [Nat.add_comm]; exact h2 k

theorem wfI_i64 {z : Int} (h : WfI .i64 z) : -9223372036854775808 ≤ z ∧ z ≤ 9223372036854775807 := by
  simp [WfI, Lit.wf, IntKind.min, IntKind.max, IntKind.signed, IntKind.bits] at h
  omega
end Go.Proofs.Ytgalchmjpfmemaa.Den

/- Plain laws on the words of the printed texts. -/
namespace Go.Proofs.Ytgalchmjpfmemaa.Den
open Go
set_option linter.unusedVariables false
set_option linter.unusedSimpArgs false

@[simp] theorem tb_eq (b : Bool) : tb b = b := rfl

theorem wrap64 {x : Int} (h1 : -9223372036854775808 ≤ x) (h2 : x ≤ 9223372036854775807) : IntKind.i64.wrap x = x := by
  unfold IntKind.wrap
  simp [IntKind.bits, IntKind.signed]
  omega

theorem wi_eq {x : Int} (h1 : -9223372036854775808 ≤ x) (h2 : x ≤ 9223372036854775807) : wi x = x := wrap64 h1 h2

theorem wfI_i32 {z : Int} (h : WfI .i32 z) : -2147483648 ≤ z ∧ z ≤ 2147483647 := by
  simp [WfI, Lit.wf, IntKind.min, IntKind.max, IntKind.signed, IntKind.bits] at h
  omega
theorem wfI_i16 {z : Int} (h : WfI .i16 z) : -32768 ≤ z ∧ z ≤ 32767 := by
  simp [WfI, Lit.wf, IntKind.min, IntKind.max, IntKind.signed, IntKind.bits] at h
  omega
theorem wfI_u8 {z : Int} (h : WfI .u8 z) : 0 ≤ z ∧ z ≤ 255 := by
  simp [WfI, Lit.wf, IntKind.min, IntKind.max, IntKind.signed, IntKind.bits] at h
  omega
theorem wfI_u16 {z : Int} (h : WfI .u16 z) : 0 ≤ z ∧ z ≤ 65535 := by
  simp [WfI, Lit.wf, IntKind.min, IntKind.max, IntKind.signed, IntKind.bits] at h
  omega
theorem wfI_u32 {z : Int} (h : WfI .u32 z) : 0 ≤ z ∧ z ≤ 4294967295 := by
  simp [WfI, Lit.wf, IntKind.min, IntKind.max, IntKind.signed, IntKind.bits] at h
  omega

theorem mxI_eq (a b : Int) : mxI a b = max a b := by unfold mxI; split <;> omega
theorem mnI_eq (a b : Int) : mnI a b = min a b := by unfold mnI; split <;> omega

theorem inb_iff {n : Nat} {i : Int} : inb n i = true ↔ 0 ≤ i ∧ i < n := by simp [inb]
theorem inb_of {n : Nat} {i : Int} (h1 : 0 ≤ i) (h2 : i < n) : inb n i = true := inb_iff.2 ⟨h1, h2⟩

theorem loop_inv {S : Type} {sel : S → Bool} {nx : S → S} (J : S → Prop) (μ : S → Nat) {s0 : S} (h0 : J s0) (hb : μ s0 < 1152921504606846976) (hn : ∀ s, J s → sel s = true → J (nx s) ∧ μ (nx s) < μ s) :
    ∃ s1, itS sel nx bound s0 = some s1 ∧ J s1 ∧ sel s1 = false := itS_inv J μ hn bound s0 h0 hb

/-- A loop told by a function of its states. -/
theorem loop_fun {S : Type} {sel : S → Bool} {nx : S → S} (J : S → Prop) (μ : S → Nat) (g : S → S) {s0 : S} (h0 : J s0) (hb : μ s0 < 1152921504606846976) (hs : ∀ s, J s → sel s = false → g s = s) (hn : ∀ s, J s → sel s = true → J (nx s) ∧ μ (nx s) < μ s ∧ g (nx s) = g s) :
    itS sel nx bound s0 = some (g s0) := itS_eq J μ g hs hn bound s0 h0 hb

theorem gt_mem {α : Type} [Inhabited α] {l : List α} {i : Int} (h1 : 0 ≤ i) (h2 : i < l.length) : gt l i ∈ l := by
  have h : i.toNat < l.length := by omega
  have : gt l i = l[i.toNat] := by simp [gt, List.getD, h]
  rw [this]; exact List.getElem_mem h

theorem gt_nat {α : Type} [Inhabited α] {l : List α} {k : Nat} (h : k < l.length) : gt l (k : Int) = l[k] := by simp [gt, List.getD, h]

theorem gt_getElem {α : Type} [Inhabited α] {l : List α} {i : Int} (h1 : 0 ≤ i) (h2 : i.toNat < l.length) : gt l i = l[i.toNat] := by simp [gt, List.getD, h2]

/-- A loop over a list by an index, that stops where a test fails. -/
theorem all_loop {S α : Type} [Inhabited α] {sel : S → Bool} {nx : S → S} {s0 : S} (l : List α) (ix : S → Int) (p : α → Bool) (J : S → Prop) (hl : l.length < 1152921504606846976) (h0 : ix s0 = 0) (hJ0 : J s0)
    (hnx : ∀ s, J s → 0 ≤ ix s → ix s < l.length → sel s = true → ix (nx s) = ix s + 1 ∧ J (nx s)) (hsel : ∀ s, J s → 0 ≤ ix s → ix s ≤ l.length → sel s = (decide (ix s < l.length) && p (gt l (ix s)))) :
    ∃ s1, itS sel nx bound s0 = some s1 ∧ J s1 ∧ 0 ≤ ix s1 ∧ ((ix s1 = l.length ∧ l.all p = true) ∨ (ix s1 < l.length ∧ p (gt l (ix s1)) = false ∧ l.all p = false)) := by
  obtain ⟨s1, e, ⟨hJ, a1, a2, a3⟩, hs⟩ := loop_inv (sel := sel) (nx := nx) (fun s => J s ∧ 0 ≤ ix s ∧ ix s ≤ l.length ∧ ∀ j : Nat, (j : Int) < ix s → p (gt l j) = true) (fun s => (l.length - ix s).toNat) (s0 := s0)
    ⟨hJ0, by omega, by omega, fun j hj => by omega⟩ (by omega) (fun s ⟨hJ, b1, b2, b3⟩ hs => by
      have h1 := hsel s hJ b1 b2
      rw [hs] at h1
      have h2 := (Bool.and_eq_true _ _).mp h1.symm
      have h3 : ix s < l.length := by simpa using h2.1
      obtain ⟨h4, h5⟩ := hnx s hJ b1 h3 hs
      refine ⟨⟨h5, by omega, by omega, fun j hj => ?_⟩, by omega⟩
      by_cases hjj : (j : Int) < ix s
      · exact b3 j hjj
      · have : (j : Int) = ix s := by omega
        rw [this]; exact h2.2)
  refine ⟨s1, e, hJ, a1, ?_⟩
  rcases Int.lt_or_eq_of_le a2 with h | h
  · have h1 := hsel s1 hJ a1 a2
    rw [hs] at h1
    have hp : p (gt l (ix s1)) = false := by simpa [h] using h1.symm
    refine .inr ⟨h, hp, ?_⟩
    rw [List.all_eq_false]
    exact ⟨_, gt_mem a1 h, by simp [hp]⟩
  · refine .inl ⟨h, ?_⟩
    rw [List.all_eq_true]
    intro x hx
    obtain ⟨j, hj, rfl⟩ := List.getElem_of_mem hx
    have := a3 j (by omega)
    rwa [gt_nat hj] at this

/-- A loop by an index that goes to its end. -/
theorem idx_loop {S : Type} {sel : S → Bool} {nx : S → S} {s0 : S} (n : Int) (ix : S → Int) (J : S → Prop) (hn : n < 1152921504606846976) (h0 : J s0) (h1 : 0 ≤ ix s0) (h2 : ix s0 ≤ n)
    (hr : ∀ s, J s → 0 ≤ ix s → ix s < n → sel s = true ∧ J (nx s) ∧ ix (nx s) = ix s + 1) (he : ∀ s, J s → ix s = n → sel s = false) : ∃ s1, itS sel nx bound s0 = some s1 ∧ J s1 ∧ ix s1 = n := by
  obtain ⟨s1, e, ⟨hJ, a1, a2⟩, hs⟩ := loop_inv (sel := sel) (nx := nx) (fun s => J s ∧ 0 ≤ ix s ∧ ix s ≤ n) (fun s => (n - ix s).toNat) (s0 := s0) ⟨h0, h1, h2⟩ (by omega) (fun s ⟨hJ, b1, b2⟩ hs => by
    by_cases h : ix s = n
    · rw [he s hJ h] at hs; cases hs
    · obtain ⟨_, g1, g2⟩ := hr s hJ b1 (by omega)
      exact ⟨⟨g1, by omega, by omega⟩, by omega⟩)
  refine ⟨s1, e, hJ, ?_⟩
  by_cases h : ix s1 = n
  · exact h
  · rw [(hr s1 hJ a1 (by omega)).1] at hs; cases hs

end Go.Proofs.Ytgalchmjpfmemaa.Den

/- The functions of layer 1 (fix), told plainly. -/
namespace Go.Proofs.Ytgalchmjpfmemaa.Den
open Go
set_option linter.unusedVariables false
set_option linter.unusedSimpArgs false

def sm (z : Int) : Bool := decide (-1099511627776 ≤ z) && decide (z ≤ 1099511627776)
theorem sm_iff {z : Int} : sm z = true ↔ -1099511627776 ≤ z ∧ z ≤ 1099511627776 := by simp [sm]

theorem small_eq (l : List Int) (hl : l.length < 1152921504606846976) : fix_small_l_c0 l = true ∧ fix_small_l_r0_0 l = l.all sm := by
  obtain ⟨s1, e, -, h0, h⟩ := all_loop (sel := fix_small_l_L0_sel l l.length) (nx := fix_small_l_L0_nx l l.length) (s0 := ⟨0⟩) l (fun s => s.c2) sm (fun _ => True) hl rfl trivial
    (fun s _ h1 h2 _ => ⟨by show wi _ = _; exact wi_eq (by omega) (by omega), trivial⟩)
    (fun s _ h1 h2 => by
      by_cases h : s.c2 < l.length
      · have hi := inb_of h1 h
        by_cases g1 : gt l s.c2 < -1099511627776
        · have : sm (gt l s.c2) = false := by simp [sm]; omega
          simp [fix_small_l_L0_sel, h, hi, g1, this]
        · by_cases g2 : 1099511627776 < gt l s.c2
          · have : sm (gt l s.c2) = false := by simp [sm]; omega
            simp [fix_small_l_L0_sel, h, hi, g1, g2, this]
          · have : sm (gt l s.c2) = true := by simp [sm]; omega
            simp [fix_small_l_L0_sel, h, hi, g1, g2, this]
      · simp [fix_small_l_L0_sel, h])
  have hok : fix_small_l_L0_ok l l.length ⟨0⟩ = true := by simp [fix_small_l_L0_ok, e]
  have hend : fix_small_l_e0 l = s1 := by simp [fix_small_l_e0, fix_small_l_L0_end, e]
  simp only [fix_small_l_c0, fix_small_l_r0_0, hok, hend, tb_eq, cond_true]
  rcases h with ⟨h1, h2⟩ | ⟨h1, h2, h3⟩
  · simp [fix_small_l_L0_c0, fix_small_l_L0_c1, h1, h2]
  · simp [fix_small_l_L0_c0, fix_small_l_L0_c1, h1, h3, inb_of h0 h1]

theorem small1 (a : Int) : fix_small_l_c0 [a] = true ∧ fix_small_l_r0_0 [a] = sm a := by simpa using small_eq [a] (by simp)
theorem small2 (a b : Int) : fix_small_l_c0 [a, b] = true ∧ fix_small_l_r0_0 [a, b] = (sm a && sm b) := by simpa using small_eq [a, b] (by simp)
theorem small3 (a b c : Int) : fix_small_l_c0 [a, b, c] = true ∧ fix_small_l_r0_0 [a, b, c] = (sm a && sm b && sm c) := by simpa [Bool.and_assoc] using small_eq [a, b, c] (by simp)

theorem Shift_c (a b : Int) : fix_Shift_ii_c0 a b = true := by
  simp only [fix_Shift_ii_c0, (small1 a).1, (small1 a).2, tb_eq, cond_true]
  cases sm a <;> simp
  omega

/-- Divided by a power of two, floored. -/
def shf (a b : Int) : Int := if sm a = true ∧ 0 ≤ b ∧ b ≤ 40 then a.fdiv (2 ^ b.toNat) else 0

theorem Shift_r (a b : Int) : fix_Shift_ii_r0_0 a b = shf a b := by
  simp only [fix_Shift_ii_r0_0, (small1 a).2, tb_eq, shf]
  cases h : sm a
  · simp
  · by_cases h1 : b < 0
    · simp [h1]; omega
    · by_cases h2 : 40 < b
      · simp [h1, h2]; omega
      · have h3 : min b.toNat 64 = b.toNat := by omega
        have h4 : 0 ≤ b ∧ b ≤ 40 := by omega
        simp [h1, h2, h4, shrI, IntKind.bits, h3]

theorem Apart_c (a b : Int) : fix_Apart_ii_c0 a b = true := by simp [fix_Apart_ii_c0, (small2 a b).1]

def apt (a b : Int) : Int := if sm a = true ∧ sm b = true then max (a - b) (b - a) else 0

theorem Apart_r (a b : Int) : fix_Apart_ii_r0_0 a b = apt a b := by
  simp only [fix_Apart_ii_r0_0, (small2 a b).2, tb_eq, apt]
  cases h1 : sm a <;> cases h2 : sm b <;> simp
  rw [sm_iff] at h1 h2
  rw [mxI_eq, wi_eq (by omega) (by omega), wi_eq (by omega) (by omega)]

theorem Clamp_c (a b c : Int) : fix_Clamp_iii_c0 a b c = true := by simp [fix_Clamp_iii_c0, (small3 a b c).1]
theorem Clamp_r (a b c : Int) : fix_Clamp_iii_r0_0 a b c = if sm a = true ∧ sm b = true ∧ sm c = true then max b (min a c) else 0 := by
  simp only [fix_Clamp_iii_r0_0, (small3 a b c).2, tb_eq, mxI_eq, mnI_eq]
  cases sm a <;> cases sm b <;> cases sm c <;> simp

end Go.Proofs.Ytgalchmjpfmemaa.Den

/- The functions of layer 8 (jump), told plainly. -/
namespace Go.Proofs.Ytgalchmjpfmemaa.Den
open Go
set_option linter.unusedVariables false
set_option linter.unusedSimpArgs false

/-- Is a number one of 32 bits? -/
def is32 (n : Int) : Bool := decide (-2147483648 ≤ n) && decide (n ≤ 2147483647)
theorem is32_iff {n : Int} : is32 n = true ↔ -2147483648 ≤ n ∧ n ≤ 2147483647 := by simp [is32]
theorem is32_no {n : Int} : is32 n = false ↔ ¬ (-2147483648 ≤ n ∧ n ≤ 2147483647) := by rw [← Bool.not_eq_true, is32_iff]

theorem jright (n : Int) : jump_right_i_r0_0 n = is32 n := by
  simp only [jump_right_i_r0_0, tb_eq, is32]; cases decide (-2147483648 ≤ n) <;> rfl
theorem r08right (n : Int) : ref08_Right_i_r0_0 n = is32 n := by
  simp only [ref08_Right_i_r0_0, tb_eq, is32]; cases decide (-2147483648 ≤ n) <;> rfl

/-- May there be such a watch? -/
def jmay (a b c : Int) : Bool := is32 a && is32 b && is32 c && decide (a ≤ b) && decide (0 ≤ c)

theorem jNew_c (a b c : Int) : jump_New_iii_c0 a b c = !jmay a b c := by
  simp only [jump_New_iii_c0, jright, tb_eq, jmay]
  have e1 : decide (b < a) = !decide (a ≤ b) := by by_cases h : a ≤ b <;> simp [h] <;> omega
  have e2 : decide (c < 0) = !decide (0 ≤ c) := by by_cases h : 0 ≤ c <;> simp [h] <;> omega
  rw [e1, e2]
  cases is32 a <;> cases is32 b <;> cases decide (a ≤ b) <;> cases decide (0 ≤ c) <;> cases is32 c <;> rfl

theorem rMay (a b c : Int) : ref08_May_iii_r0_0 a b c = jmay a b c := by
  simp only [ref08_May_iii_r0_0, r08right, tb_eq, jmay]
  cases is32 a <;> cases is32 b <;> cases decide (a ≤ b) <;> cases decide (0 ≤ c) <;> cases is32 c <;> rfl

/-- What a value trips. -/
def trips (lo hi step : Int) (is : Bool) (last n : Int) : Int :=
  (if n < lo ∨ hi < n then 2 else 0) + (if is = true ∧ step < apt n last then 4 else 0)

theorem or24 : orI .i64 0 2 = 2 ∧ orI .i64 0 4 = 4 ∧ orI .i64 2 4 = 6 := by decide

theorem jCome_c (last : Int) (is : Bool) (n : Int) : jump_Watch_Come_pi_Fi4b_c0 last is n = true := by
  simp only [jump_Watch_Come_pi_Fi4b_c0, tb_eq, Apart_c]
  cases jump_right_i_r0_0 n <;> cases is <;> rfl

theorem jCome_r (lo hi step last : Int) (is : Bool) (n : Int) : jump_Watch_Come_pi_Fi4b_r0_0 lo hi step last is n = if is32 n = true then trips lo hi step is last n else 0 := by
  simp only [jump_Watch_Come_pi_Fi4b_r0_0, jright, tb_eq, Apart_r, jump_Watch_Come_c1_bip_Fi_r0_0, trips]
  obtain ⟨o1, o2, o3⟩ := or24
  cases is32 n
  · simp
  · by_cases h1 : n < lo <;> by_cases h2 : hi < n <;> cases is <;> by_cases h3 : step < apt n last <;> simp [h1, h2, h3, o1, o2, o3]

theorem jCome_e (n : Int) : jump_Watch_Come_pi_Fi4b_r0_1 n = if is32 n = true then 0 else 1 := by
  simp only [jump_Watch_Come_pi_Fi4b_r0_1, jright, tb_eq]; cases is32 n <;> rfl
theorem jCome_l (last n : Int) : jump_Watch_Come_pi_Fi4b_r0_5 last n = if is32 n = true then n else last := by
  simp only [jump_Watch_Come_pi_Fi4b_r0_5, jright, tb_eq]; cases is32 n <;> rfl
theorem jCome_i (is : Bool) (n : Int) : jump_Watch_Come_pi_Fi4b_r0_6 is n = (is32 n || is) := by
  simp only [jump_Watch_Come_pi_Fi4b_r0_6, jright, tb_eq]; cases is32 n <;> cases is <;> rfl

theorem rComeN_c (n : Int) : ref08_Watch_Come_pi_Gi3n_c0 n = is32 n := by simp only [ref08_Watch_Come_pi_Gi3n_c0, r08right, tb_eq]; cases is32 n <;> rfl
theorem rComeV_c (n : Int) : ref08_Watch_Come_pi_Gi3vFi_c0 n = is32 n := by simp only [ref08_Watch_Come_pi_Gi3vFi_c0, r08right, tb_eq]; cases is32 n <;> rfl
theorem rComeN_r (lo hi step last n : Int) : ref08_Watch_Come_pi_Gi3n_r0_0 lo hi n = trips lo hi step false last n := by
  simp only [ref08_Watch_Come_pi_Gi3n_r0_0, tb_eq, trips]
  by_cases h1 : n < lo <;> by_cases h2 : hi < n <;> simp [h1, h2]
theorem rComeV_r (last lo hi step n : Int) (h : is32 n = true) (hl : is32 last = true) : ref08_Watch_Come_pi_Gi3vFi_r0_0 last lo hi step n = trips lo hi step true last n := by
  rw [is32_iff] at h hl
  have s1 : sm n = true := sm_iff.2 (by omega)
  have s2 : sm last = true := sm_iff.2 (by omega)
  have w1 : wi (n - last) = n - last := wi_eq (by omega) (by omega)
  have w2 : wi (last - n) = last - n := wi_eq (by omega) (by omega)
  simp only [ref08_Watch_Come_pi_Gi3vFi_r0_0, tb_eq, trips, w1, w2, apt, s1, s2]
  by_cases h1 : n < lo <;> by_cases h2 : hi < n <;> by_cases h3 : step < n - last <;> by_cases h4 : step < last - n <;> simp [h1, h2, h3, h4] <;> omega

end Go.Proofs.Ytgalchmjpfmemaa.Den

/- JumpSmooth, plainly. -/
namespace Go.Proofs.Ytgalchmjpfmemaa.Den
open Go
set_option linter.unusedVariables false
set_option linter.unusedSimpArgs false

def JS (step : Int) (s : law08_JumpSmooth_L0_s0) : Prop := (-100000 ≤ s.c3 ∧ s.c3 ≤ 100000) ∧ s.c4 = !s.c10 ∧ (s.c10 = true → s.c9 = s.c3)

theorem rem_within {z step : Int} (h : 0 ≤ step) : -step ≤ z.tmod (step + 1) ∧ z.tmod (step + 1) ≤ step := by
  have h1 := Int.tmod_lt_of_pos z (show 0 < step + 1 by omega)
  have h2 := Int.lt_tmod_of_pos z (show 0 < step + 1 by omega)
  omega

theorem apt_of {a b : Int} (ha : -100002 ≤ a ∧ a ≤ 100002) (hb : -100002 ≤ b ∧ b ≤ 100002) : apt a b = max (a - b) (b - a) := by
  unfold apt; rw [if_pos ⟨sm_iff.2 (by omega), sm_iff.2 (by omega)⟩]

/-- What two values, the same, trip: nothing. -/
theorem smooth_two {step last at' : Int} {is : Bool} (hs : 0 ≤ step) (ha : -100000 ≤ at' ∧ at' ≤ 100000) (hl : is = true → (-100000 ≤ last ∧ last ≤ 100000) ∧ at' - last ≤ step ∧ last - at' ≤ step) :
    jump_Watch_Come_pi_Fi4b_r0_0 (-100000) 100000 step last is at' = 0 ∧ jump_Watch_Come_pi_Fi4b_r0_0 (-100000) 100000 step (jump_Watch_Come_pi_Fi4b_r0_5 last at') (jump_Watch_Come_pi_Fi4b_r0_6 is at') at' = 0 ∧
    jump_Watch_Come_pi_Fi4b_r0_1 at' = 0 ∧ jump_Watch_Come_pi_Fi4b_r0_5 (jump_Watch_Come_pi_Fi4b_r0_5 last at') at' = at' ∧ jump_Watch_Come_pi_Fi4b_r0_6 (jump_Watch_Come_pi_Fi4b_r0_6 is at') at' = true := by
  have h32 : is32 at' = true := is32_iff.2 (by omega)
  have n1 : ¬ (at' < -100000 ∨ 100000 < at') := by omega
  have a0 : apt at' at' = 0 := by rw [apt_of (by omega) (by omega)]; omega
  have n2 : ¬ (step < 0) := by omega
  refine ⟨?_, ?_, ?_, ?_, ?_⟩
  · rw [jCome_r, if_pos h32, trips, if_neg n1]
    by_cases hi : is = true
    · obtain ⟨h1, h2, h3⟩ := hl hi
      rw [apt_of (by omega) (by omega)]
      have : ¬ (step < max (at' - last) (last - at')) := by omega
      simp [this]
    · simp [hi]
  · rw [jCome_r, if_pos h32, jCome_l, if_pos h32, jCome_i, h32, trips, if_neg n1, a0]
    simp [n2]
  · rw [jCome_e, if_pos h32]
  · rw [jCome_l, if_pos h32]
  · rw [jCome_i, h32]; rfl

theorem js_loop {step : Int} (hs : 0 ≤ step ∧ step ≤ 65535) {l : List R_bool_i64} (hl : l.length ≤ 200) :
    ∃ s, itS (law08_JumpSmooth_L0_sel (-100000) 100000 step step l) (law08_JumpSmooth_L0_nx (-100000) 100000 step step l) bound ⟨0, true, 0, 0, false⟩ = some s ∧ JS step s ∧ s.c5 = l.length := by
  refine idx_loop (l.length : Int) (fun s : law08_JumpSmooth_L0_s0 => s.c5) (JS step) (by omega) ⟨by decide, rfl, by simp⟩ (by decide) (by simp) ?_ ?_
  · rintro ⟨at0, missed, i, last, is⟩ ⟨a1, a2, a3⟩ h1 h2
    simp only at a1 a2 a3 h1 h2
    have w : wi (i + 1) = i + 1 := wi_eq (by omega) (by omega)
    have ws : wi step = step := wi_eq (by omega) (by omega)
    have ws1 : wi (step + 1) = step + 1 := wi_eq (by omega) (by omega)
    have w0 : wi (at0 + 0) = at0 := by rw [Int.add_zero]; exact wi_eq (by omega) (by omega)
    have hne : ((step + 1 : Int) == 0) = false := by simp; omega
    obtain ⟨x, hx⟩ : ∃ x, gt l i = x := ⟨_, rfl⟩
    obtain ⟨b1, b2⟩ := rem_within (z := x.c1) hs.1
    have we : law08_JumpSmooth_L0_h0_e0 step l ⟨at0, missed, i, last, is⟩ = at0 + x.c1.tmod (step + 1) := by
      simp only [law08_JumpSmooth_L0_h0_e0, hx, ws, ws1, remI]; exact wi_eq (by omega) (by omega)
    obtain ⟨e, he⟩ : ∃ e, at0 + x.c1.tmod (step + 1) = e := ⟨_, rfl⟩
    rw [he] at we
    simp only [law08_JumpSmooth_L0_sel, law08_JumpSmooth_L0_nx, hx, w, ws, ws1, w0, we, hne, h2, inb_of h1 h2, jCome_c, tb_eq, decide_true, cond_true, cond_false]
    obtain ⟨k1, k2, k3, k4, k5⟩ := smooth_two (step := step) (last := last) (at' := at0) (is := is) hs.1 a1 (fun h => by rw [a3 h]; omega)
    cases x.c0
    · by_cases c1 : 100000 < e
      · simp only [c1, k1, k2, k3, k4, k5, decide_true, cond_true, cond_false]
        exact ⟨by simp, ⟨a1, by simp, by simp⟩, trivial⟩
      · by_cases c2 : e < -100000
        · simp only [c1, c2, k1, k2, k3, k4, k5, decide_true, decide_false, cond_true, cond_false]
          exact ⟨by simp, ⟨a1, by simp, by simp⟩, trivial⟩
        · obtain ⟨m1, m2, m3, m4, m5⟩ := smooth_two (step := step) (last := last) (at' := e) (is := is) hs.1 (by omega) (fun h => by rw [a3 h]; omega)
          simp only [c1, c2, m1, m2, m3, m4, m5, decide_true, decide_false, cond_true, cond_false]
          exact ⟨by simp, ⟨by simp only; omega, by simp, by simp⟩, trivial⟩
    · simp only [cond_true]
      exact ⟨trivial, ⟨a1, rfl, by simp⟩, trivial⟩
  · rintro ⟨at0, missed, i, last, is⟩ _ h
    simp only at h
    simp [law08_JumpSmooth_L0_sel, h]

theorem pure_JumpSmooth (x0 : Int) (x1 : Bool) (x2 : List R_bool_i64) (wx0 : WfI .u16 x0) (wx2 : (x2.length ≤ maxLen ∧ ∀ z ∈ x2, WfI .i64 z.c1 ∧ True)) : law08_JumpSmooth_c0 x0 x2 = true ∧ (law08_JumpSmooth_r0_0 x0 x2) = true := by
  have hs := wfI_u16 wx0
  have ws : wi x0 = x0 := wi_eq (by omega) (by omega)
  by_cases hl : 200 < (x2.length : Int)
  · simp [law08_JumpSmooth_c0, law08_JumpSmooth_r0_0, hl]
  · obtain ⟨⟨at0, missed, i, last, is⟩, e, ⟨a1, a2, a3⟩, hi⟩ := js_loop hs (l := x2) (by omega)
    simp only at a1 a2 a3 hi
    have hm : jump_New_iii_c0 (-100000) 100000 x0 = false := by
      rw [jNew_c]
      have : jmay (-100000) 100000 x0 = true := by simp [jmay, is32]; omega
      rw [this]; rfl
    have o : law08_JumpSmooth_L0_ok (-100000) 100000 x0 x0 x2 ⟨0, true, 0, 0, false⟩ = true := by simp [law08_JumpSmooth_L0_ok, e]
    have e0 : law08_JumpSmooth_e0 x0 x2 = ⟨at0, missed, i, last, is⟩ := by simp [law08_JumpSmooth_e0, law08_JumpSmooth_L0_end, ws, e]
    have c0 : law08_JumpSmooth_L0_c0 x0 x2 ⟨at0, missed, i, last, is⟩ = false := by simp [law08_JumpSmooth_L0_c0, hi]
    have c1 : law08_JumpSmooth_L0_c1 x2 ⟨at0, missed, i, last, is⟩ = true := by simp [law08_JumpSmooth_L0_c1, hi]
    have h32 : is32 100001 = true := by decide
    have w5 : wi (100001 - at0) = 100001 - at0 := wi_eq (by omega) (by omega)
    have t2 : jump_Watch_Come_pi_Fi4b_r0_0 (-100000) 100000 x0 (jump_Watch_Come_pi_Fi4b_r0_5 last 100001) (jump_Watch_Come_pi_Fi4b_r0_6 is 100001) 100001 = 2 := by
      rw [jCome_r, if_pos h32, jCome_l, if_pos h32, jCome_i, h32, trips]
      have a0 : apt 100001 100001 = 0 := by decide
      have n2 : ¬ (x0 < 0) := by omega
      simp [a0, n2]
    have t1 : jump_Watch_Come_pi_Fi4b_r0_0 (-100000) 100000 x0 last is 100001 = 2 + (if is = true ∧ x0 < 100001 - at0 then 4 else 0) := by
      rw [jCome_r, if_pos h32, trips]
      cases is
      · simp
      · rw [a3 rfl, apt_of (by omega) (by omega), show max (100001 - at0) (at0 - 100001) = 100001 - at0 by omega]; simp
    have t3 : jump_Watch_Come_pi_Fi4b_r0_1 100001 = 0 := by rw [jCome_e, if_pos h32]
    refine ⟨?_, ?_⟩
    · simp only [law08_JumpSmooth_c0, hl, ws, hm, o, e0, c0, c1, jCome_c, tb_eq, decide_false, cond_false, cond_true]
    · simp only [law08_JumpSmooth_r0_0, hl, ws, hm, e0, c0, t1, t2, t3, w5, tb_eq, decide_false, cond_false, cond_true]
      subst a2
      cases is
      · simp
      · by_cases h : x0 < 100001 - at0 <;> simp [h]

end Go.Proofs.Ytgalchmjpfmemaa.Den

/- What all rows of a seat rest on. -/
namespace Go.Proofs.Ytgalchmjpfmemaa.Den
open Go Go.Proofs
set_option maxRecDepth 100000

theorem own : ownKnob Try.prog.godebug = none := by kernel_rfl
theorem laidOut : laidOutB Try.prog = true := by kernel_rfl
theorem mixed : Try.prog.follows .mixedOrders = true := by kernel_rfl
theorem envOK : EnvOK Try.prog E0 := ⟨e0_cf, fun f args m r m' h => by simp [E0] at h⟩
theorem glOK (w : World) : GlOK E0 (cx0 w) := fun g cs h => by simp [E0] at h
end Go.Proofs.Ytgalchmjpfmemaa.Den

/- The row of JumpSmooth. -/
namespace Go.Proofs.Ytgalchmjpfmemaa.Den
open Go Go.Proofs Go.ChangeShapes Go.WideShapes Go.ChangeAt Go.RowKit
open Go.Proofs.Ytgalchmjpfmemaa (Rows.jumpSmoothSpec Rows.jumpSmoothRow Rows.JumpSmoothSaid)
set_option maxRecDepth 100000
set_option linter.unusedSimpArgs false
set_option linter.unusedVariables false

theorem row6 (rs : List (List D)) (h : TyAll Try.prog 20 Try.f6.params.toList rs) : ∃ k m', callD E0 k 6 (argsV Try.prog Try.f6.params.toList rs) [] = some ([.d (.bool true)], m') := by
  rw [Try.params6] at h ⊢
  simp only [TyAll] at h
  obtain ⟨_, _, rfl, q0, _, _, rfl, q1, rfl⟩ := h
  have k0 := flatK_ok 20 _ _ _ (show flatK Try.prog 20 54 = some [.i .u16] by kernel_rfl) q0
  simp only [CellsK, CellK] at k0
  obtain ⟨_, _, rfl, ⟨a0_0, rfl, w0_0⟩, rfl⟩ := k0
  have k1 := flatK_ok 20 _ _ _ (show flatK Try.prog 20 41 = some [.l 49] by kernel_rfl) q1
  simp only [CellsK, CellK] at k1
  obtain ⟨d1_0, _, rfl, y1_0, rfl⟩ := k1
  obtain ⟨n1_0, a1_0, rfl, v1_0⟩ : ∃ n l, d1_0 = slD enc_R_bool_i64 true 2 n l ∧ (l.length ≤ maxLen ∧ ∀ z ∈ l, WfI .i64 z.c1 ∧ True) := by
    rcases y1_0 with rfl | ⟨rows1, rfl, hl1, m1, hr1⟩
    · exact ⟨true, [], rfl, by simp [maxLen], fun z hz => by simp at hz⟩
    · obtain ⟨l2, rfl, hw2⟩ : ∃ l : List R_bool_i64, rows1 = l.map enc_R_bool_i64 ∧ ∀ z ∈ l, WfI .i64 z.c1 ∧ True := rows_of (T := Ty Try.prog m1 49) (fun r hr => by
          have q := flatK_any (show flatK Try.prog 20 49 = some [.b, .i .i64] by kernel_rfl) hr
          simp only [CellsK, CellK] at q
          obtain ⟨_, _, rfl, ⟨b0, rfl⟩, _, _, rfl, ⟨b1, rfl, w1⟩, rfl⟩ := q
          exact ⟨⟨b0, b1⟩, rfl, ⟨w1, trivial⟩⟩) rows1 hr1
      rw [show isFlat Try.prog 49 = true by kernel_rfl, show Try.prog.cellsOf 49 = 2 by kernel_rfl]
      exact ⟨false, l2, slD_rs _ _ _ _, by simpa using hl1, hw2⟩
  simp only [argsV, argV, Try.underlying41, Try.underlying54, List.map_cons, List.map_nil]
  obtain ⟨g1, g2⟩ := pure_JumpSmooth a0_0 n1_0 a1_0 w0_0 v1_0
  have hc := law08_JumpSmooth_t0 a0_0 n1_0 a1_0 g1
  rw [g2] at hc
  obtain ⟨k, hk⟩ := of_cl hc
  exact ⟨k, _, hk⟩

theorem jumpSmooth_lifted (os : Os) (started : os.Started) (H : Type) (enc : TypeId × Value → H) :
    ReturnsInHanded {} Try.checked os 6 .any (Rows.jumpSmoothSpec.pre6 enc Try.prog Try.f6 Rows.jumpSmoothRow.domain false) (Rows.jumpSmoothSpec.post enc Try.prog Try.f6 false true false false) :=
  law_lifted (C := Try.checked) (fn := Try.f6) mixed envOK glOK own started (by kernel_rfl) Try.func6 laidOut
    (ChangeSpec.witness6 (enc := enc) (C := Try.checked) false ⟨#[], #[.int .u16 0, .slice none 0 0], []⟩ 8 (by kernel_rfl) (by kernel_rfl) (by kernel_rfl) (by kernel_rfl))
    (by kernel_rfl) (rt := 4) rfl Try.underlying4 rfl
    (fun ds h => by
      match ds, h with
      | [_, _], _ => rfl)
    row6

theorem jumpSmooth_holds : Rows.JumpSmoothSaid :=
  OpenClaim.holds_of_wide 6 Try.f6 rfl rfl rfl rfl rfl rfl rfl ⟨rfl, rfl, rfl, rfl, rfl⟩ rfl rfl rfl rfl rfl (by kernel_rfl) Try.func6 (by kernel_rfl)
    (of_decide_eq_true (by kernel_rfl)) (by unfold Func.isWrapper; first | (rw [if_pos (by decide +kernel)]; kernel_rfl) | (rw [if_neg (by decide +kernel)]; exact ⟨rfl, rfl⟩))
    (fun os started H enc _ => jumpSmooth_lifted os started H enc)

end Go.Proofs.Ytgalchmjpfmemaa.Den
