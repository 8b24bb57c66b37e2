/- OrderTells: part 7 of what its proof rests on: an evaluator of the program's code, proved sound; plain functions printed from the code by a program of this session, with proofs; plain laws. No condition. -/
import Derived.Test.YtdlhhoejnhjbhaaDenorderTells6
import Derived.Test.YtdlhhoejnhjbhaaRows

namespace Go.Proofs.Ytdlhhoejnhjbhaa.Den
open Go Go.Proofs
set_option maxRecDepth 100000
set_option maxHeartbeats 4000000
set_option linter.unusedVariables false
set_option linter.unusedSimpArgs false

structure fix_small_o_L0_s0 where
  c3 : Int
  deriving Inhabited

def fix_small_o_L0_enc (x0 : Bool) (x1 : List Int) (x2 : Int) (x3 : Int) (s0 : fix_small_o_L0_s0) : List V × Mem := ([(V.d (slD (encI .i64) true 1 x0 x1)), (V.d (.int .i64 x2)), (V.d (.int .i64 s0.c3))], [])

def fix_small_o_L0_sel (x1 : List Int) (x2 : Int) (s0 : fix_small_o_L0_s0) : Bool := (bif tb (decide (s0.c3 < x2)) then (bif tb (inb x1.length s0.c3) then (bif tb (decide ((gt x1 s0.c3) < (-1099511627776))) then false else (bif tb (decide (1099511627776 < (gt x1 s0.c3))) then false else true)) else false) else false)

def fix_small_o_L0_nx (x1 : List Int) (x2 : Int) (s0 : fix_small_o_L0_s0) : fix_small_o_L0_s0 := ⟨(wi (s0.c3 + 1))⟩

def fix_small_o_L0_ok (x1 : List Int) (x2 : Int) (s0 : fix_small_o_L0_s0) : Bool := (itS (fix_small_o_L0_sel x1 x2) (fix_small_o_L0_nx x1 x2) bound s0).isSome
def fix_small_o_L0_end (x1 : List Int) (x2 : Int) (s0 : fix_small_o_L0_s0) : fix_small_o_L0_s0 := (itS (fix_small_o_L0_sel x1 x2) (fix_small_o_L0_nx x1 x2) bound s0).getD default

theorem fix_small_o_L0_go (x0 : Bool) (x1 : List Int) (x2 : Int) (x3 : Int) (s0 : fix_small_o_L0_s0) : fix_small_o_L0_sel x1 x2 s0 = true → (roundG (runC E0 (cl E0) L69_0) [5, 6, 7] [2] 0) (fix_small_o_L0_enc x0 x1 x2 x3 s0) = some (.normal, fix_small_o_L0_enc x0 x1 x2 x3 (fix_small_o_L0_nx x1 x2 s0)) := by
  unfold fix_small_o_L0_sel fix_small_o_L0_nx
  cases h1 : tb (decide (s0.c3 < x2))
  · intro g0
    exact absurd g0 ft
  · cases h2 : tb (inb x1.length s0.c3)
    · intro g0
      exact absurd g0 ft
    · cases h3 : tb (decide ((gt x1 s0.c3) < (-1099511627776)))
      · cases h4 : tb (decide (1099511627776 < (gt x1 s0.c3)))
        · intro _
          exact round_walk [.b (tbE h1), .o 9 (fun _ => o_idx_os (enc := (encI .i64)) (l := x1) (fl := true) (n := x0) (s := 1) (k := .i64) (tbE h2)), .b (tbE h3), .b (tbE h4)] (by kernel_rfl)
        · intro g0
          exact absurd g0 ft
      · intro g0
        exact absurd g0 ft

def fix_small_o_L0_c0 (x1 : List Int) (x2 : Int) (s0 : fix_small_o_L0_s0) : Bool := (bif tb (decide (s0.c3 < x2)) then (bif tb (inb x1.length s0.c3) then true else false) else false)

def fix_small_o_L0_c1 (x2 : Int) (s0 : fix_small_o_L0_s0) : Bool := (bif tb (decide (s0.c3 < x2)) then false else true)

theorem fix_small_o_L0_x0 (x0 : Bool) (x1 : List Int) (x2 : Int) (x3 : Int) (s0 : fix_small_o_L0_s0) : fix_small_o_L0_sel x1 x2 s0 = false → fix_small_o_L0_c0 x1 x2 s0 = true → (roundG (runC E0 (cl E0) L69_0) [5, 6, 7] [2] 0) (fix_small_o_L0_enc x0 x1 x2 x3 s0) = some (.ret, ([(V.d (.bool false))], [])) := by
  unfold fix_small_o_L0_sel fix_small_o_L0_c0
  cases h1 : tb (decide (s0.c3 < x2))
  · intro g0 g1
    exact absurd g1 ft
  · cases h2 : tb (inb x1.length s0.c3)
    · intro g0 g1
      exact absurd g1 ft
    · cases h3 : tb (decide ((gt x1 s0.c3) < (-1099511627776)))
      · cases h4 : tb (decide (1099511627776 < (gt x1 s0.c3)))
        · intro g0 g1
          exact absurd g0 tf
        · intro g0 g1
          exact round_walk [.b (tbE h1), .o 9 (fun _ => o_idx_os (enc := (encI .i64)) (l := x1) (fl := true) (n := x0) (s := 1) (k := .i64) (tbE h2)), .b (tbE h3), .b (tbE h4)] (by kernel_rfl)
      · intro g0 g1
        exact round_walk [.b (tbE h1), .o 9 (fun _ => o_idx_os (enc := (encI .i64)) (l := x1) (fl := true) (n := x0) (s := 1) (k := .i64) (tbE h2)), .b (tbE h3)] (by kernel_rfl)

theorem fix_small_o_L0_x1 (x0 : Bool) (x1 : List Int) (x2 : Int) (x3 : Int) (s0 : fix_small_o_L0_s0) : fix_small_o_L0_sel x1 x2 s0 = false → fix_small_o_L0_c0 x1 x2 s0 = false → fix_small_o_L0_c1 x2 s0 = true → (roundG (runC E0 (cl E0) L69_0) [5, 6, 7] [2] 0) (fix_small_o_L0_enc x0 x1 x2 x3 s0) = some ((.exit 0), ([V.un], [])) := by
  unfold fix_small_o_L0_sel fix_small_o_L0_c0 fix_small_o_L0_c1
  cases h1 : tb (decide (s0.c3 < x2))
  · intro g0 g1 g2
    exact round_walk [.b (tbE h1)] (by kernel_rfl)
  · cases h2 : tb (inb x1.length s0.c3)
    · intro g0 g1 g2
      exact absurd g2 ft
    · cases h3 : tb (decide ((gt x1 s0.c3) < (-1099511627776)))
      · cases h4 : tb (decide (1099511627776 < (gt x1 s0.c3)))
        · intro g0 g1 g2
          exact absurd g0 tf
        · intro g0 g1 g2
          exact absurd g1 tf
      · intro g0 g1 g2
        exact absurd g1 tf

theorem fix_small_o_L0_f0_0 (x0 : Bool) (x1 : List Int) (x2 : Int) (x3 : Int) (s : fix_small_o_L0_s0) (hok : fix_small_o_L0_ok x1 x2 s = true) (c0 : fix_small_o_L0_c0 x1 x2 (fix_small_o_L0_end x1 x2 s) = true) : loopG (roundG (runC E0 (cl E0) L69_0) [5, 6, 7] [2] 0) bound (fix_small_o_L0_enc x0 x1 x2 x3 s) = some (.ret, ([(V.d (.bool false))], [])) := by
  have e : itS (fix_small_o_L0_sel x1 x2) (fix_small_o_L0_nx x1 x2) bound s = some (fix_small_o_L0_end x1 x2 s) := itS_get hok
  have f := itS_false e
  exact loop_it (fix_small_o_L0_go x0 x1 x2 x3) bound s _ _ _ e (fun h => by cases h) (fix_small_o_L0_x0 x0 x1 x2 x3 (fix_small_o_L0_end x1 x2 s) f c0)

theorem fix_small_o_L0_f0_1 (x0 : Bool) (x1 : List Int) (x2 : Int) (x3 : Int) (s : fix_small_o_L0_s0) (hok : fix_small_o_L0_ok x1 x2 s = true) (c0 : fix_small_o_L0_c0 x1 x2 (fix_small_o_L0_end x1 x2 s) = false) (c1 : fix_small_o_L0_c1 x2 (fix_small_o_L0_end x1 x2 s) = true) : loopG (roundG (runC E0 (cl E0) L69_0) [5, 6, 7] [2] 0) bound (fix_small_o_L0_enc x0 x1 x2 x3 s) = some ((.exit 0), ([V.un], [])) := by
  have e : itS (fix_small_o_L0_sel x1 x2) (fix_small_o_L0_nx x1 x2) bound s = some (fix_small_o_L0_end x1 x2 s) := itS_get hok
  have f := itS_false e
  exact loop_it (fix_small_o_L0_go x0 x1 x2 x3) bound s _ _ _ e (fun h => by cases h) (fix_small_o_L0_x1 x0 x1 x2 x3 (fix_small_o_L0_end x1 x2 s) f c0 c1)

def fix_small_o_e0 (x1 : List Int) : fix_small_o_L0_s0 := fix_small_o_L0_end x1 ((x1.length : Nat) : Int) (⟨0⟩ : fix_small_o_L0_s0)

def fix_small_o_c0 (x1 : List Int) : Bool := (bif tb (fix_small_o_L0_ok x1 ((x1.length : Nat) : Int) (⟨0⟩ : fix_small_o_L0_s0)) then (bif tb (fix_small_o_L0_c0 x1 ((x1.length : Nat) : Int) (fix_small_o_e0 x1)) then true else (bif tb (fix_small_o_L0_c1 ((x1.length : Nat) : Int) (fix_small_o_e0 x1)) then true else false)) else false)

def fix_small_o_r0_0 (x1 : List Int) : Bool := (bif tb (fix_small_o_L0_c0 x1 ((x1.length : Nat) : Int) (fix_small_o_e0 x1)) then false else true)

theorem fix_small_o_t0 (x0 : Bool) (x1 : List Int) : fix_small_o_c0 x1 = true → cl E0 69 [(V.d (slD (encI .i64) true 1 x0 x1))] [] = some ([(V.d (.bool (fix_small_o_r0_0 x1)))], []) := by
  unfold fix_small_o_c0 fix_small_o_r0_0
  cases h1 : tb (fix_small_o_L0_ok x1 ((x1.length : Nat) : Int) (⟨0⟩ : fix_small_o_L0_s0))
  · intro g0
    exact absurd g0 ft
  · cases h2 : tb (fix_small_o_L0_c0 x1 ((x1.length : Nat) : Int) (fix_small_o_e0 x1))
    · cases h3 : tb (fix_small_o_L0_c1 ((x1.length : Nat) : Int) (fix_small_o_e0 x1))
      · intro g0
        exact absurd g0 ft
      · intro g0
        exact w69 [.o 6 (fun _ => o_len_os (enc := (encI .i64)) (l := x1) (fl := true) (n := x0) (s := 1)), .l (fix_small_o_L0_f0_1 x0 x1 ((x1.length : Nat) : Int) 0 (⟨0⟩ : fix_small_o_L0_s0) (tbE h1) (tbE h2) (tbE h3))] (by kernel_rfl)
    · intro g0
      exact w69 [.o 6 (fun _ => o_len_os (enc := (encI .i64)) (l := x1) (fl := true) (n := x0) (s := 1)), .l (fix_small_o_L0_f0_0 x0 x1 ((x1.length : Nat) : Int) 0 (⟨0⟩ : fix_small_o_L0_s0) (tbE h1) (tbE h2))] (by kernel_rfl)

def fix_Clamp_iii_c0 (x0 : Int) (x1 : Int) (x2 : Int) : Bool := (bif tb (fix_small_o_c0 [x0, x1, x2]) then true else false)

def fix_Clamp_iii_r0_0 (x0 : Int) (x1 : Int) (x2 : Int) : Int := (bif tb (fix_small_o_r0_0 [x0, x1, x2]) then (mxI x1 (mnI x0 x2)) else 0)

theorem fix_Clamp_iii_t0 (x0 : Int) (x1 : Int) (x2 : Int) : fix_Clamp_iii_c0 x0 x1 x2 = true → cl E0 25 [(V.d (.int .i64 x0)), (V.d (.int .i64 x1)), (V.d (.int .i64 x2))] [] = some ([(V.d (.int .i64 (fix_Clamp_iii_r0_0 x0 x1 x2)))], []) := by
  unfold fix_Clamp_iii_c0 fix_Clamp_iii_r0_0
  cases h1 : tb (fix_small_o_c0 [x0, x1, x2])
  · intro g0
    exact absurd g0 ft
  · cases h2 : tb (fix_small_o_r0_0 [x0, x1, x2])
    · intro g0
      exact w25 [.c (fix_small_o_t0 false [x0, x1, x2] (tbE h1)), .b (notF (tbE h2))] (by kernel_rfl)
    · intro g0
      exact w25 [.c (fix_small_o_t0 false [x0, x1, x2] (tbE h1)), .b (notT (tbE h2))] (by kernel_rfl)

def fix_Near_iii_c0 (x0 : Int) (x1 : Int) (x2 : Int) : Bool := (bif tb (fix_small_o_c0 [x0, x1, x2]) then true else false)

def fix_Near_iii_r0_0 (x0 : Int) (x1 : Int) (x2 : Int) : Int := (bif tb (fix_small_o_r0_0 [x0, x1, x2]) then (bif tb (decide (x2 < 0)) then x0 else (mxI (wi (x0 - x2)) (mnI x1 (wi (x0 + x2))))) else 0)

theorem fix_Near_iii_t0 (x0 : Int) (x1 : Int) (x2 : Int) : fix_Near_iii_c0 x0 x1 x2 = true → cl E0 27 [(V.d (.int .i64 x0)), (V.d (.int .i64 x1)), (V.d (.int .i64 x2))] [] = some ([(V.d (.int .i64 (fix_Near_iii_r0_0 x0 x1 x2)))], []) := by
  unfold fix_Near_iii_c0 fix_Near_iii_r0_0
  cases h1 : tb (fix_small_o_c0 [x0, x1, x2])
  · intro g0
    exact absurd g0 ft
  · cases h2 : tb (fix_small_o_r0_0 [x0, x1, x2])
    · intro g0
      exact w27 [.c (fix_small_o_t0 false [x0, x1, x2] (tbE h1)), .b (notF (tbE h2))] (by kernel_rfl)
    · cases h3 : tb (decide (x2 < 0))
      · intro g0
        exact w27 [.c (fix_small_o_t0 false [x0, x1, x2] (tbE h1)), .b (notT (tbE h2)), .b (tbE h3)] (by kernel_rfl)
      · intro g0
        exact w27 [.c (fix_small_o_t0 false [x0, x1, x2] (tbE h1)), .b (notT (tbE h2)), .b (tbE h3)] (by kernel_rfl)

def fix_Floor_ii_c0 (x0 : Int) (x1 : Int) : Bool := (bif tb (fix_small_o_c0 [x0, x1]) then (bif tb (fix_small_o_r0_0 [x0, x1]) then (bif tb (decide (x1 < 1)) then true else (bif tb ((x1 : Int) == 0) then false else true)) else true) else false)

def fix_Floor_ii_r0_0 (x0 : Int) (x1 : Int) : Int := (bif tb (fix_small_o_r0_0 [x0, x1]) then (bif tb (decide (x1 < 1)) then 0 else (bif tb (decide ((remI .i64 x0 x1) < 0)) then (wi ((quoI .i64 x0 x1) - 1)) else (quoI .i64 x0 x1))) else 0)

theorem fix_Floor_ii_t0 (x0 : Int) (x1 : Int) : fix_Floor_ii_c0 x0 x1 = true → cl E0 29 [(V.d (.int .i64 x0)), (V.d (.int .i64 x1))] [] = some ([(V.d (.int .i64 (fix_Floor_ii_r0_0 x0 x1)))], []) := by
  unfold fix_Floor_ii_c0 fix_Floor_ii_r0_0
  cases h1 : tb (fix_small_o_c0 [x0, x1])
  · intro g0
    exact absurd g0 ft
  · cases h2 : tb (fix_small_o_r0_0 [x0, x1])
    · intro g0
      exact w29 [.c (fix_small_o_t0 false [x0, x1] (tbE h1)), .b (notF (tbE h2))] (by kernel_rfl)
    · cases h3 : tb (decide (x1 < 1))
      · cases h4 : tb ((x1 : Int) == 0)
        · cases h5 : tb (decide ((remI .i64 x0 x1) < 0))
          · intro g0
            exact w29 [.c (fix_small_o_t0 false [x0, x1] (tbE h1)), .b (notT (tbE h2)), .b (tbE h3), .o 17 (fun _ => o_quo (k := .i64) (x := x0) (y := x1) (tbE h4)), .o 20 (fun _ => o_rem (k := .i64) (x := x0) (y := x1) (tbE h4)), .b (tbE h5)] (by kernel_rfl)
          · intro g0
            exact w29 [.c (fix_small_o_t0 false [x0, x1] (tbE h1)), .b (notT (tbE h2)), .b (tbE h3), .o 17 (fun _ => o_quo (k := .i64) (x := x0) (y := x1) (tbE h4)), .o 20 (fun _ => o_rem (k := .i64) (x := x0) (y := x1) (tbE h4)), .b (tbE h5)] (by kernel_rfl)
        · intro g0
          exact absurd g0 ft
      · intro g0
        exact w29 [.c (fix_small_o_t0 false [x0, x1] (tbE h1)), .b (notT (tbE h2)), .b (tbE h3)] (by kernel_rfl)

def fix_Shift_ii_c0 (x0 : Int) (x1 : Int) : Bool := (bif tb (fix_small_o_c0 [x0]) then (bif tb (fix_small_o_r0_0 [x0]) then (bif tb (decide (x1 < 0)) then true else (bif tb (decide (40 < x1)) then true else (bif tb (decide (0 ≤ x1)) then true else false))) else true) else false)

def fix_Shift_ii_r0_0 (x0 : Int) (x1 : Int) : Int := (bif tb (fix_small_o_r0_0 [x0]) then (bif tb (decide (x1 < 0)) then 0 else (bif tb (decide (40 < x1)) then 0 else (shrI .i64 x0 x1))) else 0)

theorem fix_Shift_ii_t0 (x0 : Int) (x1 : Int) : fix_Shift_ii_c0 x0 x1 = true → cl E0 31 [(V.d (.int .i64 x0)), (V.d (.int .i64 x1))] [] = some ([(V.d (.int .i64 (fix_Shift_ii_r0_0 x0 x1)))], []) := by
  unfold fix_Shift_ii_c0 fix_Shift_ii_r0_0
  cases h1 : tb (fix_small_o_c0 [x0])
  · intro g0
    exact absurd g0 ft
  · cases h2 : tb (fix_small_o_r0_0 [x0])
    · intro g0
      exact w31 [.c (fix_small_o_t0 false [x0] (tbE h1)), .b (notF (tbE h2))] (by kernel_rfl)
    · cases h3 : tb (decide (x1 < 0))
      · cases h4 : tb (decide (40 < x1))
        · cases h5 : tb (decide (0 ≤ x1))
          · intro g0
            exact absurd g0 ft
          · intro g0
            exact w31 [.c (fix_small_o_t0 false [x0] (tbE h1)), .b (notT (tbE h2)), .b (tbE h3), .b (tbE h4), .o 19 (fun _ => o_shr (k := .i64) (k2 := .i64) (x := x0) (y := x1) (tbE h5))] (by kernel_rfl)
        · intro g0
          exact w31 [.c (fix_small_o_t0 false [x0] (tbE h1)), .b (notT (tbE h2)), .b (tbE h3), .b (tbE h4)] (by kernel_rfl)
      · intro g0
        exact w31 [.c (fix_small_o_t0 false [x0] (tbE h1)), .b (notT (tbE h2)), .b (tbE h3)] (by kernel_rfl)

def fix_Apart_ii_c0 (x0 : Int) (x1 : Int) : Bool := (bif tb (fix_small_o_c0 [x0, x1]) then true else false)

def fix_Apart_ii_r0_0 (x0 : Int) (x1 : Int) : Int := (bif tb (fix_small_o_r0_0 [x0, x1]) then (mxI (wi (x0 - x1)) (wi (x1 - x0))) else 0)

theorem fix_Apart_ii_t0 (x0 : Int) (x1 : Int) : fix_Apart_ii_c0 x0 x1 = true → cl E0 34 [(V.d (.int .i64 x0)), (V.d (.int .i64 x1))] [] = some ([(V.d (.int .i64 (fix_Apart_ii_r0_0 x0 x1)))], []) := by
  unfold fix_Apart_ii_c0 fix_Apart_ii_r0_0
  cases h1 : tb (fix_small_o_c0 [x0, x1])
  · intro g0
    exact absurd g0 ft
  · cases h2 : tb (fix_small_o_r0_0 [x0, x1])
    · intro g0
      exact w34 [.c (fix_small_o_t0 false [x0, x1] (tbE h1)), .b (notF (tbE h2))] (by kernel_rfl)
    · intro g0
      exact w34 [.c (fix_small_o_t0 false [x0, x1] (tbE h1)), .b (notT (tbE h2))] (by kernel_rfl)

structure fix_Bits_o_L0_s0 where
  c2 : Int
  c4 : Int
  deriving Inhabited

def fix_Bits_o_L0_enc (x0 : Bool) (x1 : List Bool) (x2 : Int) (x3 : Int) (x4 : Int) (s0 : fix_Bits_o_L0_s0) : List V × Mem := ([(V.d (slD encB true 1 x0 x1)), (V.d (.int .i64 s0.c2)), (V.d (.int .i64 x3)), (V.d (.int .i64 s0.c4))], [])

def fix_Bits_o_L0_sel (x1 : List Bool) (x3 : Int) (s0 : fix_Bits_o_L0_s0) : Bool := (bif tb (decide (s0.c4 < x3)) then (bif tb (inb x1.length s0.c4) then (bif tb (gt x1 s0.c4) then (bif tb (decide (0 ≤ s0.c4)) then true else false) else true) else false) else false)

def fix_Bits_o_L0_nx (x1 : List Bool) (x3 : Int) (s0 : fix_Bits_o_L0_s0) : fix_Bits_o_L0_s0 := (bif tb (gt x1 s0.c4) then ⟨(orI .i64 s0.c2 (shlI .i64 1 s0.c4)), (wi (s0.c4 + 1))⟩ else ⟨s0.c2, (wi (s0.c4 + 1))⟩)

def fix_Bits_o_L0_ok (x1 : List Bool) (x3 : Int) (s0 : fix_Bits_o_L0_s0) : Bool := (itS (fix_Bits_o_L0_sel x1 x3) (fix_Bits_o_L0_nx x1 x3) bound s0).isSome
def fix_Bits_o_L0_end (x1 : List Bool) (x3 : Int) (s0 : fix_Bits_o_L0_s0) : fix_Bits_o_L0_s0 := (itS (fix_Bits_o_L0_sel x1 x3) (fix_Bits_o_L0_nx x1 x3) bound s0).getD default

theorem fix_Bits_o_L0_go (x0 : Bool) (x1 : List Bool) (x2 : Int) (x3 : Int) (x4 : Int) (s0 : fix_Bits_o_L0_s0) : fix_Bits_o_L0_sel x1 x3 s0 = true → (roundG (runC E0 (cl E0) L36_0) [0, 3, 9, 10] [3] 0) (fix_Bits_o_L0_enc x0 x1 x2 x3 x4 s0) = some (.normal, fix_Bits_o_L0_enc x0 x1 x2 x3 x4 (fix_Bits_o_L0_nx x1 x3 s0)) := by
  unfold fix_Bits_o_L0_sel fix_Bits_o_L0_nx
  cases h1 : tb (decide (s0.c4 < x3))
  · intro g0
    exact absurd g0 ft
  · cases h2 : tb (inb x1.length s0.c4)
    · intro g0
      exact absurd g0 ft
    · cases h3 : tb (gt x1 s0.c4)
      · intro _
        exact round_walk [.b (tbE h1), .o 15 (fun _ => o_idx_os (enc := encB) (l := x1) (fl := true) (n := x0) (s := 1) (k := .i64) (tbE h2)), .b (tbE h3)] (by kernel_rfl)
      · cases h4 : tb (decide (0 ≤ s0.c4))
        · intro g0
          exact absurd g0 ft
        · intro _
          exact round_walk [.b (tbE h1), .o 15 (fun _ => o_idx_os (enc := encB) (l := x1) (fl := true) (n := x0) (s := 1) (k := .i64) (tbE h2)), .b (tbE h3), .o 19 (fun _ => o_shl (k := .i64) (k2 := .i64) (x := 1) (y := s0.c4) (tbE h4))] (by kernel_rfl)

def fix_Bits_o_L0_c0 (x3 : Int) (s0 : fix_Bits_o_L0_s0) : Bool := (bif tb (decide (s0.c4 < x3)) then false else true)

theorem fix_Bits_o_L0_x0 (x0 : Bool) (x1 : List Bool) (x2 : Int) (x3 : Int) (x4 : Int) (s0 : fix_Bits_o_L0_s0) : fix_Bits_o_L0_sel x1 x3 s0 = false → fix_Bits_o_L0_c0 x3 s0 = true → (roundG (runC E0 (cl E0) L36_0) [0, 3, 9, 10] [3] 0) (fix_Bits_o_L0_enc x0 x1 x2 x3 x4 s0) = some ((.exit 0), ([(V.d (.int .i64 s0.c2))], [])) := by
  unfold fix_Bits_o_L0_sel fix_Bits_o_L0_c0
  cases h1 : tb (decide (s0.c4 < x3))
  · intro g0 g1
    exact round_walk [.b (tbE h1)] (by kernel_rfl)
  · cases h2 : tb (inb x1.length s0.c4)
    · intro g0 g1
      exact absurd g1 ft
    · cases h3 : tb (gt x1 s0.c4)
      · intro g0 g1
        exact absurd g0 tf
      · cases h4 : tb (decide (0 ≤ s0.c4))
        · intro g0 g1
          exact absurd g1 ft
        · intro g0 g1
          exact absurd g0 tf

theorem fix_Bits_o_L0_f0_0 (x0 : Bool) (x1 : List Bool) (x2 : Int) (x3 : Int) (x4 : Int) (s : fix_Bits_o_L0_s0) (hok : fix_Bits_o_L0_ok x1 x3 s = true) (c0 : fix_Bits_o_L0_c0 x3 (fix_Bits_o_L0_end x1 x3 s) = true) : loopG (roundG (runC E0 (cl E0) L36_0) [0, 3, 9, 10] [3] 0) bound (fix_Bits_o_L0_enc x0 x1 x2 x3 x4 s) = some ((.exit 0), ([(V.d (.int .i64 ((fix_Bits_o_L0_end x1 x3 s).c2)))], [])) := by
  have e : itS (fix_Bits_o_L0_sel x1 x3) (fix_Bits_o_L0_nx x1 x3) bound s = some (fix_Bits_o_L0_end x1 x3 s) := itS_get hok
  have f := itS_false e
  exact loop_it (fix_Bits_o_L0_go x0 x1 x2 x3 x4) bound s _ _ _ e (fun h => by cases h) (fix_Bits_o_L0_x0 x0 x1 x2 x3 x4 (fix_Bits_o_L0_end x1 x3 s) f c0)

def fix_Bits_o_e0 (x1 : List Bool) : fix_Bits_o_L0_s0 := fix_Bits_o_L0_end x1 ((x1.length : Nat) : Int) (⟨0, 0⟩ : fix_Bits_o_L0_s0)

def fix_Bits_o_c0 (x1 : List Bool) : Bool := (bif tb (decide (16 < ((x1.length : Nat) : Int))) then true else (bif tb (fix_Bits_o_L0_ok x1 ((x1.length : Nat) : Int) (⟨0, 0⟩ : fix_Bits_o_L0_s0)) then (bif tb (fix_Bits_o_L0_c0 ((x1.length : Nat) : Int) (fix_Bits_o_e0 x1)) then true else false) else false))

def fix_Bits_o_r0_0 (x1 : List Bool) : Int := (bif tb (decide (16 < ((x1.length : Nat) : Int))) then 0 else ((fix_Bits_o_e0 x1).c2))

theorem fix_Bits_o_t0 (x0 : Bool) (x1 : List Bool) : fix_Bits_o_c0 x1 = true → cl E0 36 [(V.d (slD encB true 1 x0 x1))] [] = some ([(V.d (.int .i64 (fix_Bits_o_r0_0 x1)))], []) := by
  unfold fix_Bits_o_c0 fix_Bits_o_r0_0
  cases h1 : tb (decide (16 < ((x1.length : Nat) : Int)))
  · cases h2 : tb (fix_Bits_o_L0_ok x1 ((x1.length : Nat) : Int) (⟨0, 0⟩ : fix_Bits_o_L0_s0))
    · intro g0
      exact absurd g0 ft
    · cases h3 : tb (fix_Bits_o_L0_c0 ((x1.length : Nat) : Int) (fix_Bits_o_e0 x1))
      · intro g0
        exact absurd g0 ft
      · intro g0
        exact w36 [.o 6 (fun _ => o_len_os (enc := encB) (l := x1) (fl := true) (n := x0) (s := 1)), .b (tbE h1), .o 9 (fun _ => o_len_os (enc := encB) (l := x1) (fl := true) (n := x0) (s := 1)), .l (fix_Bits_o_L0_f0_0 x0 x1 0 ((x1.length : Nat) : Int) 0 (⟨0, 0⟩ : fix_Bits_o_L0_s0) (tbE h2) (tbE h3))] (by kernel_rfl)
  · intro g0
    exact w36 [.o 6 (fun _ => o_len_os (enc := encB) (l := x1) (fl := true) (n := x0) (s := 1)), .b (tbE h1)] (by kernel_rfl)

def fix_right_i_r0_0 (x0 : Int) : Bool := (bif tb (decide (0 ≤ x0)) then (decide (x0 < 65536)) else false)

theorem fix_right_i_t0 (x0 : Int) : cl E0 71 [(V.d (.int .i64 x0))] [] = some ([(V.d (.bool (fix_right_i_r0_0 x0)))], []) := by
  unfold fix_right_i_r0_0
  cases h1 : tb (decide (0 ≤ x0))
  · exact w71 [.b (tbE h1)] (by kernel_rfl)
  · exact w71 [.b (tbE h1)] (by kernel_rfl)

def fix_Has_ii_r0_0 (x0 : Int) (x1 : Int) : Bool := (bif tb (fix_right_i_r0_0 x0) then (bif tb (decide (0 ≤ x1)) then (bif tb (decide (x1 < 16)) then (((andI .i64 (shrI .i64 x0 x1) 1) : Int) == 1) else false) else false) else false)

theorem fix_Has_ii_t0 (x0 : Int) (x1 : Int) : cl E0 38 [(V.d (.int .i64 x0)), (V.d (.int .i64 x1))] [] = some ([(V.d (.bool (fix_Has_ii_r0_0 x0 x1)))], []) := by
  unfold fix_Has_ii_r0_0
  cases h1 : tb (fix_right_i_r0_0 x0)
  · exact w38 [.c (fix_right_i_t0 x0), .b (tbE h1)] (by kernel_rfl)
  · cases h2 : tb (decide (0 ≤ x1))
    · exact w38 [.c (fix_right_i_t0 x0), .b (tbE h1), .b (tbE h2)] (by kernel_rfl)
    · cases h3 : tb (decide (x1 < 16))
      · exact w38 [.c (fix_right_i_t0 x0), .b (tbE h1), .b (tbE h2), .b (tbE h3)] (by kernel_rfl)
      · exact w38 [.c (fix_right_i_t0 x0), .b (tbE h1), .b (tbE h2), .b (tbE h3), .o 18 (fun _ => o_shr (k := .i64) (k2 := .i64) (x := x0) (y := x1) (tbE h2))] (by kernel_rfl)

def fix_Count_i_r0_0 (x0 : Int) : Int := (bif tb (fix_right_i_r0_0 x0) then (andI .i64 (wi ((math_bits_OnesCount64_i_e8 (IntKind.u64.wrap (x0))))) 127) else 0)

theorem fix_Count_i_t0 (x0 : Int) : cl E0 40 [(V.d (.int .i64 x0))] [] = some ([(V.d (.int .i64 (fix_Count_i_r0_0 x0)))], []) := by
  unfold fix_Count_i_r0_0
  cases h1 : tb (fix_right_i_r0_0 x0)
  · exact w40 [.c (fix_right_i_t0 x0), .b (notF (tbE h1))] (by kernel_rfl)
  · exact w40 [.c (fix_right_i_t0 x0), .b (notT (tbE h1)), .c (math_bits_OnesCount_i_t0 (IntKind.u64.wrap (x0)))] (by kernel_rfl)

end Go.Proofs.Ytdlhhoejnhjbhaa.Den

/- Layer 1 (fix): small, Clamp, told plainly. -/
namespace Go.Proofs.Ytdlhhoejnhjbhaa.Den
open Go
set_option linter.unusedVariables false
set_option linter.unusedSimpArgs false

def sm (z : Int) : Bool := decide (-1099511627776 ≤ z) && decide (z ≤ 1099511627776)
theorem sm_iff {z : Int} : sm z = true ↔ -1099511627776 ≤ z ∧ z ≤ 1099511627776 := by simp [sm]

theorem small_eq (l : List Int) (hl : l.length < 1152921504606846976) : fix_small_o_c0 l = true ∧ fix_small_o_r0_0 l = l.all sm := by
  obtain ⟨s1, e, -, h0, h⟩ := all_loop (sel := fix_small_o_L0_sel l l.length) (nx := fix_small_o_L0_nx l l.length) (s0 := ⟨0⟩) l (fun s => s.c3) sm (fun _ => True) hl rfl trivial
    (fun s _ h1 h2 _ => ⟨by show wi _ = _; exact wi_eq (by omega) (by omega), trivial⟩)
    (fun s _ h1 h2 => by
      by_cases h : s.c3 < l.length
      · have hi := inb_of h1 h
        by_cases g1 : gt l s.c3 < -1099511627776
        · have : sm (gt l s.c3) = false := by simp [sm]; omega
          simp [fix_small_o_L0_sel, h, hi, g1, this]
        · by_cases g2 : 1099511627776 < gt l s.c3
          · have : sm (gt l s.c3) = false := by simp [sm]; omega
            simp [fix_small_o_L0_sel, h, hi, g1, g2, this]
          · have : sm (gt l s.c3) = true := by simp [sm]; omega
            simp [fix_small_o_L0_sel, h, hi, g1, g2, this]
      · simp [fix_small_o_L0_sel, h])
  have hok : fix_small_o_L0_ok l l.length ⟨0⟩ = true := by simp [fix_small_o_L0_ok, e]
  have hend : fix_small_o_e0 l = s1 := by simp [fix_small_o_e0, fix_small_o_L0_end, e]
  simp only [fix_small_o_c0, fix_small_o_r0_0, hok, hend, tb_eq, cond_true]
  rcases h with ⟨h1, h2⟩ | ⟨h1, h2, h3⟩
  · simp [fix_small_o_L0_c0, fix_small_o_L0_c1, h1, h2]
  · simp [fix_small_o_L0_c0, fix_small_o_L0_c1, h1, h3, inb_of h0 h1]

theorem small1 (a : Int) : fix_small_o_c0 [a] = true ∧ fix_small_o_r0_0 [a] = sm a := by simpa using small_eq [a] (by simp)
theorem small2 (a b : Int) : fix_small_o_c0 [a, b] = true ∧ fix_small_o_r0_0 [a, b] = (sm a && sm b) := by simpa using small_eq [a, b] (by simp)
theorem small3 (a b c : Int) : fix_small_o_c0 [a, b, c] = true ∧ fix_small_o_r0_0 [a, b, c] = (sm a && sm b && sm c) := by simpa [Bool.and_assoc] using small_eq [a, b, c] (by simp)

theorem Clamp_c (a b c : Int) : fix_Clamp_iii_c0 a b c = true := by simp [fix_Clamp_iii_c0, (small3 a b c).1]
theorem Clamp_r (a b c : Int) : fix_Clamp_iii_r0_0 a b c = if sm a = true ∧ sm b = true ∧ sm c = true then max b (min a c) else 0 := by
  simp only [fix_Clamp_iii_r0_0, (small3 a b c).2, tb_eq, mxI_eq, mnI_eq]
  cases sm a <;> cases sm b <;> cases sm c <;> simp

end Go.Proofs.Ytdlhhoejnhjbhaa.Den

/- Layer 2 (order): sorting, told plainly. -/
namespace Go.Proofs.Ytdlhhoejnhjbhaa.Den
open Go
set_option linter.unusedVariables false
set_option linter.unusedSimpArgs false

theorem bigr (z : Int) : order_right_c1_i_r0_0 z = !sm z := by
  simp only [order_right_c1_i_r0_0, tb_eq, sm]
  by_cases h1 : z < -1099511627776
  · have : ¬ (-1099511627776 ≤ z) := by omega
    simp [h1, this]
  · have h2 : -1099511627776 ≤ z := by omega
    by_cases h3 : 1099511627776 < z
    · have : ¬ (z ≤ 1099511627776) := by omega
      simp [h1, h2, h3, this]
    · have : z ≤ 1099511627776 := by omega
      simp [h1, h2, h3, this]

theorem idx_big (l : List Int) (hl : l.length < 1152921504606846976) : slices_IndexFunc_int_o_order_right_c1_c0 l = true ∧ (decide (0 ≤ slices_IndexFunc_int_o_order_right_c1_r0_0 l)) = !(l.all sm) := by
  obtain ⟨s1, e, -, h0, h⟩ := all_loop (sel := slices_IndexFunc_int_o_order_right_c1_L0_sel l l.length) (nx := slices_IndexFunc_int_o_order_right_c1_L0_nx l l.length) (s0 := ⟨0⟩) l (fun s => s.c3) sm (fun _ => True) hl rfl trivial
    (fun s _ h1 h2 _ => ⟨by show wi _ = _; exact wi_eq (by omega) (by omega), trivial⟩)
    (fun s _ h1 h2 => by
      by_cases h : s.c3 < l.length
      · have hi := inb_of h1 h
        simp only [slices_IndexFunc_int_o_order_right_c1_L0_sel, h, hi, bigr, tb_eq, decide_true, cond_true, Bool.true_and]
        cases sm (gt l s.c3) <;> rfl
      · simp [slices_IndexFunc_int_o_order_right_c1_L0_sel, h])
  have hok : slices_IndexFunc_int_o_order_right_c1_L0_ok l l.length ⟨0⟩ = true := by simp [slices_IndexFunc_int_o_order_right_c1_L0_ok, e]
  have hend : slices_IndexFunc_int_o_order_right_c1_e0 l = s1 := by simp [slices_IndexFunc_int_o_order_right_c1_e0, slices_IndexFunc_int_o_order_right_c1_L0_end, e]
  simp only [slices_IndexFunc_int_o_order_right_c1_c0, slices_IndexFunc_int_o_order_right_c1_r0_0, hok, hend, tb_eq, cond_true]
  rcases h with ⟨h1, h2⟩ | ⟨h1, h2, h3⟩
  · simp [slices_IndexFunc_int_o_order_right_c1_L0_c0, slices_IndexFunc_int_o_order_right_c1_L0_c1, h1, h2]
  · have hi := inb_of h0 h1
    simp [slices_IndexFunc_int_o_order_right_c1_L0_c0, slices_IndexFunc_int_o_order_right_c1_L0_c1, h1, h3, hi, h0]

/-- May a list be? -/
def lst16 (l : List Int) : Bool := decide (l.length ≤ 16) && l.all sm

theorem right_o (l : List Int) (hl : l.length < 1152921504606846976) : order_right_o_c0 l = true ∧ order_right_o_r0_0 l = lst16 l := by
  obtain ⟨h1, h2⟩ := idx_big l hl
  simp only [order_right_o_c0, order_right_o_r0_0, slices_ContainsFunc_int_o_order_right_c1_c0, h1, h2, tb_eq, lst16]
  by_cases h : l.length ≤ 16
  · have : ((l.length : Int) ≤ 16) := by omega
    simp [h, this]
  · have : ¬ ((l.length : Int) ≤ 16) := by omega
    simp [h, this]

/-! ### a pass -/

theorem set_mid {q r : List Int} {a b : Int} : (q ++ a :: r).set q.length b = q ++ b :: r := by
  rw [List.set_append_right _ _ (Nat.le_refl _)]; simp

theorem gt_mid {q r : List Int} {a : Int} : gt (q ++ a :: r) (q.length : Int) = a := by
  rw [gt_nat (by simp)]; simp

theorem gt_mid1 {q r : List Int} {a b : Int} : gt (q ++ a :: b :: r) ((q.length : Int) + 1) = b := by
  have : ((q.length : Int) + 1) = ((q.length + 1 : Nat) : Int) := by omega
  rw [this, gt_nat (by simp)]
  rw [List.getElem_append_right (by omega)]; simp

theorem st_mid {q r : List Int} {a b : Int} : st (q ++ a :: r) (q.length : Int) b = q ++ b :: r := by
  unfold st; rw [Int.toNat_natCast]; exact set_mid

theorem st_mid1 {q r : List Int} {a b c : Int} : st (q ++ a :: b :: r) ((q.length : Int) + 1) c = q ++ a :: c :: r := by
  unfold st
  have : ((q.length : Int) + 1).toNat = (q ++ [a]).length := by simp
  rw [this]
  have e : q ++ a :: b :: r = (q ++ [a]) ++ b :: r := by simp
  rw [e, set_mid]; simp

def passSt (l : List Int) (i : Nat) : order_Sort_o_L1_s0 := ⟨!(bub (l.take i) == l.take i), i, bub (l.take i) ++ l.drop i⟩

theorem pass_run {l : List Int} (hl : 1 ≤ l.length) (hb : l.length ≤ 1000) : itS (order_Sort_o_L1_sel l.length) (order_Sort_o_L1_nx l.length) bound ⟨false, 1, l⟩ = some ⟨!(bub l == l), l.length, bub l⟩ := by
  have := loop_seq (sel := order_Sort_o_L1_sel l.length) (nx := order_Sort_o_L1_nx l.length) (fun k => passSt l (k + 1)) (l.length - 1) (by omega) (fun k hk => ?_) ?_
  · have e0 : passSt l (0 + 1) = ⟨false, 1, l⟩ := by
      cases l with
      | nil => simp at hl
      | cons a r => simp [passSt, bub, bubc]
    have e1 : passSt l (l.length - 1 + 1) = ⟨!(bub l == l), l.length, bub l⟩ := by
      rw [show l.length - 1 + 1 = l.length by omega]; simp [passSt]
    rw [e0, e1] at this; exact this
  · have hne : l.take (k + 1) ≠ [] := by
      intro h
      rw [List.take_eq_nil_iff] at h
      rcases h with h | h
      · omega
      · subst h; simp at hl
    obtain ⟨q, M, h1, h2, h3, h4⟩ := bub_snoc hne
    have hlk : (l.take (k + 1)).length = k + 1 := by simp; omega
    have hq : q.length = k := by omega
    have hdrop : l.drop (k + 1) = gt l ((k + 1 : Nat) : Int) :: l.drop (k + 2) := by
      rw [gt_nat (show k + 1 < l.length by omega)]; exact List.drop_eq_getElem_cons (by omega)
    have htake : l.take (k + 2) = l.take (k + 1) ++ [gt l ((k + 1 : Nat) : Int)] := take_succ_gt (by omega)
    generalize hx : gt l ((k + 1 : Nat) : Int) = x at *
    have h4x := h4 x
    have elist : bub (l.take (k + 1)) ++ l.drop (k + 1) = q ++ M :: x :: l.drop (k + 2) := by rw [h1, hdrop]; simp
    have w1 : wi (((k + 1 : Nat) : Int) - 1) = (q.length : Int) := by rw [wi_eq (by omega) (by omega)]; omega
    have ek : ((k + 1 : Nat) : Int) = (q.length : Int) + 1 := by omega
    have len : (q ++ M :: x :: l.drop (k + 2)).length = l.length := by simp; omega
    have b1 : inb l.length (q.length : Int) = true := inb_of (by omega) (by omega)
    have b2 : inb l.length ((q.length : Int) + 1) = true := inb_of (by omega) (by omega)
    have lt : ((q.length : Int) + 1) < (l.length : Int) := by omega
    have w2 : wi (((q.length : Int) + 1) - 1) = (q.length : Int) := by rw [wi_eq (by omega) (by omega)]; omega
    have w3 : wi (((q.length : Int) + 1) + 1) = ((k + 2 : Nat) : Int) := by rw [wi_eq (by omega) (by omega)]; omega
    have len1 : (q ++ x :: x :: l.drop (k + 2)).length = l.length := by simp; omega
    constructor
    · simp only [passSt, order_Sort_o_L1_sel, elist, ek, w2, gt_mid, gt_mid1, st_mid, b1, b2, lt, len, len1, Nat.beq_refl, tb_eq, decide_true, cond_true]
      cases decide (x < M) <;> rfl
    · simp only [passSt, order_Sort_o_L1_nx, order_Sort_o_L1_h0_e0, elist, ek, w2, w3, gt_mid, gt_mid1, st_mid, st_mid1, tb_eq]
      by_cases hlt : x < M
      · have hne2 : (bub (l.take (k + 2)) == l.take (k + 2)) = false := by
          rw [htake, h4x, if_pos hlt]
          rw [beq_eq_false_iff_ne]
          intro he
          have := congrArg List.getLast? he
          simp at this; omega
        simp only [hlt, decide_true, cond_true, hne2]
        rw [htake, h4x, if_pos hlt]; simp; omega
      · have heq : (bub (l.take (k + 2)) == l.take (k + 2)) = (bub (l.take (k + 1)) == l.take (k + 1)) := by
          rw [htake, h4x, if_neg hlt]
          have : q ++ [M, x] = bub (l.take (k + 1)) ++ [x] := by rw [h1]; simp
          rw [this, Bool.eq_iff_iff]; simp
        simp only [hlt, decide_false, cond_false]
        rw [heq, htake, h4x, if_neg hlt]; simp; omega
  · have : ¬ (((l.length - 1 + 1 : Nat) : Int) < (l.length : Int)) := by omega
    show (bif decide (((l.length - 1 + 1 : Nat) : Int) < (l.length : Int)) then _ else false) = false
    rw [decide_eq_false this]; rfl

theorem pass_all {l : List Int} (hl : 1 ≤ l.length) (hb : l.length ≤ 1000) : order_Sort_o_L1_ok l.length ⟨false, 1, l⟩ = true ∧ order_Sort_o_L1_end l.length ⟨false, 1, l⟩ = ⟨!(bub l == l), l.length, bub l⟩ ∧ order_Sort_o_L1_c0 l.length ⟨!(bub l == l), l.length, bub l⟩ = true := by
  have h := pass_run hl hb
  refine ⟨by simp only [order_Sort_o_L1_ok, h]; rfl, by simp only [order_Sort_o_L1_end, h]; rfl, by simp [order_Sort_o_L1_c0, tb_eq]⟩

/-- All passes. -/
theorem passes {l : List Int} (hb : l.length ≤ 1000) : order_Sort_o_S3_c0 l l.length = true ∧ order_Sort_o_L2_r0_3 l.length (l.length : Int) (order_Sort_o_S3_e0 l l.length) = isort l := by
  obtain ⟨n, hn, h1, h2, h3⟩ := bubn_stop l
  have hs : bubn l n = isort l := srt_isort h3 (bubn_perm l n)
  have hrun : itS (order_Sort_o_L2_sel l.length (l.length : Int)) (order_Sort_o_L2_nx l.length (l.length : Int)) bound ⟨0, l⟩ = some ⟨n, bubn l n⟩ := by
    have := loop_seq (sel := order_Sort_o_L2_sel l.length (l.length : Int)) (nx := order_Sort_o_L2_nx l.length (l.length : Int)) (fun k => ⟨(k : Int), bubn l k⟩) n (by omega) (fun k hk => ?_) ?_
    · exact this
    · have hlen := bubn_len l k
      obtain ⟨a1, a2, a3⟩ := pass_all (l := bubn l k) (by omega) (by omega)
      rw [hlen] at a1 a2 a3
      have hne : (bub (bubn l k) == bubn l k) = false := by rw [beq_eq_false_iff_ne]; exact h1 k hk
      have hlt : (k : Int) < (l.length : Int) := by omega
      rw [hne] at a2 a3
      constructor
      · simp only [order_Sort_o_L2_sel, order_Sort_o_L2_h0_e0, a1, a2, a3, hlt, tb_eq]; simp
      · simp only [order_Sort_o_L2_nx, order_Sort_o_L2_h0_e0, a2]
        rw [wi_eq (by omega) (by omega)]
        simp [bubn]
    · by_cases hlt : n < l.length
      · have hfix : bub (bubn l n) = bubn l n := by rcases h2 with h | h; omega; exact h
        have hlen := bubn_len l n
        obtain ⟨a1, a2, a3⟩ := pass_all (l := bubn l n) (by omega) (by omega)
        rw [hlen] at a1 a2 a3
        rw [hfix] at a2 a3
        have hlt' : (n : Int) < (l.length : Int) := by omega
        simp only [order_Sort_o_L2_sel, order_Sort_o_L2_h0_e0, a1, a2, a3, hlt', tb_eq]
        simp
      · have hlt' : ¬ (n : Int) < (l.length : Int) := by omega
        simp only [order_Sort_o_L2_sel, tb_eq]
        rw [decide_eq_false hlt']; rfl
  have he : order_Sort_o_S3_e0 l l.length = ⟨n, bubn l n⟩ := by simp only [order_Sort_o_S3_e0, order_Sort_o_L2_end, hrun]; rfl
  have hok : order_Sort_o_L2_ok l.length (l.length : Int) ⟨0, l⟩ = true := by simp only [order_Sort_o_L2_ok, hrun]; rfl
  by_cases hlt : n < l.length
  · have hfix : bub (bubn l n) = bubn l n := by rcases h2 with h | h; omega; exact h
    have hlen := bubn_len l n
    obtain ⟨a1, a2, a3⟩ := pass_all (l := bubn l n) (by omega) (by omega)
    rw [hlen] at a1 a2 a3
    rw [hfix] at a2 a3
    have hlt' : (n : Int) < (l.length : Int) := by omega
    constructor
    · simp only [order_Sort_o_S3_c0, hok, he, order_Sort_o_L2_c0, order_Sort_o_L2_h0_e0, a1, a2, a3, hlt', tb_eq]; simp
    · simp only [he, order_Sort_o_L2_r0_3, order_Sort_o_L2_h0_e0, a2, hlt', tb_eq, decide_true, cond_true]; exact hs
  · have hlt' : ¬ (n : Int) < (l.length : Int) := by omega
    constructor
    · simp only [order_Sort_o_S3_c0, hok, he, order_Sort_o_L2_c0, hlt', tb_eq]; simp
    · simp only [he, order_Sort_o_L2_r0_3, hlt', tb_eq, decide_false, cond_false]; exact hs

theorem cpL_rep (l : List Int) (z : Int) : cpL (List.replicate l.length z) l = l := by
  simp [cpL]

/-- Sort: of a list that may be. -/
theorem Sort_r {l : List Int} (h : lst16 l = true) : order_Sort_o_c0 l = true := by
  have hl : l.length ≤ 16 := by simp [lst16] at h; exact h.1
  obtain ⟨a1, a2⟩ := right_o l (by omega)
  obtain ⟨b1, b2⟩ := passes (l := l) (by omega)
  have e1 : ((l.length : Nat) : Int).toNat = l.length := by omega
  have h0 : (0 : Int) ≤ (l.length : Int) := by omega
  have h1 : (l.length : Int) * 8 ≤ 140737488355328 := by omega
  simp only [order_Sort_o_c0, order_Sort_o_S0_c0, order_Sort_o_e0, order_Sort_o_e2, a1, a2, h, e1, List.length_replicate, cpL_rep, b1, h0, h1, tb_eq]; simp

/-- The middle of one to four, sorted. -/
def midI (l : List Int) : Int := (gt (isort l) (((l.length : Int) - 1) / 2) + gt (isort l) ((l.length : Int) / 2)) / 2

def mid4 (l : List Int) : Bool := lst16 l && (decide (1 ≤ l.length) && decide (l.length ≤ 4))

theorem isort_sm {l : List Int} (h : lst16 l = true) {i : Int} (h1 : 0 ≤ i) (h2 : i < l.length) : -1099511627776 ≤ gt (isort l) i ∧ gt (isort l) i ≤ 1099511627776 := by
  have hm := gt_mem (l := isort l) h1 (by rw [isort_len]; exact h2)
  have := (isort_perm l).mem_iff.1 hm
  simp only [lst16, Bool.and_eq_true, List.all_eq_true] at h
  exact sm_iff.1 (h.2 _ this)

theorem Mid_r (l : List Int) (hl : l.length < 1152921504606846976) : order_Mid_o_c0 l = true ∧ order_Mid_o_r0_1 l = mid4 l ∧ (mid4 l = true → order_Mid_o_r0_0 l = midI l) ∧ (mid4 l = false → order_Mid_o_r0_0 l = 0) := by
  obtain ⟨a1, a2⟩ := right_o l hl
  cases h : lst16 l with
  | false =>
    have hm : mid4 l = false := by simp [mid4, h]
    refine ⟨by simp [order_Mid_o_c0, a1, a2, h, tb_eq], by simp [order_Mid_o_r0_1, a2, h, tb_eq, hm], (fun e => by rw [hm] at e; cases e), fun _ => by simp [order_Mid_o_r0_0, a2, h, tb_eq]⟩
  | true =>
    by_cases h1 : l.length < 1
    · have hm : mid4 l = false := by simp [mid4]; omega
      have h1' : (l.length : Int) < 1 := by omega
      refine ⟨by simp only [order_Mid_o_c0, a1, a2, h, tb_eq, h1', decide_true, cond_true], by simp only [order_Mid_o_r0_1, a2, h, tb_eq, hm, h1', decide_true, cond_true], (fun e => by rw [hm] at e; cases e), fun _ => by simp only [order_Mid_o_r0_0, a2, h, tb_eq, h1', decide_true, cond_true]⟩
    · have h1' : ¬ (l.length : Int) < 1 := by omega
      by_cases h2 : 4 < l.length
      · have hm : mid4 l = false := by simp [mid4]; omega
        have h2' : (4 : Int) < (l.length : Int) := by omega
        refine ⟨by simp only [order_Mid_o_c0, a1, a2, h, tb_eq, h1', h2', decide_true, decide_false, cond_true, cond_false], by simp only [order_Mid_o_r0_1, a2, h, tb_eq, hm, h1', h2', decide_true, decide_false, cond_true, cond_false], (fun e => by rw [hm] at e; cases e), fun _ => by simp only [order_Mid_o_r0_0, a2, h, tb_eq, h1', h2', decide_true, decide_false, cond_true, cond_false]⟩
      · have hm : mid4 l = true := by simp [mid4, h]; omega
        have h2' : ¬ (4 : Int) < (l.length : Int) := by omega
        obtain ⟨b1, b2⟩ := passes (l := l) (by omega)
        have e1 : ((l.length : Nat) : Int).toNat = l.length := by omega
        have e0 : order_Sort_o_e0 l = l := by simp only [order_Sort_o_e0, e1, cpL_rep]
        have e2 : order_Sort_o_e2 l = l.length := by simp only [order_Sort_o_e2, e1, List.length_replicate]
        have w1 : wi (((l.length : Nat) : Int) - 1) = (l.length : Int) - 1 := wi_eq (by omega) (by omega)
        have q1 : quoI .i64 ((l.length : Int) - 1) 2 = ((l.length : Int) - 1) / 2 := quo_i64 (by omega) (by omega) (by omega)
        have q2 : quoI .i64 (l.length : Int) 2 = (l.length : Int) / 2 := quo_i64 (by omega) (by omega) (by omega)
        have i1 : inb l.length (((l.length : Int) - 1) / 2) = true := inb_of (by omega) (by omega)
        have i2 : inb l.length ((l.length : Int) / 2) = true := inb_of (by omega) (by omega)
        have m1 := isort_sm h (i := ((l.length : Int) - 1) / 2) (by omega) (by omega)
        have m2 := isort_sm h (i := (l.length : Int) / 2) (by omega) (by omega)
        refine ⟨?_, by simp only [order_Mid_o_r0_1, a2, h, tb_eq, hm, h1', h2', decide_false, cond_true, cond_false], fun _ => ?_, fun e => by rw [hm] at e; cases e⟩
        · simp only [order_Mid_o_c0, a1, a2, h, tb_eq, h1', h2', Sort_r h, e0, e2, w1, q1, q2, i1, i2, b2, isort_len, Nat.beq_refl, decide_false, cond_true, cond_false]
        · simp only [order_Mid_o_r0_0, order_Mid_o_e2, order_Mid_o_e0, order_Mid_o_e1, a2, h, tb_eq, h1', h2', e0, e2, w1, q1, q2, b2, decide_false, cond_true, cond_false, midI]
          rw [wi_eq (by omega) (by omega)]
          exact shr_i64 _ 1 (by omega)

end Go.Proofs.Ytdlhhoejnhjbhaa.Den

/- The reference's functions of layer 1, told plainly: All, Floor. -/
namespace Go.Proofs.Ytdlhhoejnhjbhaa.Den
open Go
set_option linter.unusedVariables false
set_option linter.unusedSimpArgs false

theorem Small_r (z : Int) : ref01_Small_i_r0_0 z = sm z := by
  simp only [ref01_Small_i_r0_0, tb_eq, sm]; cases decide (-1099511627776 ≤ z) <;> rfl

theorem All_eq (l : List Int) (hl : l.length < 1152921504606846976) : ref01_All_o_c0 l = true ∧ ref01_All_o_r0_0 l = l.all sm := by
  obtain ⟨s1, e, -, h0, h⟩ := all_loop (sel := ref01_All_o_L0_sel l) (nx := ref01_All_o_L0_nx l) (s0 := ⟨0⟩) l (fun s => s.c2) sm (fun _ => True) hl rfl trivial
    (fun s _ h1 h2 _ => ⟨by show wi _ = _; exact wi_eq (by omega) (by omega), trivial⟩)
    (fun s _ h1 h2 => by
      by_cases h : s.c2 < l.length
      · have hi := inb_of h1 h
        simp only [ref01_All_o_L0_sel, h, hi, Small_r, tb_eq, decide_true, cond_true, Bool.true_and]
        cases sm (gt l s.c2) <;> rfl
      · simp [ref01_All_o_L0_sel, h])
  have hok : ref01_All_o_L0_ok l ⟨0⟩ = true := by simp [ref01_All_o_L0_ok, e]
  have hend : ref01_All_o_L0_end l ⟨0⟩ = s1 := by simp [ref01_All_o_L0_end, e]
  simp only [ref01_All_o_c0, ref01_All_o_r0_0, hok, hend, tb_eq, cond_true]
  rcases h with ⟨h1, h2⟩ | ⟨h1, h2, h3⟩
  · simp [ref01_All_o_L0_c0, ref01_All_o_L0_c1, h1, h2]
  · simp [ref01_All_o_L0_c0, ref01_All_o_L0_c1, h1, h3, inb_of h0 h1]

theorem all1 (a : Int) : ref01_All_o_c0 [a] = true ∧ ref01_All_o_r0_0 [a] = sm a := by simpa using All_eq [a] (by simp)
theorem all2 (a b : Int) : ref01_All_o_c0 [a, b] = true ∧ ref01_All_o_r0_0 [a, b] = (sm a && sm b) := by simpa using All_eq [a, b] (by simp)
theorem all3 (a b c : Int) : ref01_All_o_c0 [a, b, c] = true ∧ ref01_All_o_r0_0 [a, b, c] = (sm a && sm b && sm c) := by simpa [Bool.and_assoc] using All_eq [a, b, c] (by simp)

/-- Divided, floored. -/
def flo (a b : Int) : Int := if sm a = true ∧ sm b = true ∧ 1 ≤ b then a.fdiv b else 0

theorem floor_neg {n p : Int} (hp : 1 ≤ p) (hn : n < 0) : n / p = -((p - 1 - n) / p) := by
  have hp0 : 0 < p := by omega
  obtain ⟨q, hq⟩ : ∃ q, (p - 1 - n) / p = q := ⟨_, rfl⟩
  have h1 : q * p ≤ p - 1 - n := by rw [← hq]; exact Int.ediv_mul_le _ (by omega)
  have h2 : p - 1 - n < (q + 1) * p := by rw [← hq]; exact Int.lt_ediv_add_one_mul_self _ hp0
  rw [hq]
  have e1 : (q + 1) * p = q * p + p := by rw [Int.add_mul, Int.one_mul]
  have e2 : (-q) * p = -(q * p) := Int.neg_mul _ _
  have e3 : (-q + 1) * p = -(q * p) + p := by rw [Int.add_mul, Int.one_mul, e2]
  apply Int.le_antisymm
  · have : n / p < -q + 1 := by rw [Int.ediv_lt_iff_lt_mul hp0, e3]; omega
    omega
  · rw [Int.le_ediv_iff_mul_le hp0, e2]; omega

theorem Floor_c (a b : Int) : ref01_Floor_ii_c0 a b = true := by
  simp only [ref01_Floor_ii_c0, (all2 a b).1, (all2 a b).2, tb_eq, cond_true]
  cases sm a && sm b
  · rfl
  · by_cases h : b < 1
    · simp [h]
    · have : ((b : Int) == 0) = false := by simp; omega
      simp [h, this]

theorem Floor_r (a b : Int) : ref01_Floor_ii_r0_0 a b = flo a b := by
  simp only [ref01_Floor_ii_r0_0, (all2 a b).2, tb_eq, flo]
  cases h1 : sm a <;> cases h2 : sm b <;> simp
  rw [sm_iff] at h1 h2
  by_cases hb : b < 1
  · have : ¬ (1 ≤ b) := by omega
    simp [hb, this]
  · have hb1 : 1 ≤ b := by omega
    have hf : a.fdiv b = a / b := Int.fdiv_eq_ediv_of_nonneg _ (by omega)
    by_cases ha : 0 ≤ a
    · have e : quoI .i64 a b = a / b := by
        unfold quoI
        rw [Int.tdiv_eq_ediv_of_nonneg ha]
        have := Int.ediv_nonneg ha (show 0 ≤ b by omega)
        have := Int.ediv_le_self b ha
        exact wrap64 (by omega) (by omega)
      simp [hb, hb1, ha, hf, e]
    · have w1 : wi (b - 1) = b - 1 := wi_eq (by omega) (by omega)
      have w2 : wi (b - 1 - a) = b - 1 - a := wi_eq (by omega) (by omega)
      have n1 := Int.ediv_nonneg (show 0 ≤ b - 1 - a by omega) (show 0 ≤ b by omega)
      have n2 := Int.ediv_le_self b (show 0 ≤ b - 1 - a by omega)
      have e : quoI .i64 (b - 1 - a) b = (b - 1 - a) / b := by
        unfold quoI
        rw [Int.tdiv_eq_ediv_of_nonneg (show 0 ≤ b - 1 - a by omega)]
        exact wrap64 (by omega) (by omega)
      have w3 : wi (-((b - 1 - a) / b)) = -((b - 1 - a) / b) := wi_eq (by omega) (by omega)
      have fn := floor_neg (n := a) hb1 (by omega)
      simp [hb, hb1, ha, hf, w1, w2, e, w3, fn]

end Go.Proofs.Ytdlhhoejnhjbhaa.Den

/- The reference's functions of layer 2 (order), told plainly. -/
namespace Go.Proofs.Ytdlhhoejnhjbhaa.Den
open Go
set_option linter.unusedVariables false
set_option linter.unusedSimpArgs false

def lst16r (l : List Int) : Bool := l.all sm && decide (l.length ≤ 16)

theorem rright_o (l : List Int) (hl : l.length < 1152921504606846976) : ref02_Right_o_c0 l = true ∧ ref02_Right_o_r0_0 l = lst16r l := by
  obtain ⟨h1, h2⟩ := All_eq l hl
  simp only [ref02_Right_o_c0, ref02_Right_o_r0_0, h1, h2, tb_eq, lst16r]
  by_cases h : l.length ≤ 16
  · have : ((l.length : Int) ≤ 16) := by omega
    simp [h, this]
  · have : ¬ ((l.length : Int) ≤ 16) := by omega
    simp [h, this]

/-- What is built in the midst of one insertion. -/
def insK (x : Int) (p : List Int) : List Int := if p.any (fun z => decide (x < z)) then insI x p else p

theorem insK_len (x : Int) (p : List Int) : (insK x p).length ≤ p.length + 1 := by
  unfold insK
  split
  · rw [(insI_perm x p).length_eq]; simp
  · omega

theorem insK_snoc (x y : Int) (p : List Int) : insK x (p ++ [y]) = if p.any (fun z => decide (x < z)) then insK x p ++ [y] else if x < y then (insK x p ++ [x]) ++ [y] else insK x p ++ [y] := by
  unfold insK
  rw [insI_snoc]
  simp only [List.any_append, List.any_cons, List.any_nil, Bool.or_false]
  cases h : p.any (fun z => decide (x < z)) with
  | true => simp
  | false =>
    by_cases hxy : x < y
    · simp [hxy]
    · simp [hxy]

theorem ins_run {out l : List Int} {i : Nat} (ho : out.length ≤ 1000) (hl : l.length ≤ 1000) (hi : i < l.length) :
    itS (ref02_Sort_o_L2_1_sel out l (i : Int)) (ref02_Sort_o_L2_1_nx out l (i : Int)) bound ⟨true, false, 0, []⟩ = some ⟨out.length == 0, out.any (fun z => decide (gt l (i : Int) < z)), out.length, insK (gt l (i : Int)) out⟩ := by
  generalize hx : gt l (i : Int) = x
  have := loop_seq (sel := ref02_Sort_o_L2_1_sel out l (i : Int)) (nx := ref02_Sort_o_L2_1_nx out l (i : Int)) (fun k => ⟨k == 0, (out.take k).any (fun z => decide (x < z)), (k : Int), insK x (out.take k)⟩) out.length (by omega) (fun k hk => ?_) ?_
  · simpa [insK] using this
  · have b1 : inb out.length (k : Int) = true := inb_of (by omega) (by omega)
    have b2 : inb l.length (i : Int) = true := inb_of (by omega) (by omega)
    have hlt : (k : Int) < (out.length : Int) := by omega
    have hlen := insK_len x (out.take k)
    have htk : (out.take k).length = k := by simp; omega
    rw [htk] at hlen
    have s1 : ((insK x (out.take k)).length + 1) * 8 ≤ 140737488355328 := by omega
    have s2 : ((insK x (out.take k)).length + 1 + 1) * 8 ≤ 140737488355328 := by omega
    have htake := take_succ_gt hk
    constructor
    · simp only [ref02_Sort_o_L2_1_sel, b1, b2, hlt, hx, List.length_append, List.length_singleton, s1, s2, tb_eq, decide_true, cond_true]
      cases (out.take k).any (fun z => decide (x < z)) <;> cases decide (x < gt out (k : Int)) <;> rfl
    · simp only [ref02_Sort_o_L2_1_nx, hx, htake, insK_snoc, tb_eq, List.any_append, List.any_cons, List.any_nil, Bool.or_false]
      rw [wi_eq (by omega) (by omega)]
      cases h : (out.take k).any (fun z => decide (x < z)) with
      | true => simp
      | false =>
        by_cases hxy : x < gt out (k : Int)
        · simp [hxy]
        · simp [hxy]
  · have : ¬ ((out.length : Int) < (out.length : Int)) := by omega
    simp [ref02_Sort_o_L2_1_sel, tb_eq]

theorem ins0_run {l : List Int} {i : Int} : itS (ref02_Sort_o_L2_sel [] l i) (ref02_Sort_o_L2_nx [] l i) bound ⟨true, false, 0, []⟩ = some ⟨true, false, 0, []⟩ := by
  have := loop_seq (sel := ref02_Sort_o_L2_sel [] l i) (nx := ref02_Sort_o_L2_nx [] l i) (fun _ => ⟨true, false, 0, []⟩) 0 (by omega) (fun k hk => by omega) (by simp [ref02_Sort_o_L2_sel, tb_eq])
  exact this

def rSt (l : List Int) : Nat → ref02_Sort_o_L3_S
  | 0 => .h0 ⟨⟩
  | k + 1 => .h1 ⟨false, ((k + 1 : Nat) : Int), isort (l.take (k + 1))⟩

theorem rsort_run {l : List Int} (hl : l.length ≤ 900) : itS (ref02_Sort_o_L3_sel [] l 0) (ref02_Sort_o_L3_nx [] l 0) bound (.h0 ⟨⟩) = some (rSt l l.length) := by
  have := loop_seq (sel := ref02_Sort_o_L3_sel [] l 0) (nx := ref02_Sort_o_L3_nx [] l 0) (rSt l) l.length (by omega) (fun k hk => ?_) ?_
  · exact this
  · cases k with
    | zero =>
      have h0 := ins0_run (l := l) (i := 0)
      have a1 : ref02_Sort_o_L2_ok [] l 0 ⟨true, false, 0, []⟩ = true := by simp only [ref02_Sort_o_L2_ok, h0]; rfl
      have a2 : ref02_Sort_o_L2_end [] l 0 ⟨true, false, 0, []⟩ = ⟨true, false, 0, []⟩ := by simp only [ref02_Sort_o_L2_end, h0]; rfl
      have hp : (0 : Int) < (l.length : Int) := by omega
      have b1 : inb l.length 0 = true := inb_of (by omega) (by omega)
      constructor
      · simp only [rSt, ref02_Sort_o_L3_sel, ref02_Sort_o_L3_h0_sel, ref02_Sort_o_L3_h0_e0, ref02_Sort_o_S1_c0, a1, a2, hp, b1, ref02_Sort_o_L2_c0, tb_eq]; simp
      · simp only [rSt, ref02_Sort_o_L3_nx, ref02_Sort_o_L3_h0_nx, ref02_Sort_o_L3_h0_e0, a2, tb_eq, cond_false]
        have e : isort (l.take (0 + 1)) = [gt l 0] := by
          have := take_succ_gt (l := l) (k := 0) hk
          rw [this]; simp [isort, insI]
        rw [e, wi_eq (by omega) (by omega)]; simp
    | succ k =>
      have hlen : (isort (l.take (k + 1))).length = k + 1 := by rw [isort_len]; simp; omega
      have h0 := ins_run (out := isort (l.take (k + 1))) (l := l) (i := k + 1) (by omega) (by omega) hk
      rw [hlen] at h0
      have a1 : ref02_Sort_o_L2_1_ok (isort (l.take (k + 1))) l ((k + 1 : Nat) : Int) ⟨true, false, 0, []⟩ = true := by simp only [ref02_Sort_o_L2_1_ok, h0]; rfl
      have a2 := congrArg (fun o => Option.getD o default) h0
      have a3 : ref02_Sort_o_L2_1_end (isort (l.take (k + 1))) l ((k + 1 : Nat) : Int) ⟨true, false, 0, []⟩ = ⟨k + 1 == 0, (isort (l.take (k + 1))).any (fun z => decide (gt l ((k + 1 : Nat) : Int) < z)), ((k + 1 : Nat) : Int), insK (gt l ((k + 1 : Nat) : Int)) (isort (l.take (k + 1)))⟩ := by
        simp only [ref02_Sort_o_L2_1_end, h0]; rfl
      have hp : ((k + 1 : Nat) : Int) < (l.length : Int) := by omega
      have b1 : inb l.length ((k + 1 : Nat) : Int) = true := inb_of (by omega) (by omega)
      have c1 : ref02_Sort_o_L2_1_c0 (isort (l.take (k + 1))) ⟨k + 1 == 0, (isort (l.take (k + 1))).any (fun z => decide (gt l ((k + 1 : Nat) : Int) < z)), ((k + 1 : Nat) : Int), insK (gt l ((k + 1 : Nat) : Int)) (isort (l.take (k + 1)))⟩ = true := by
        simp [ref02_Sort_o_L2_1_c0, hlen, tb_eq]
      have hil := insK_len (gt l ((k + 1 : Nat) : Int)) (isort (l.take (k + 1)))
      rw [hlen] at hil
      have s1 : ((insK (gt l ((k + 1 : Nat) : Int)) (isort (l.take (k + 1)))).length + 1) * 8 ≤ 140737488355328 := by omega
      have hsn : isort (l.take (k + 1 + 1)) = insI (gt l ((k + 1 : Nat) : Int)) (isort (l.take (k + 1))) := by rw [take_succ_gt hk, isort_snoc]
      constructor
      · simp only [rSt, ref02_Sort_o_L3_sel, ref02_Sort_o_L3_h1_sel, ref02_Sort_o_L3_h1_e0, ref02_Sort_o_S1_1_c0, a1, a3, c1, hp, b1, s1, List.length_singleton, tb_eq, decide_true, cond_true]
        cases (isort (l.take (k + 1))).any (fun z => decide (gt l ((k + 1 : Nat) : Int) < z)) <;> rfl
      · simp only [rSt, ref02_Sort_o_L3_nx, ref02_Sort_o_L3_h1_nx, ref02_Sort_o_L3_h1_e0, a3, tb_eq, hsn]
        rw [wi_eq (by omega) (by omega)]
        have e1 : (((k + 1 : Nat) : Int) + 1) = ((k + 1 + 1 : Nat) : Int) := by omega
        cases h : (isort (l.take (k + 1))).any (fun z => decide (gt l ((k + 1 : Nat) : Int) < z)) with
        | true => simp only [insK, h, if_true, cond_true, e1]; rfl
        | false => simp only [insK, h, Bool.false_eq_true, if_false, cond_false, e1, insI_none _ h]
  · cases hn : l.length with
    | zero => simp [rSt, ref02_Sort_o_L3_sel, ref02_Sort_o_L3_h0_sel, ref02_Sort_o_S1_c0, hn, tb_eq]
    | succ k =>
      have : ¬ (((k + 1 : Nat) : Int) < (l.length : Int)) := by omega
      simp only [rSt, ref02_Sort_o_L3_sel, ref02_Sort_o_L3_h1_sel, ref02_Sort_o_S1_1_c0, tb_eq]
      rw [decide_eq_false this]; rfl

theorem rSort_r (l : List Int) (hl : l.length < 1152921504606846976) : ref02_Sort_o_c0 l = true ∧ ref02_Sort_o_r0_1 l = if lst16r l then isort l else [] := by
  obtain ⟨a1, a2⟩ := rright_o l hl
  cases h : lst16r l with
  | false => exact ⟨by simp [ref02_Sort_o_c0, ref02_Sort_o_S0_c0, a1, a2, h, tb_eq], by simp [ref02_Sort_o_r0_1, ref02_Sort_o_S0_c0, a2, h, tb_eq]⟩
  | true =>
    have hl16 : l.length ≤ 16 := by simp [lst16r] at h; exact h.2
    have hrun := rsort_run (l := l) (by omega)
    have he : ref02_Sort_o_e0 l = rSt l l.length := by simp only [ref02_Sort_o_e0, ref02_Sort_o_L3_end, hrun]; rfl
    have hok : ref02_Sort_o_L3_ok [] l 0 (.h0 ⟨⟩) = true := by simp only [ref02_Sort_o_L3_ok, hrun]; rfl
    cases hn : l.length with
    | zero =>
      have hnil : l = [] := List.length_eq_zero_iff.1 hn
      rw [hn] at he
      simp only [rSt] at he
      constructor
      · simp [ref02_Sort_o_c0, ref02_Sort_o_S0_c0, a1, a2, h, hok, he, ref02_Sort_o_L3_is0, ref02_Sort_o_L3_h0_c0, ref02_Sort_o_S1_c0, hn, tb_eq]
      · have hs : isort l = [] := by rw [hnil]; rfl
        simp only [ref02_Sort_o_r0_1, ref02_Sort_o_S0_c0, a2, h, he, ref02_Sort_o_L3_is0, tb_eq, hs]; rfl
    | succ k =>
      rw [hn] at he
      simp only [rSt] at he
      have hlt : ¬ (((k + 1 : Nat) : Int) < (l.length : Int)) := by omega
      have htk : l.take (k + 1) = l := List.take_of_length_le (by omega)
      rw [htk] at he
      constructor
      · simp only [ref02_Sort_o_c0, ref02_Sort_o_S0_c0, a1, a2, h, hok, he, ref02_Sort_o_L3_is0, ref02_Sort_o_L3_get1, ref02_Sort_o_L3_h1_c0, ref02_Sort_o_S1_1_c0, tb_eq]
        rw [decide_eq_false hlt]; rfl
      · simp [ref02_Sort_o_r0_1, ref02_Sort_o_S0_c0, a2, h, he, ref02_Sort_o_L3_is0, ref02_Sort_o_L3_get1, tb_eq]

theorem half_r {a b : Int} (ha : -1099511627776 ≤ a ∧ a ≤ 1099511627776) (hb : -1099511627776 ≤ b ∧ b ≤ 1099511627776) : ref02_half_ii_r0_0 a b = (a + b) / 2 := by
  simp only [ref02_half_ii_r0_0, tb_eq]
  rw [wi_eq (x := a + b) (by omega) (by omega)]
  by_cases h : 0 ≤ a + b
  · simp only [h, decide_true, cond_true]
    exact quo_i64 h (by omega) (by omega)
  · simp only [h, decide_false, cond_false]
    rw [wi_eq (x := 1 - (a + b)) (by omega) (by omega), quo_i64 (by omega) (by omega) (by omega), wi_eq (by omega) (by omega)]
    omega

def midR (l : List Int) : Int := (gt (isort l) (((l.length : Int) - 1) / 2) + gt (isort l) ((l.length : Int) / 2)) / 2

def mid4r (l : List Int) : Bool := lst16r l && (decide (1 ≤ l.length) && decide (l.length ≤ 4))

theorem isort_smr {l : List Int} (h : lst16r l = true) {i : Int} (h1 : 0 ≤ i) (h2 : i < l.length) : -1099511627776 ≤ gt (isort l) i ∧ gt (isort l) i ≤ 1099511627776 := by
  have hm := gt_mem (l := isort l) h1 (by rw [isort_len]; exact h2)
  have := (isort_perm l).mem_iff.1 hm
  simp only [lst16r, Bool.and_eq_true, List.all_eq_true] at h
  exact sm_iff.1 (h.1 _ this)

theorem rMid_r (l : List Int) (hl : l.length < 1152921504606846976) : ref02_Mid_o_c0 l = true ∧ ref02_Mid_o_r0_1 l = mid4r l ∧ (mid4r l = true → ref02_Mid_o_r0_0 l = midR l) ∧ (mid4r l = false → ref02_Mid_o_r0_0 l = 0) := by
  obtain ⟨a1, a2⟩ := rright_o l hl
  obtain ⟨b1, b2⟩ := rSort_r l hl
  have s0 : ref02_Mid_o_S0_c0 l (lst16r l) = !(mid4r l) := by
    simp only [ref02_Mid_o_S0_c0, mid4r, tb_eq]
    cases lst16r l
    · rfl
    · by_cases h1 : l.length < 1
      · have : (l.length : Int) < 1 := by omega
        have : ¬ 1 ≤ l.length := by omega
        simp [*]
      · have g1 : ¬ (l.length : Int) < 1 := by omega
        have g2 : 1 ≤ l.length := by omega
        by_cases h2 : 4 < l.length
        · have g3 : (4 : Int) < (l.length : Int) := by omega
          have g4 : ¬ l.length ≤ 4 := by omega
          simp [g1, g2, g3, g4]
        · have g3 : ¬ (4 : Int) < (l.length : Int) := by omega
          have g4 : l.length ≤ 4 := by omega
          simp [g1, g2, g3, g4]
  cases h : mid4r l with
  | false =>
    rw [h] at s0
    refine ⟨?_, ?_, (fun e => by cases e), fun _ => ?_⟩
    · simp only [ref02_Mid_o_c0, a1, a2, s0, tb_eq]; rfl
    · simp only [ref02_Mid_o_r0_1, a2, s0, tb_eq]; rfl
    · simp only [ref02_Mid_o_r0_0, a2, s0, tb_eq]; rfl
  | true =>
    rw [h] at s0
    have h' := h
    simp only [mid4r, Bool.and_eq_true, decide_eq_true_eq] at h'
    obtain ⟨h16, g1, g2⟩ := h'
    rw [h16] at b2
    simp only [if_true] at b2
    have hlen := isort_len l
    have m := fun (i : Int) (x : 0 ≤ i) (y : i < l.length) => isort_smr h16 x y
    have i0 : inb (isort l).length 0 = true := inb_of (by omega) (by omega)
    have hcases : l.length = 1 ∨ l.length = 2 ∨ l.length = 3 ∨ l.length = 4 := by omega
    refine ⟨?_, by simp only [ref02_Mid_o_r0_1, a2, s0, tb_eq]; rfl, fun _ => ?_, (fun e => by cases e)⟩
    · simp only [ref02_Mid_o_c0, a1, a2, s0, ref02_Mid_o_S1_c0, ref02_Mid_o_S1_c1, b1, b2, hlen, tb_eq]
      rcases hcases with e | e | e | e <;> simp [e, inb]
    · simp only [ref02_Mid_o_r0_0, a2, s0, ref02_Mid_o_S1_c0, ref02_Mid_o_S1_r0_0, b1, b2, hlen, tb_eq, midR]
      rcases hcases with e | e | e | e
      · simp [e, inb]; omega
      · have m0 := m 0 (by omega) (by omega)
        have m1 := m 1 (by omega) (by omega)
        simp [e, inb, half_r m0 m1]
      · simp [e, inb]; omega
      · have m0 := m 1 (by omega) (by omega)
        have m1 := m 2 (by omega) (by omega)
        simp [e, inb, half_r m0 m1]

end Go.Proofs.Ytdlhhoejnhjbhaa.Den

/- What tells lists of numbers alike, told plainly. -/
namespace Go.Proofs.Ytdlhhoejnhjbhaa.Den
open Go
set_option linter.unusedVariables false
set_option linter.unusedSimpArgs false

theorem ints_eq {l k : List Int} (hl : l.length < 1152921504606846976) : ref02_Ints_oo_c0 l k = true ∧ ref02_Ints_oo_r0_0 l k = decide (l = k) := by
  by_cases h : l.length = k.length
  · obtain ⟨s1, e, g0, g⟩ := eq_loop (sel := ref02_Ints_oo_L0_sel l k) (nx := ref02_Ints_oo_L0_nx l k) (s0 := ⟨0⟩) h (fun s => s.c4) hl rfl
      (fun s a1 a2 => by show wi _ = _; exact wi_eq (by omega) (by omega))
      (fun s a1 a2 => by
        by_cases hi : s.c4 < l.length
        · have i1 := inb_of a1 hi
          have i2 : inb k.length s.c4 = true := by rw [← h]; exact i1
          by_cases q : gt l s.c4 = gt k s.c4
          · simp [ref02_Ints_oo_L0_sel, hi, i1, i2, q]
          · simp [ref02_Ints_oo_L0_sel, hi, i1, i2, q, bne]
        · simp [ref02_Ints_oo_L0_sel, hi])
    have hne : ((((l.length : Nat) : Int) : Int) != ((k.length : Nat) : Int)) = false := by simp [h]
    simp only [ref02_Ints_oo_c0, ref02_Ints_oo_r0_0, ref02_Ints_oo_L0_ok, ref02_Ints_oo_L0_end, e, hne, tb_eq, cond_false, Option.isSome_some, cond_true, Option.getD_some]
    rcases g with ⟨a, b⟩ | ⟨a, b, c⟩
    · simp [ref02_Ints_oo_L0_c0, ref02_Ints_oo_L0_c1, a, b]
    · have i1 := inb_of g0 a
      have i2 : inb k.length s1.c4 = true := by rw [← h]; exact i1
      simp [ref02_Ints_oo_L0_c0, ref02_Ints_oo_L0_c1, a, c, i1, i2]
  · have hne : ((((l.length : Nat) : Int) : Int) != ((k.length : Nat) : Int)) = true := by simp; omega
    have : l ≠ k := fun e => h (by rw [e])
    simp [ref02_Ints_oo_c0, ref02_Ints_oo_r0_0, hne, this]

end Go.Proofs.Ytdlhhoejnhjbhaa.Den

/- Layer 2 (order): Sort, Spread, Without, of the program and of the reference, told plainly. -/
namespace Go.Proofs.Ytdlhhoejnhjbhaa.Den
open Go
set_option linter.unusedVariables false
set_option linter.unusedSimpArgs false

theorem lst16_eqr (l : List Int) : lst16 l = lst16r l := by simp only [lst16, lst16r]; exact Bool.and_comm _ _

theorem Sort_c {l : List Int} (hl : l.length < 1152921504606846976) : order_Sort_o_c0 l = lst16 l ∧ order_Sort_o_c1 l = !lst16 l := by
  obtain ⟨a1, a2⟩ := right_o l hl
  cases h : lst16 l with
  | true => exact ⟨Sort_r h, by simp [order_Sort_o_c1, order_Sort_o_S0_c0, a1, a2, h]⟩
  | false => simp [order_Sort_o_c0, order_Sort_o_c1, order_Sort_o_S0_c0, order_Sort_o_S0_c1, a1, a2, h]

theorem Sort_v {l : List Int} (h : lst16 l = true) : order_Sort_o_e2 l = l.length ∧ order_Sort_o_L2_r0_3 (order_Sort_o_e2 l) (((order_Sort_o_e2 l) : Nat) : Int) (order_Sort_o_S3_e0 (order_Sort_o_e0 l) (order_Sort_o_e2 l)) = isort l := by
  have h16 : l.length ≤ 16 := by simp only [lst16, Bool.and_eq_true, decide_eq_true_eq] at h; exact h.1
  obtain ⟨b1, b2⟩ := passes (l := l) (by omega)
  have e1 : ((l.length : Nat) : Int).toNat = l.length := by omega
  have e0 : order_Sort_o_e0 l = l := by simp only [order_Sort_o_e0, e1, cpL_rep]
  have e2 : order_Sort_o_e2 l = l.length := by simp only [order_Sort_o_e2, e1, List.length_replicate]
  rw [e2, e0]; exact ⟨rfl, b2⟩

/-- The list without an element. -/
def wo (l : List Int) (i : Int) : List Int := if 0 ≤ i ∧ i < l.length then l.take i.toNat ++ l.drop (i.toNat + 1) else l

theorem Clone_v (b : Bool) (l : List Int) : slices_Clone_int_o_r0_1 b l = l ∧ slices_Clone_int_o_r0_0 b l = (b && l.isEmpty) := by
  unfold slices_Clone_int_o_r0_1 slices_Clone_int_o_r0_0
  cases b <;> cases l <;> simp

theorem Clone_c (b : Bool) {l : List Int} (hl : l.length ≤ 17592186044416) : slices_Clone_int_o_c0 b l = true := by
  unfold slices_Clone_int_o_c0
  have : (l.length : Nat) * 8 ≤ 140737488355328 := by omega
  simp [this]

theorem del_view {l : List Int} {i : Int} (h : 0 ≤ i ∧ i < l.length) : List.take ((dlL l i (i + 1)).length - ((i + 1).toNat - i.toNat)) (dlL l i (i + 1)) = wo l i := by
  unfold dlL wo
  rw [if_pos ⟨h.1, by omega, by omega⟩, if_pos h]
  have e1 : (i + 1).toNat = i.toNat + 1 := by omega
  rw [e1]
  have e2 : i.toNat + 1 - i.toNat = 1 := by omega
  rw [e2]
  have hl : (l.take i.toNat ++ l.drop (i.toNat + 1)).length = l.length - 1 := by simp; omega
  rw [List.length_append, hl, List.length_replicate, show l.length - 1 + 1 - 1 = (l.take i.toNat ++ l.drop (i.toNat + 1)).length by rw [hl]; omega, List.take_left']
  rfl

theorem wo_len {l : List Int} {i : Int} (h : 0 ≤ i ∧ i < l.length) : (wo l i).length = l.length - 1 := by
  unfold wo; rw [if_pos h]; simp; omega

theorem Without_no (b : Bool) {l : List Int} (i : Int) (hl : l.length < 1152921504606846976) (h : lst16 l = false) : order_Without_oi_c0 b l i = true ∧ order_Without_oi_r0_1 b l = [] ∧ order_Without_oi_r0_0 b l = true := by
  obtain ⟨a1, a2⟩ := right_o l hl
  simp [order_Without_oi_c0, order_Without_oi_r0_1, order_Without_oi_r0_0, a1, a2, h]

theorem Without_out (b : Bool) {l : List Int} {i : Int} (h : lst16 l = true) (hi : ¬ (0 ≤ i ∧ i < l.length)) : order_Without_oi_c0 b l i = true ∧ order_Without_oi_r0_1 b l = l := by
  have h16 : l.length ≤ 16 := by simp only [lst16, Bool.and_eq_true, decide_eq_true_eq] at h; exact h.1
  obtain ⟨a1, a2⟩ := right_o l (by omega)
  have hc := Clone_c b (l := l) (by omega)
  refine ⟨?_, by simp [order_Without_oi_r0_1, a2, h, (Clone_v b l).1]⟩
  by_cases h1 : i < 0
  · simp [order_Without_oi_c0, a1, a2, h, hc, h1]
  · have h2 : (l.length : Int) ≤ i := by omega
    simp [order_Without_oi_c0, a1, a2, h, hc, h1, h2]

theorem Without_in (b : Bool) {l : List Int} {i : Int} (h : lst16 l = true) (hi : 0 ≤ i ∧ i < l.length) : order_Without_oi_c0 b l i = false ∧ order_Without_oi_c1 b l i = true := by
  have h16 : l.length ≤ 16 := by simp only [lst16, Bool.and_eq_true, decide_eq_true_eq] at h; exact h.1
  obtain ⟨a1, a2⟩ := right_o l (by omega)
  have hc := Clone_c b (l := l) (by omega)
  have h1 : ¬ i < 0 := by omega
  have h2 : ¬ (l.length : Int) ≤ i := by omega
  have hw : wi (i + 1) = i + 1 := wi_eq (by omega) (by omega)
  have hne : l.isEmpty = false := by cases l with | nil => simp at hi; omega | cons a l => rfl
  have hd : delB l.length i (i + 1) = true := by simp [delB]; omega
  simp [order_Without_oi_c0, order_Without_oi_c1, a1, a2, h, hc, h1, h2, (Clone_v b l).1, (Clone_v b l).2, hne, hw, hd]

theorem rWithout_r {l : List Int} (i : Int) (hl : l.length < 1152921504606846976) : ref02_Without_oi_c0 l i = true ∧ ref02_Without_oi_r0_1 l i = if lst16r l then wo l i else [] := by
  obtain ⟨a1, a2⟩ := rright_o l hl
  cases h : lst16r l with
  | false => simp [ref02_Without_oi_c0, ref02_Without_oi_r0_1, a1, a2, h]
  | true =>
    have h16 : l.length ≤ 16 := by simp only [lst16r, Bool.and_eq_true, decide_eq_true_eq] at h; exact h.2
    obtain ⟨s1, e, ⟨hJ, hi⟩, hn⟩ := idx_loop (sel := ref02_Without_oi_L0_sel l i) (nx := ref02_Without_oi_L0_nx l i) (s0 := ⟨true, 0, []⟩) (l.length : Int) (fun s => s.c4)
      (fun s => s.c6 = (if 0 ≤ i ∧ i < s.c4 then l.take i.toNat ++ (l.take s.c4.toNat).drop (i.toNat + 1) else l.take s.c4.toNat) ∧ s.c6.length ≤ s.c4.toNat) (by omega) ⟨by simp; omega, by simp⟩ (by simp) (by simp)
      (fun s ⟨hJ, hlen⟩ h1 h2 => by
        have hin := inb_of h1 h2
        have hk : s.c4.toNat < l.length := by omega
        have hw : wi (s.c4 + 1) = s.c4 + 1 := wi_eq (by omega) (by omega)
        have ht : l.take (s.c4 + 1).toNat = l.take s.c4.toNat ++ [gt l s.c4] := by
          rw [show (s.c4 + 1).toNat = s.c4.toNat + 1 by omega, List.take_succ_eq_append_getElem hk, gt_getElem h1 hk]
        have hsz : (s.c6.length + 1) * 8 ≤ 140737488355328 := by omega
        by_cases hc : s.c4 = i
        · subst hc
          refine ⟨by simp [ref02_Without_oi_L0_sel, h2], ?_⟩
          simp only [ref02_Without_oi_L0_nx, bne_self_eq_false, tb_eq, cond_false, hw]
          refine ⟨⟨?_, by omega⟩, trivial⟩
          rw [hJ, if_neg (by omega), if_pos ⟨h1, by omega⟩, ht, List.drop_eq_nil_of_le (by simp; omega), List.append_nil]
        · have hne : ((s.c4 : Int) != i) = true := by simpa using hc
          refine ⟨by simp [ref02_Without_oi_L0_sel, h2, hne, hin, hsz], ?_⟩
          simp only [ref02_Without_oi_L0_nx, hne, tb_eq, cond_true, hw]
          refine ⟨⟨?_, by simp; omega⟩, trivial⟩
          rw [hJ, ht]
          by_cases hq : 0 ≤ i ∧ i < s.c4
          · rw [if_pos hq, if_pos ⟨hq.1, by omega⟩, List.drop_append_of_le_length (by simp; omega), List.append_assoc]
          · rw [if_neg hq, if_neg (by omega)])
      (fun s _ hs => by simp [ref02_Without_oi_L0_sel, hs])
    have hok : ref02_Without_oi_L0_ok l i ⟨true, 0, []⟩ = true := by simp [ref02_Without_oi_L0_ok, e]
    have hend : ref02_Without_oi_e0 l i = s1 := by simp [ref02_Without_oi_e0, ref02_Without_oi_L0_end, e]
    have hn' : s1.c4 = l.length := hn
    have hc0 : ref02_Without_oi_L0_c0 l s1 = true := by simp [ref02_Without_oi_L0_c0, hn']
    refine ⟨by simp [ref02_Without_oi_c0, a1, a2, h, hok, hend, hc0], ?_⟩
    simp only [ref02_Without_oi_r0_1, a2, h, tb_eq, cond_true, hend, if_true]
    rw [hJ, hn']
    unfold wo
    simp only [Int.toNat_natCast, List.take_length]

/-- The greatest of a list, and the least. -/
theorem max_loop {l : List Int} (h0 : 1 ≤ l.length) (hb : l.length ≤ 1000) : ∃ s1, itS (slices_Max_int_o_L0_sel l) (slices_Max_int_o_L0_nx l) bound ⟨gt l 0, 1⟩ = some s1 ∧ s1.c3 = l.length ∧ s1.c2 ∈ l ∧ ∀ z, z ∈ l → z ≤ s1.c2 := by
  obtain ⟨s1, e, ⟨h1, h2, h3⟩, hn⟩ := idx_loop (sel := slices_Max_int_o_L0_sel l) (nx := slices_Max_int_o_L0_nx l) (s0 := ⟨gt l 0, 1⟩) (l.length : Int) (fun s => s.c3) (fun s => s.c2 ∈ l ∧ 1 ≤ s.c3 ∧ ∀ z, z ∈ l.take s.c3.toNat → z ≤ s.c2) (by omega)
    ⟨gt_mem (by omega) (by omega), by simp, fun z hz => by
      have : l.take 1 = [gt l 0] := by
        have := take_succ_gt (l := l) (k := 0) (by omega)
        simpa using this
      have hz' : z ∈ l.take 1 := hz
      rw [this] at hz'
      simp at hz'; simp [hz']⟩ (by simp) (by simp; omega)
    (fun s ⟨a, a2, b⟩ h1 h2 => by
      have hin := inb_of h1 h2
      have hw : wi (s.c3 + 1) = s.c3 + 1 := wi_eq (by omega) (by omega)
      have ht : l.take (s.c3 + 1).toNat = l.take s.c3.toNat ++ [gt l s.c3] := by
        rw [show (s.c3 + 1).toNat = s.c3.toNat + 1 by omega, List.take_succ_eq_append_getElem (by omega), gt_getElem h1 (by omega)]
      refine ⟨by simp [slices_Max_int_o_L0_sel, h2, hin], ?_⟩
      simp only [slices_Max_int_o_L0_nx, hw, mxI_eq]
      refine ⟨⟨?_, by omega, fun z hz => ?_⟩, trivial⟩
      · have := gt_mem (l := l) h1 (by omega)
        rcases Int.le_total (gt l s.c3) s.c2 with q | q
        · rw [Int.max_eq_left q]; exact a
        · rw [Int.max_eq_right q]; exact this
      · rw [ht] at hz
        rcases List.mem_append.1 hz with hz | hz
        · have := b z hz; omega
        · simp at hz; omega)
    (fun s _ hs => by simp [slices_Max_int_o_L0_sel, hs])
  have hn' : s1.c3 = l.length := hn
  exact ⟨s1, e, hn', h1, fun z hz => h3 z (by rw [hn']; simpa using hz)⟩

theorem min_loop {l : List Int} (h0 : 1 ≤ l.length) (hb : l.length ≤ 1000) : ∃ s1, itS (slices_Min_int_o_L0_sel l) (slices_Min_int_o_L0_nx l) bound ⟨gt l 0, 1⟩ = some s1 ∧ s1.c3 = l.length ∧ s1.c2 ∈ l ∧ ∀ z, z ∈ l → s1.c2 ≤ z := by
  obtain ⟨s1, e, ⟨h1, h2, h3⟩, hn⟩ := idx_loop (sel := slices_Min_int_o_L0_sel l) (nx := slices_Min_int_o_L0_nx l) (s0 := ⟨gt l 0, 1⟩) (l.length : Int) (fun s => s.c3) (fun s => s.c2 ∈ l ∧ 1 ≤ s.c3 ∧ ∀ z, z ∈ l.take s.c3.toNat → s.c2 ≤ z) (by omega)
    ⟨gt_mem (by omega) (by omega), by simp, fun z hz => by
      have : l.take 1 = [gt l 0] := by
        have := take_succ_gt (l := l) (k := 0) (by omega)
        simpa using this
      have hz' : z ∈ l.take 1 := hz
      rw [this] at hz'
      simp at hz'; simp [hz']⟩ (by simp) (by simp; omega)
    (fun s ⟨a, a2, b⟩ h1 h2 => by
      have hin := inb_of h1 h2
      have hw : wi (s.c3 + 1) = s.c3 + 1 := wi_eq (by omega) (by omega)
      have ht : l.take (s.c3 + 1).toNat = l.take s.c3.toNat ++ [gt l s.c3] := by
        rw [show (s.c3 + 1).toNat = s.c3.toNat + 1 by omega, List.take_succ_eq_append_getElem (by omega), gt_getElem h1 (by omega)]
      refine ⟨by simp [slices_Min_int_o_L0_sel, h2, hin], ?_⟩
      simp only [slices_Min_int_o_L0_nx, hw, mnI_eq]
      refine ⟨⟨?_, by omega, fun z hz => ?_⟩, trivial⟩
      · have := gt_mem (l := l) h1 (by omega)
        rcases Int.le_total s.c2 (gt l s.c3) with q | q
        · rw [Int.min_eq_left q]; exact a
        · rw [Int.min_eq_right q]; exact this
      · rw [ht] at hz
        rcases List.mem_append.1 hz with hz | hz
        · have := b z hz; omega
        · simp at hz; omega)
    (fun s _ hs => by simp [slices_Min_int_o_L0_sel, hs])
  have hn' : s1.c3 = l.length := hn
  exact ⟨s1, e, hn', h1, fun z hz => h3 z (by rw [hn']; simpa using hz)⟩

theorem srt_last {l : List Int} (h : Srt l) (h0 : 1 ≤ l.length) : ∀ z, z ∈ l → z ≤ gt l ((l.length : Int) - 1) := by
  intro z hz
  obtain ⟨i, hi, rfl⟩ := List.getElem_of_mem hz
  rw [gt_getElem (by omega) (by omega)]
  rcases Nat.lt_or_ge i (((l.length : Int) - 1).toNat) with h1 | h1
  · exact List.pairwise_iff_getElem.1 h i _ hi (by omega) h1
  · have : i = ((l.length : Int) - 1).toNat := by omega
    subst this; exact Int.le_refl _

theorem srt_first {l : List Int} (h : Srt l) : ∀ z, z ∈ l → gt l 0 ≤ z := by
  intro z hz
  obtain ⟨i, hi, rfl⟩ := List.getElem_of_mem hz
  rw [gt_getElem (by omega) (by simp; omega)]
  rcases Nat.lt_or_ge 0 i with h1 | h1
  · exact List.pairwise_iff_getElem.1 h _ i (by simp; omega) hi (by simpa using h1)
  · have : i = 0 := by omega
    subst this; exact Int.le_refl _

/-- The greatest less the least. -/
def spreadI (l : List Int) : Int := if l.length = 0 then 0 else gt (isort l) ((l.length : Int) - 1) - gt (isort l) 0

theorem Spread_r {l : List Int} (hl : l.length < 1152921504606846976) : order_Spread_o_c0 l = true ∧ order_Spread_o_r0_0 l = if lst16 l then spreadI l else 0 := by
  obtain ⟨a1, a2⟩ := right_o l hl
  cases h : lst16 l with
  | false => simp [order_Spread_o_c0, order_Spread_o_r0_0, a1, a2, h]
  | true =>
    have h16 : l.length ≤ 16 := by simp only [lst16, Bool.and_eq_true, decide_eq_true_eq] at h; exact h.1
    by_cases h0 : l.length = 0
    · have : ((l.length : Int) == 0) = true := by simp; simpa using h0
      simp [order_Spread_o_c0, order_Spread_o_r0_0, a1, a2, h, this, spreadI, h0]
    · have hne : ((l.length : Int) == 0) = false := by simp; simpa using h0
      obtain ⟨s1, e1, n1, p1, q1⟩ := max_loop (l := l) (by omega) (by omega)
      obtain ⟨s2, e2, n2, p2, q2⟩ := min_loop (l := l) (by omega) (by omega)
      have i0 : inb l.length 0 = true := inb_of (by omega) (by omega)
      have hlt : ¬ (l.length : Int) < 1 := by omega
      have k1 : slices_Max_int_o_c0 l = true := by
        simp [slices_Max_int_o_c0, slices_Max_int_o_e0, slices_Max_int_o_L0_ok, slices_Max_int_o_L0_end, e1, i0, hlt, slices_Max_int_o_L0_c0, n1]
      have k2 : slices_Min_int_o_c0 l = true := by
        simp [slices_Min_int_o_c0, slices_Min_int_o_e0, slices_Min_int_o_L0_ok, slices_Min_int_o_L0_end, e2, i0, hlt, slices_Min_int_o_L0_c0, n2]
      have hmax : s1.c2 = gt (isort l) ((l.length : Int) - 1) := by
        apply Int.le_antisymm
        · have := srt_last (isort_srt l) (by rw [isort_len]; omega) s1.c2 ((isort_perm l).mem_iff.2 p1)
          rwa [isort_len] at this
        · exact q1 _ ((isort_perm l).mem_iff.1 (gt_mem (by omega) (by rw [isort_len]; omega)))
      have hmin : s2.c2 = gt (isort l) 0 := by
        apply Int.le_antisymm
        · exact q2 _ ((isort_perm l).mem_iff.1 (gt_mem (by omega) (by rw [isort_len]; omega)))
        · exact srt_first (isort_srt l) s2.c2 ((isort_perm l).mem_iff.2 p2)
      have m1 := isort_sm h (i := (l.length : Int) - 1) (by omega) (by omega)
      have m2 := isort_sm h (i := 0) (by omega) (by omega)
      refine ⟨by simp [order_Spread_o_c0, a1, a2, h, hne, k1, k2], ?_⟩
      simp only [order_Spread_o_r0_0, a2, h, hne, tb_eq, cond_true, cond_false, if_true, order_Spread_o_e0, slices_Max_int_o_e0, slices_Min_int_o_e0, slices_Max_int_o_L0_end, slices_Min_int_o_L0_end, e1, e2, Option.getD_some, spreadI, h0, if_false, hmax, hmin]
      exact wi_eq (by omega) (by omega)

theorem rSpread_r {l : List Int} (hl : l.length < 1152921504606846976) : ref02_Spread_o_c0 l = true ∧ ref02_Spread_o_r0_0 l = if lst16r l then spreadI l else 0 := by
  obtain ⟨a1, a2⟩ := rSort_r l hl
  cases h : lst16r l with
  | false =>
    rw [h] at a2
    have a2 : ref02_Sort_o_r0_1 l = [] := by simpa using a2
    simp [ref02_Spread_o_c0, ref02_Spread_o_r0_0, a1, a2]
  | true =>
    rw [h] at a2
    have a2 : ref02_Sort_o_r0_1 l = isort l := by simpa using a2
    have h16 : l.length ≤ 16 := by simp only [lst16r, Bool.and_eq_true, decide_eq_true_eq] at h; exact h.2
    by_cases h0 : l.length = 0
    · have : (((isort l).length : Int) == 0) = true := by rw [isort_len]; simp; simpa using h0
      simp only [ref02_Spread_o_c0, ref02_Spread_o_r0_0, a1, a2, this, tb_eq, cond_true, spreadI, h0, if_true, and_self]
    · have hne : (((isort l).length : Int) == 0) = false := by rw [isort_len]; simp; simpa using h0
      have hw : wi (((isort l).length : Int) - 1) = (l.length : Int) - 1 := by rw [isort_len]; exact wi_eq (by omega) (by omega)
      have i0 : inb (isort l).length 0 = true := inb_of (by omega) (by rw [isort_len]; omega)
      have i1 : inb (isort l).length ((l.length : Int) - 1) = true := inb_of (by omega) (by rw [isort_len]; omega)
      have m1 := isort_smr h (i := (l.length : Int) - 1) (by omega) (by omega)
      have m2 := isort_smr h (i := 0) (by omega) (by omega)
      simp only [ref02_Spread_o_c0, ref02_Spread_o_r0_0, ref02_Spread_o_e0, a1, a2, hne, hw, i0, i1, tb_eq, cond_true, cond_false, spreadI, h0, if_false, true_and, if_true]
      exact wi_eq (by omega) (by omega)

end Go.Proofs.Ytdlhhoejnhjbhaa.Den

/- OrderTells: the plain law. -/
namespace Go.Proofs.Ytdlhhoejnhjbhaa.Den
open Go
set_option linter.unusedVariables false
set_option linter.unusedSimpArgs false
set_option maxRecDepth 100000

theorem pure_OrderTells (x0 : Bool) (x1 : List Int) (x2 : Int) (wx1 : (x1.length ≤ maxLen ∧ ∀ z ∈ x1, WfI .i64 z)) (wx2 : WfI .i64 x2) : law02_OrderTells_c0 x0 x1 x2 = true ∧ (law02_OrderTells_r0_0 x0 x1 x2) = true := by
  by_cases hbig : 40 < (x1.length : Int)
  · simp [law02_OrderTells_c0, law02_OrderTells_r0_0, law02_OrderTells_S0_c0, hbig]
  have hS0 : law02_OrderTells_S0_c0 x1 = false := by simp [law02_OrderTells_S0_c0, hbig]
  have hl : x1.length < 1152921504606846976 := by omega
  obtain ⟨m1, m2, m3, m4⟩ := Mid_r x1 hl
  obtain ⟨r1, r2, r3, r4⟩ := rMid_r x1 hl
  obtain ⟨s1, s2⟩ := Sort_c hl
  obtain ⟨t1, t2⟩ := rSort_r x1 hl
  obtain ⟨p1, p2⟩ := Spread_r hl
  obtain ⟨q1, q2⟩ := rSpread_r hl
  obtain ⟨w1, w2⟩ := rWithout_r x2 hl
  have e16 := lst16_eqr x1
  have hmid : order_Mid_o_r0_0 x1 = ref02_Mid_o_r0_0 x1 := by
    have e : mid4 x1 = mid4r x1 := by simp only [mid4, mid4r, e16]
    cases h : mid4 x1 with
    | true => rw [m3 h, r3 (by rw [← e]; exact h)]; rfl
    | false => rw [m4 h, r4 (by rw [← e]; exact h)]
  have hmid2 : order_Mid_o_r0_1 x1 = ref02_Mid_o_r0_1 x1 := by rw [m2, r2]; simp only [mid4, mid4r, e16]
  have hsp : order_Spread_o_r0_0 x1 = ref02_Spread_o_r0_0 x1 := by rw [p2, q2, e16]
  have hS3 : law02_OrderTells_S3_c0 x1 = true ∧ law02_OrderTells_S3_r0_7 x1 = true := by
    unfold law02_OrderTells_S3_c0 law02_OrderTells_S3_r0_7
    cases h : lst16 x1 with
    | true =>
      obtain ⟨v1, v2⟩ := Sort_v h
      have et : ref02_Sort_o_r0_1 x1 = isort x1 := by rw [t2, ← e16, h]; rfl
      have e0 : law02_OrderTells_S3_e0 x1 = isort x1 := v2
      have hi := ints_eq (l := isort x1) (k := isort x1) (by rw [isort_len]; exact hl)
      have hb : Nat.beq (order_Sort_o_e2 x1) (isort x1).length = true := by rw [v1, isort_len]; simp
      rw [s1, h, t1, et, e0, v2, hb, hi.1, hi.2]; simp
    | false =>
      have et : ref02_Sort_o_r0_1 x1 = [] := by rw [t2, ← e16, h]; rfl
      have hi := ints_eq (l := ([] : List Int)) (k := []) (by simp)
      rw [s1, s2, h, t1, et, hi.1, hi.2]; simp
  have hS4 : law02_OrderTells_S4_c0 x0 x1 x2 = true ∧ law02_OrderTells_S4_r0_7 x0 x1 x2 = true := by
    unfold law02_OrderTells_S4_c0 law02_OrderTells_S4_r0_7
    cases h : lst16 x1 with
    | false =>
      obtain ⟨a1, a2, a3⟩ := Without_no x0 (l := x1) x2 hl h
      have et : ref02_Without_oi_r0_1 x1 x2 = [] := by rw [w2, ← e16, h]; rfl
      have hi := ints_eq (l := ([] : List Int)) (k := []) (by simp)
      rw [a1, a2, w1, et, hi.1, hi.2]; simp
    | true =>
      have et : ref02_Without_oi_r0_1 x1 x2 = wo x1 x2 := by rw [w2, ← e16, h]; rfl
      by_cases hi : 0 ≤ x2 ∧ x2 < x1.length
      · obtain ⟨a1, a2⟩ := Without_in x0 (l := x1) (i := x2) h hi
        have hw : wi (x2 + 1) = x2 + 1 := wi_eq (by omega) (by omega)
        have e0 : law02_OrderTells_S4_e0 x0 x1 x2 = wo x1 x2 := by
          unfold law02_OrderTells_S4_e0
          rw [(Clone_v x0 x1).1, hw]; exact del_view hi
        have hi := ints_eq (l := wo x1 x2) (k := wo x1 x2) (by rw [wo_len hi]; omega)
        rw [a1, a2, w1, et, e0, hi.1, hi.2]; simp
      · obtain ⟨a1, a2⟩ := Without_out x0 (l := x1) (i := x2) h hi
        have e : wo x1 x2 = x1 := by unfold wo; rw [if_neg hi]
        have hi := ints_eq (l := x1) (k := x1) hl
        rw [a1, a2, w1, et, e, hi.1, hi.2]; simp
  simp [law02_OrderTells_c0, law02_OrderTells_r0_0, law02_OrderTells_S1_c0, law02_OrderTells_S2_c0, law02_OrderTells_S5_c0, law02_OrderTells_S5_r0_0, hS0, m1, r1, hS3.1, hS3.2, hS4.1, hS4.2, hmid, hmid2, hsp, p1, q1]

end Go.Proofs.Ytdlhhoejnhjbhaa.Den

/- What all rows of a seat rest on. -/
namespace Go.Proofs.Ytdlhhoejnhjbhaa.Den
open Go Go.Proofs
set_option maxRecDepth 100000

theorem own : ownKnob Try.prog.godebug = none := by kernel_rfl
theorem laidOut : laidOutB Try.prog = true := by kernel_rfl
theorem mixed : Try.prog.follows .mixedOrders = true := by kernel_rfl
theorem envOK : EnvOK Try.prog E0 := ⟨e0_cf, fun f args m r m' h => by simp [E0] at h, e0_del⟩
theorem glOK (w : World) : GlOK E0 (cx0 w) := fun g cs h => by simp [E0] at h
end Go.Proofs.Ytdlhhoejnhjbhaa.Den

/- The row of OrderTells. -/
namespace Go.Proofs.Ytdlhhoejnhjbhaa.Den
open Go Go.Proofs Go.ChangeShapes Go.WideShapes Go.ChangeAt Go.RowKit
open Go.Proofs.Ytdlhhoejnhjbhaa (Rows.orderTellsSpec Rows.orderTellsRow Rows.OrderTellsSaid)
set_option maxRecDepth 100000
set_option linter.unusedSimpArgs false
set_option linter.unusedVariables false

theorem row3 (rs : List (List D)) (h : TyAll Try.prog 20 Try.f3.params.toList rs) : ∃ k m', callD E0 k 3 (argsV Try.prog Try.f3.params.toList rs) [] = some ([.d (.bool true)], m') := by
  rw [Try.params3] at h ⊢
  simp only [TyAll] at h
  obtain ⟨_, _, rfl, q0, _, _, rfl, q1, rfl⟩ := h
  have k0 := flatK_ok 20 _ _ _ (show flatK Try.prog 20 22 = some [.l 3] by kernel_rfl) q0
  simp only [CellsK, CellK] at k0
  obtain ⟨d0_0, _, rfl, y0_0, rfl⟩ := k0
  obtain ⟨n0_0, a0_0, rfl, v0_0⟩ : ∃ n l, d0_0 = slD (encI .i64) true 1 n l ∧ (l.length ≤ maxLen ∧ ∀ z ∈ l, WfI .i64 z) := by
    rcases y0_0 with rfl | ⟨rows1, rfl, hl1, m1, hr1⟩
    · exact ⟨true, [], rfl, by simp [maxLen], fun z hz => by simp at hz⟩
    · obtain ⟨l2, rfl, hw2⟩ : ∃ l : List Int, rows1 = l.map (encI .i64) ∧ ∀ z ∈ l, WfI .i64 z := rows_of (T := Ty Try.prog m1 3) (fun r hr => by
          have q := flatK_any (show flatK Try.prog 20 3 = some [.i .i64] by kernel_rfl) hr
          simp only [CellsK, CellK] at q
          obtain ⟨_, _, rfl, ⟨b0, rfl, w0⟩, rfl⟩ := q
          exact ⟨b0, rfl, w0⟩) rows1 hr1
      rw [show isFlat Try.prog 3 = true by kernel_rfl, show Try.prog.cellsOf 3 = 1 by kernel_rfl]
      exact ⟨false, l2, slD_rs _ _ _ _, by simpa using hl1, hw2⟩
  have k1 := flatK_ok 20 _ _ _ (show flatK Try.prog 20 3 = some [.i .i64] by kernel_rfl) q1
  simp only [CellsK, CellK] at k1
  obtain ⟨_, _, rfl, ⟨a1_0, rfl, w1_0⟩, rfl⟩ := k1
  simp only [argsV, argV, Try.underlying3, Try.underlying22, List.map_cons, List.map_nil]
  obtain ⟨g1, g2⟩ := pure_OrderTells n0_0 a0_0 a1_0 v0_0 w1_0
  have hc := law02_OrderTells_t0 n0_0 a0_0 a1_0 g1
  rw [g2] at hc
  obtain ⟨k, hk⟩ := of_cl hc
  exact ⟨k, _, hk⟩

theorem orderTells_lifted (os : Os) (started : os.Started) (H : Type) (enc : TypeId × Value → H) :
    ReturnsInHanded {} Try.checked os 3 .any (Rows.orderTellsSpec.pre6 enc Try.prog Try.f3 Rows.orderTellsRow.domain false) (Rows.orderTellsSpec.post enc Try.prog Try.f3 false true false false) :=
  law_lifted (C := Try.checked) (fn := Try.f3) mixed envOK glOK own started (by kernel_rfl) Try.func3 laidOut
    (ChangeSpec.witness6 (enc := enc) (C := Try.checked) false ⟨#[], #[.slice none 0 0, .int .i64 0], []⟩ 8 (by kernel_rfl) (by kernel_rfl) (by kernel_rfl) (by kernel_rfl))
    (by kernel_rfl) (rt := 4) rfl Try.underlying4 rfl
    (fun ds h => by
      match ds, h with
      | [_, _], _ => rfl)
    row3

theorem orderTells_holds : Rows.OrderTellsSaid :=
  OpenClaim.holds_of_wide 3 Try.f3 rfl rfl rfl rfl rfl rfl rfl ⟨rfl, rfl, rfl, rfl, rfl⟩ rfl rfl rfl rfl rfl (by kernel_rfl) Try.func3 (by kernel_rfl)
    (of_decide_eq_true (by kernel_rfl)) (by unfold Func.isWrapper; first | (rw [if_pos (by decide +kernel)]; kernel_rfl) | (rw [if_neg (by decide +kernel)]; exact ⟨rfl, rfl⟩))
    (fun os started H enc _ => orderTells_lifted os started H enc)

end Go.Proofs.Ytdlhhoejnhjbhaa.Den
