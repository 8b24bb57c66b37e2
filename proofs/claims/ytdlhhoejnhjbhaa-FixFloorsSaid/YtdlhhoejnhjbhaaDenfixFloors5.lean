/- FixFloors: part 5 of what its proof rests on: an evaluator of the program's code, proved sound; plain functions printed from the code by a program of this session, with proofs; plain laws. No condition. -/
import Derived.Test.YtdlhhoejnhjbhaaDenfixFloors4
import Derived.Test.YtdlhhoejnhjbhaaRows

namespace Go.Proofs.Ytdlhhoejnhjbhaa.Den
open Go Go.Proofs
set_option maxRecDepth 100000
set_option maxHeartbeats 4000000
set_option linter.unusedVariables false
set_option linter.unusedSimpArgs false

def ref01_Small_i_r0_0 (x0 : Int) : Bool := (bif tb (decide ((-1099511627776) ≤ x0)) then (decide (x0 ≤ 1099511627776)) else false)

theorem ref01_Small_i_t0 (x0 : Int) : cl E0 70 [(V.d (.int .i64 x0))] [] = some ([(V.d (.bool (ref01_Small_i_r0_0 x0)))], []) := by
  unfold ref01_Small_i_r0_0
  cases h1 : tb (decide ((-1099511627776) ≤ x0))
  · exact w70 [.b (tbE h1)] (by kernel_rfl)
  · exact w70 [.b (tbE h1)] (by kernel_rfl)

structure ref01_All_o_L0_s0 where
  c2 : Int
  deriving Inhabited

def ref01_All_o_L0_enc (x0 : Bool) (x1 : List Int) (x2 : Int) (s0 : ref01_All_o_L0_s0) : List V × Mem := ([(V.d (slD (encI .i64) true 1 x0 x1)), (V.d (.int .i64 s0.c2))], [])

def ref01_All_o_L0_sel (x1 : List Int) (s0 : ref01_All_o_L0_s0) : Bool := (bif tb (decide (s0.c2 < ((x1.length : Nat) : Int))) then (bif tb (inb x1.length s0.c2) then (bif tb (ref01_Small_i_r0_0 (gt x1 s0.c2)) then true else false) else false) else false)

def ref01_All_o_L0_nx (x1 : List Int) (s0 : ref01_All_o_L0_s0) : ref01_All_o_L0_s0 := ⟨(wi (s0.c2 + 1))⟩

def ref01_All_o_L0_ok (x1 : List Int) (s0 : ref01_All_o_L0_s0) : Bool := (itS (ref01_All_o_L0_sel x1) (ref01_All_o_L0_nx x1) bound s0).isSome
def ref01_All_o_L0_end (x1 : List Int) (s0 : ref01_All_o_L0_s0) : ref01_All_o_L0_s0 := (itS (ref01_All_o_L0_sel x1) (ref01_All_o_L0_nx x1) bound s0).getD default

theorem ref01_All_o_L0_go (x0 : Bool) (x1 : List Int) (x2 : Int) (s0 : ref01_All_o_L0_s0) : ref01_All_o_L0_sel x1 s0 = true → (roundG (runC E0 (cl E0) L42_0) [0, 3] [2] 0) (ref01_All_o_L0_enc x0 x1 x2 s0) = some (.normal, ref01_All_o_L0_enc x0 x1 x2 (ref01_All_o_L0_nx x1 s0)) := by
  unfold ref01_All_o_L0_sel ref01_All_o_L0_nx
  cases h1 : tb (decide (s0.c2 < ((x1.length : Nat) : Int)))
  · intro g0
    exact absurd g0 ft
  · cases h2 : tb (inb x1.length s0.c2)
    · intro g0
      exact absurd g0 ft
    · cases h3 : tb (ref01_Small_i_r0_0 (gt x1 s0.c2))
      · intro g0
        exact absurd g0 ft
      · intro _
        exact round_walk [.o 7 (fun _ => o_len_os (enc := (encI .i64)) (l := x1) (fl := true) (n := x0) (s := 1)), .b (tbE h1), .o 13 (fun _ => o_idx_os (enc := (encI .i64)) (l := x1) (fl := true) (n := x0) (s := 1) (k := .i64) (tbE h2)), .c (ref01_Small_i_t0 (gt x1 s0.c2)), .b (notT (tbE h3))] (by kernel_rfl)

def ref01_All_o_L0_c0 (x1 : List Int) (s0 : ref01_All_o_L0_s0) : Bool := (bif tb (decide (s0.c2 < ((x1.length : Nat) : Int))) then (bif tb (inb x1.length s0.c2) then true else false) else false)

def ref01_All_o_L0_c1 (x1 : List Int) (s0 : ref01_All_o_L0_s0) : Bool := (bif tb (decide (s0.c2 < ((x1.length : Nat) : Int))) then false else true)

theorem ref01_All_o_L0_x0 (x0 : Bool) (x1 : List Int) (x2 : Int) (s0 : ref01_All_o_L0_s0) : ref01_All_o_L0_sel x1 s0 = false → ref01_All_o_L0_c0 x1 s0 = true → (roundG (runC E0 (cl E0) L42_0) [0, 3] [2] 0) (ref01_All_o_L0_enc x0 x1 x2 s0) = some (.ret, ([(V.d (.bool false))], [])) := by
  unfold ref01_All_o_L0_sel ref01_All_o_L0_c0
  cases h1 : tb (decide (s0.c2 < ((x1.length : Nat) : Int)))
  · intro g0 g1
    exact absurd g1 ft
  · cases h2 : tb (inb x1.length s0.c2)
    · intro g0 g1
      exact absurd g1 ft
    · cases h3 : tb (ref01_Small_i_r0_0 (gt x1 s0.c2))
      · intro g0 g1
        exact round_walk [.o 7 (fun _ => o_len_os (enc := (encI .i64)) (l := x1) (fl := true) (n := x0) (s := 1)), .b (tbE h1), .o 13 (fun _ => o_idx_os (enc := (encI .i64)) (l := x1) (fl := true) (n := x0) (s := 1) (k := .i64) (tbE h2)), .c (ref01_Small_i_t0 (gt x1 s0.c2)), .b (notF (tbE h3))] (by kernel_rfl)
      · intro g0 g1
        exact absurd g0 tf

theorem ref01_All_o_L0_x1 (x0 : Bool) (x1 : List Int) (x2 : Int) (s0 : ref01_All_o_L0_s0) : ref01_All_o_L0_sel x1 s0 = false → ref01_All_o_L0_c0 x1 s0 = false → ref01_All_o_L0_c1 x1 s0 = true → (roundG (runC E0 (cl E0) L42_0) [0, 3] [2] 0) (ref01_All_o_L0_enc x0 x1 x2 s0) = some ((.exit 0), ([V.un], [])) := by
  unfold ref01_All_o_L0_sel ref01_All_o_L0_c0 ref01_All_o_L0_c1
  cases h1 : tb (decide (s0.c2 < ((x1.length : Nat) : Int)))
  · intro g0 g1 g2
    exact round_walk [.o 7 (fun _ => o_len_os (enc := (encI .i64)) (l := x1) (fl := true) (n := x0) (s := 1)), .b (tbE h1)] (by kernel_rfl)
  · cases h2 : tb (inb x1.length s0.c2)
    · intro g0 g1 g2
      exact absurd g2 ft
    · cases h3 : tb (ref01_Small_i_r0_0 (gt x1 s0.c2))
      · intro g0 g1 g2
        exact absurd g1 tf
      · intro g0 g1 g2
        exact absurd g0 tf

theorem ref01_All_o_L0_f0_0 (x0 : Bool) (x1 : List Int) (x2 : Int) (s : ref01_All_o_L0_s0) (hok : ref01_All_o_L0_ok x1 s = true) (c0 : ref01_All_o_L0_c0 x1 (ref01_All_o_L0_end x1 s) = true) : loopG (roundG (runC E0 (cl E0) L42_0) [0, 3] [2] 0) bound (ref01_All_o_L0_enc x0 x1 x2 s) = some (.ret, ([(V.d (.bool false))], [])) := by
  have e : itS (ref01_All_o_L0_sel x1) (ref01_All_o_L0_nx x1) bound s = some (ref01_All_o_L0_end x1 s) := itS_get hok
  have f := itS_false e
  exact loop_it (ref01_All_o_L0_go x0 x1 x2) bound s _ _ _ e (fun h => by cases h) (ref01_All_o_L0_x0 x0 x1 x2 (ref01_All_o_L0_end x1 s) f c0)

theorem ref01_All_o_L0_f0_1 (x0 : Bool) (x1 : List Int) (x2 : Int) (s : ref01_All_o_L0_s0) (hok : ref01_All_o_L0_ok x1 s = true) (c0 : ref01_All_o_L0_c0 x1 (ref01_All_o_L0_end x1 s) = false) (c1 : ref01_All_o_L0_c1 x1 (ref01_All_o_L0_end x1 s) = true) : loopG (roundG (runC E0 (cl E0) L42_0) [0, 3] [2] 0) bound (ref01_All_o_L0_enc x0 x1 x2 s) = some ((.exit 0), ([V.un], [])) := by
  have e : itS (ref01_All_o_L0_sel x1) (ref01_All_o_L0_nx x1) bound s = some (ref01_All_o_L0_end x1 s) := itS_get hok
  have f := itS_false e
  exact loop_it (ref01_All_o_L0_go x0 x1 x2) bound s _ _ _ e (fun h => by cases h) (ref01_All_o_L0_x1 x0 x1 x2 (ref01_All_o_L0_end x1 s) f c0 c1)

def ref01_All_o_c0 (x1 : List Int) : Bool := (bif tb (ref01_All_o_L0_ok x1 (⟨0⟩ : ref01_All_o_L0_s0)) then (bif tb (ref01_All_o_L0_c0 x1 (ref01_All_o_L0_end x1 (⟨0⟩ : ref01_All_o_L0_s0))) then true else (bif tb (ref01_All_o_L0_c1 x1 (ref01_All_o_L0_end x1 (⟨0⟩ : ref01_All_o_L0_s0))) then true else false)) else false)

def ref01_All_o_r0_0 (x1 : List Int) : Bool := (bif tb (ref01_All_o_L0_c0 x1 (ref01_All_o_L0_end x1 (⟨0⟩ : ref01_All_o_L0_s0))) then false else true)

theorem ref01_All_o_t0 (x0 : Bool) (x1 : List Int) : ref01_All_o_c0 x1 = true → cl E0 42 [(V.d (slD (encI .i64) true 1 x0 x1))] [] = some ([(V.d (.bool (ref01_All_o_r0_0 x1)))], []) := by
  unfold ref01_All_o_c0 ref01_All_o_r0_0
  cases h1 : tb (ref01_All_o_L0_ok x1 (⟨0⟩ : ref01_All_o_L0_s0))
  · intro g0
    exact absurd g0 ft
  · cases h2 : tb (ref01_All_o_L0_c0 x1 (ref01_All_o_L0_end x1 (⟨0⟩ : ref01_All_o_L0_s0)))
    · cases h3 : tb (ref01_All_o_L0_c1 x1 (ref01_All_o_L0_end x1 (⟨0⟩ : ref01_All_o_L0_s0)))
      · intro g0
        exact absurd g0 ft
      · intro g0
        exact w42 [.l (ref01_All_o_L0_f0_1 x0 x1 0 (⟨0⟩ : ref01_All_o_L0_s0) (tbE h1) (tbE h2) (tbE h3))] (by kernel_rfl)
    · intro g0
      exact w42 [.l (ref01_All_o_L0_f0_0 x0 x1 0 (⟨0⟩ : ref01_All_o_L0_s0) (tbE h1) (tbE h2))] (by kernel_rfl)

def ref01_Clamp_iii_c0 (x0 : Int) (x1 : Int) (x2 : Int) : Bool := (bif tb (ref01_All_o_c0 [x0, x1, x2]) then true else false)

def ref01_Clamp_iii_r0_0 (x0 : Int) (x1 : Int) (x2 : Int) : Int := (bif tb (ref01_All_o_r0_0 [x0, x1, x2]) then (bif tb (decide (x2 < x1)) then x1 else (bif tb (decide (x0 < x1)) then x1 else (bif tb (decide (x2 < x0)) then x2 else x0))) else 0)

theorem ref01_Clamp_iii_t0 (x0 : Int) (x1 : Int) (x2 : Int) : ref01_Clamp_iii_c0 x0 x1 x2 = true → cl E0 26 [(V.d (.int .i64 x0)), (V.d (.int .i64 x1)), (V.d (.int .i64 x2))] [] = some ([(V.d (.int .i64 (ref01_Clamp_iii_r0_0 x0 x1 x2)))], []) := by
  unfold ref01_Clamp_iii_c0 ref01_Clamp_iii_r0_0
  cases h1 : tb (ref01_All_o_c0 [x0, x1, x2])
  · intro g0
    exact absurd g0 ft
  · cases h2 : tb (ref01_All_o_r0_0 [x0, x1, x2])
    · intro g0
      exact w26 [.c (ref01_All_o_t0 false [x0, x1, x2] (tbE h1)), .b (notF (tbE h2))] (by kernel_rfl)
    · cases h3 : tb (decide (x2 < x1))
      · cases h4 : tb (decide (x0 < x1))
        · cases h5 : tb (decide (x2 < x0))
          · intro g0
            exact w26 [.c (ref01_All_o_t0 false [x0, x1, x2] (tbE h1)), .b (notT (tbE h2)), .b (tbE h3), .b (tbE h4), .b (tbE h5)] (by kernel_rfl)
          · intro g0
            exact w26 [.c (ref01_All_o_t0 false [x0, x1, x2] (tbE h1)), .b (notT (tbE h2)), .b (tbE h3), .b (tbE h4), .b (tbE h5)] (by kernel_rfl)
        · intro g0
          exact w26 [.c (ref01_All_o_t0 false [x0, x1, x2] (tbE h1)), .b (notT (tbE h2)), .b (tbE h3), .b (tbE h4)] (by kernel_rfl)
      · intro g0
        exact w26 [.c (ref01_All_o_t0 false [x0, x1, x2] (tbE h1)), .b (notT (tbE h2)), .b (tbE h3)] (by kernel_rfl)

def ref01_Near_iii_c0 (x0 : Int) (x1 : Int) (x2 : Int) : Bool := (bif tb (ref01_All_o_c0 [x0, x1, x2]) then true else false)

def ref01_Near_iii_r0_0 (x0 : Int) (x1 : Int) (x2 : Int) : Int := (bif tb (ref01_All_o_r0_0 [x0, x1, x2]) then (bif tb (decide (x2 < 0)) then x0 else (bif tb (decide ((wi (x0 + x2)) < x1)) then (wi (x0 + x2)) else (bif tb (decide (x1 < (wi (x0 - x2)))) then (wi (x0 - x2)) else x1))) else 0)

theorem ref01_Near_iii_t0 (x0 : Int) (x1 : Int) (x2 : Int) : ref01_Near_iii_c0 x0 x1 x2 = true → cl E0 28 [(V.d (.int .i64 x0)), (V.d (.int .i64 x1)), (V.d (.int .i64 x2))] [] = some ([(V.d (.int .i64 (ref01_Near_iii_r0_0 x0 x1 x2)))], []) := by
  unfold ref01_Near_iii_c0 ref01_Near_iii_r0_0
  cases h1 : tb (ref01_All_o_c0 [x0, x1, x2])
  · intro g0
    exact absurd g0 ft
  · cases h2 : tb (ref01_All_o_r0_0 [x0, x1, x2])
    · intro g0
      exact w28 [.c (ref01_All_o_t0 false [x0, x1, x2] (tbE h1)), .b (notF (tbE h2))] (by kernel_rfl)
    · cases h3 : tb (decide (x2 < 0))
      · cases h4 : tb (decide ((wi (x0 + x2)) < x1))
        · cases h5 : tb (decide (x1 < (wi (x0 - x2))))
          · intro g0
            exact w28 [.c (ref01_All_o_t0 false [x0, x1, x2] (tbE h1)), .b (notT (tbE h2)), .b (tbE h3), .b (tbE h4), .b (tbE h5)] (by kernel_rfl)
          · intro g0
            exact w28 [.c (ref01_All_o_t0 false [x0, x1, x2] (tbE h1)), .b (notT (tbE h2)), .b (tbE h3), .b (tbE h4), .b (tbE h5)] (by kernel_rfl)
        · intro g0
          exact w28 [.c (ref01_All_o_t0 false [x0, x1, x2] (tbE h1)), .b (notT (tbE h2)), .b (tbE h3), .b (tbE h4)] (by kernel_rfl)
      · intro g0
        exact w28 [.c (ref01_All_o_t0 false [x0, x1, x2] (tbE h1)), .b (notT (tbE h2)), .b (tbE h3)] (by kernel_rfl)

def ref01_Floor_ii_c0 (x0 : Int) (x1 : Int) : Bool := (bif tb (ref01_All_o_c0 [x0, x1]) then (bif tb (ref01_All_o_r0_0 [x0, x1]) then (bif tb (decide (x1 < 1)) then true else (bif tb ((x1 : Int) == 0) then false else true)) else true) else false)

def ref01_Floor_ii_r0_0 (x0 : Int) (x1 : Int) : Int := (bif tb (ref01_All_o_r0_0 [x0, x1]) then (bif tb (decide (x1 < 1)) then 0 else (bif tb (decide (0 ≤ x0)) then (quoI .i64 x0 x1) else (wi (0 - (quoI .i64 (wi ((wi (x1 - 1)) - x0)) x1))))) else 0)

theorem ref01_Floor_ii_t0 (x0 : Int) (x1 : Int) : ref01_Floor_ii_c0 x0 x1 = true → cl E0 30 [(V.d (.int .i64 x0)), (V.d (.int .i64 x1))] [] = some ([(V.d (.int .i64 (ref01_Floor_ii_r0_0 x0 x1)))], []) := by
  unfold ref01_Floor_ii_c0 ref01_Floor_ii_r0_0
  cases h1 : tb (ref01_All_o_c0 [x0, x1])
  · intro g0
    exact absurd g0 ft
  · cases h2 : tb (ref01_All_o_r0_0 [x0, x1])
    · intro g0
      exact w30 [.c (ref01_All_o_t0 false [x0, x1] (tbE h1)), .b (notF (tbE h2))] (by kernel_rfl)
    · cases h3 : tb (decide (x1 < 1))
      · cases h4 : tb (decide (0 ≤ x0))
        · cases h5 : tb ((x1 : Int) == 0)
          · intro g0
            exact w30 [.c (ref01_All_o_t0 false [x0, x1] (tbE h1)), .b (notT (tbE h2)), .b (tbE h3), .b (tbE h4), .o 26 (fun _ => o_quo (k := .i64) (x := (wi ((wi (x1 - 1)) - x0))) (y := x1) (tbE h5))] (by kernel_rfl)
          · intro g0
            exact absurd g0 ft
        · cases h5 : tb ((x1 : Int) == 0)
          · intro g0
            exact w30 [.c (ref01_All_o_t0 false [x0, x1] (tbE h1)), .b (notT (tbE h2)), .b (tbE h3), .b (tbE h4), .o 20 (fun _ => o_quo (k := .i64) (x := x0) (y := x1) (tbE h5))] (by kernel_rfl)
          · intro g0
            exact absurd g0 ft
      · intro g0
        exact w30 [.c (ref01_All_o_t0 false [x0, x1] (tbE h1)), .b (notT (tbE h2)), .b (tbE h3)] (by kernel_rfl)

structure ref01_Shift_ii_L0_s0 where
  c2 : Int
  c3 : Int
  deriving Inhabited

def ref01_Shift_ii_L0_enc (x0 : Int) (x1 : Int) (x2 : Int) (x3 : Int) (s0 : ref01_Shift_ii_L0_s0) : List V × Mem := ([(V.d (.int .i64 x0)), (V.d (.int .i64 x1)), (V.d (.int .i64 s0.c2)), (V.d (.int .i64 s0.c3))], [])

def ref01_Shift_ii_L0_sel (x1 : Int) (s0 : ref01_Shift_ii_L0_s0) : Bool := (bif tb (decide (s0.c3 < x1)) then true else false)

def ref01_Shift_ii_L0_nx (x1 : Int) (s0 : ref01_Shift_ii_L0_s0) : ref01_Shift_ii_L0_s0 := ⟨(wi (2 * s0.c2)), (wi (s0.c3 + 1))⟩

def ref01_Shift_ii_L0_ok (x1 : Int) (s0 : ref01_Shift_ii_L0_s0) : Bool := (itS (ref01_Shift_ii_L0_sel x1) (ref01_Shift_ii_L0_nx x1) bound s0).isSome
def ref01_Shift_ii_L0_end (x1 : Int) (s0 : ref01_Shift_ii_L0_s0) : ref01_Shift_ii_L0_s0 := (itS (ref01_Shift_ii_L0_sel x1) (ref01_Shift_ii_L0_nx x1) bound s0).getD default

theorem ref01_Shift_ii_L0_go (x0 : Int) (x1 : Int) (x2 : Int) (x3 : Int) (s0 : ref01_Shift_ii_L0_s0) : ref01_Shift_ii_L0_sel x1 s0 = true → (roundG (runC E0 (cl E0) L32_0) [0, 1, 6, 7] [0, 6] 0) (ref01_Shift_ii_L0_enc x0 x1 x2 x3 s0) = some (.normal, ref01_Shift_ii_L0_enc x0 x1 x2 x3 (ref01_Shift_ii_L0_nx x1 s0)) := by
  unfold ref01_Shift_ii_L0_sel ref01_Shift_ii_L0_nx
  cases h1 : tb (decide (s0.c3 < x1))
  · intro g0
    exact absurd g0 ft
  · intro _
    exact round_walk [.b (tbE h1)] (by kernel_rfl)

theorem ref01_Shift_ii_L0_x0 (x0 : Int) (x1 : Int) (x2 : Int) (x3 : Int) (s0 : ref01_Shift_ii_L0_s0) : ref01_Shift_ii_L0_sel x1 s0 = false → (roundG (runC E0 (cl E0) L32_0) [0, 1, 6, 7] [0, 6] 0) (ref01_Shift_ii_L0_enc x0 x1 x2 x3 s0) = some ((.exit 0), ([(V.d (.int .i64 x0)), (V.d (.int .i64 s0.c2))], [])) := by
  unfold ref01_Shift_ii_L0_sel
  cases h1 : tb (decide (s0.c3 < x1))
  · intro g0
    exact round_walk [.b (tbE h1)] (by kernel_rfl)
  · intro g0
    exact absurd g0 tf

theorem ref01_Shift_ii_L0_f0_0 (x0 : Int) (x1 : Int) (x2 : Int) (x3 : Int) (s : ref01_Shift_ii_L0_s0) (hok : ref01_Shift_ii_L0_ok x1 s = true) : loopG (roundG (runC E0 (cl E0) L32_0) [0, 1, 6, 7] [0, 6] 0) bound (ref01_Shift_ii_L0_enc x0 x1 x2 x3 s) = some ((.exit 0), ([(V.d (.int .i64 x0)), (V.d (.int .i64 ((ref01_Shift_ii_L0_end x1 s).c2)))], [])) := by
  have e : itS (ref01_Shift_ii_L0_sel x1) (ref01_Shift_ii_L0_nx x1) bound s = some (ref01_Shift_ii_L0_end x1 s) := itS_get hok
  have f := itS_false e
  exact loop_it (ref01_Shift_ii_L0_go x0 x1 x2 x3) bound s _ _ _ e (fun h => by cases h) (ref01_Shift_ii_L0_x0 x0 x1 x2 x3 (ref01_Shift_ii_L0_end x1 s) f )

def ref01_Shift_ii_e0 (x1 : Int) : Int := ((ref01_Shift_ii_L0_end x1 (⟨1, 0⟩ : ref01_Shift_ii_L0_s0)).c2)

def ref01_Shift_ii_c0 (x0 : Int) (x1 : Int) : Bool := (bif tb (ref01_Small_i_r0_0 x0) then (bif tb (decide (x1 < 0)) then true else (bif tb (decide (40 < x1)) then true else (bif tb (ref01_Shift_ii_L0_ok x1 (⟨1, 0⟩ : ref01_Shift_ii_L0_s0)) then (bif tb (ref01_Floor_ii_c0 x0 (ref01_Shift_ii_e0 x1)) then true else false) else false))) else true)

def ref01_Shift_ii_r0_0 (x0 : Int) (x1 : Int) : Int := (bif tb (ref01_Small_i_r0_0 x0) then (bif tb (decide (x1 < 0)) then 0 else (bif tb (decide (40 < x1)) then 0 else (ref01_Floor_ii_r0_0 x0 (ref01_Shift_ii_e0 x1)))) else 0)

theorem ref01_Shift_ii_t0 (x0 : Int) (x1 : Int) : ref01_Shift_ii_c0 x0 x1 = true → cl E0 32 [(V.d (.int .i64 x0)), (V.d (.int .i64 x1))] [] = some ([(V.d (.int .i64 (ref01_Shift_ii_r0_0 x0 x1)))], []) := by
  unfold ref01_Shift_ii_c0 ref01_Shift_ii_r0_0
  cases h1 : tb (ref01_Small_i_r0_0 x0)
  · intro g0
    exact w32 [.c (ref01_Small_i_t0 x0), .b (notF (tbE h1))] (by kernel_rfl)
  · cases h2 : tb (decide (x1 < 0))
    · cases h3 : tb (decide (40 < x1))
      · cases h4 : tb (ref01_Shift_ii_L0_ok x1 (⟨1, 0⟩ : ref01_Shift_ii_L0_s0))
        · intro g0
          exact absurd g0 ft
        · cases h5 : tb (ref01_Floor_ii_c0 x0 (ref01_Shift_ii_e0 x1))
          · intro g0
            exact absurd g0 ft
          · intro g0
            exact w32 [.c (ref01_Small_i_t0 x0), .b (notT (tbE h1)), .b (tbE h2), .b (tbE h3), .l (ref01_Shift_ii_L0_f0_0 x0 x1 1 0 (⟨1, 0⟩ : ref01_Shift_ii_L0_s0) (tbE h4)), .c (ref01_Floor_ii_t0 x0 (ref01_Shift_ii_e0 x1) (tbE h5))] (by kernel_rfl)
      · intro g0
        exact w32 [.c (ref01_Small_i_t0 x0), .b (notT (tbE h1)), .b (tbE h2), .b (tbE h3)] (by kernel_rfl)
    · intro g0
      exact w32 [.c (ref01_Small_i_t0 x0), .b (notT (tbE h1)), .b (tbE h2)] (by kernel_rfl)

def ref01_Apart_ii_c0 (x0 : Int) (x1 : Int) : Bool := (bif tb (ref01_All_o_c0 [x0, x1]) then true else false)

def ref01_Apart_ii_r0_0 (x0 : Int) (x1 : Int) : Int := (bif tb (ref01_All_o_r0_0 [x0, x1]) then (bif tb (decide (x1 < x0)) then (wi (x0 - x1)) else (wi (x1 - x0))) else 0)

theorem ref01_Apart_ii_t0 (x0 : Int) (x1 : Int) : ref01_Apart_ii_c0 x0 x1 = true → cl E0 35 [(V.d (.int .i64 x0)), (V.d (.int .i64 x1))] [] = some ([(V.d (.int .i64 (ref01_Apart_ii_r0_0 x0 x1)))], []) := by
  unfold ref01_Apart_ii_c0 ref01_Apart_ii_r0_0
  cases h1 : tb (ref01_All_o_c0 [x0, x1])
  · intro g0
    exact absurd g0 ft
  · cases h2 : tb (ref01_All_o_r0_0 [x0, x1])
    · intro g0
      exact w35 [.c (ref01_All_o_t0 false [x0, x1] (tbE h1)), .b (notF (tbE h2))] (by kernel_rfl)
    · cases h3 : tb (decide (x1 < x0))
      · intro g0
        exact w35 [.c (ref01_All_o_t0 false [x0, x1] (tbE h1)), .b (notT (tbE h2)), .b (tbE h3)] (by kernel_rfl)
      · intro g0
        exact w35 [.c (ref01_All_o_t0 false [x0, x1] (tbE h1)), .b (notT (tbE h2)), .b (tbE h3)] (by kernel_rfl)

structure ref01_Bits_o_L0_s0 where
  c2 : Int
  c3 : Int
  c4 : Int
  deriving Inhabited

def ref01_Bits_o_L0_enc (x0 : Bool) (x1 : List Bool) (x2 : Int) (x3 : Int) (x4 : Int) (s0 : ref01_Bits_o_L0_s0) : List V × Mem := ([(V.d (slD encB true 1 x0 x1)), (V.d (.int .i64 s0.c2)), (V.d (.int .i64 s0.c3)), (V.d (.int .i64 s0.c4))], [])

def ref01_Bits_o_L0_sel (x1 : List Bool) (s0 : ref01_Bits_o_L0_s0) : Bool := (bif tb (decide (s0.c4 < ((x1.length : Nat) : Int))) then (bif tb (inb x1.length s0.c4) then true else false) else false)

def ref01_Bits_o_L0_nx (x1 : List Bool) (s0 : ref01_Bits_o_L0_s0) : ref01_Bits_o_L0_s0 := (bif tb (gt x1 s0.c4) then ⟨(wi (s0.c2 + s0.c3)), (wi (2 * s0.c3)), (wi (s0.c4 + 1))⟩ else ⟨s0.c2, (wi (2 * s0.c3)), (wi (s0.c4 + 1))⟩)

def ref01_Bits_o_L0_ok (x1 : List Bool) (s0 : ref01_Bits_o_L0_s0) : Bool := (itS (ref01_Bits_o_L0_sel x1) (ref01_Bits_o_L0_nx x1) bound s0).isSome
def ref01_Bits_o_L0_end (x1 : List Bool) (s0 : ref01_Bits_o_L0_s0) : ref01_Bits_o_L0_s0 := (itS (ref01_Bits_o_L0_sel x1) (ref01_Bits_o_L0_nx x1) bound s0).getD default

theorem ref01_Bits_o_L0_go (x0 : Bool) (x1 : List Bool) (x2 : Int) (x3 : Int) (x4 : Int) (s0 : ref01_Bits_o_L0_s0) : ref01_Bits_o_L0_sel x1 s0 = true → (roundG (runC E0 (cl E0) L37_0) [0, 3, 4, 5] [3] 0) (ref01_Bits_o_L0_enc x0 x1 x2 x3 x4 s0) = some (.normal, ref01_Bits_o_L0_enc x0 x1 x2 x3 x4 (ref01_Bits_o_L0_nx x1 s0)) := by
  unfold ref01_Bits_o_L0_sel ref01_Bits_o_L0_nx
  cases h1 : tb (decide (s0.c4 < ((x1.length : Nat) : Int)))
  · intro g0
    exact absurd g0 ft
  · cases h2 : tb (inb x1.length s0.c4)
    · intro g0
      exact absurd g0 ft
    · cases h3 : tb (gt x1 s0.c4)
      · intro _
        exact round_walk [.o 11 (fun _ => o_len_os (enc := encB) (l := x1) (fl := true) (n := x0) (s := 1)), .b (tbE h1), .o 17 (fun _ => o_idx_os (enc := encB) (l := x1) (fl := true) (n := x0) (s := 1) (k := .i64) (tbE h2)), .b (tbE h3)] (by kernel_rfl)
      · intro _
        exact round_walk [.o 11 (fun _ => o_len_os (enc := encB) (l := x1) (fl := true) (n := x0) (s := 1)), .b (tbE h1), .o 17 (fun _ => o_idx_os (enc := encB) (l := x1) (fl := true) (n := x0) (s := 1) (k := .i64) (tbE h2)), .b (tbE h3)] (by kernel_rfl)

def ref01_Bits_o_L0_c0 (x1 : List Bool) (s0 : ref01_Bits_o_L0_s0) : Bool := (bif tb (decide (s0.c4 < ((x1.length : Nat) : Int))) then false else true)

theorem ref01_Bits_o_L0_x0 (x0 : Bool) (x1 : List Bool) (x2 : Int) (x3 : Int) (x4 : Int) (s0 : ref01_Bits_o_L0_s0) : ref01_Bits_o_L0_sel x1 s0 = false → ref01_Bits_o_L0_c0 x1 s0 = true → (roundG (runC E0 (cl E0) L37_0) [0, 3, 4, 5] [3] 0) (ref01_Bits_o_L0_enc x0 x1 x2 x3 x4 s0) = some ((.exit 0), ([(V.d (.int .i64 s0.c2))], [])) := by
  unfold ref01_Bits_o_L0_sel ref01_Bits_o_L0_c0
  cases h1 : tb (decide (s0.c4 < ((x1.length : Nat) : Int)))
  · intro g0 g1
    exact round_walk [.o 11 (fun _ => o_len_os (enc := encB) (l := x1) (fl := true) (n := x0) (s := 1)), .b (tbE h1)] (by kernel_rfl)
  · cases h2 : tb (inb x1.length s0.c4)
    · intro g0 g1
      exact absurd g1 ft
    · cases h3 : tb (gt x1 s0.c4)
      · intro g0 g1
        exact absurd g0 tf
      · intro g0 g1
        exact absurd g0 tf

theorem ref01_Bits_o_L0_f0_0 (x0 : Bool) (x1 : List Bool) (x2 : Int) (x3 : Int) (x4 : Int) (s : ref01_Bits_o_L0_s0) (hok : ref01_Bits_o_L0_ok x1 s = true) (c0 : ref01_Bits_o_L0_c0 x1 (ref01_Bits_o_L0_end x1 s) = true) : loopG (roundG (runC E0 (cl E0) L37_0) [0, 3, 4, 5] [3] 0) bound (ref01_Bits_o_L0_enc x0 x1 x2 x3 x4 s) = some ((.exit 0), ([(V.d (.int .i64 ((ref01_Bits_o_L0_end x1 s).c2)))], [])) := by
  have e : itS (ref01_Bits_o_L0_sel x1) (ref01_Bits_o_L0_nx x1) bound s = some (ref01_Bits_o_L0_end x1 s) := itS_get hok
  have f := itS_false e
  exact loop_it (ref01_Bits_o_L0_go x0 x1 x2 x3 x4) bound s _ _ _ e (fun h => by cases h) (ref01_Bits_o_L0_x0 x0 x1 x2 x3 x4 (ref01_Bits_o_L0_end x1 s) f c0)

def ref01_Bits_o_c0 (x1 : List Bool) : Bool := (bif tb (decide (16 < ((x1.length : Nat) : Int))) then true else (bif tb (ref01_Bits_o_L0_ok x1 (⟨0, 1, 0⟩ : ref01_Bits_o_L0_s0)) then (bif tb (ref01_Bits_o_L0_c0 x1 (ref01_Bits_o_L0_end x1 (⟨0, 1, 0⟩ : ref01_Bits_o_L0_s0))) then true else false) else false))

def ref01_Bits_o_r0_0 (x1 : List Bool) : Int := (bif tb (decide (16 < ((x1.length : Nat) : Int))) then 0 else ((ref01_Bits_o_L0_end x1 (⟨0, 1, 0⟩ : ref01_Bits_o_L0_s0)).c2))

theorem ref01_Bits_o_t0 (x0 : Bool) (x1 : List Bool) : ref01_Bits_o_c0 x1 = true → cl E0 37 [(V.d (slD encB true 1 x0 x1))] [] = some ([(V.d (.int .i64 (ref01_Bits_o_r0_0 x1)))], []) := by
  unfold ref01_Bits_o_c0 ref01_Bits_o_r0_0
  cases h1 : tb (decide (16 < ((x1.length : Nat) : Int)))
  · cases h2 : tb (ref01_Bits_o_L0_ok x1 (⟨0, 1, 0⟩ : ref01_Bits_o_L0_s0))
    · intro g0
      exact absurd g0 ft
    · cases h3 : tb (ref01_Bits_o_L0_c0 x1 (ref01_Bits_o_L0_end x1 (⟨0, 1, 0⟩ : ref01_Bits_o_L0_s0)))
      · intro g0
        exact absurd g0 ft
      · intro g0
        exact w37 [.o 7 (fun _ => o_len_os (enc := encB) (l := x1) (fl := true) (n := x0) (s := 1)), .b (tbE h1), .l (ref01_Bits_o_L0_f0_0 x0 x1 0 1 0 (⟨0, 1, 0⟩ : ref01_Bits_o_L0_s0) (tbE h2) (tbE h3))] (by kernel_rfl)
  · intro g0
    exact w37 [.o 7 (fun _ => o_len_os (enc := encB) (l := x1) (fl := true) (n := x0) (s := 1)), .b (tbE h1)] (by kernel_rfl)

def ref01_Has_ii_S0_c0 (x0 : Int) (x1 : Int) : Bool := (bif tb (decide (x0 < 0)) then true else (bif tb (decide (65535 < x0)) then true else (bif tb (decide (x1 < 0)) then true else (bif tb (decide (15 < x1)) then true else false))))

theorem ref01_Has_ii_S0_t0 (x0 : Int) (x1 : Int) : ref01_Has_ii_S0_c0 x0 x1 = true → segG (runC E0 (cl E0) S39_0) [0, 1] [4] [0, 1] 0 ([(V.d (.int .i64 x0)), (V.d (.int .i64 x1))], []) = some (.ret, ([(V.d (.bool false))], [])) := by
  unfold ref01_Has_ii_S0_c0
  cases h1 : tb (decide (x0 < 0))
  · cases h2 : tb (decide (65535 < x0))
    · cases h3 : tb (decide (x1 < 0))
      · cases h4 : tb (decide (15 < x1))
        · intro g0
          exact absurd g0 ft
        · intro g0
          exact seg_walk [.b (tbE h1), .b (tbE h2), .b (tbE h3), .b (tbE h4)] (by kernel_rfl)
      · intro g0
        exact seg_walk [.b (tbE h1), .b (tbE h2), .b (tbE h3)] (by kernel_rfl)
    · intro g0
      exact seg_walk [.b (tbE h1), .b (tbE h2)] (by kernel_rfl)
  · intro g0
    exact seg_walk [.b (tbE h1)] (by kernel_rfl)

theorem ref01_Has_ii_S0_t1 (x0 : Int) (x1 : Int) : ref01_Has_ii_S0_c0 x0 x1 = false → segG (runC E0 (cl E0) S39_0) [0, 1] [4] [0, 1] 0 ([(V.d (.int .i64 x0)), (V.d (.int .i64 x1))], []) = some (.normal, ([(V.d (.int .i64 x0)), (V.d (.int .i64 x1))], [])) := by
  unfold ref01_Has_ii_S0_c0
  cases h1 : tb (decide (x0 < 0))
  · cases h2 : tb (decide (65535 < x0))
    · cases h3 : tb (decide (x1 < 0))
      · cases h4 : tb (decide (15 < x1))
        · intro g0
          exact seg_walk [.b (tbE h1), .b (tbE h2), .b (tbE h3), .b (tbE h4)] (by kernel_rfl)
        · intro g0
          exact absurd g0 tf
      · intro g0
        exact absurd g0 tf
    · intro g0
      exact absurd g0 tf
  · intro g0
    exact absurd g0 tf

structure ref01_Has_ii_L1_s0 where
  c1 : Int
  c2 : Int
  deriving Inhabited

def ref01_Has_ii_L1_enc (x0 : Int) (x1 : Int) (x2 : Int) (s0 : ref01_Has_ii_L1_s0) : List V × Mem := ([(V.d (.int .i64 x0)), (V.d (.int .i64 s0.c1)), (V.d (.int .i64 s0.c2))], [])

def ref01_Has_ii_L1_sel (x0 : Int) (s0 : ref01_Has_ii_L1_s0) : Bool := (bif tb (decide (s0.c2 < x0)) then true else false)

def ref01_Has_ii_L1_nx (x0 : Int) (s0 : ref01_Has_ii_L1_s0) : ref01_Has_ii_L1_s0 := ⟨(quoI .i64 s0.c1 2), (wi (s0.c2 + 1))⟩

def ref01_Has_ii_L1_ok (x0 : Int) (s0 : ref01_Has_ii_L1_s0) : Bool := (itS (ref01_Has_ii_L1_sel x0) (ref01_Has_ii_L1_nx x0) bound s0).isSome
def ref01_Has_ii_L1_end (x0 : Int) (s0 : ref01_Has_ii_L1_s0) : ref01_Has_ii_L1_s0 := (itS (ref01_Has_ii_L1_sel x0) (ref01_Has_ii_L1_nx x0) bound s0).getD default

theorem ref01_Has_ii_L1_go (x0 : Int) (x1 : Int) (x2 : Int) (s0 : ref01_Has_ii_L1_s0) : ref01_Has_ii_L1_sel x0 s0 = true → (roundG (runC E0 (cl E0) L39_1) [1, 5, 6] [5] 0) (ref01_Has_ii_L1_enc x0 x1 x2 s0) = some (.normal, ref01_Has_ii_L1_enc x0 x1 x2 (ref01_Has_ii_L1_nx x0 s0)) := by
  unfold ref01_Has_ii_L1_sel ref01_Has_ii_L1_nx
  cases h1 : tb (decide (s0.c2 < x0))
  · intro g0
    exact absurd g0 ft
  · intro _
    exact round_walk [.b (tbE h1)] (by kernel_rfl)

theorem ref01_Has_ii_L1_x0 (x0 : Int) (x1 : Int) (x2 : Int) (s0 : ref01_Has_ii_L1_s0) : ref01_Has_ii_L1_sel x0 s0 = false → (roundG (runC E0 (cl E0) L39_1) [1, 5, 6] [5] 0) (ref01_Has_ii_L1_enc x0 x1 x2 s0) = some ((.exit 0), ([(V.d (.int .i64 s0.c1))], [])) := by
  unfold ref01_Has_ii_L1_sel
  cases h1 : tb (decide (s0.c2 < x0))
  · intro g0
    exact round_walk [.b (tbE h1)] (by kernel_rfl)
  · intro g0
    exact absurd g0 tf

theorem ref01_Has_ii_L1_f0_0 (x0 : Int) (x1 : Int) (x2 : Int) (s : ref01_Has_ii_L1_s0) (hok : ref01_Has_ii_L1_ok x0 s = true) : loopG (roundG (runC E0 (cl E0) L39_1) [1, 5, 6] [5] 0) bound (ref01_Has_ii_L1_enc x0 x1 x2 s) = some ((.exit 0), ([(V.d (.int .i64 ((ref01_Has_ii_L1_end x0 s).c1)))], [])) := by
  have e : itS (ref01_Has_ii_L1_sel x0) (ref01_Has_ii_L1_nx x0) bound s = some (ref01_Has_ii_L1_end x0 s) := itS_get hok
  have f := itS_false e
  exact loop_it (ref01_Has_ii_L1_go x0 x1 x2) bound s _ _ _ e (fun h => by cases h) (ref01_Has_ii_L1_x0 x0 x1 x2 (ref01_Has_ii_L1_end x0 s) f )

def ref01_Has_ii_S2_c0 (x0 : Int) (x1 : Int) : Bool := (bif tb (ref01_Has_ii_L1_ok x0 (⟨x1, 0⟩ : ref01_Has_ii_L1_s0)) then true else false)

theorem ref01_Has_ii_S2_t0 (x0 : Int) (x1 : Int) : ref01_Has_ii_S2_c0 x0 x1 = true → segG (runC E0 (cl E0) S39_2) [1, 5] [] [5] 0 ([(V.d (.int .i64 x0)), (V.d (.int .i64 x1))], []) = some (.normal, ([(V.d (.int .i64 ((ref01_Has_ii_L1_end x0 (⟨x1, 0⟩ : ref01_Has_ii_L1_s0)).c1)))], [])) := by
  unfold ref01_Has_ii_S2_c0
  cases h1 : tb (ref01_Has_ii_L1_ok x0 (⟨x1, 0⟩ : ref01_Has_ii_L1_s0))
  · intro g0
    exact absurd g0 ft
  · intro g0
    exact seg_walk [.l (ref01_Has_ii_L1_f0_0 x0 x1 0 (⟨x1, 0⟩ : ref01_Has_ii_L1_s0) (tbE h1))] (by kernel_rfl)

def ref01_Has_ii_e0 (x0 : Int) (x1 : Int) : Int := remI .i64 ((ref01_Has_ii_L1_end x1 (⟨x0, 0⟩ : ref01_Has_ii_L1_s0)).c1) 2

def ref01_Has_ii_c0 (x0 : Int) (x1 : Int) : Bool := (bif tb (ref01_Has_ii_S0_c0 x0 x1) then true else (bif tb (ref01_Has_ii_S2_c0 x1 x0) then true else false))

def ref01_Has_ii_r0_0 (x0 : Int) (x1 : Int) : Bool := (bif tb (ref01_Has_ii_S0_c0 x0 x1) then false else (((ref01_Has_ii_e0 x0 x1) : Int) == 1))

theorem ref01_Has_ii_t0 (x0 : Int) (x1 : Int) : ref01_Has_ii_c0 x0 x1 = true → cl E0 39 [(V.d (.int .i64 x0)), (V.d (.int .i64 x1))] [] = some ([(V.d (.bool (ref01_Has_ii_r0_0 x0 x1)))], []) := by
  unfold ref01_Has_ii_c0 ref01_Has_ii_r0_0
  cases h1 : tb (ref01_Has_ii_S0_c0 x0 x1)
  · cases h2 : tb (ref01_Has_ii_S2_c0 x1 x0)
    · intro g0
      exact absurd g0 ft
    · intro g0
      exact w39 [.s (ref01_Has_ii_S0_t1 x0 x1 (tbE h1)), .s (ref01_Has_ii_S2_t0 x1 x0 (tbE h2))] (by kernel_rfl)
  · intro g0
    exact w39 [.s (ref01_Has_ii_S0_t0 x0 x1 (tbE h1))] (by kernel_rfl)

structure ref01_Count_i_L0_s0 where
  c1 : Int
  c2 : Int
  deriving Inhabited

def ref01_Count_i_L0_enc (x0 : Int) (x1 : Int) (x2 : Int) (s0 : ref01_Count_i_L0_s0) : List V × Mem := ([(V.d (.int .i64 x0)), (V.d (.int .i64 s0.c1)), (V.d (.int .i64 s0.c2))], [])

def ref01_Count_i_L0_sel (x0 : Int) (s0 : ref01_Count_i_L0_s0) : Bool := (bif tb (decide (s0.c2 < 16)) then (bif tb (ref01_Has_ii_c0 x0 s0.c2) then true else false) else false)

def ref01_Count_i_L0_nx (x0 : Int) (s0 : ref01_Count_i_L0_s0) : ref01_Count_i_L0_s0 := (bif tb (ref01_Has_ii_r0_0 x0 s0.c2) then ⟨(wi (s0.c1 + 1)), (wi (s0.c2 + 1))⟩ else ⟨s0.c1, (wi (s0.c2 + 1))⟩)

def ref01_Count_i_L0_ok (x0 : Int) (s0 : ref01_Count_i_L0_s0) : Bool := (itS (ref01_Count_i_L0_sel x0) (ref01_Count_i_L0_nx x0) bound s0).isSome
def ref01_Count_i_L0_end (x0 : Int) (s0 : ref01_Count_i_L0_s0) : ref01_Count_i_L0_s0 := (itS (ref01_Count_i_L0_sel x0) (ref01_Count_i_L0_nx x0) bound s0).getD default

theorem ref01_Count_i_L0_go (x0 : Int) (x1 : Int) (x2 : Int) (s0 : ref01_Count_i_L0_s0) : ref01_Count_i_L0_sel x0 s0 = true → (roundG (runC E0 (cl E0) L41_0) [0, 3, 4] [3] 0) (ref01_Count_i_L0_enc x0 x1 x2 s0) = some (.normal, ref01_Count_i_L0_enc x0 x1 x2 (ref01_Count_i_L0_nx x0 s0)) := by
  unfold ref01_Count_i_L0_sel ref01_Count_i_L0_nx
  cases h1 : tb (decide (s0.c2 < 16))
  · intro g0
    exact absurd g0 ft
  · cases h2 : tb (ref01_Has_ii_c0 x0 s0.c2)
    · intro g0
      exact absurd g0 ft
    · cases h3 : tb (ref01_Has_ii_r0_0 x0 s0.c2)
      · intro _
        exact round_walk [.b (tbE h1), .c (ref01_Has_ii_t0 x0 s0.c2 (tbE h2)), .b (tbE h3)] (by kernel_rfl)
      · intro _
        exact round_walk [.b (tbE h1), .c (ref01_Has_ii_t0 x0 s0.c2 (tbE h2)), .b (tbE h3)] (by kernel_rfl)

def ref01_Count_i_L0_c0 (s0 : ref01_Count_i_L0_s0) : Bool := (bif tb (decide (s0.c2 < 16)) then false else true)

theorem ref01_Count_i_L0_x0 (x0 : Int) (x1 : Int) (x2 : Int) (s0 : ref01_Count_i_L0_s0) : ref01_Count_i_L0_sel x0 s0 = false → ref01_Count_i_L0_c0 s0 = true → (roundG (runC E0 (cl E0) L41_0) [0, 3, 4] [3] 0) (ref01_Count_i_L0_enc x0 x1 x2 s0) = some ((.exit 0), ([(V.d (.int .i64 s0.c1))], [])) := by
  unfold ref01_Count_i_L0_sel ref01_Count_i_L0_c0
  cases h1 : tb (decide (s0.c2 < 16))
  · intro g0 g1
    exact round_walk [.b (tbE h1)] (by kernel_rfl)
  · cases h2 : tb (ref01_Has_ii_c0 x0 s0.c2)
    · intro g0 g1
      exact absurd g1 ft
    · cases h3 : tb (ref01_Has_ii_r0_0 x0 s0.c2)
      · intro g0 g1
        exact absurd g0 tf
      · intro g0 g1
        exact absurd g0 tf

theorem ref01_Count_i_L0_f0_0 (x0 : Int) (x1 : Int) (x2 : Int) (s : ref01_Count_i_L0_s0) (hok : ref01_Count_i_L0_ok x0 s = true) (c0 : ref01_Count_i_L0_c0 (ref01_Count_i_L0_end x0 s) = true) : loopG (roundG (runC E0 (cl E0) L41_0) [0, 3, 4] [3] 0) bound (ref01_Count_i_L0_enc x0 x1 x2 s) = some ((.exit 0), ([(V.d (.int .i64 ((ref01_Count_i_L0_end x0 s).c1)))], [])) := by
  have e : itS (ref01_Count_i_L0_sel x0) (ref01_Count_i_L0_nx x0) bound s = some (ref01_Count_i_L0_end x0 s) := itS_get hok
  have f := itS_false e
  exact loop_it (ref01_Count_i_L0_go x0 x1 x2) bound s _ _ _ e (fun h => by cases h) (ref01_Count_i_L0_x0 x0 x1 x2 (ref01_Count_i_L0_end x0 s) f c0)

def ref01_Count_i_c0 (x0 : Int) : Bool := (bif tb (ref01_Count_i_L0_ok x0 (⟨0, 0⟩ : ref01_Count_i_L0_s0)) then (bif tb (ref01_Count_i_L0_c0 (ref01_Count_i_L0_end x0 (⟨0, 0⟩ : ref01_Count_i_L0_s0))) then true else false) else false)

theorem ref01_Count_i_t0 (x0 : Int) : ref01_Count_i_c0 x0 = true → cl E0 41 [(V.d (.int .i64 x0))] [] = some ([(V.d (.int .i64 ((ref01_Count_i_L0_end x0 (⟨0, 0⟩ : ref01_Count_i_L0_s0)).c1)))], []) := by
  unfold ref01_Count_i_c0
  cases h1 : tb (ref01_Count_i_L0_ok x0 (⟨0, 0⟩ : ref01_Count_i_L0_s0))
  · intro g0
    exact absurd g0 ft
  · cases h2 : tb (ref01_Count_i_L0_c0 (ref01_Count_i_L0_end x0 (⟨0, 0⟩ : ref01_Count_i_L0_s0)))
    · intro g0
      exact absurd g0 ft
    · intro g0
      exact w41 [.l (ref01_Count_i_L0_f0_0 x0 0 0 (⟨0, 0⟩ : ref01_Count_i_L0_s0) (tbE h1) (tbE h2))] (by kernel_rfl)

end Go.Proofs.Ytdlhhoejnhjbhaa.Den

namespace Go.Proofs.Ytdlhhoejnhjbhaa.Den
open Go Go.Proofs
set_option maxRecDepth 100000
set_option maxHeartbeats 4000000
set_option linter.unusedVariables false
set_option linter.unusedSimpArgs false

def slices_Clone_int_o_c0 (x0 : Bool) (x1 : List Int) : Bool := (bif tb (false != (x0 && x1.isEmpty)) then true else (bif tb (decide ((([] : List Int).length + x1.length) * 8 ≤ 140737488355328)) then true else false))

def slices_Clone_int_o_r0_0 (x0 : Bool) (x1 : List Int) : Bool := (bif tb (false != (x0 && x1.isEmpty)) then true else false)

def slices_Clone_int_o_r0_1 (x0 : Bool) (x1 : List Int) : List Int := (bif tb (false != (x0 && x1.isEmpty)) then ([] : List Int) else x1)

theorem slices_Clone_int_o_t0 (x0 : Bool) (x1 : List Int) : slices_Clone_int_o_c0 x0 x1 = true → cl E0 65 [(V.d (slD (encI .i64) true 1 x0 x1))] [] = some ([(V.so (slices_Clone_int_o_r0_0 x0 x1) 0 ((slices_Clone_int_o_r0_1 x0 x1).length))], [(Blk.flat 3 1 (List.map (encI .i64) (slices_Clone_int_o_r0_1 x0 x1)) false)]) := by
  unfold slices_Clone_int_o_c0 slices_Clone_int_o_r0_0 slices_Clone_int_o_r0_1
  cases h1 : tb (false != (x0 && x1.isEmpty))
  · cases h2 : tb (decide ((([] : List Int).length + x1.length) * 8 ≤ 140737488355328))
    · intro g0
      exact absurd g0 ft
    · intro g0
      exact w65 [.o 4 (fun _ => o_nil_os (enc := (encI .i64)) (l := x1) (fl := true) (n := x0) (s := 1) (neg := false)), .b (tbE h1), .m 7 (o_app_sf (m := [(Blk.flat 3 1 [] false), (Blk.flat 3 1 [] false)]) (enc := (encI .i64)) (l0 := ([] : List Int)) (l1 := x1) (id := 1) (e := 3) (s := 1) (bytes := 8) (x := (V.d (slD (encI .i64) true 1 x0 x1))) (n := 0) (by kernel_rfl) (by kernel_rfl) flatRowsOf_os sizeOk_os (tbE h2))] (by kernel_rfl)
  · intro g0
    exact w65 [.o 4 (fun _ => o_nil_os (enc := (encI .i64)) (l := x1) (fl := true) (n := x0) (s := 1) (neg := false)), .b (tbE h1)] (by kernel_rfl)

def math_bits_OnesCount64_i_e0 (x0 : Int) : Int := IntKind.u64.wrap ((andI .u64 (shrI .u64 x0 1) 6148914691236517205) + (andI .u64 x0 6148914691236517205))

def math_bits_OnesCount64_i_e1 (x0 : Int) : Int := andI .u64 (shrI .u64 (math_bits_OnesCount64_i_e0 x0) 2) 3689348814741910323

def math_bits_OnesCount64_i_e2 (x0 : Int) : Int := andI .u64 (math_bits_OnesCount64_i_e0 x0) 3689348814741910323

def math_bits_OnesCount64_i_e3 (x0 : Int) : Int := IntKind.u64.wrap ((math_bits_OnesCount64_i_e1 x0) + (math_bits_OnesCount64_i_e2 x0))

def math_bits_OnesCount64_i_e4 (x0 : Int) : Int := IntKind.u64.wrap ((shrI .u64 (math_bits_OnesCount64_i_e3 x0) 4) + (math_bits_OnesCount64_i_e3 x0))

def math_bits_OnesCount64_i_e5 (x0 : Int) : Int := andI .u64 (math_bits_OnesCount64_i_e4 x0) 1085102592571150095

def math_bits_OnesCount64_i_e6 (x0 : Int) : Int := IntKind.u64.wrap ((math_bits_OnesCount64_i_e5 x0) + (shrI .u64 (math_bits_OnesCount64_i_e5 x0) 8))

def math_bits_OnesCount64_i_e7 (x0 : Int) : Int := IntKind.u64.wrap ((math_bits_OnesCount64_i_e6 x0) + (shrI .u64 (math_bits_OnesCount64_i_e6 x0) 16))

def math_bits_OnesCount64_i_e8 (x0 : Int) : Int := IntKind.u64.wrap ((math_bits_OnesCount64_i_e7 x0) + (shrI .u64 (math_bits_OnesCount64_i_e7 x0) 32))

theorem math_bits_OnesCount64_i_t0 (x0 : Int) : cl E0 80 [(V.d (.int .u64 x0))] [] = some ([(V.d (.int .i64 (andI .i64 (wi ((math_bits_OnesCount64_i_e8 x0))) 127)))], []) := by
  exact w80 [.o 4 (fun _ => o_shr (k := .u64) (k2 := .u64) (x := x0) (y := 1) rfl), .o 10 (fun _ => o_shr (k := .u64) (k2 := .u64) (x := (math_bits_OnesCount64_i_e0 x0)) (y := 2) rfl), .o 16 (fun _ => o_shr (k := .u64) (k2 := .u64) (x := (math_bits_OnesCount64_i_e3 x0)) (y := 4) rfl), .o 22 (fun _ => o_shr (k := .u64) (k2 := .u64) (x := (math_bits_OnesCount64_i_e5 x0)) (y := 8) rfl), .o 26 (fun _ => o_shr (k := .u64) (k2 := .u64) (x := (math_bits_OnesCount64_i_e6 x0)) (y := 16) rfl), .o 30 (fun _ => o_shr (k := .u64) (k2 := .u64) (x := (math_bits_OnesCount64_i_e7 x0)) (y := 32) rfl)] (by kernel_rfl)

theorem math_bits_OnesCount_i_t0 (x0 : Int) : cl E0 72 [(V.d (.int .u64 x0))] [] = some ([(V.d (.int .i64 (andI .i64 (wi ((math_bits_OnesCount64_i_e8 x0))) 127)))], []) := by
  exact w72 [.c (math_bits_OnesCount64_i_t0 x0)] (by kernel_rfl)

end Go.Proofs.Ytdlhhoejnhjbhaa.Den

namespace Go.Proofs.Ytdlhhoejnhjbhaa.Den
open Go Go.Proofs
set_option maxRecDepth 100000
set_option maxHeartbeats 4000000
set_option linter.unusedVariables false
set_option linter.unusedSimpArgs false

structure fix_small_o_L0_s0 where
  c3 : Int
  deriving Inhabited

def fix_small_o_L0_enc (x0 : Bool) (x1 : List Int) (x2 : Int) (x3 : Int) (s0 : fix_small_o_L0_s0) : List V × Mem := ([(V.d (slD (encI .i64) true 1 x0 x1)), (V.d (.int .i64 x2)), (V.d (.int .i64 s0.c3))], [])

def fix_small_o_L0_sel (x1 : List Int) (x2 : Int) (s0 : fix_small_o_L0_s0) : Bool := (bif tb (decide (s0.c3 < x2)) then (bif tb (inb x1.length s0.c3) then (bif tb (decide ((gt x1 s0.c3) < (-1099511627776))) then false else (bif tb (decide (1099511627776 < (gt x1 s0.c3))) then false else true)) else false) else false)

def fix_small_o_L0_nx (x1 : List Int) (x2 : Int) (s0 : fix_small_o_L0_s0) : fix_small_o_L0_s0 := ⟨(wi (s0.c3 + 1))⟩

def fix_small_o_L0_ok (x1 : List Int) (x2 : Int) (s0 : fix_small_o_L0_s0) : Bool := (itS (fix_small_o_L0_sel x1 x2) (fix_small_o_L0_nx x1 x2) bound s0).isSome
def fix_small_o_L0_end (x1 : List Int) (x2 : Int) (s0 : fix_small_o_L0_s0) : fix_small_o_L0_s0 := (itS (fix_small_o_L0_sel x1 x2) (fix_small_o_L0_nx x1 x2) bound s0).getD default

theorem fix_small_o_L0_go (x0 : Bool) (x1 : List Int) (x2 : Int) (x3 : Int) (s0 : fix_small_o_L0_s0) : fix_small_o_L0_sel x1 x2 s0 = true → (roundG (runC E0 (cl E0) L69_0) [5, 6, 7] [2] 0) (fix_small_o_L0_enc x0 x1 x2 x3 s0) = some (.normal, fix_small_o_L0_enc x0 x1 x2 x3 (fix_small_o_L0_nx x1 x2 s0)) := by
  unfold fix_small_o_L0_sel fix_small_o_L0_nx
  cases h1 : tb (decide (s0.c3 < x2))
  · intro g0
    exact absurd g0 ft
  · cases h2 : tb (inb x1.length s0.c3)
    · intro g0
      exact absurd g0 ft
    · cases h3 : tb (decide ((gt x1 s0.c3) < (-1099511627776)))
      · cases h4 : tb (decide (1099511627776 < (gt x1 s0.c3)))
        · intro _
          exact round_walk [.b (tbE h1), .o 9 (fun _ => o_idx_os (enc := (encI .i64)) (l := x1) (fl := true) (n := x0) (s := 1) (k := .i64) (tbE h2)), .b (tbE h3), .b (tbE h4)] (by kernel_rfl)
        · intro g0
          exact absurd g0 ft
      · intro g0
        exact absurd g0 ft

def fix_small_o_L0_c0 (x1 : List Int) (x2 : Int) (s0 : fix_small_o_L0_s0) : Bool := (bif tb (decide (s0.c3 < x2)) then (bif tb (inb x1.length s0.c3) then true else false) else false)

def fix_small_o_L0_c1 (x2 : Int) (s0 : fix_small_o_L0_s0) : Bool := (bif tb (decide (s0.c3 < x2)) then false else true)

theorem fix_small_o_L0_x0 (x0 : Bool) (x1 : List Int) (x2 : Int) (x3 : Int) (s0 : fix_small_o_L0_s0) : fix_small_o_L0_sel x1 x2 s0 = false → fix_small_o_L0_c0 x1 x2 s0 = true → (roundG (runC E0 (cl E0) L69_0) [5, 6, 7] [2] 0) (fix_small_o_L0_enc x0 x1 x2 x3 s0) = some (.ret, ([(V.d (.bool false))], [])) := by
  unfold fix_small_o_L0_sel fix_small_o_L0_c0
  cases h1 : tb (decide (s0.c3 < x2))
  · intro g0 g1
    exact absurd g1 ft
  · cases h2 : tb (inb x1.length s0.c3)
    · intro g0 g1
      exact absurd g1 ft
    · cases h3 : tb (decide ((gt x1 s0.c3) < (-1099511627776)))
      · cases h4 : tb (decide (1099511627776 < (gt x1 s0.c3)))
        · intro g0 g1
          exact absurd g0 tf
        · intro g0 g1
          exact round_walk [.b (tbE h1), .o 9 (fun _ => o_idx_os (enc := (encI .i64)) (l := x1) (fl := true) (n := x0) (s := 1) (k := .i64) (tbE h2)), .b (tbE h3), .b (tbE h4)] (by kernel_rfl)
      · intro g0 g1
        exact round_walk [.b (tbE h1), .o 9 (fun _ => o_idx_os (enc := (encI .i64)) (l := x1) (fl := true) (n := x0) (s := 1) (k := .i64) (tbE h2)), .b (tbE h3)] (by kernel_rfl)

theorem fix_small_o_L0_x1 (x0 : Bool) (x1 : List Int) (x2 : Int) (x3 : Int) (s0 : fix_small_o_L0_s0) : fix_small_o_L0_sel x1 x2 s0 = false → fix_small_o_L0_c0 x1 x2 s0 = false → fix_small_o_L0_c1 x2 s0 = true → (roundG (runC E0 (cl E0) L69_0) [5, 6, 7] [2] 0) (fix_small_o_L0_enc x0 x1 x2 x3 s0) = some ((.exit 0), ([V.un], [])) := by
  unfold fix_small_o_L0_sel fix_small_o_L0_c0 fix_small_o_L0_c1
  cases h1 : tb (decide (s0.c3 < x2))
  · intro g0 g1 g2
    exact round_walk [.b (tbE h1)] (by kernel_rfl)
  · cases h2 : tb (inb x1.length s0.c3)
    · intro g0 g1 g2
      exact absurd g2 ft
    · cases h3 : tb (decide ((gt x1 s0.c3) < (-1099511627776)))
      · cases h4 : tb (decide (1099511627776 < (gt x1 s0.c3)))
        · intro g0 g1 g2
          exact absurd g0 tf
        · intro g0 g1 g2
          exact absurd g1 tf
      · intro g0 g1 g2
        exact absurd g1 tf

theorem fix_small_o_L0_f0_0 (x0 : Bool) (x1 : List Int) (x2 : Int) (x3 : Int) (s : fix_small_o_L0_s0) (hok : fix_small_o_L0_ok x1 x2 s = true) (c0 : fix_small_o_L0_c0 x1 x2 (fix_small_o_L0_end x1 x2 s) = true) : loopG (roundG (runC E0 (cl E0) L69_0) [5, 6, 7] [2] 0) bound (fix_small_o_L0_enc x0 x1 x2 x3 s) = some (.ret, ([(V.d (.bool false))], [])) := by
  have e : itS (fix_small_o_L0_sel x1 x2) (fix_small_o_L0_nx x1 x2) bound s = some (fix_small_o_L0_end x1 x2 s) := itS_get hok
  have f := itS_false e
  exact loop_it (fix_small_o_L0_go x0 x1 x2 x3) bound s _ _ _ e (fun h => by cases h) (fix_small_o_L0_x0 x0 x1 x2 x3 (fix_small_o_L0_end x1 x2 s) f c0)

theorem fix_small_o_L0_f0_1 (x0 : Bool) (x1 : List Int) (x2 : Int) (x3 : Int) (s : fix_small_o_L0_s0) (hok : fix_small_o_L0_ok x1 x2 s = true) (c0 : fix_small_o_L0_c0 x1 x2 (fix_small_o_L0_end x1 x2 s) = false) (c1 : fix_small_o_L0_c1 x2 (fix_small_o_L0_end x1 x2 s) = true) : loopG (roundG (runC E0 (cl E0) L69_0) [5, 6, 7] [2] 0) bound (fix_small_o_L0_enc x0 x1 x2 x3 s) = some ((.exit 0), ([V.un], [])) := by
  have e : itS (fix_small_o_L0_sel x1 x2) (fix_small_o_L0_nx x1 x2) bound s = some (fix_small_o_L0_end x1 x2 s) := itS_get hok
  have f := itS_false e
  exact loop_it (fix_small_o_L0_go x0 x1 x2 x3) bound s _ _ _ e (fun h => by cases h) (fix_small_o_L0_x1 x0 x1 x2 x3 (fix_small_o_L0_end x1 x2 s) f c0 c1)

def fix_small_o_e0 (x1 : List Int) : fix_small_o_L0_s0 := fix_small_o_L0_end x1 ((x1.length : Nat) : Int) (⟨0⟩ : fix_small_o_L0_s0)

def fix_small_o_c0 (x1 : List Int) : Bool := (bif tb (fix_small_o_L0_ok x1 ((x1.length : Nat) : Int) (⟨0⟩ : fix_small_o_L0_s0)) then (bif tb (fix_small_o_L0_c0 x1 ((x1.length : Nat) : Int) (fix_small_o_e0 x1)) then true else (bif tb (fix_small_o_L0_c1 ((x1.length : Nat) : Int) (fix_small_o_e0 x1)) then true else false)) else false)

def fix_small_o_r0_0 (x1 : List Int) : Bool := (bif tb (fix_small_o_L0_c0 x1 ((x1.length : Nat) : Int) (fix_small_o_e0 x1)) then false else true)

theorem fix_small_o_t0 (x0 : Bool) (x1 : List Int) : fix_small_o_c0 x1 = true → cl E0 69 [(V.d (slD (encI .i64) true 1 x0 x1))] [] = some ([(V.d (.bool (fix_small_o_r0_0 x1)))], []) := by
  unfold fix_small_o_c0 fix_small_o_r0_0
  cases h1 : tb (fix_small_o_L0_ok x1 ((x1.length : Nat) : Int) (⟨0⟩ : fix_small_o_L0_s0))
  · intro g0
    exact absurd g0 ft
  · cases h2 : tb (fix_small_o_L0_c0 x1 ((x1.length : Nat) : Int) (fix_small_o_e0 x1))
    · cases h3 : tb (fix_small_o_L0_c1 ((x1.length : Nat) : Int) (fix_small_o_e0 x1))
      · intro g0
        exact absurd g0 ft
      · intro g0
        exact w69 [.o 6 (fun _ => o_len_os (enc := (encI .i64)) (l := x1) (fl := true) (n := x0) (s := 1)), .l (fix_small_o_L0_f0_1 x0 x1 ((x1.length : Nat) : Int) 0 (⟨0⟩ : fix_small_o_L0_s0) (tbE h1) (tbE h2) (tbE h3))] (by kernel_rfl)
    · intro g0
      exact w69 [.o 6 (fun _ => o_len_os (enc := (encI .i64)) (l := x1) (fl := true) (n := x0) (s := 1)), .l (fix_small_o_L0_f0_0 x0 x1 ((x1.length : Nat) : Int) 0 (⟨0⟩ : fix_small_o_L0_s0) (tbE h1) (tbE h2))] (by kernel_rfl)

def fix_Clamp_iii_c0 (x0 : Int) (x1 : Int) (x2 : Int) : Bool := (bif tb (fix_small_o_c0 [x0, x1, x2]) then true else false)

def fix_Clamp_iii_r0_0 (x0 : Int) (x1 : Int) (x2 : Int) : Int := (bif tb (fix_small_o_r0_0 [x0, x1, x2]) then (mxI x1 (mnI x0 x2)) else 0)

theorem fix_Clamp_iii_t0 (x0 : Int) (x1 : Int) (x2 : Int) : fix_Clamp_iii_c0 x0 x1 x2 = true → cl E0 25 [(V.d (.int .i64 x0)), (V.d (.int .i64 x1)), (V.d (.int .i64 x2))] [] = some ([(V.d (.int .i64 (fix_Clamp_iii_r0_0 x0 x1 x2)))], []) := by
  unfold fix_Clamp_iii_c0 fix_Clamp_iii_r0_0
  cases h1 : tb (fix_small_o_c0 [x0, x1, x2])
  · intro g0
    exact absurd g0 ft
  · cases h2 : tb (fix_small_o_r0_0 [x0, x1, x2])
    · intro g0
      exact w25 [.c (fix_small_o_t0 false [x0, x1, x2] (tbE h1)), .b (notF (tbE h2))] (by kernel_rfl)
    · intro g0
      exact w25 [.c (fix_small_o_t0 false [x0, x1, x2] (tbE h1)), .b (notT (tbE h2))] (by kernel_rfl)

def fix_Near_iii_c0 (x0 : Int) (x1 : Int) (x2 : Int) : Bool := (bif tb (fix_small_o_c0 [x0, x1, x2]) then true else false)

def fix_Near_iii_r0_0 (x0 : Int) (x1 : Int) (x2 : Int) : Int := (bif tb (fix_small_o_r0_0 [x0, x1, x2]) then (bif tb (decide (x2 < 0)) then x0 else (mxI (wi (x0 - x2)) (mnI x1 (wi (x0 + x2))))) else 0)

theorem fix_Near_iii_t0 (x0 : Int) (x1 : Int) (x2 : Int) : fix_Near_iii_c0 x0 x1 x2 = true → cl E0 27 [(V.d (.int .i64 x0)), (V.d (.int .i64 x1)), (V.d (.int .i64 x2))] [] = some ([(V.d (.int .i64 (fix_Near_iii_r0_0 x0 x1 x2)))], []) := by
  unfold fix_Near_iii_c0 fix_Near_iii_r0_0
  cases h1 : tb (fix_small_o_c0 [x0, x1, x2])
  · intro g0
    exact absurd g0 ft
  · cases h2 : tb (fix_small_o_r0_0 [x0, x1, x2])
    · intro g0
      exact w27 [.c (fix_small_o_t0 false [x0, x1, x2] (tbE h1)), .b (notF (tbE h2))] (by kernel_rfl)
    · cases h3 : tb (decide (x2 < 0))
      · intro g0
        exact w27 [.c (fix_small_o_t0 false [x0, x1, x2] (tbE h1)), .b (notT (tbE h2)), .b (tbE h3)] (by kernel_rfl)
      · intro g0
        exact w27 [.c (fix_small_o_t0 false [x0, x1, x2] (tbE h1)), .b (notT (tbE h2)), .b (tbE h3)] (by kernel_rfl)

def fix_Floor_ii_c0 (x0 : Int) (x1 : Int) : Bool := (bif tb (fix_small_o_c0 [x0, x1]) then (bif tb (fix_small_o_r0_0 [x0, x1]) then (bif tb (decide (x1 < 1)) then true else (bif tb ((x1 : Int) == 0) then false else true)) else true) else false)

def fix_Floor_ii_r0_0 (x0 : Int) (x1 : Int) : Int := (bif tb (fix_small_o_r0_0 [x0, x1]) then (bif tb (decide (x1 < 1)) then 0 else (bif tb (decide ((remI .i64 x0 x1) < 0)) then (wi ((quoI .i64 x0 x1) - 1)) else (quoI .i64 x0 x1))) else 0)

theorem fix_Floor_ii_t0 (x0 : Int) (x1 : Int) : fix_Floor_ii_c0 x0 x1 = true → cl E0 29 [(V.d (.int .i64 x0)), (V.d (.int .i64 x1))] [] = some ([(V.d (.int .i64 (fix_Floor_ii_r0_0 x0 x1)))], []) := by
  unfold fix_Floor_ii_c0 fix_Floor_ii_r0_0
  cases h1 : tb (fix_small_o_c0 [x0, x1])
  · intro g0
    exact absurd g0 ft
  · cases h2 : tb (fix_small_o_r0_0 [x0, x1])
    · intro g0
      exact w29 [.c (fix_small_o_t0 false [x0, x1] (tbE h1)), .b (notF (tbE h2))] (by kernel_rfl)
    · cases h3 : tb (decide (x1 < 1))
      · cases h4 : tb ((x1 : Int) == 0)
        · cases h5 : tb (decide ((remI .i64 x0 x1) < 0))
          · intro g0
            exact w29 [.c (fix_small_o_t0 false [x0, x1] (tbE h1)), .b (notT (tbE h2)), .b (tbE h3), .o 17 (fun _ => o_quo (k := .i64) (x := x0) (y := x1) (tbE h4)), .o 20 (fun _ => o_rem (k := .i64) (x := x0) (y := x1) (tbE h4)), .b (tbE h5)] (by kernel_rfl)
          · intro g0
            exact w29 [.c (fix_small_o_t0 false [x0, x1] (tbE h1)), .b (notT (tbE h2)), .b (tbE h3), .o 17 (fun _ => o_quo (k := .i64) (x := x0) (y := x1) (tbE h4)), .o 20 (fun _ => o_rem (k := .i64) (x := x0) (y := x1) (tbE h4)), .b (tbE h5)] (by kernel_rfl)
        · intro g0
          exact absurd g0 ft
      · intro g0
        exact w29 [.c (fix_small_o_t0 false [x0, x1] (tbE h1)), .b (notT (tbE h2)), .b (tbE h3)] (by kernel_rfl)

def fix_Shift_ii_c0 (x0 : Int) (x1 : Int) : Bool := (bif tb (fix_small_o_c0 [x0]) then (bif tb (fix_small_o_r0_0 [x0]) then (bif tb (decide (x1 < 0)) then true else (bif tb (decide (40 < x1)) then true else (bif tb (decide (0 ≤ x1)) then true else false))) else true) else false)

def fix_Shift_ii_r0_0 (x0 : Int) (x1 : Int) : Int := (bif tb (fix_small_o_r0_0 [x0]) then (bif tb (decide (x1 < 0)) then 0 else (bif tb (decide (40 < x1)) then 0 else (shrI .i64 x0 x1))) else 0)

theorem fix_Shift_ii_t0 (x0 : Int) (x1 : Int) : fix_Shift_ii_c0 x0 x1 = true → cl E0 31 [(V.d (.int .i64 x0)), (V.d (.int .i64 x1))] [] = some ([(V.d (.int .i64 (fix_Shift_ii_r0_0 x0 x1)))], []) := by
  unfold fix_Shift_ii_c0 fix_Shift_ii_r0_0
  cases h1 : tb (fix_small_o_c0 [x0])
  · intro g0
    exact absurd g0 ft
  · cases h2 : tb (fix_small_o_r0_0 [x0])
    · intro g0
      exact w31 [.c (fix_small_o_t0 false [x0] (tbE h1)), .b (notF (tbE h2))] (by kernel_rfl)
    · cases h3 : tb (decide (x1 < 0))
      · cases h4 : tb (decide (40 < x1))
        · cases h5 : tb (decide (0 ≤ x1))
          · intro g0
            exact absurd g0 ft
          · intro g0
            exact w31 [.c (fix_small_o_t0 false [x0] (tbE h1)), .b (notT (tbE h2)), .b (tbE h3), .b (tbE h4), .o 19 (fun _ => o_shr (k := .i64) (k2 := .i64) (x := x0) (y := x1) (tbE h5))] (by kernel_rfl)
        · intro g0
          exact w31 [.c (fix_small_o_t0 false [x0] (tbE h1)), .b (notT (tbE h2)), .b (tbE h3), .b (tbE h4)] (by kernel_rfl)
      · intro g0
        exact w31 [.c (fix_small_o_t0 false [x0] (tbE h1)), .b (notT (tbE h2)), .b (tbE h3)] (by kernel_rfl)

def fix_Apart_ii_c0 (x0 : Int) (x1 : Int) : Bool := (bif tb (fix_small_o_c0 [x0, x1]) then true else false)

def fix_Apart_ii_r0_0 (x0 : Int) (x1 : Int) : Int := (bif tb (fix_small_o_r0_0 [x0, x1]) then (mxI (wi (x0 - x1)) (wi (x1 - x0))) else 0)

theorem fix_Apart_ii_t0 (x0 : Int) (x1 : Int) : fix_Apart_ii_c0 x0 x1 = true → cl E0 34 [(V.d (.int .i64 x0)), (V.d (.int .i64 x1))] [] = some ([(V.d (.int .i64 (fix_Apart_ii_r0_0 x0 x1)))], []) := by
  unfold fix_Apart_ii_c0 fix_Apart_ii_r0_0
  cases h1 : tb (fix_small_o_c0 [x0, x1])
  · intro g0
    exact absurd g0 ft
  · cases h2 : tb (fix_small_o_r0_0 [x0, x1])
    · intro g0
      exact w34 [.c (fix_small_o_t0 false [x0, x1] (tbE h1)), .b (notF (tbE h2))] (by kernel_rfl)
    · intro g0
      exact w34 [.c (fix_small_o_t0 false [x0, x1] (tbE h1)), .b (notT (tbE h2))] (by kernel_rfl)

structure fix_Bits_o_L0_s0 where
  c2 : Int
  c4 : Int
  deriving Inhabited

def fix_Bits_o_L0_enc (x0 : Bool) (x1 : List Bool) (x2 : Int) (x3 : Int) (x4 : Int) (s0 : fix_Bits_o_L0_s0) : List V × Mem := ([(V.d (slD encB true 1 x0 x1)), (V.d (.int .i64 s0.c2)), (V.d (.int .i64 x3)), (V.d (.int .i64 s0.c4))], [])

def fix_Bits_o_L0_sel (x1 : List Bool) (x3 : Int) (s0 : fix_Bits_o_L0_s0) : Bool := (bif tb (decide (s0.c4 < x3)) then (bif tb (inb x1.length s0.c4) then (bif tb (gt x1 s0.c4) then (bif tb (decide (0 ≤ s0.c4)) then true else false) else true) else false) else false)

def fix_Bits_o_L0_nx (x1 : List Bool) (x3 : Int) (s0 : fix_Bits_o_L0_s0) : fix_Bits_o_L0_s0 := (bif tb (gt x1 s0.c4) then ⟨(orI .i64 s0.c2 (shlI .i64 1 s0.c4)), (wi (s0.c4 + 1))⟩ else ⟨s0.c2, (wi (s0.c4 + 1))⟩)

def fix_Bits_o_L0_ok (x1 : List Bool) (x3 : Int) (s0 : fix_Bits_o_L0_s0) : Bool := (itS (fix_Bits_o_L0_sel x1 x3) (fix_Bits_o_L0_nx x1 x3) bound s0).isSome
def fix_Bits_o_L0_end (x1 : List Bool) (x3 : Int) (s0 : fix_Bits_o_L0_s0) : fix_Bits_o_L0_s0 := (itS (fix_Bits_o_L0_sel x1 x3) (fix_Bits_o_L0_nx x1 x3) bound s0).getD default

theorem fix_Bits_o_L0_go (x0 : Bool) (x1 : List Bool) (x2 : Int) (x3 : Int) (x4 : Int) (s0 : fix_Bits_o_L0_s0) : fix_Bits_o_L0_sel x1 x3 s0 = true → (roundG (runC E0 (cl E0) L36_0) [0, 3, 9, 10] [3] 0) (fix_Bits_o_L0_enc x0 x1 x2 x3 x4 s0) = some (.normal, fix_Bits_o_L0_enc x0 x1 x2 x3 x4 (fix_Bits_o_L0_nx x1 x3 s0)) := by
  unfold fix_Bits_o_L0_sel fix_Bits_o_L0_nx
  cases h1 : tb (decide (s0.c4 < x3))
  · intro g0
    exact absurd g0 ft
  · cases h2 : tb (inb x1.length s0.c4)
    · intro g0
      exact absurd g0 ft
    · cases h3 : tb (gt x1 s0.c4)
      · intro _
        exact round_walk [.b (tbE h1), .o 15 (fun _ => o_idx_os (enc := encB) (l := x1) (fl := true) (n := x0) (s := 1) (k := .i64) (tbE h2)), .b (tbE h3)] (by kernel_rfl)
      · cases h4 : tb (decide (0 ≤ s0.c4))
        · intro g0
          exact absurd g0 ft
        · intro _
          exact round_walk [.b (tbE h1), .o 15 (fun _ => o_idx_os (enc := encB) (l := x1) (fl := true) (n := x0) (s := 1) (k := .i64) (tbE h2)), .b (tbE h3), .o 19 (fun _ => o_shl (k := .i64) (k2 := .i64) (x := 1) (y := s0.c4) (tbE h4))] (by kernel_rfl)

def fix_Bits_o_L0_c0 (x3 : Int) (s0 : fix_Bits_o_L0_s0) : Bool := (bif tb (decide (s0.c4 < x3)) then false else true)

theorem fix_Bits_o_L0_x0 (x0 : Bool) (x1 : List Bool) (x2 : Int) (x3 : Int) (x4 : Int) (s0 : fix_Bits_o_L0_s0) : fix_Bits_o_L0_sel x1 x3 s0 = false → fix_Bits_o_L0_c0 x3 s0 = true → (roundG (runC E0 (cl E0) L36_0) [0, 3, 9, 10] [3] 0) (fix_Bits_o_L0_enc x0 x1 x2 x3 x4 s0) = some ((.exit 0), ([(V.d (.int .i64 s0.c2))], [])) := by
  unfold fix_Bits_o_L0_sel fix_Bits_o_L0_c0
  cases h1 : tb (decide (s0.c4 < x3))
  · intro g0 g1
    exact round_walk [.b (tbE h1)] (by kernel_rfl)
  · cases h2 : tb (inb x1.length s0.c4)
    · intro g0 g1
      exact absurd g1 ft
    · cases h3 : tb (gt x1 s0.c4)
      · intro g0 g1
        exact absurd g0 tf
      · cases h4 : tb (decide (0 ≤ s0.c4))
        · intro g0 g1
          exact absurd g1 ft
        · intro g0 g1
          exact absurd g0 tf

theorem fix_Bits_o_L0_f0_0 (x0 : Bool) (x1 : List Bool) (x2 : Int) (x3 : Int) (x4 : Int) (s : fix_Bits_o_L0_s0) (hok : fix_Bits_o_L0_ok x1 x3 s = true) (c0 : fix_Bits_o_L0_c0 x3 (fix_Bits_o_L0_end x1 x3 s) = true) : loopG (roundG (runC E0 (cl E0) L36_0) [0, 3, 9, 10] [3] 0) bound (fix_Bits_o_L0_enc x0 x1 x2 x3 x4 s) = some ((.exit 0), ([(V.d (.int .i64 ((fix_Bits_o_L0_end x1 x3 s).c2)))], [])) := by
  have e : itS (fix_Bits_o_L0_sel x1 x3) (fix_Bits_o_L0_nx x1 x3) bound s = some (fix_Bits_o_L0_end x1 x3 s) := itS_get hok
  have f := itS_false e
  exact loop_it (fix_Bits_o_L0_go x0 x1 x2 x3 x4) bound s _ _ _ e (fun h => by cases h) (fix_Bits_o_L0_x0 x0 x1 x2 x3 x4 (fix_Bits_o_L0_end x1 x3 s) f c0)

def fix_Bits_o_e0 (x1 : List Bool) : fix_Bits_o_L0_s0 := fix_Bits_o_L0_end x1 ((x1.length : Nat) : Int) (⟨0, 0⟩ : fix_Bits_o_L0_s0)

def fix_Bits_o_c0 (x1 : List Bool) : Bool := (bif tb (decide (16 < ((x1.length : Nat) : Int))) then true else (bif tb (fix_Bits_o_L0_ok x1 ((x1.length : Nat) : Int) (⟨0, 0⟩ : fix_Bits_o_L0_s0)) then (bif tb (fix_Bits_o_L0_c0 ((x1.length : Nat) : Int) (fix_Bits_o_e0 x1)) then true else false) else false))

def fix_Bits_o_r0_0 (x1 : List Bool) : Int := (bif tb (decide (16 < ((x1.length : Nat) : Int))) then 0 else ((fix_Bits_o_e0 x1).c2))

theorem fix_Bits_o_t0 (x0 : Bool) (x1 : List Bool) : fix_Bits_o_c0 x1 = true → cl E0 36 [(V.d (slD encB true 1 x0 x1))] [] = some ([(V.d (.int .i64 (fix_Bits_o_r0_0 x1)))], []) := by
  unfold fix_Bits_o_c0 fix_Bits_o_r0_0
  cases h1 : tb (decide (16 < ((x1.length : Nat) : Int)))
  · cases h2 : tb (fix_Bits_o_L0_ok x1 ((x1.length : Nat) : Int) (⟨0, 0⟩ : fix_Bits_o_L0_s0))
    · intro g0
      exact absurd g0 ft
    · cases h3 : tb (fix_Bits_o_L0_c0 ((x1.length : Nat) : Int) (fix_Bits_o_e0 x1))
      · intro g0
        exact absurd g0 ft
      · intro g0
        exact w36 [.o 6 (fun _ => o_len_os (enc := encB) (l := x1) (fl := true) (n := x0) (s := 1)), .b (tbE h1), .o 9 (fun _ => o_len_os (enc := encB) (l := x1) (fl := true) (n := x0) (s := 1)), .l (fix_Bits_o_L0_f0_0 x0 x1 0 ((x1.length : Nat) : Int) 0 (⟨0, 0⟩ : fix_Bits_o_L0_s0) (tbE h2) (tbE h3))] (by kernel_rfl)
  · intro g0
    exact w36 [.o 6 (fun _ => o_len_os (enc := encB) (l := x1) (fl := true) (n := x0) (s := 1)), .b (tbE h1)] (by kernel_rfl)

def fix_right_i_r0_0 (x0 : Int) : Bool := (bif tb (decide (0 ≤ x0)) then (decide (x0 < 65536)) else false)

theorem fix_right_i_t0 (x0 : Int) : cl E0 71 [(V.d (.int .i64 x0))] [] = some ([(V.d (.bool (fix_right_i_r0_0 x0)))], []) := by
  unfold fix_right_i_r0_0
  cases h1 : tb (decide (0 ≤ x0))
  · exact w71 [.b (tbE h1)] (by kernel_rfl)
  · exact w71 [.b (tbE h1)] (by kernel_rfl)

def fix_Has_ii_r0_0 (x0 : Int) (x1 : Int) : Bool := (bif tb (fix_right_i_r0_0 x0) then (bif tb (decide (0 ≤ x1)) then (bif tb (decide (x1 < 16)) then (((andI .i64 (shrI .i64 x0 x1) 1) : Int) == 1) else false) else false) else false)

theorem fix_Has_ii_t0 (x0 : Int) (x1 : Int) : cl E0 38 [(V.d (.int .i64 x0)), (V.d (.int .i64 x1))] [] = some ([(V.d (.bool (fix_Has_ii_r0_0 x0 x1)))], []) := by
  unfold fix_Has_ii_r0_0
  cases h1 : tb (fix_right_i_r0_0 x0)
  · exact w38 [.c (fix_right_i_t0 x0), .b (tbE h1)] (by kernel_rfl)
  · cases h2 : tb (decide (0 ≤ x1))
    · exact w38 [.c (fix_right_i_t0 x0), .b (tbE h1), .b (tbE h2)] (by kernel_rfl)
    · cases h3 : tb (decide (x1 < 16))
      · exact w38 [.c (fix_right_i_t0 x0), .b (tbE h1), .b (tbE h2), .b (tbE h3)] (by kernel_rfl)
      · exact w38 [.c (fix_right_i_t0 x0), .b (tbE h1), .b (tbE h2), .b (tbE h3), .o 18 (fun _ => o_shr (k := .i64) (k2 := .i64) (x := x0) (y := x1) (tbE h2))] (by kernel_rfl)

def fix_Count_i_r0_0 (x0 : Int) : Int := (bif tb (fix_right_i_r0_0 x0) then (andI .i64 (wi ((math_bits_OnesCount64_i_e8 (IntKind.u64.wrap (x0))))) 127) else 0)

theorem fix_Count_i_t0 (x0 : Int) : cl E0 40 [(V.d (.int .i64 x0))] [] = some ([(V.d (.int .i64 (fix_Count_i_r0_0 x0)))], []) := by
  unfold fix_Count_i_r0_0
  cases h1 : tb (fix_right_i_r0_0 x0)
  · exact w40 [.c (fix_right_i_t0 x0), .b (notF (tbE h1))] (by kernel_rfl)
  · exact w40 [.c (fix_right_i_t0 x0), .b (notT (tbE h1)), .c (math_bits_OnesCount_i_t0 (IntKind.u64.wrap (x0)))] (by kernel_rfl)

end Go.Proofs.Ytdlhhoejnhjbhaa.Den

/- A type's data, opened cell by cell. -/
namespace Go.Proofs.Ytdlhhoejnhjbhaa.Den
open Go
set_option linter.unusedVariables false
set_option linter.unusedSimpArgs false

inductive CK where
  | b
  | i (k : IntKind)
  | s
  | l (e : TypeId)

def flatK (P : Program) : Nat → TypeId → Option (List CK)
  | 0, _ => none
  | n + 1, t => match P.underlying t with
    | some .bool => some [.b]
    | some (.int k) => some [.i k]
    | some .string => some [.s]
    | some (.slice e) => some [.l e]
    | some (.struct fs) => (fs.toList.mapM fun f => flatK P n f.type).map List.flatten
    | some (.array m e) => (flatK P n e).map fun l => (List.replicate m l).flatten
    | _ => none

def WfI (k : IntKind) (z : Int) : Prop := (Lit.int k z).wf = true

def CellK (P : Program) : CK → D → Prop
  | .b, d => ∃ b, d = .bool b
  | .i k, d => ∃ z, d = .int k z ∧ WfI k z
  | .s, d => ∃ s, d = .str s ∧ s.size ≤ maxLen
  | .l e, d => d = .nils ∨ ∃ rows, d = .rs (isFlat P e) (P.cellsOf e) rows false ∧ rows.length ≤ maxLen ∧ ∃ n, ∀ r, r ∈ rows → Ty P n e r

def CellsK (P : Program) : List CK → List D → Prop
  | [], ds => ds = []
  | k :: ks, ds => ∃ d r, ds = d :: r ∧ CellK P k d ∧ CellsK P ks r

theorem CellsK.append {P : Program} : ∀ {a b : List CK} {x y : List D}, CellsK P a x → CellsK P b y → CellsK P (a ++ b) (x ++ y)
  | [], _, _, _, h, h' => by simp only [CellsK] at h; subst h; simpa using h'
  | k :: a, b, x, y, h, h' => by
    simp only [CellsK] at h
    obtain ⟨d, r, rfl, h1, h2⟩ := h
    simp only [List.cons_append, CellsK]
    exact ⟨d, _, rfl, h1, CellsK.append h2 h'⟩

theorem flatK_fs {P : Program} {n : Nat} (ih : ∀ t ks ds, flatK P n t = some ks → Ty P n t ds → CellsK P ks ds) : ∀ (fs : List Field) (l : List (List CK)) (ds : List D), fs.mapM (fun f => flatK P n f.type) = some l → TyFs (Ty P n) fs ds → CellsK P l.flatten ds
  | [], l, ds, h, ht => by
    simp at h; subst h
    obtain rfl := tyfs_nil ht
    simp [CellsK]
  | f :: fs, l, ds, h, ht => by
    rw [List.mapM_cons] at h
    simp only [Option.bind_eq_bind, Option.bind_eq_some_iff, Option.pure_def, Option.some.injEq] at h
    obtain ⟨a, h1, b, h2, rfl⟩ := h
    obtain ⟨x, y, rfl, g1, g2⟩ := tyfs_cons ht
    simp only [List.flatten_cons]
    exact (ih _ _ _ h1 g1).append (flatK_fs ih fs b y h2 g2)

theorem flatK_ok {P : Program} : ∀ (n : Nat) (t : TypeId) (ks : List CK) (ds : List D), flatK P n t = some ks → Ty P n t ds → CellsK P ks ds
  | 0, _, _, _, h, _ => by simp [flatK] at h
  | n + 1, t, ks, ds, h, ht => by
    simp only [flatK] at h
    cases hu : P.underlying t with
    | none => simp [hu] at h
    | some u =>
      rw [hu] at h
      cases u with
      | bool => cases h; obtain ⟨b, rfl⟩ := ty_bool ht hu; exact ⟨_, [], rfl, ⟨b, rfl⟩, rfl⟩
      | int k => cases h; obtain ⟨z, rfl, hz⟩ := ty_int ht hu; exact ⟨_, [], rfl, ⟨z, rfl, hz⟩, rfl⟩
      | string => cases h; obtain ⟨z, rfl, hz⟩ := ty_str ht hu; exact ⟨_, [], rfl, ⟨z, rfl, hz⟩, rfl⟩
      | slice e =>
        cases h
        rcases ty_slice ht hu with rfl | ⟨rows, rfl, h1, h2⟩
        · exact ⟨_, [], rfl, .inl rfl, rfl⟩
        · exact ⟨_, [], rfl, .inr ⟨rows, rfl, h1, n, h2⟩, rfl⟩
      | struct fs =>
        obtain ⟨l, hl, rfl⟩ := Option.map_eq_some_iff.1 h
        exact flatK_fs (fun t ks ds => flatK_ok n t ks ds) fs.toList l ds hl (ty_struct ht hu)
      | array m e =>
        obtain ⟨l, hl, rfl⟩ := Option.map_eq_some_iff.1 h
        obtain ⟨rows, hr, rfl, hall⟩ := ty_arr ht hu
        have key : ∀ (rows : List (List D)), (∀ r, r ∈ rows → Ty P n e r) → CellsK P (List.replicate rows.length l).flatten rows.flatten := by
          intro rows
          induction rows with
          | nil => intro _; simp [CellsK]
          | cons r rows ih =>
            intro hall
            simp only [List.length_cons, List.replicate_succ, List.flatten_cons]
            exact (flatK_ok n e l r hl (hall r (by simp))).append (ih fun x hx => hall x (by simp [hx]))
        rw [← hr]; exact key rows hall
      | _ => simp at h

/-- The rows of a list, told by an encoding. -/
theorem rows_of {α : Type} {enc : α → List D} {wf : α → Prop} {T : List D → Prop} (h : ∀ r, T r → ∃ x, r = enc x ∧ wf x) : ∀ rows : List (List D), (∀ r, r ∈ rows → T r) → ∃ l : List α, rows = l.map enc ∧ ∀ x, x ∈ l → wf x
  | [], _ => ⟨[], rfl, fun _ h => by simp at h⟩
  | r :: rows, hr => by
    obtain ⟨x, rfl, hx⟩ := h r (hr r (by simp))
    obtain ⟨l, rfl, hl⟩ := rows_of h rows fun y hy => hr y (by simp [hy])
    refine ⟨x :: l, rfl, fun y hy => ?_⟩
    rcases List.mem_cons.1 hy with rfl | hy
    · exact hx
    · exact hl y hy

theorem ints_of {P : Program} {n : Nat} {e : TypeId} {k : IntKind} (hu : P.underlying e = some (.int k)) {rows : List (List D)} (h : ∀ r, r ∈ rows → Ty P n e r) : ∃ l : List Int, rows = l.map (encI k) ∧ ∀ z, z ∈ l → WfI k z :=
  rows_of (T := Ty P n e) (fun r hr => by
    cases n with
    | zero => simp [Ty] at hr
    | succ n => obtain ⟨z, rfl, hz⟩ := ty_int hr hu; exact ⟨z, rfl, hz⟩) rows h

theorem bools_of {P : Program} {n : Nat} {e : TypeId} (hu : P.underlying e = some .bool) {rows : List (List D)} (h : ∀ r, r ∈ rows → Ty P n e r) : ∃ l : List Bool, rows = l.map encB ∧ ∀ z, z ∈ l → True :=
  rows_of (T := Ty P n e) (fun r hr => by
    cases n with
    | zero => simp [Ty] at hr
    | succ n => obtain ⟨z, rfl⟩ := ty_bool hr hu; exact ⟨z, rfl, trivial⟩) rows h

theorem tyFs_mono {T T' : TypeId → List D → Prop} (h : ∀ t ds, T t ds → T' t ds) : ∀ (fs : List Field) (ds : List D), TyFs T fs ds → TyFs T' fs ds
  | [], ds, ht => ht
  | f :: fs, ds, ht => by
    obtain ⟨x, y, rfl, g1, g2⟩ := tyfs_cons ht
    simp only [TyFs]
    exact ⟨x, y, rfl, h _ _ g1, tyFs_mono h fs y g2⟩

theorem ty_mono {P : Program} : ∀ (n : Nat) (t : TypeId) (ds : List D), Ty P n t ds → Ty P (n + 1) t ds
  | 0, _, _, h => by simp [Ty] at h
  | n + 1, t, ds, h => by
    rw [Ty] at h ⊢
    cases hu : P.underlying t with
    | none => simp [hu] at h
    | some u =>
      rw [hu] at h
      cases u with
      | slice e =>
        rcases h with rfl | ⟨rows, rfl, h1, h2⟩
        · exact .inl rfl
        · exact .inr ⟨rows, rfl, h1, fun r hr => ty_mono n _ _ (h2 r hr)⟩
      | struct fs => exact tyFs_mono (fun t ds => ty_mono n t ds) _ _ h
      | array m e =>
        obtain ⟨rows, h1, rfl, h2⟩ := h
        exact ⟨rows, h1, rfl, fun r hr => ty_mono n _ _ (h2 r hr)⟩
      | _ => exact h

theorem mapM_mono {α β : Type} {f g : α → Option β} (h : ∀ a b, f a = some b → g a = some b) : ∀ (l : List α) (r : List β), l.mapM f = some r → l.mapM g = some r
  | [], r, hr => by simpa using hr
  | a :: l, r, hr => by
    rw [List.mapM_cons] at hr ⊢
    simp only [Option.bind_eq_bind, Option.bind_eq_some_iff, Option.pure_def, Option.some.injEq] at hr ⊢
    obtain ⟨x, h1, y, h2, rfl⟩ := hr
    exact ⟨x, h a x h1, y, mapM_mono h l y h2, rfl⟩

theorem flatK_mono {P : Program} : ∀ (n : Nat) (t : TypeId) (ks : List CK), flatK P n t = some ks → flatK P (n + 1) t = some ks
  | 0, _, _, h => by simp [flatK] at h
  | n + 1, t, ks, h => by
    rw [flatK] at h ⊢
    cases hu : P.underlying t with
    | none => simp [hu] at h
    | some u =>
      rw [hu] at h
      cases u with
      | struct fs =>
        obtain ⟨l, hl, rfl⟩ := Option.map_eq_some_iff.1 h
        simp only [mapM_mono (fun f b hb => flatK_mono n _ _ hb) _ _ hl, Option.map_some]
      | array m e =>
        obtain ⟨l, hl, rfl⟩ := Option.map_eq_some_iff.1 h
        simp only [flatK_mono n _ _ hl, Option.map_some]
      | _ => exact h

/-- The cells of an element's type, at any depth. -/
theorem flatK_any {P : Program} {k : Nat} {t : TypeId} {ks : List CK} {ds : List D} (h : flatK P k t = some ks) {n : Nat} (ht : Ty P n t ds) : CellsK P ks ds := by
  have h1 : ∀ j, flatK P (k + j) t = some ks := fun j => by
    induction j with
    | zero => exact h
    | succ j ih => exact flatK_mono _ _ _ ih
  have h2 : ∀ j, Ty P (n + j) t ds := fun j => by
    induction j with
    | zero => exact ht
    | succ j ih => exact ty_mono _ _ _ ih
  refine flatK_ok (k + n) t ks ds (h1 n) ?_
  rw [Nat.add_comm]; exact h2 k

theorem wfI_i64 {z : Int} (h : WfI .i64 z) : -9223372036854775808 ≤ z ∧ z ≤ 9223372036854775807 := by
  simp [WfI, Lit.wf, IntKind.min, IntKind.max, IntKind.signed, IntKind.bits] at h
  omega
end Go.Proofs.Ytdlhhoejnhjbhaa.Den

/- Plain laws on the words of the printed texts. -/
namespace Go.Proofs.Ytdlhhoejnhjbhaa.Den
open Go
set_option linter.unusedVariables false
set_option linter.unusedSimpArgs false

@[simp] theorem tb_eq (b : Bool) : tb b = b := rfl

theorem wrap64 {x : Int} (h1 : -9223372036854775808 ≤ x) (h2 : x ≤ 9223372036854775807) : IntKind.i64.wrap x = x := by
  unfold IntKind.wrap
  simp [IntKind.bits, IntKind.signed]
  omega

theorem wi_eq {x : Int} (h1 : -9223372036854775808 ≤ x) (h2 : x ≤ 9223372036854775807) : wi x = x := wrap64 h1 h2

theorem wfI_i32 {z : Int} (h : WfI .i32 z) : -2147483648 ≤ z ∧ z ≤ 2147483647 := by
  simp [WfI, Lit.wf, IntKind.min, IntKind.max, IntKind.signed, IntKind.bits] at h
  omega
theorem wfI_i16 {z : Int} (h : WfI .i16 z) : -32768 ≤ z ∧ z ≤ 32767 := by
  simp [WfI, Lit.wf, IntKind.min, IntKind.max, IntKind.signed, IntKind.bits] at h
  omega
theorem wfI_u8 {z : Int} (h : WfI .u8 z) : 0 ≤ z ∧ z ≤ 255 := by
  simp [WfI, Lit.wf, IntKind.min, IntKind.max, IntKind.signed, IntKind.bits] at h
  omega
theorem wfI_u16 {z : Int} (h : WfI .u16 z) : 0 ≤ z ∧ z ≤ 65535 := by
  simp [WfI, Lit.wf, IntKind.min, IntKind.max, IntKind.signed, IntKind.bits] at h
  omega
theorem wfI_u32 {z : Int} (h : WfI .u32 z) : 0 ≤ z ∧ z ≤ 4294967295 := by
  simp [WfI, Lit.wf, IntKind.min, IntKind.max, IntKind.signed, IntKind.bits] at h
  omega

theorem mxI_eq (a b : Int) : mxI a b = max a b := by unfold mxI; split <;> omega
theorem mnI_eq (a b : Int) : mnI a b = min a b := by unfold mnI; split <;> omega

theorem inb_iff {n : Nat} {i : Int} : inb n i = true ↔ 0 ≤ i ∧ i < n := by simp [inb]
theorem inb_of {n : Nat} {i : Int} (h1 : 0 ≤ i) (h2 : i < n) : inb n i = true := inb_iff.2 ⟨h1, h2⟩

theorem loop_inv {S : Type} {sel : S → Bool} {nx : S → S} (J : S → Prop) (μ : S → Nat) {s0 : S} (h0 : J s0) (hb : μ s0 < 1152921504606846976) (hn : ∀ s, J s → sel s = true → J (nx s) ∧ μ (nx s) < μ s) :
    ∃ s1, itS sel nx bound s0 = some s1 ∧ J s1 ∧ sel s1 = false := itS_inv J μ hn bound s0 h0 hb

/-- A loop told by a function of its states. -/
theorem loop_fun {S : Type} {sel : S → Bool} {nx : S → S} (J : S → Prop) (μ : S → Nat) (g : S → S) {s0 : S} (h0 : J s0) (hb : μ s0 < 1152921504606846976) (hs : ∀ s, J s → sel s = false → g s = s) (hn : ∀ s, J s → sel s = true → J (nx s) ∧ μ (nx s) < μ s ∧ g (nx s) = g s) :
    itS sel nx bound s0 = some (g s0) := itS_eq J μ g hs hn bound s0 h0 hb

theorem gt_mem {α : Type} [Inhabited α] {l : List α} {i : Int} (h1 : 0 ≤ i) (h2 : i < l.length) : gt l i ∈ l := by
  have h : i.toNat < l.length := by omega
  have : gt l i = l[i.toNat] := by simp [gt, List.getD, h]
  rw [this]; exact List.getElem_mem h

theorem gt_nat {α : Type} [Inhabited α] {l : List α} {k : Nat} (h : k < l.length) : gt l (k : Int) = l[k] := by simp [gt, List.getD, h]

theorem gt_getElem {α : Type} [Inhabited α] {l : List α} {i : Int} (h1 : 0 ≤ i) (h2 : i.toNat < l.length) : gt l i = l[i.toNat] := by simp [gt, List.getD, h2]

/-- A loop over a list by an index, that stops where a test fails. -/
theorem all_loop {S α : Type} [Inhabited α] {sel : S → Bool} {nx : S → S} {s0 : S} (l : List α) (ix : S → Int) (p : α → Bool) (J : S → Prop) (hl : l.length < 1152921504606846976) (h0 : ix s0 = 0) (hJ0 : J s0)
    (hnx : ∀ s, J s → 0 ≤ ix s → ix s < l.length → sel s = true → ix (nx s) = ix s + 1 ∧ J (nx s)) (hsel : ∀ s, J s → 0 ≤ ix s → ix s ≤ l.length → sel s = (decide (ix s < l.length) && p (gt l (ix s)))) :
    ∃ s1, itS sel nx bound s0 = some s1 ∧ J s1 ∧ 0 ≤ ix s1 ∧ ((ix s1 = l.length ∧ l.all p = true) ∨ (ix s1 < l.length ∧ p (gt l (ix s1)) = false ∧ l.all p = false)) := by
  obtain ⟨s1, e, ⟨hJ, a1, a2, a3⟩, hs⟩ := loop_inv (sel := sel) (nx := nx) (fun s => J s ∧ 0 ≤ ix s ∧ ix s ≤ l.length ∧ ∀ j : Nat, (j : Int) < ix s → p (gt l j) = true) (fun s => (l.length - ix s).toNat) (s0 := s0)
    ⟨hJ0, by omega, by omega, fun j hj => by omega⟩ (by omega) (fun s ⟨hJ, b1, b2, b3⟩ hs => by
      have h1 := hsel s hJ b1 b2
      rw [hs] at h1
      have h2 := (Bool.and_eq_true _ _).mp h1.symm
      have h3 : ix s < l.length := by simpa using h2.1
      obtain ⟨h4, h5⟩ := hnx s hJ b1 h3 hs
      refine ⟨⟨h5, by omega, by omega, fun j hj => ?_⟩, by omega⟩
      by_cases hjj : (j : Int) < ix s
      · exact b3 j hjj
      · have : (j : Int) = ix s := by omega
        rw [this]; exact h2.2)
  refine ⟨s1, e, hJ, a1, ?_⟩
  rcases Int.lt_or_eq_of_le a2 with h | h
  · have h1 := hsel s1 hJ a1 a2
    rw [hs] at h1
    have hp : p (gt l (ix s1)) = false := by simpa [h] using h1.symm
    refine .inr ⟨h, hp, ?_⟩
    rw [List.all_eq_false]
    exact ⟨_, gt_mem a1 h, by simp [hp]⟩
  · refine .inl ⟨h, ?_⟩
    rw [List.all_eq_true]
    intro x hx
    obtain ⟨j, hj, rfl⟩ := List.getElem_of_mem hx
    have := a3 j (by omega)
    rwa [gt_nat hj] at this

/-- A loop by an index that goes to its end. -/
theorem idx_loop {S : Type} {sel : S → Bool} {nx : S → S} {s0 : S} (n : Int) (ix : S → Int) (J : S → Prop) (hn : n < 1152921504606846976) (h0 : J s0) (h1 : 0 ≤ ix s0) (h2 : ix s0 ≤ n)
    (hr : ∀ s, J s → 0 ≤ ix s → ix s < n → sel s = true ∧ J (nx s) ∧ ix (nx s) = ix s + 1) (he : ∀ s, J s → ix s = n → sel s = false) : ∃ s1, itS sel nx bound s0 = some s1 ∧ J s1 ∧ ix s1 = n := by
  obtain ⟨s1, e, ⟨hJ, a1, a2⟩, hs⟩ := loop_inv (sel := sel) (nx := nx) (fun s => J s ∧ 0 ≤ ix s ∧ ix s ≤ n) (fun s => (n - ix s).toNat) (s0 := s0) ⟨h0, h1, h2⟩ (by omega) (fun s ⟨hJ, b1, b2⟩ hs => by
    by_cases h : ix s = n
    · rw [he s hJ h] at hs; cases hs
    · obtain ⟨_, g1, g2⟩ := hr s hJ b1 (by omega)
      exact ⟨⟨g1, by omega, by omega⟩, by omega⟩)
  refine ⟨s1, e, hJ, ?_⟩
  by_cases h : ix s1 = n
  · exact h
  · rw [(hr s1 hJ a1 (by omega)).1] at hs; cases hs

end Go.Proofs.Ytdlhhoejnhjbhaa.Den

/- Layer 1 (fix): small, Clamp, told plainly. -/
namespace Go.Proofs.Ytdlhhoejnhjbhaa.Den
open Go
set_option linter.unusedVariables false
set_option linter.unusedSimpArgs false

def sm (z : Int) : Bool := decide (-1099511627776 ≤ z) && decide (z ≤ 1099511627776)
theorem sm_iff {z : Int} : sm z = true ↔ -1099511627776 ≤ z ∧ z ≤ 1099511627776 := by simp [sm]

theorem small_eq (l : List Int) (hl : l.length < 1152921504606846976) : fix_small_o_c0 l = true ∧ fix_small_o_r0_0 l = l.all sm := by
  obtain ⟨s1, e, -, h0, h⟩ := all_loop (sel := fix_small_o_L0_sel l l.length) (nx := fix_small_o_L0_nx l l.length) (s0 := ⟨0⟩) l (fun s => s.c3) sm (fun _ => True) hl rfl trivial
    (fun s _ h1 h2 _ => ⟨by show wi _ = _; exact wi_eq (by omega) (by omega), trivial⟩)
    (fun s _ h1 h2 => by
      by_cases h : s.c3 < l.length
      · have hi := inb_of h1 h
        by_cases g1 : gt l s.c3 < -1099511627776
        · have : sm (gt l s.c3) = false := by simp [sm]; omega
          simp [fix_small_o_L0_sel, h, hi, g1, this]
        · by_cases g2 : 1099511627776 < gt l s.c3
          · have : sm (gt l s.c3) = false := by simp [sm]; omega
            simp [fix_small_o_L0_sel, h, hi, g1, g2, this]
          · have : sm (gt l s.c3) = true := by simp [sm]; omega
            simp [fix_small_o_L0_sel, h, hi, g1, g2, this]
      · simp [fix_small_o_L0_sel, h])
  have hok : fix_small_o_L0_ok l l.length ⟨0⟩ = true := by simp [fix_small_o_L0_ok, e]
  have hend : fix_small_o_e0 l = s1 := by simp [fix_small_o_e0, fix_small_o_L0_end, e]
  simp only [fix_small_o_c0, fix_small_o_r0_0, hok, hend, tb_eq, cond_true]
  rcases h with ⟨h1, h2⟩ | ⟨h1, h2, h3⟩
  · simp [fix_small_o_L0_c0, fix_small_o_L0_c1, h1, h2]
  · simp [fix_small_o_L0_c0, fix_small_o_L0_c1, h1, h3, inb_of h0 h1]

theorem small1 (a : Int) : fix_small_o_c0 [a] = true ∧ fix_small_o_r0_0 [a] = sm a := by simpa using small_eq [a] (by simp)
theorem small2 (a b : Int) : fix_small_o_c0 [a, b] = true ∧ fix_small_o_r0_0 [a, b] = (sm a && sm b) := by simpa using small_eq [a, b] (by simp)
theorem small3 (a b c : Int) : fix_small_o_c0 [a, b, c] = true ∧ fix_small_o_r0_0 [a, b, c] = (sm a && sm b && sm c) := by simpa [Bool.and_assoc] using small_eq [a, b, c] (by simp)

theorem Clamp_c (a b c : Int) : fix_Clamp_iii_c0 a b c = true := by simp [fix_Clamp_iii_c0, (small3 a b c).1]
theorem Clamp_r (a b c : Int) : fix_Clamp_iii_r0_0 a b c = if sm a = true ∧ sm b = true ∧ sm c = true then max b (min a c) else 0 := by
  simp only [fix_Clamp_iii_r0_0, (small3 a b c).2, tb_eq, mxI_eq, mnI_eq]
  cases sm a <;> cases sm b <;> cases sm c <;> simp

end Go.Proofs.Ytdlhhoejnhjbhaa.Den

/- The reference's functions of layer 1, told plainly: All, Floor. -/
namespace Go.Proofs.Ytdlhhoejnhjbhaa.Den
open Go
set_option linter.unusedVariables false
set_option linter.unusedSimpArgs false

theorem Small_r (z : Int) : ref01_Small_i_r0_0 z = sm z := by
  simp only [ref01_Small_i_r0_0, tb_eq, sm]; cases decide (-1099511627776 ≤ z) <;> rfl

theorem All_eq (l : List Int) (hl : l.length < 1152921504606846976) : ref01_All_o_c0 l = true ∧ ref01_All_o_r0_0 l = l.all sm := by
  obtain ⟨s1, e, -, h0, h⟩ := all_loop (sel := ref01_All_o_L0_sel l) (nx := ref01_All_o_L0_nx l) (s0 := ⟨0⟩) l (fun s => s.c2) sm (fun _ => True) hl rfl trivial
    (fun s _ h1 h2 _ => ⟨by show wi _ = _; exact wi_eq (by omega) (by omega), trivial⟩)
    (fun s _ h1 h2 => by
      by_cases h : s.c2 < l.length
      · have hi := inb_of h1 h
        simp only [ref01_All_o_L0_sel, h, hi, Small_r, tb_eq, decide_true, cond_true, Bool.true_and]
        cases sm (gt l s.c2) <;> rfl
      · simp [ref01_All_o_L0_sel, h])
  have hok : ref01_All_o_L0_ok l ⟨0⟩ = true := by simp [ref01_All_o_L0_ok, e]
  have hend : ref01_All_o_L0_end l ⟨0⟩ = s1 := by simp [ref01_All_o_L0_end, e]
  simp only [ref01_All_o_c0, ref01_All_o_r0_0, hok, hend, tb_eq, cond_true]
  rcases h with ⟨h1, h2⟩ | ⟨h1, h2, h3⟩
  · simp [ref01_All_o_L0_c0, ref01_All_o_L0_c1, h1, h2]
  · simp [ref01_All_o_L0_c0, ref01_All_o_L0_c1, h1, h3, inb_of h0 h1]

theorem all1 (a : Int) : ref01_All_o_c0 [a] = true ∧ ref01_All_o_r0_0 [a] = sm a := by simpa using All_eq [a] (by simp)
theorem all2 (a b : Int) : ref01_All_o_c0 [a, b] = true ∧ ref01_All_o_r0_0 [a, b] = (sm a && sm b) := by simpa using All_eq [a, b] (by simp)
theorem all3 (a b c : Int) : ref01_All_o_c0 [a, b, c] = true ∧ ref01_All_o_r0_0 [a, b, c] = (sm a && sm b && sm c) := by simpa [Bool.and_assoc] using All_eq [a, b, c] (by simp)

/-- Divided, floored. -/
def flo (a b : Int) : Int := if sm a = true ∧ sm b = true ∧ 1 ≤ b then a.fdiv b else 0

theorem floor_neg {n p : Int} (hp : 1 ≤ p) (hn : n < 0) : n / p = -((p - 1 - n) / p) := by
  have hp0 : 0 < p := by omega
  obtain ⟨q, hq⟩ : ∃ q, (p - 1 - n) / p = q := ⟨_, rfl⟩
  have h1 : q * p ≤ p - 1 - n := by rw [← hq]; exact Int.ediv_mul_le _ (by omega)
  have h2 : p - 1 - n < (q + 1) * p := by rw [← hq]; exact Int.lt_ediv_add_one_mul_self _ hp0
  rw [hq]
  have e1 : (q + 1) * p = q * p + p := by rw [Int.add_mul, Int.one_mul]
  have e2 : (-q) * p = -(q * p) := Int.neg_mul _ _
  have e3 : (-q + 1) * p = -(q * p) + p := by rw [Int.add_mul, Int.one_mul, e2]
  apply Int.le_antisymm
  · have : n / p < -q + 1 := by rw [Int.ediv_lt_iff_lt_mul hp0, e3]; omega
    omega
  · rw [Int.le_ediv_iff_mul_le hp0, e2]; omega

theorem Floor_c (a b : Int) : ref01_Floor_ii_c0 a b = true := by
  simp only [ref01_Floor_ii_c0, (all2 a b).1, (all2 a b).2, tb_eq, cond_true]
  cases sm a && sm b
  · rfl
  · by_cases h : b < 1
    · simp [h]
    · have : ((b : Int) == 0) = false := by simp; omega
      simp [h, this]

theorem Floor_r (a b : Int) : ref01_Floor_ii_r0_0 a b = flo a b := by
  simp only [ref01_Floor_ii_r0_0, (all2 a b).2, tb_eq, flo]
  cases h1 : sm a <;> cases h2 : sm b <;> simp
  rw [sm_iff] at h1 h2
  by_cases hb : b < 1
  · have : ¬ (1 ≤ b) := by omega
    simp [hb, this]
  · have hb1 : 1 ≤ b := by omega
    have hf : a.fdiv b = a / b := Int.fdiv_eq_ediv_of_nonneg _ (by omega)
    by_cases ha : 0 ≤ a
    · have e : quoI .i64 a b = a / b := by
        unfold quoI
        rw [Int.tdiv_eq_ediv_of_nonneg ha]
        have := Int.ediv_nonneg ha (show 0 ≤ b by omega)
        have := Int.ediv_le_self b ha
        exact wrap64 (by omega) (by omega)
      simp [hb, hb1, ha, hf, e]
    · have w1 : wi (b - 1) = b - 1 := wi_eq (by omega) (by omega)
      have w2 : wi (b - 1 - a) = b - 1 - a := wi_eq (by omega) (by omega)
      have n1 := Int.ediv_nonneg (show 0 ≤ b - 1 - a by omega) (show 0 ≤ b by omega)
      have n2 := Int.ediv_le_self b (show 0 ≤ b - 1 - a by omega)
      have e : quoI .i64 (b - 1 - a) b = (b - 1 - a) / b := by
        unfold quoI
        rw [Int.tdiv_eq_ediv_of_nonneg (show 0 ≤ b - 1 - a by omega)]
        exact wrap64 (by omega) (by omega)
      have w3 : wi (-((b - 1 - a) / b)) = -((b - 1 - a) / b) := wi_eq (by omega) (by omega)
      have fn := floor_neg (n := a) hb1 (by omega)
      simp [hb, hb1, ha, hf, w1, w2, e, w3, fn]

end Go.Proofs.Ytdlhhoejnhjbhaa.Den

/- Layer 1: Floor. -/
namespace Go.Proofs.Ytdlhhoejnhjbhaa.Den
open Go
set_option linter.unusedVariables false
set_option linter.unusedSimpArgs false

theorem ediv_is {a b k r : Int} (hb : 0 < b) (e : a = r + k * b) (h1 : 0 ≤ r) (h2 : r < b) : a / b = k := by
  rw [e, Int.add_mul_ediv_right _ _ (by omega), Int.ediv_eq_zero_of_lt h1 h2]; omega

theorem fFloor_c (a b : Int) : fix_Floor_ii_c0 a b = true := by
  simp only [fix_Floor_ii_c0, (small2 a b).1, (small2 a b).2, tb_eq, cond_true]
  cases sm a && sm b
  · rfl
  · by_cases h : b < 1
    · simp [h]
    · have : ((b : Int) == 0) = false := by simp; omega
      simp [h, this]

theorem fFloor_r (a b : Int) : fix_Floor_ii_r0_0 a b = flo a b := by
  simp only [fix_Floor_ii_r0_0, (small2 a b).2, tb_eq, flo]
  cases h1 : sm a <;> cases h2 : sm b <;> simp
  rw [sm_iff] at h1 h2
  by_cases hb : b < 1
  · have : ¬ (1 ≤ b) := by omega
    simp [hb, this]
  · have hb1 : 1 ≤ b := by omega
    have hf : a.fdiv b = a / b := Int.fdiv_eq_ediv_of_nonneg _ (by omega)
    have hdm := Int.mul_tdiv_add_tmod a b
    have q1 : -1099511627776 ≤ a.tdiv b ∧ a.tdiv b ≤ 1099511627776 := by
      by_cases ha : 0 ≤ a
      · rw [Int.tdiv_eq_ediv_of_nonneg ha]
        have := Int.ediv_nonneg ha (show 0 ≤ b by omega)
        have := Int.ediv_le_self b ha
        omega
      · have e : a.tdiv b = -((-a).tdiv b) := by rw [Int.neg_tdiv]; omega
        rw [e, Int.tdiv_eq_ediv_of_nonneg (show 0 ≤ -a by omega)]
        have := Int.ediv_nonneg (show 0 ≤ -a by omega) (show 0 ≤ b by omega)
        have := Int.ediv_le_self b (show 0 ≤ -a by omega)
        omega
    have e : quoI .i64 a b = a.tdiv b := by unfold quoI; exact wrap64 (by omega) (by omega)
    have w : wi (a.tdiv b - 1) = a.tdiv b - 1 := wi_eq (by omega) (by omega)
    have hm1 : a.tmod b < b := Int.tmod_lt_of_pos a (by omega)
    have hm2 : -b < a.tmod b := by
      have := Int.lt_tmod_of_pos a (show 0 < b by omega); omega
    simp only [hb, hb1, decide_false, cond_false, if_true, e, remI, w, hf]
    by_cases hneg : a.tmod b < 0
    · have : a / b = a.tdiv b - 1 := ediv_is (r := a.tmod b + b) (by omega) (by rw [Int.sub_mul, Int.mul_comm (a.tdiv b)]; omega) (by omega) (by omega)
      simp [hneg, this]
    · have : a / b = a.tdiv b := ediv_is (r := a.tmod b) (by omega) (by rw [Int.mul_comm (a.tdiv b)]; omega) (by omega) (by omega)
      simp [hneg, this]

end Go.Proofs.Ytdlhhoejnhjbhaa.Den

/- Plain laws on lists and loops, for all seats. -/
namespace Go.Proofs.Ytdlhhoejnhjbhaa.Den
open Go
set_option linter.unusedVariables false
set_option linter.unusedSimpArgs false

/-- A loop whose states are known one by one. -/
theorem loop_seq {S : Type} {sel : S → Bool} {nx : S → S} (st : Nat → S) (n : Nat) (hb : n < 1152921504606846976) (hn : ∀ k, k < n → sel (st k) = true ∧ nx (st k) = st (k + 1)) (he : sel (st n) = false) : itS sel nx bound (st 0) = some (st n) := by
  have key : ∀ (d N : Nat), d ≤ n → d < N → itS sel nx N (st (n - d)) = some (st n) := by
    intro d
    induction d with
    | zero =>
      intro N _ hN
      obtain ⟨N, rfl⟩ : ∃ M, N = M + 1 := ⟨N - 1, by omega⟩
      simp only [Nat.sub_zero, itS, he]
    | succ d ih =>
      intro N h1 hN
      obtain ⟨N, rfl⟩ : ∃ M, N = M + 1 := ⟨N - 1, by omega⟩
      obtain ⟨g1, g2⟩ := hn (n - (d + 1)) (by omega)
      simp only [itS, g1, g2]
      rw [show n - (d + 1) + 1 = n - d by omega]
      exact ih N (by omega) (by omega)
  have := key n bound (Nat.le_refl _) (by unfold bound; omega)
  rwa [Nat.sub_self] at this

theorem gt_zip {l k : List Int} (h : l.length = k.length) {i : Int} (h1 : 0 ≤ i) (h2 : i < l.length) : gt (l.zip k) i = (gt l i, gt k i) := by
  rw [gt_getElem h1 (by rw [List.length_zip]; omega), gt_getElem h1 (by omega), gt_getElem h1 (by omega), List.getElem_zip]

theorem zip_all : ∀ {l k : List Int}, l.length = k.length → ((l.zip k).all fun p => p.1 == p.2) = decide (l = k)
  | [], [], _ => by simp
  | x :: l, y :: k, h => by
    rw [List.zip_cons_cons, List.all_cons, zip_all (by simpa using h), Bool.eq_iff_iff]
    simp
  | [], _ :: _, h => by simp at h
  | _ :: _, [], h => by simp at h

/-- A loop that goes on while two lists are alike. -/
theorem eq_loop {S : Type} {sel : S → Bool} {nx : S → S} {s0 : S} {l k : List Int} (hlk : l.length = k.length) (ix : S → Int) (hl : l.length < 1152921504606846976) (h0 : ix s0 = 0)
    (hnx : ∀ s, 0 ≤ ix s → ix s < l.length → ix (nx s) = ix s + 1) (hsel : ∀ s, 0 ≤ ix s → ix s ≤ l.length → sel s = (decide (ix s < l.length) && (gt l (ix s) == gt k (ix s)))) :
    ∃ s1, itS sel nx bound s0 = some s1 ∧ 0 ≤ ix s1 ∧ ((ix s1 = l.length ∧ l = k) ∨ (ix s1 < l.length ∧ (gt l (ix s1) == gt k (ix s1)) = false ∧ l ≠ k)) := by
  have hz : (l.zip k).length = l.length := by rw [List.length_zip]; omega
  obtain ⟨s1, e, -, g0, g⟩ := all_loop (sel := sel) (nx := nx) (s0 := s0) (l.zip k) ix (fun p => p.1 == p.2) (fun _ => True) (by omega) h0 trivial
    (fun s _ a1 a2 _ => ⟨hnx s a1 (by omega), trivial⟩)
    (fun s _ a1 a2 => by
      rw [hsel s a1 (by omega), hz]
      by_cases h : ix s < l.length
      · rw [gt_zip hlk a1 h]
      · simp [h])
  rw [zip_all hlk, hz] at g
  refine ⟨s1, e, g0, ?_⟩
  rcases g with ⟨a, b⟩ | ⟨a, b, c⟩
  · exact .inl ⟨a, by simpa using b⟩
  · rw [gt_zip hlk g0 a] at b
    exact .inr ⟨a, b, by simpa using c⟩

theorem sub_nat {α : Type} (l : List α) (a b : Nat) : sub l (a : Int) (b : Int) = (l.drop a).take (b - a) := by
  unfold sub; congr 1; omega

theorem gt_append_left {α : Type} [Inhabited α] {l k : List α} {i : Int} (h : 0 ≤ i) (h2 : i < l.length) : gt (l ++ k) i = gt l i := by
  rw [gt_getElem h (by rw [List.length_append]; omega), gt_getElem h (by omega), List.getElem_append_left]

theorem take_succ_gt {α : Type} [Inhabited α] {l : List α} {k : Nat} (h : k < l.length) : l.take (k + 1) = l.take k ++ [gt l (k : Int)] := by
  rw [gt_nat h, List.take_succ_eq_append_getElem h]

/-! ### numbers -/

theorem u8w (x : Int) : IntKind.u8.wrap x = x % 256 := by simp [IntKind.wrap, IntKind.bits, IntKind.signed]
theorem u16w (x : Int) : IntKind.u16.wrap x = x % 65536 := by simp [IntKind.wrap, IntKind.bits, IntKind.signed]
theorem u32w (x : Int) : IntKind.u32.wrap x = x % 4294967296 := by simp [IntKind.wrap, IntKind.bits, IntKind.signed]
theorem i32w (x : Int) : IntKind.i32.wrap x = if 2147483648 ≤ x % 4294967296 then x % 4294967296 - 4294967296 else x % 4294967296 := by
  simp [IntKind.wrap, IntKind.bits, IntKind.signed]

theorem shr_i64 (x : Int) (k : Nat) (hk : k ≤ 64) : shrI .i64 x (k : Int) = x / (2 ^ k : Int) := by
  unfold shrI
  have : min (k : Int).toNat IntKind.i64.bits = k := by simp [IntKind.bits]; omega
  rw [this]
  exact Int.fdiv_eq_ediv_of_nonneg _ (by exact_mod_cast Nat.zero_le _)

theorem quo_i64 {x y : Int} (h1 : 0 ≤ x) (h2 : 0 ≤ y) (h3 : x ≤ 9223372036854775807) : quoI .i64 x y = x / y := by
  unfold quoI
  rw [Int.tdiv_eq_ediv_of_nonneg h1]
  have a := Int.ediv_nonneg h1 h2
  have b := Int.ediv_le_self y h1
  exact wrap64 (by omega) (by omega)

theorem rem_i64 {x y : Int} (h1 : 0 ≤ x) : remI .i64 x y = x % y := by
  unfold remI; exact Int.tmod_eq_emod_of_nonneg h1

theorem bvOf {n : Nat} {a : Nat} (h : a < 2 ^ n) : (BitVec.ofInt n (a : Int)) = BitVec.ofNat n a := by
  simp

theorem or_nat {k : IntKind} {a b : Nat} (ha : a < 2 ^ k.bits) (hb : b < 2 ^ k.bits) : orI k (a : Int) (b : Int) = k.wrap ((a ||| b : Nat) : Int) := by
  unfold orI
  rw [bvOf ha, bvOf hb, BitVec.toNat_or, BitVec.toNat_ofNat, BitVec.toNat_ofNat, Nat.mod_eq_of_lt ha, Nat.mod_eq_of_lt hb]

theorem or_add {a b i : Nat} (hb : b < 2 ^ i) : (2 ^ i * a) ||| b = 2 ^ i * a + b := by
  exact (Nat.two_pow_add_eq_or_of_lt hb a).symm

end Go.Proofs.Ytdlhhoejnhjbhaa.Den

/- The functions of layer 1 (fix), told plainly. -/
namespace Go.Proofs.Ytdlhhoejnhjbhaa.Den
open Go
set_option linter.unusedVariables false
set_option linter.unusedSimpArgs false

theorem Shift_c (a b : Int) : fix_Shift_ii_c0 a b = true := by
  simp only [fix_Shift_ii_c0, (small1 a).1, (small1 a).2, tb_eq, cond_true]
  cases sm a <;> simp
  omega

/-- Divided by a power of two, floored. -/
def shf (a b : Int) : Int := if sm a = true ∧ 0 ≤ b ∧ b ≤ 40 then a.fdiv (2 ^ b.toNat) else 0

theorem Shift_r (a b : Int) : fix_Shift_ii_r0_0 a b = shf a b := by
  simp only [fix_Shift_ii_r0_0, (small1 a).2, tb_eq, shf]
  cases h : sm a
  · simp
  · by_cases h1 : b < 0
    · simp [h1]; omega
    · by_cases h2 : 40 < b
      · simp [h1, h2]; omega
      · have h3 : min b.toNat 64 = b.toNat := by omega
        have h4 : 0 ≤ b ∧ b ≤ 40 := by omega
        simp [h1, h2, h4, shrI, IntKind.bits, h3]

theorem Apart_c (a b : Int) : fix_Apart_ii_c0 a b = true := by simp [fix_Apart_ii_c0, (small2 a b).1]

def apt (a b : Int) : Int := if sm a = true ∧ sm b = true then max (a - b) (b - a) else 0

theorem Apart_r (a b : Int) : fix_Apart_ii_r0_0 a b = apt a b := by
  simp only [fix_Apart_ii_r0_0, (small2 a b).2, tb_eq, apt]
  cases h1 : sm a <;> cases h2 : sm b <;> simp
  rw [sm_iff] at h1 h2
  rw [mxI_eq, wi_eq (by omega) (by omega), wi_eq (by omega) (by omega)]

end Go.Proofs.Ytdlhhoejnhjbhaa.Den

/- The reference's functions of layer 1, told plainly. -/
namespace Go.Proofs.Ytdlhhoejnhjbhaa.Den
open Go
set_option linter.unusedVariables false
set_option linter.unusedSimpArgs false

theorem pow_bound {i : Int} (h1 : 0 ≤ i) (h2 : i ≤ 40) : (2 : Int) ^ i.toNat ≤ 1099511627776 ∧ (1 : Int) ≤ 2 ^ i.toNat := by
  obtain ⟨k, hk⟩ : ∃ k : Nat, i.toNat = k := ⟨_, rfl⟩
  have hk40 : k ≤ 40 := by omega
  rw [hk]
  have e : (2 : Int) ^ k = ((2 ^ k : Nat) : Int) := by simp
  rw [e]
  have a1 : 2 ^ k ≤ 2 ^ 40 := Nat.pow_le_pow_right (by decide) hk40
  have a2 : 1 ≤ 2 ^ k := Nat.one_le_two_pow
  omega

theorem rShift_loop {b : Int} (h : 0 ≤ b ∧ b ≤ 40) : itS (ref01_Shift_ii_L0_sel b) (ref01_Shift_ii_L0_nx b) bound ⟨1, 0⟩ = some ⟨2 ^ b.toNat, b⟩ := by
  refine loop_fun (sel := ref01_Shift_ii_L0_sel b) (nx := ref01_Shift_ii_L0_nx b) (fun s => 0 ≤ s.c3 ∧ s.c3 ≤ b ∧ s.c2 = 2 ^ s.c3.toNat) (fun s => (b - s.c3).toNat) (fun _ => ⟨2 ^ b.toNat, b⟩) ⟨by decide, h.1, rfl⟩ (by simp only; omega) ?_ ?_
  · rintro ⟨p, i⟩ ⟨h1, h2, h3⟩ hs
    simp [ref01_Shift_ii_L0_sel] at hs h1 h2 h3
    have : i = b := by omega
    subst this; subst h3; rfl
  · rintro ⟨p, i⟩ ⟨h1, h2, h3⟩ hs
    simp [ref01_Shift_ii_L0_sel] at hs h1 h2 h3
    have h4 := pow_bound h1 (by omega)
    have w1 : wi (i + 1) = i + 1 := wi_eq (by omega) (by omega)
    have w2 : wi (2 * p) = 2 * p := wi_eq (by omega) (by omega)
    simp only [ref01_Shift_ii_L0_nx, w1, w2]
    refine ⟨⟨by omega, by omega, ?_⟩, by omega, trivial⟩
    rw [show (i + 1).toNat = i.toNat + 1 by omega, Int.pow_succ, h3]; omega

theorem rShift_c (a b : Int) : ref01_Shift_ii_c0 a b = true := by
  simp only [ref01_Shift_ii_c0, Small_r, Floor_c, tb_eq]
  cases sm a
  · rfl
  · by_cases h1 : b < 0
    · simp [h1]
    · by_cases h2 : 40 < b
      · simp [h1, h2]
      · have e := rShift_loop (b := b) (by omega)
        have : ref01_Shift_ii_L0_ok b ⟨1, 0⟩ = true := by simp [ref01_Shift_ii_L0_ok, e]
        simp [h1, h2, this]

theorem rShift_r (a b : Int) : ref01_Shift_ii_r0_0 a b = shf a b := by
  simp only [ref01_Shift_ii_r0_0, Small_r, tb_eq, shf, Floor_r]
  cases h : sm a
  · simp
  · by_cases h1 : b < 0
    · simp [h1]; omega
    · by_cases h2 : 40 < b
      · simp [h1, h2]; omega
      · have e := rShift_loop (b := b) (by omega)
        have e0 : ref01_Shift_ii_e0 b = 2 ^ b.toNat := by simp [ref01_Shift_ii_e0, ref01_Shift_ii_L0_end, e]
        have hp := pow_bound (i := b) (by omega) (by omega)
        have hsm : sm (2 ^ b.toNat) = true := sm_iff.2 (by omega)
        have h4 : 0 ≤ b ∧ b ≤ 40 := by omega
        simp [h1, h2, e0, flo, h, hsm, h4, hp.2]

end Go.Proofs.Ytdlhhoejnhjbhaa.Den

namespace Go.Proofs.Ytdlhhoejnhjbhaa.Den
open Go Go.Proofs
set_option maxRecDepth 100000
set_option maxHeartbeats 4000000
set_option linter.unusedVariables false
set_option linter.unusedSimpArgs false

theorem law01_alive_t0 : cl E0 33 [] [] = some ([(V.d (.bool true))], []) := cl_of (n := 60) (by kernel_rfl)

end Go.Proofs.Ytdlhhoejnhjbhaa.Den

namespace Go.Proofs.Ytdlhhoejnhjbhaa.Den
open Go Go.Proofs
set_option maxRecDepth 100000
set_option maxHeartbeats 4000000
set_option linter.unusedVariables false
set_option linter.unusedSimpArgs false

def law01_FixFloors_S0_c0 (x0 : Int) : Bool := (bif tb (decide (x0 < (-1099511627776))) then true else (bif tb (decide (1099511627776 < x0)) then true else false))

theorem law01_FixFloors_S0_t0 (x0 : Int) (x1 : Int) (x2 : Int) : law01_FixFloors_S0_c0 x0 = true → segG (runC E0 (cl E0) S8_0) [0, 1, 2] [6] [0, 1, 2] 0 ([(V.d (.int .i64 x0)), (V.d (.int .u32 x1)), (V.d (.int .u8 x2))], []) = some (.ret, ([(V.d (.bool true))], [])) := by
  unfold law01_FixFloors_S0_c0
  cases h1 : tb (decide (x0 < (-1099511627776)))
  · cases h2 : tb (decide (1099511627776 < x0))
    · intro g0
      exact absurd g0 ft
    · intro g0
      exact seg_walk [.b (tbE h1), .b (tbE h2), .c (law01_alive_t0)] (by kernel_rfl)
  · intro g0
    exact seg_walk [.b (tbE h1), .c (law01_alive_t0)] (by kernel_rfl)

theorem law01_FixFloors_S0_t1 (x0 : Int) (x1 : Int) (x2 : Int) : law01_FixFloors_S0_c0 x0 = false → segG (runC E0 (cl E0) S8_0) [0, 1, 2] [6] [0, 1, 2] 0 ([(V.d (.int .i64 x0)), (V.d (.int .u32 x1)), (V.d (.int .u8 x2))], []) = some (.normal, ([(V.d (.int .i64 x0)), (V.d (.int .u32 x1)), (V.d (.int .u8 x2))], [])) := by
  unfold law01_FixFloors_S0_c0
  cases h1 : tb (decide (x0 < (-1099511627776)))
  · cases h2 : tb (decide (1099511627776 < x0))
    · intro g0
      exact seg_walk [.b (tbE h1), .b (tbE h2)] (by kernel_rfl)
    · intro g0
      exact absurd g0 tf
  · intro g0
    exact absurd g0 tf

def law01_FixFloors_S1_c0 (x0 : Int) (x2 : Int) (x3 : Int) : Bool := (bif tb (decide (x0 < (wi (x3 * x2)))) then true else (bif tb (decide (x2 ≤ (wi (x0 - (wi (x3 * x2)))))) then true else false))

theorem law01_FixFloors_S1_t0 (x0 : Int) (x1 : Int) (x2 : Int) (x3 : Int) : law01_FixFloors_S1_c0 x0 x2 x3 = true → segG (runC E0 (cl E0) S8_1) [0, 2, 7, 8] [6] [0, 2, 7, 8] 0 ([(V.d (.int .i64 x0)), (V.d (.int .u8 x1)), (V.d (.int .i64 x2)), (V.d (.int .i64 x3))], []) = some (.ret, ([(V.d (.bool false))], [])) := by
  unfold law01_FixFloors_S1_c0
  cases h1 : tb (decide (x0 < (wi (x3 * x2))))
  · cases h2 : tb (decide (x2 ≤ (wi (x0 - (wi (x3 * x2))))))
    · intro g0
      exact absurd g0 ft
    · intro g0
      exact seg_walk [.b (tbE h1), .b (tbE h2)] (by kernel_rfl)
  · intro g0
    exact seg_walk [.b (tbE h1)] (by kernel_rfl)

theorem law01_FixFloors_S1_t1 (x0 : Int) (x1 : Int) (x2 : Int) (x3 : Int) : law01_FixFloors_S1_c0 x0 x2 x3 = false → segG (runC E0 (cl E0) S8_1) [0, 2, 7, 8] [6] [0, 2, 7, 8] 0 ([(V.d (.int .i64 x0)), (V.d (.int .u8 x1)), (V.d (.int .i64 x2)), (V.d (.int .i64 x3))], []) = some (.normal, ([(V.d (.int .i64 x0)), (V.d (.int .u8 x1)), (V.d (.int .i64 x2)), (V.d (.int .i64 x3))], [])) := by
  unfold law01_FixFloors_S1_c0
  cases h1 : tb (decide (x0 < (wi (x3 * x2))))
  · cases h2 : tb (decide (x2 ≤ (wi (x0 - (wi (x3 * x2))))))
    · intro g0
      exact seg_walk [.b (tbE h1), .b (tbE h2)] (by kernel_rfl)
    · intro g0
      exact absurd g0 tf
  · intro g0
    exact absurd g0 tf

structure law01_FixFloors_L2_s0 where
  c4 : Int
  c5 : Int
  deriving Inhabited

def law01_FixFloors_L2_enc (x0 : Int) (x1 : Int) (x2 : Int) (x3 : Int) (x4 : Int) (x5 : Int) (s0 : law01_FixFloors_L2_s0) : List V × Mem := ([(V.d (.int .i64 x0)), (V.d (.int .i64 x1)), (V.d (.int .i64 x2)), (V.d (.int .i64 x3)), (V.d (.int .i64 s0.c4)), (V.d (.int .i64 s0.c5))], [])

def law01_FixFloors_L2_sel (x3 : Int) (s0 : law01_FixFloors_L2_s0) : Bool := (bif tb (decide (s0.c5 < x3)) then true else false)

def law01_FixFloors_L2_nx (x3 : Int) (s0 : law01_FixFloors_L2_s0) : law01_FixFloors_L2_s0 := ⟨(wi (2 * s0.c4)), (wi (s0.c5 + 1))⟩

def law01_FixFloors_L2_ok (x3 : Int) (s0 : law01_FixFloors_L2_s0) : Bool := (itS (law01_FixFloors_L2_sel x3) (law01_FixFloors_L2_nx x3) bound s0).isSome
def law01_FixFloors_L2_end (x3 : Int) (s0 : law01_FixFloors_L2_s0) : law01_FixFloors_L2_s0 := (itS (law01_FixFloors_L2_sel x3) (law01_FixFloors_L2_nx x3) bound s0).getD default

theorem law01_FixFloors_L2_go (x0 : Int) (x1 : Int) (x2 : Int) (x3 : Int) (x4 : Int) (x5 : Int) (s0 : law01_FixFloors_L2_s0) : law01_FixFloors_L2_sel x3 s0 = true → (roundG (runC E0 (cl E0) L8_2) [0, 7, 8, 9, 10, 11] [0, 7, 8, 9, 10] 0) (law01_FixFloors_L2_enc x0 x1 x2 x3 x4 x5 s0) = some (.normal, law01_FixFloors_L2_enc x0 x1 x2 x3 x4 x5 (law01_FixFloors_L2_nx x3 s0)) := by
  unfold law01_FixFloors_L2_sel law01_FixFloors_L2_nx
  cases h1 : tb (decide (s0.c5 < x3))
  · intro g0
    exact absurd g0 ft
  · intro _
    exact round_walk [.b (tbE h1)] (by kernel_rfl)

theorem law01_FixFloors_L2_x0 (x0 : Int) (x1 : Int) (x2 : Int) (x3 : Int) (x4 : Int) (x5 : Int) (s0 : law01_FixFloors_L2_s0) : law01_FixFloors_L2_sel x3 s0 = false → (roundG (runC E0 (cl E0) L8_2) [0, 7, 8, 9, 10, 11] [0, 7, 8, 9, 10] 0) (law01_FixFloors_L2_enc x0 x1 x2 x3 x4 x5 s0) = some ((.exit 0), ([(V.d (.int .i64 x0)), (V.d (.int .i64 x1)), (V.d (.int .i64 x2)), (V.d (.int .i64 x3)), (V.d (.int .i64 s0.c4))], [])) := by
  unfold law01_FixFloors_L2_sel
  cases h1 : tb (decide (s0.c5 < x3))
  · intro g0
    exact round_walk [.b (tbE h1)] (by kernel_rfl)
  · intro g0
    exact absurd g0 tf

theorem law01_FixFloors_L2_f0_0 (x0 : Int) (x1 : Int) (x2 : Int) (x3 : Int) (x4 : Int) (x5 : Int) (s : law01_FixFloors_L2_s0) (hok : law01_FixFloors_L2_ok x3 s = true) : loopG (roundG (runC E0 (cl E0) L8_2) [0, 7, 8, 9, 10, 11] [0, 7, 8, 9, 10] 0) bound (law01_FixFloors_L2_enc x0 x1 x2 x3 x4 x5 s) = some ((.exit 0), ([(V.d (.int .i64 x0)), (V.d (.int .i64 x1)), (V.d (.int .i64 x2)), (V.d (.int .i64 x3)), (V.d (.int .i64 ((law01_FixFloors_L2_end x3 s).c4)))], [])) := by
  have e : itS (law01_FixFloors_L2_sel x3) (law01_FixFloors_L2_nx x3) bound s = some (law01_FixFloors_L2_end x3 s) := itS_get hok
  have f := itS_false e
  exact loop_it (law01_FixFloors_L2_go x0 x1 x2 x3 x4 x5) bound s _ _ _ e (fun h => by cases h) (law01_FixFloors_L2_x0 x0 x1 x2 x3 x4 x5 (law01_FixFloors_L2_end x3 s) f )

def law01_FixFloors_S3_c0 (x3 : Int) : Bool := (bif tb (law01_FixFloors_L2_ok x3 (⟨1, 0⟩ : law01_FixFloors_L2_s0)) then true else false)

theorem law01_FixFloors_S3_t0 (x0 : Int) (x1 : Int) (x2 : Int) (x3 : Int) : law01_FixFloors_S3_c0 x3 = true → segG (runC E0 (cl E0) S8_3) [0, 7, 8, 9, 10] [] [0, 7, 8, 9, 10] 0 ([(V.d (.int .i64 x0)), (V.d (.int .i64 x1)), (V.d (.int .i64 x2)), (V.d (.int .i64 x3)), (V.d (.int .i64 1))], []) = some (.normal, ([(V.d (.int .i64 x0)), (V.d (.int .i64 x1)), (V.d (.int .i64 x2)), (V.d (.int .i64 x3)), (V.d (.int .i64 ((law01_FixFloors_L2_end x3 (⟨1, 0⟩ : law01_FixFloors_L2_s0)).c4)))], [])) := by
  unfold law01_FixFloors_S3_c0
  cases h1 : tb (law01_FixFloors_L2_ok x3 (⟨1, 0⟩ : law01_FixFloors_L2_s0))
  · intro g0
    exact absurd g0 ft
  · intro g0
    exact seg_walk [.l (law01_FixFloors_L2_f0_0 x0 x1 x2 x3 1 0 (⟨1, 0⟩ : law01_FixFloors_L2_s0) (tbE h1))] (by kernel_rfl)

def law01_FixFloors_e0 (x0 : Int) (x1 : Int) : Int := (fix_Floor_ii_r0_0 x0 (wi ((wi (remI .u32 x1 1048576)) + 1)))

def law01_FixFloors_e1 (x2 : Int) : Int := ((law01_FixFloors_L2_end (wi (remI .u8 x2 20)) (⟨1, 0⟩ : law01_FixFloors_L2_s0)).c4)

def law01_FixFloors_e2 (x1 : Int) (x2 : Int) : Int := wi ((wi ((wi (remI .u32 x1 1048576)) + 1)) * ((law01_FixFloors_L2_end (wi (remI .u8 x2 20)) (⟨1, 0⟩ : law01_FixFloors_L2_s0)).c4))

def law01_FixFloors_c0 (x0 : Int) (x1 : Int) (x2 : Int) : Bool := (bif tb (law01_FixFloors_S0_c0 x0) then true else (bif tb (fix_Floor_ii_c0 x0 (wi ((wi (remI .u32 x1 1048576)) + 1))) then (bif tb (law01_FixFloors_S1_c0 x0 (wi ((wi (remI .u32 x1 1048576)) + 1)) (law01_FixFloors_e0 x0 x1)) then true else (bif tb (law01_FixFloors_S3_c0 (wi (remI .u8 x2 20))) then (bif tb (fix_Shift_ii_c0 x0 (wi (remI .u8 x2 20))) then (bif tb (fix_Floor_ii_c0 x0 (law01_FixFloors_e1 x2)) then (bif tb (((fix_Shift_ii_r0_0 x0 (wi (remI .u8 x2 20))) : Int) != (fix_Floor_ii_r0_0 x0 (law01_FixFloors_e1 x2))) then true else (bif tb (fix_Floor_ii_c0 (law01_FixFloors_e0 x0 x1) (law01_FixFloors_e1 x2)) then (bif tb (fix_Floor_ii_c0 x0 (law01_FixFloors_e2 x1 x2)) then true else false) else false)) else false) else false) else false)) else false))

def law01_FixFloors_r0_0 (x0 : Int) (x1 : Int) (x2 : Int) : Bool := (bif tb (law01_FixFloors_S0_c0 x0) then true else (bif tb (law01_FixFloors_S1_c0 x0 (wi ((wi (remI .u32 x1 1048576)) + 1)) (law01_FixFloors_e0 x0 x1)) then false else (bif tb (((fix_Shift_ii_r0_0 x0 (wi (remI .u8 x2 20))) : Int) != (fix_Floor_ii_r0_0 x0 (law01_FixFloors_e1 x2))) then false else (((fix_Floor_ii_r0_0 (law01_FixFloors_e0 x0 x1) (law01_FixFloors_e1 x2)) : Int) == (fix_Floor_ii_r0_0 x0 (law01_FixFloors_e2 x1 x2))))))

theorem law01_FixFloors_t0 (x0 : Int) (x1 : Int) (x2 : Int) : law01_FixFloors_c0 x0 x1 x2 = true → cl E0 8 [(V.d (.int .i64 x0)), (V.d (.int .u32 x1)), (V.d (.int .u8 x2))] [] = some ([(V.d (.bool (law01_FixFloors_r0_0 x0 x1 x2)))], []) := by
  unfold law01_FixFloors_c0 law01_FixFloors_r0_0
  cases h1 : tb (law01_FixFloors_S0_c0 x0)
  · cases h2 : tb (fix_Floor_ii_c0 x0 (wi ((wi (remI .u32 x1 1048576)) + 1)))
    · intro g0
      exact absurd g0 ft
    · cases h3 : tb (law01_FixFloors_S1_c0 x0 (wi ((wi (remI .u32 x1 1048576)) + 1)) (law01_FixFloors_e0 x0 x1))
      · cases h4 : tb (law01_FixFloors_S3_c0 (wi (remI .u8 x2 20)))
        · intro g0
          exact absurd g0 ft
        · cases h5 : tb (fix_Shift_ii_c0 x0 (wi (remI .u8 x2 20)))
          · intro g0
            exact absurd g0 ft
          · cases h6 : tb (fix_Floor_ii_c0 x0 (law01_FixFloors_e1 x2))
            · intro g0
              exact absurd g0 ft
            · cases h7 : tb (((fix_Shift_ii_r0_0 x0 (wi (remI .u8 x2 20))) : Int) != (fix_Floor_ii_r0_0 x0 (law01_FixFloors_e1 x2)))
              · cases h8 : tb (fix_Floor_ii_c0 (law01_FixFloors_e0 x0 x1) (law01_FixFloors_e1 x2))
                · intro g0
                  exact absurd g0 ft
                · cases h9 : tb (fix_Floor_ii_c0 x0 (law01_FixFloors_e2 x1 x2))
                  · intro g0
                    exact absurd g0 ft
                  · intro g0
                    exact w8 [.s (law01_FixFloors_S0_t1 x0 x1 x2 (tbE h1)), .c (fix_Floor_ii_t0 x0 (wi ((wi (remI .u32 x1 1048576)) + 1)) (tbE h2)), .s (law01_FixFloors_S1_t1 x0 x2 (wi ((wi (remI .u32 x1 1048576)) + 1)) (law01_FixFloors_e0 x0 x1) (tbE h3)), .s (law01_FixFloors_S3_t0 x0 (wi ((wi (remI .u32 x1 1048576)) + 1)) (law01_FixFloors_e0 x0 x1) (wi (remI .u8 x2 20)) (tbE h4)), .c (fix_Shift_ii_t0 x0 (wi (remI .u8 x2 20)) (tbE h5)), .c (fix_Floor_ii_t0 x0 (law01_FixFloors_e1 x2) (tbE h6)), .b (tbE h7), .c (law01_alive_t0), .k true, .c (fix_Floor_ii_t0 (law01_FixFloors_e0 x0 x1) (law01_FixFloors_e1 x2) (tbE h8)), .c (fix_Floor_ii_t0 x0 (law01_FixFloors_e2 x1 x2) (tbE h9))] (by kernel_rfl)
              · intro g0
                exact w8 [.s (law01_FixFloors_S0_t1 x0 x1 x2 (tbE h1)), .c (fix_Floor_ii_t0 x0 (wi ((wi (remI .u32 x1 1048576)) + 1)) (tbE h2)), .s (law01_FixFloors_S1_t1 x0 x2 (wi ((wi (remI .u32 x1 1048576)) + 1)) (law01_FixFloors_e0 x0 x1) (tbE h3)), .s (law01_FixFloors_S3_t0 x0 (wi ((wi (remI .u32 x1 1048576)) + 1)) (law01_FixFloors_e0 x0 x1) (wi (remI .u8 x2 20)) (tbE h4)), .c (fix_Shift_ii_t0 x0 (wi (remI .u8 x2 20)) (tbE h5)), .c (fix_Floor_ii_t0 x0 (law01_FixFloors_e1 x2) (tbE h6)), .b (tbE h7)] (by kernel_rfl)
      · intro g0
        exact w8 [.s (law01_FixFloors_S0_t1 x0 x1 x2 (tbE h1)), .c (fix_Floor_ii_t0 x0 (wi ((wi (remI .u32 x1 1048576)) + 1)) (tbE h2)), .s (law01_FixFloors_S1_t0 x0 x2 (wi ((wi (remI .u32 x1 1048576)) + 1)) (law01_FixFloors_e0 x0 x1) (tbE h3))] (by kernel_rfl)
  · intro g0
    exact w8 [.s (law01_FixFloors_S0_t0 x0 x1 x2 (tbE h1))] (by kernel_rfl)

end Go.Proofs.Ytdlhhoejnhjbhaa.Den

/- Layer 1: FixFloors. -/
namespace Go.Proofs.Ytdlhhoejnhjbhaa.Den
open Go Go.Proofs
set_option linter.unusedVariables false
set_option linter.unusedSimpArgs false

theorem rem_any (k : IntKind) {x y : Int} (h : 0 ≤ x) : remI k x y = x % y := by unfold remI; exact Int.tmod_eq_emod_of_nonneg h

theorem pow_run {b : Int} (h : 0 ≤ b ∧ b ≤ 40) : itS (law01_FixFloors_L2_sel b) (law01_FixFloors_L2_nx b) bound ⟨1, 0⟩ = some ⟨2 ^ b.toNat, b⟩ := by
  have := loop_seq (sel := law01_FixFloors_L2_sel b) (nx := law01_FixFloors_L2_nx b) (fun k => ⟨2 ^ k, (k : Int)⟩) b.toNat (by omega) (fun k hk => ?_) ?_
  · have e : ((b.toNat : Nat) : Int) = b := by omega
    simp only [e] at this
    exact this
  · obtain ⟨p1, p2⟩ := pow_bound (i := (k : Int)) (by omega) (by omega)
    simp only [Int.toNat_natCast] at p1 p2
    have hlt : (k : Int) < b := by omega
    constructor
    · simp [law01_FixFloors_L2_sel, hlt, tb_eq]
    · simp only [law01_FixFloors_L2_nx]
      rw [wi_eq (by omega) (by omega), wi_eq (by omega) (by omega), Int.pow_succ]
      simp; omega
  · have : ¬ ((b.toNat : Nat) : Int) < b := by omega
    simp only [law01_FixFloors_L2_sel, tb_eq]
    rw [decide_eq_false this]; rfl

theorem flo_pos {a b : Int} (ha : -1099511627776 ≤ a ∧ a ≤ 1099511627776) (hb : 1 ≤ b ∧ b ≤ 1099511627776) : flo a b = a / b := by
  rw [flo, if_pos ⟨sm_iff.2 ha, sm_iff.2 (by omega), hb.1⟩, Int.fdiv_eq_ediv_of_nonneg _ (by omega)]

theorem div_small {a b : Int} (ha : -1099511627776 ≤ a ∧ a ≤ 1099511627776) (hb : 1 ≤ b) : -1099511627776 ≤ a / b ∧ a / b ≤ 1099511627776 := by
  constructor
  · rw [Int.le_ediv_iff_mul_le (by omega)]; omega
  · have : a / b < 1099511627776 + 1 := by
      rw [Int.ediv_lt_iff_lt_mul (by omega)]
      have : (1099511627776 + 1) * 1 ≤ (1099511627776 + 1) * b := Int.mul_le_mul_of_nonneg_left hb (by omega)
      omega
    omega

theorem pure_FixFloors (x0 : Int) (x1 : Int) (x2 : Int) (wx0 : WfI .i64 x0) (wx1 : WfI .u32 x1) (wx2 : WfI .u8 x2) : law01_FixFloors_c0 x0 x1 x2 = true ∧ (law01_FixFloors_r0_0 x0 x1 x2) = true := by
  have h1 := wfI_u32 wx1
  have h2 := wfI_u8 wx2
  by_cases hs : -1099511627776 ≤ x0 ∧ x0 ≤ 1099511627776
  · have s0 : law01_FixFloors_S0_c0 x0 = false := by
      have g1 : ¬ x0 < -1099511627776 := by omega
      have g2 : ¬ 1099511627776 < x0 := by omega
      simp [law01_FixFloors_S0_c0, g1, g2, tb_eq]
    have r1 : remI .u32 x1 1048576 = x1 % 1048576 := rem_any _ h1.1
    have r2 : remI .u8 x2 20 = x2 % 20 := rem_any _ h2.1
    have w1 : wi (wi (remI .u32 x1 1048576) + 1) = x1 % 1048576 + 1 := by rw [r1, wi_eq (x := x1 % 1048576) (by omega) (by omega), wi_eq (by omega) (by omega)]
    have w2 : wi (remI .u8 x2 20) = x2 % 20 := by rw [r2, wi_eq (by omega) (by omega)]
    obtain ⟨d, hd⟩ : ∃ d, x1 % 1048576 + 1 = d := ⟨_, rfl⟩
    obtain ⟨k, hk⟩ : ∃ k, x2 % 20 = k := ⟨_, rfl⟩
    rw [hd] at w1
    rw [hk] at w2
    have hdb : 1 ≤ d ∧ d ≤ 1048576 := by omega
    have hkb : 0 ≤ k ∧ k ≤ 19 := by omega
    have hrun := pow_run (b := k) (by omega)
    have p1 : (1 : Int) ≤ 2 ^ k.toNat ∧ (2 : Int) ^ k.toNat ≤ 524288 := by
      obtain ⟨j, hj⟩ : ∃ j : Nat, k.toNat = j := ⟨_, rfl⟩
      have hj19 : j ≤ 19 := by omega
      rw [hj]
      have key : ∀ j : Nat, j < 20 → (1 : Int) ≤ 2 ^ j ∧ (2 : Int) ^ j ≤ 524288 := by decide +kernel
      exact key j (by omega)
    obtain ⟨p, hp⟩ : ∃ p : Int, 2 ^ k.toNat = p := ⟨_, rfl⟩
    rw [hp] at hrun p1
    have ok : law01_FixFloors_L2_ok k ⟨1, 0⟩ = true := by simp only [law01_FixFloors_L2_ok, hrun]; rfl
    have en : law01_FixFloors_L2_end k ⟨1, 0⟩ = ⟨p, k⟩ := by simp only [law01_FixFloors_L2_end, hrun]; rfl
    have e1 : law01_FixFloors_e1 x2 = p := by simp only [law01_FixFloors_e1, w2, en]
    have hdp : 1 ≤ d * p ∧ d * p ≤ 549755813888 := by
      have a1 : d * p ≤ d * 524288 := Int.mul_le_mul_of_nonneg_left p1.2 (by omega)
      have a2 : d * 1 ≤ d * p := Int.mul_le_mul_of_nonneg_left p1.1 (by omega)
      omega
    have e2 : law01_FixFloors_e2 x1 x2 = d * p := by simp only [law01_FixFloors_e2, w1, w2, en]; exact wi_eq (by omega) (by omega)
    have hq := div_small hs hdb.1
    have f1 : fix_Floor_ii_r0_0 x0 d = x0 / d := by rw [fFloor_r, flo_pos hs (by omega)]
    have e0 : law01_FixFloors_e0 x0 x1 = x0 / d := by simp only [law01_FixFloors_e0, w1, f1]
    have f2 : fix_Floor_ii_r0_0 (x0 / d) p = x0 / d / p := by rw [fFloor_r, flo_pos hq (by omega)]
    have f3 : fix_Floor_ii_r0_0 x0 (d * p) = x0 / (d * p) := by rw [fFloor_r, flo_pos hs (by omega)]
    have f4 : fix_Floor_ii_r0_0 x0 p = x0 / p := by rw [fFloor_r, flo_pos hs (by omega)]
    have f5 : fix_Shift_ii_r0_0 x0 k = x0 / p := by
      rw [Shift_r, shf, if_pos ⟨sm_iff.2 hs, by omega, by omega⟩, hp, Int.fdiv_eq_ediv_of_nonneg _ (by omega)]
    have hdd : x0 / d / p = x0 / (d * p) := Int.ediv_ediv_of_nonneg (by omega)
    have hm1 := Int.ediv_mul_le x0 (show d ≠ 0 by omega)
    have hm2 := Int.lt_ediv_add_one_mul_self x0 (show 0 < d by omega)
    have hm3 : (x0 / d + 1) * d = x0 / d * d + d := by rw [Int.add_mul, Int.one_mul]
    have s1 : law01_FixFloors_S1_c0 x0 d (x0 / d) = false := by
      have w3 : wi (x0 / d * d) = x0 / d * d := wi_eq (by omega) (by omega)
      have w4 : wi (x0 - x0 / d * d) = x0 - x0 / d * d := wi_eq (by omega) (by omega)
      have g1 : ¬ x0 < x0 / d * d := by omega
      have g2 : ¬ d ≤ x0 - x0 / d * d := by omega
      simp only [law01_FixFloors_S1_c0, w3, w4, g1, g2, tb_eq]; rfl
    constructor
    · simp only [law01_FixFloors_c0, s0, w1, w2, e0, e1, e2, s1, law01_FixFloors_S3_c0, ok, fFloor_c, Shift_c, f4, f5, tb_eq]; simp
    · simp only [law01_FixFloors_r0_0, s0, w1, w2, e0, e1, e2, s1, f2, f3, f4, f5, hdd, tb_eq]; simp
  · have s0 : law01_FixFloors_S0_c0 x0 = true := by
      simp only [law01_FixFloors_S0_c0, tb_eq]
      by_cases g1 : x0 < -1099511627776
      · simp [g1]
      · have g2 : 1099511627776 < x0 := by omega
        simp [g2]
    constructor
    · simp only [law01_FixFloors_c0, s0, tb_eq]; rfl
    · simp only [law01_FixFloors_r0_0, s0, tb_eq]; rfl

end Go.Proofs.Ytdlhhoejnhjbhaa.Den

/- What all rows of a seat rest on. -/
namespace Go.Proofs.Ytdlhhoejnhjbhaa.Den
open Go Go.Proofs
set_option maxRecDepth 100000

theorem own : ownKnob Try.prog.godebug = none := by kernel_rfl
theorem laidOut : laidOutB Try.prog = true := by kernel_rfl
theorem mixed : Try.prog.follows .mixedOrders = true := by kernel_rfl
theorem envOK : EnvOK Try.prog E0 := ⟨e0_cf, fun f args m r m' h => by simp [E0] at h⟩
theorem glOK (w : World) : GlOK E0 (cx0 w) := fun g cs h => by simp [E0] at h
end Go.Proofs.Ytdlhhoejnhjbhaa.Den

/- The row of FixFloors. -/
namespace Go.Proofs.Ytdlhhoejnhjbhaa.Den
open Go Go.Proofs Go.ChangeShapes Go.WideShapes Go.ChangeAt Go.RowKit
open Go.Proofs.Ytdlhhoejnhjbhaa (Rows.fixFloorsSpec Rows.fixFloorsRow Rows.FixFloorsSaid)
set_option maxRecDepth 100000
set_option linter.unusedSimpArgs false
set_option linter.unusedVariables false

theorem row8 (rs : List (List D)) (h : TyAll Try.prog 20 Try.f8.params.toList rs) : ∃ k m', callD E0 k 8 (argsV Try.prog Try.f8.params.toList rs) [] = some ([.d (.bool true)], m') := by
  rw [Try.params8] at h ⊢
  simp only [TyAll] at h
  obtain ⟨_, _, rfl, q0, _, _, rfl, q1, _, _, rfl, q2, rfl⟩ := h
  have k0 := flatK_ok 20 _ _ _ (show flatK Try.prog 20 3 = some [.i .i64] by kernel_rfl) q0
  simp only [CellsK, CellK] at k0
  obtain ⟨_, _, rfl, ⟨a0_0, rfl, w0_0⟩, rfl⟩ := k0
  have k1 := flatK_ok 20 _ _ _ (show flatK Try.prog 20 41 = some [.i .u32] by kernel_rfl) q1
  simp only [CellsK, CellK] at k1
  obtain ⟨_, _, rfl, ⟨a1_0, rfl, w1_0⟩, rfl⟩ := k1
  have k2 := flatK_ok 20 _ _ _ (show flatK Try.prog 20 5 = some [.i .u8] by kernel_rfl) q2
  simp only [CellsK, CellK] at k2
  obtain ⟨_, _, rfl, ⟨a2_0, rfl, w2_0⟩, rfl⟩ := k2
  simp only [argsV, argV, Try.underlying3, Try.underlying5, Try.underlying41, List.map_cons, List.map_nil]
  obtain ⟨g1, g2⟩ := pure_FixFloors a0_0 a1_0 a2_0 w0_0 w1_0 w2_0
  have hc := law01_FixFloors_t0 a0_0 a1_0 a2_0 g1
  rw [g2] at hc
  obtain ⟨k, hk⟩ := of_cl hc
  exact ⟨k, _, hk⟩

theorem fixFloors_lifted (os : Os) (started : os.Started) (H : Type) (enc : TypeId × Value → H) :
    ReturnsInHanded {} Try.checked os 8 .any (Rows.fixFloorsSpec.pre6 enc Try.prog Try.f8 Rows.fixFloorsRow.domain false) (Rows.fixFloorsSpec.post enc Try.prog Try.f8 false true false false) :=
  law_lifted (C := Try.checked) (fn := Try.f8) mixed envOK glOK own started (by kernel_rfl) Try.func8 laidOut
    (ChangeSpec.witness6 (enc := enc) (C := Try.checked) false ⟨#[], #[.int .i64 0, .int .u32 0, .int .u8 0], []⟩ 8 (by kernel_rfl) (by kernel_rfl) (by kernel_rfl) (by kernel_rfl))
    (by kernel_rfl) (rt := 4) rfl Try.underlying4 rfl
    (fun ds h => by
      match ds, h with
      | [_, _, _], _ => rfl)
    row8

theorem fixFloors_holds : Rows.FixFloorsSaid :=
  OpenClaim.holds_of_wide 8 Try.f8 rfl rfl rfl rfl rfl rfl rfl ⟨rfl, rfl, rfl, rfl, rfl⟩ rfl rfl rfl rfl rfl (by kernel_rfl) Try.func8 (by kernel_rfl)
    (of_decide_eq_true (by kernel_rfl)) (by unfold Func.isWrapper; first | (rw [if_pos (by decide +kernel)]; kernel_rfl) | (rw [if_neg (by decide +kernel)]; exact ⟨rfl, rfl⟩))
    (fun os started H enc _ => fixFloors_lifted os started H enc)

end Go.Proofs.Ytdlhhoejnhjbhaa.Den
