/- FixMasks: part 6 of what its proof rests on: an evaluator of the program's code, proved sound; plain functions printed from the code by a program of this session, with proofs; plain laws. No condition. -/
import Derived.Test.YtdlhhoejnhjbhaaDenfixMasks5
import Derived.Test.YtdlhhoejnhjbhaaRows

namespace Go.Proofs.Ytdlhhoejnhjbhaa.Den
open Go Go.Proofs
set_option maxRecDepth 100000
set_option maxHeartbeats 4000000
set_option linter.unusedVariables false
set_option linter.unusedSimpArgs false

def slices_Clone_int_o_c0 (x0 : Bool) (x1 : List Int) : Bool := (bif tb (false != (x0 && x1.isEmpty)) then true else (bif tb (decide ((([] : List Int).length + x1.length) * 8 ≤ 140737488355328)) then true else false))

def slices_Clone_int_o_r0_0 (x0 : Bool) (x1 : List Int) : Bool := (bif tb (false != (x0 && x1.isEmpty)) then true else false)

def slices_Clone_int_o_r0_1 (x0 : Bool) (x1 : List Int) : List Int := (bif tb (false != (x0 && x1.isEmpty)) then ([] : List Int) else x1)

theorem slices_Clone_int_o_t0 (x0 : Bool) (x1 : List Int) : slices_Clone_int_o_c0 x0 x1 = true → cl E0 65 [(V.d (slD (encI .i64) true 1 x0 x1))] [] = some ([(V.so (slices_Clone_int_o_r0_0 x0 x1) 0 ((slices_Clone_int_o_r0_1 x0 x1).length))], [(Blk.flat 3 1 (List.map (encI .i64) (slices_Clone_int_o_r0_1 x0 x1)) false)]) := by
  unfold slices_Clone_int_o_c0 slices_Clone_int_o_r0_0 slices_Clone_int_o_r0_1
  cases h1 : tb (false != (x0 && x1.isEmpty))
  · cases h2 : tb (decide ((([] : List Int).length + x1.length) * 8 ≤ 140737488355328))
    · intro g0
      exact absurd g0 ft
    · intro g0
      exact w65 [.o 4 (fun _ => o_nil_os (enc := (encI .i64)) (l := x1) (fl := true) (n := x0) (s := 1) (neg := false)), .b (tbE h1), .m 7 (o_app_sf (m := [(Blk.flat 3 1 [] false), (Blk.flat 3 1 [] false)]) (enc := (encI .i64)) (l0 := ([] : List Int)) (l1 := x1) (id := 1) (e := 3) (s := 1) (bytes := 8) (x := (V.d (slD (encI .i64) true 1 x0 x1))) (n := 0) (by kernel_rfl) (by kernel_rfl) flatRowsOf_os sizeOk_os (tbE h2))] (by kernel_rfl)
  · intro g0
    exact w65 [.o 4 (fun _ => o_nil_os (enc := (encI .i64)) (l := x1) (fl := true) (n := x0) (s := 1) (neg := false)), .b (tbE h1)] (by kernel_rfl)

structure slices_Max_int_o_L0_s0 where
  c2 : Int
  c3 : Int
  deriving Inhabited

def slices_Max_int_o_L0_enc (x0 : Bool) (x1 : List Int) (x2 : Int) (x3 : Int) (s0 : slices_Max_int_o_L0_s0) : List V × Mem := ([(V.d (slD (encI .i64) true 1 x0 x1)), (V.d (.int .i64 s0.c2)), (V.d (.int .i64 s0.c3))], [])

def slices_Max_int_o_L0_sel (x1 : List Int) (s0 : slices_Max_int_o_L0_s0) : Bool := (bif tb (decide (s0.c3 < ((x1.length : Nat) : Int))) then (bif tb (inb x1.length s0.c3) then true else false) else false)

def slices_Max_int_o_L0_nx (x1 : List Int) (s0 : slices_Max_int_o_L0_s0) : slices_Max_int_o_L0_s0 := ⟨(mxI s0.c2 (gt x1 s0.c3)), (wi (s0.c3 + 1))⟩

def slices_Max_int_o_L0_ok (x1 : List Int) (s0 : slices_Max_int_o_L0_s0) : Bool := (itS (slices_Max_int_o_L0_sel x1) (slices_Max_int_o_L0_nx x1) bound s0).isSome
def slices_Max_int_o_L0_end (x1 : List Int) (s0 : slices_Max_int_o_L0_s0) : slices_Max_int_o_L0_s0 := (itS (slices_Max_int_o_L0_sel x1) (slices_Max_int_o_L0_nx x1) bound s0).getD default

theorem slices_Max_int_o_L0_go (x0 : Bool) (x1 : List Int) (x2 : Int) (x3 : Int) (s0 : slices_Max_int_o_L0_s0) : slices_Max_int_o_L0_sel x1 s0 = true → (roundG (runC E0 (cl E0) L67_0) [0, 3, 4] [3] 0) (slices_Max_int_o_L0_enc x0 x1 x2 x3 s0) = some (.normal, slices_Max_int_o_L0_enc x0 x1 x2 x3 (slices_Max_int_o_L0_nx x1 s0)) := by
  unfold slices_Max_int_o_L0_sel slices_Max_int_o_L0_nx
  cases h1 : tb (decide (s0.c3 < ((x1.length : Nat) : Int)))
  · intro g0
    exact absurd g0 ft
  · cases h2 : tb (inb x1.length s0.c3)
    · intro g0
      exact absurd g0 ft
    · intro _
      exact round_walk [.o 14 (fun _ => o_len_os (enc := (encI .i64)) (l := x1) (fl := true) (n := x0) (s := 1)), .b (tbE h1), .o 21 (fun _ => o_idx_os (enc := (encI .i64)) (l := x1) (fl := true) (n := x0) (s := 1) (k := .i64) (tbE h2))] (by kernel_rfl)

def slices_Max_int_o_L0_c0 (x1 : List Int) (s0 : slices_Max_int_o_L0_s0) : Bool := (bif tb (decide (s0.c3 < ((x1.length : Nat) : Int))) then false else true)

theorem slices_Max_int_o_L0_x0 (x0 : Bool) (x1 : List Int) (x2 : Int) (x3 : Int) (s0 : slices_Max_int_o_L0_s0) : slices_Max_int_o_L0_sel x1 s0 = false → slices_Max_int_o_L0_c0 x1 s0 = true → (roundG (runC E0 (cl E0) L67_0) [0, 3, 4] [3] 0) (slices_Max_int_o_L0_enc x0 x1 x2 x3 s0) = some ((.exit 0), ([(V.d (.int .i64 s0.c2))], [])) := by
  unfold slices_Max_int_o_L0_sel slices_Max_int_o_L0_c0
  cases h1 : tb (decide (s0.c3 < ((x1.length : Nat) : Int)))
  · intro g0 g1
    exact round_walk [.o 14 (fun _ => o_len_os (enc := (encI .i64)) (l := x1) (fl := true) (n := x0) (s := 1)), .b (tbE h1)] (by kernel_rfl)
  · cases h2 : tb (inb x1.length s0.c3)
    · intro g0 g1
      exact absurd g1 ft
    · intro g0 g1
      exact absurd g0 tf

theorem slices_Max_int_o_L0_f0_0 (x0 : Bool) (x1 : List Int) (x2 : Int) (x3 : Int) (s : slices_Max_int_o_L0_s0) (hok : slices_Max_int_o_L0_ok x1 s = true) (c0 : slices_Max_int_o_L0_c0 x1 (slices_Max_int_o_L0_end x1 s) = true) : loopG (roundG (runC E0 (cl E0) L67_0) [0, 3, 4] [3] 0) bound (slices_Max_int_o_L0_enc x0 x1 x2 x3 s) = some ((.exit 0), ([(V.d (.int .i64 ((slices_Max_int_o_L0_end x1 s).c2)))], [])) := by
  have e : itS (slices_Max_int_o_L0_sel x1) (slices_Max_int_o_L0_nx x1) bound s = some (slices_Max_int_o_L0_end x1 s) := itS_get hok
  have f := itS_false e
  exact loop_it (slices_Max_int_o_L0_go x0 x1 x2 x3) bound s _ _ _ e (fun h => by cases h) (slices_Max_int_o_L0_x0 x0 x1 x2 x3 (slices_Max_int_o_L0_end x1 s) f c0)

def slices_Max_int_o_e0 (x1 : List Int) : slices_Max_int_o_L0_s0 := slices_Max_int_o_L0_end x1 (⟨(gt x1 0), 1⟩ : slices_Max_int_o_L0_s0)

def slices_Max_int_o_c0 (x1 : List Int) : Bool := (bif tb (decide (((x1.length : Nat) : Int) < 1)) then false else (bif tb (inb x1.length 0) then (bif tb (slices_Max_int_o_L0_ok x1 (⟨(gt x1 0), 1⟩ : slices_Max_int_o_L0_s0)) then (bif tb (slices_Max_int_o_L0_c0 x1 (slices_Max_int_o_e0 x1)) then true else false) else false) else false))

theorem slices_Max_int_o_t0 (x0 : Bool) (x1 : List Int) : slices_Max_int_o_c0 x1 = true → cl E0 67 [(V.d (slD (encI .i64) true 1 x0 x1))] [] = some ([(V.d (.int .i64 ((slices_Max_int_o_e0 x1).c2)))], []) := by
  unfold slices_Max_int_o_c0
  cases h1 : tb (decide (((x1.length : Nat) : Int) < 1))
  · cases h2 : tb (inb x1.length 0)
    · intro g0
      exact absurd g0 ft
    · cases h3 : tb (slices_Max_int_o_L0_ok x1 (⟨(gt x1 0), 1⟩ : slices_Max_int_o_L0_s0))
      · intro g0
        exact absurd g0 ft
      · cases h4 : tb (slices_Max_int_o_L0_c0 x1 (slices_Max_int_o_e0 x1))
        · intro g0
          exact absurd g0 ft
        · intro g0
          exact w67 [.o 6 (fun _ => o_len_os (enc := (encI .i64)) (l := x1) (fl := true) (n := x0) (s := 1)), .b (tbE h1), .o 10 (fun _ => o_idx_os (enc := (encI .i64)) (l := x1) (fl := true) (n := x0) (s := 1) (k := .i64) (tbE h2)), .l (slices_Max_int_o_L0_f0_0 x0 x1 (gt x1 0) 1 (⟨(gt x1 0), 1⟩ : slices_Max_int_o_L0_s0) (tbE h3) (tbE h4))] (by kernel_rfl)
  · intro g0
    exact absurd g0 ft

structure slices_Min_int_o_L0_s0 where
  c2 : Int
  c3 : Int
  deriving Inhabited

def slices_Min_int_o_L0_enc (x0 : Bool) (x1 : List Int) (x2 : Int) (x3 : Int) (s0 : slices_Min_int_o_L0_s0) : List V × Mem := ([(V.d (slD (encI .i64) true 1 x0 x1)), (V.d (.int .i64 s0.c2)), (V.d (.int .i64 s0.c3))], [])

def slices_Min_int_o_L0_sel (x1 : List Int) (s0 : slices_Min_int_o_L0_s0) : Bool := (bif tb (decide (s0.c3 < ((x1.length : Nat) : Int))) then (bif tb (inb x1.length s0.c3) then true else false) else false)

def slices_Min_int_o_L0_nx (x1 : List Int) (s0 : slices_Min_int_o_L0_s0) : slices_Min_int_o_L0_s0 := ⟨(mnI s0.c2 (gt x1 s0.c3)), (wi (s0.c3 + 1))⟩

def slices_Min_int_o_L0_ok (x1 : List Int) (s0 : slices_Min_int_o_L0_s0) : Bool := (itS (slices_Min_int_o_L0_sel x1) (slices_Min_int_o_L0_nx x1) bound s0).isSome
def slices_Min_int_o_L0_end (x1 : List Int) (s0 : slices_Min_int_o_L0_s0) : slices_Min_int_o_L0_s0 := (itS (slices_Min_int_o_L0_sel x1) (slices_Min_int_o_L0_nx x1) bound s0).getD default

theorem slices_Min_int_o_L0_go (x0 : Bool) (x1 : List Int) (x2 : Int) (x3 : Int) (s0 : slices_Min_int_o_L0_s0) : slices_Min_int_o_L0_sel x1 s0 = true → (roundG (runC E0 (cl E0) L68_0) [0, 3, 4] [3] 0) (slices_Min_int_o_L0_enc x0 x1 x2 x3 s0) = some (.normal, slices_Min_int_o_L0_enc x0 x1 x2 x3 (slices_Min_int_o_L0_nx x1 s0)) := by
  unfold slices_Min_int_o_L0_sel slices_Min_int_o_L0_nx
  cases h1 : tb (decide (s0.c3 < ((x1.length : Nat) : Int)))
  · intro g0
    exact absurd g0 ft
  · cases h2 : tb (inb x1.length s0.c3)
    · intro g0
      exact absurd g0 ft
    · intro _
      exact round_walk [.o 14 (fun _ => o_len_os (enc := (encI .i64)) (l := x1) (fl := true) (n := x0) (s := 1)), .b (tbE h1), .o 21 (fun _ => o_idx_os (enc := (encI .i64)) (l := x1) (fl := true) (n := x0) (s := 1) (k := .i64) (tbE h2))] (by kernel_rfl)

def slices_Min_int_o_L0_c0 (x1 : List Int) (s0 : slices_Min_int_o_L0_s0) : Bool := (bif tb (decide (s0.c3 < ((x1.length : Nat) : Int))) then false else true)

theorem slices_Min_int_o_L0_x0 (x0 : Bool) (x1 : List Int) (x2 : Int) (x3 : Int) (s0 : slices_Min_int_o_L0_s0) : slices_Min_int_o_L0_sel x1 s0 = false → slices_Min_int_o_L0_c0 x1 s0 = true → (roundG (runC E0 (cl E0) L68_0) [0, 3, 4] [3] 0) (slices_Min_int_o_L0_enc x0 x1 x2 x3 s0) = some ((.exit 0), ([(V.d (.int .i64 s0.c2))], [])) := by
  unfold slices_Min_int_o_L0_sel slices_Min_int_o_L0_c0
  cases h1 : tb (decide (s0.c3 < ((x1.length : Nat) : Int)))
  · intro g0 g1
    exact round_walk [.o 14 (fun _ => o_len_os (enc := (encI .i64)) (l := x1) (fl := true) (n := x0) (s := 1)), .b (tbE h1)] (by kernel_rfl)
  · cases h2 : tb (inb x1.length s0.c3)
    · intro g0 g1
      exact absurd g1 ft
    · intro g0 g1
      exact absurd g0 tf

theorem slices_Min_int_o_L0_f0_0 (x0 : Bool) (x1 : List Int) (x2 : Int) (x3 : Int) (s : slices_Min_int_o_L0_s0) (hok : slices_Min_int_o_L0_ok x1 s = true) (c0 : slices_Min_int_o_L0_c0 x1 (slices_Min_int_o_L0_end x1 s) = true) : loopG (roundG (runC E0 (cl E0) L68_0) [0, 3, 4] [3] 0) bound (slices_Min_int_o_L0_enc x0 x1 x2 x3 s) = some ((.exit 0), ([(V.d (.int .i64 ((slices_Min_int_o_L0_end x1 s).c2)))], [])) := by
  have e : itS (slices_Min_int_o_L0_sel x1) (slices_Min_int_o_L0_nx x1) bound s = some (slices_Min_int_o_L0_end x1 s) := itS_get hok
  have f := itS_false e
  exact loop_it (slices_Min_int_o_L0_go x0 x1 x2 x3) bound s _ _ _ e (fun h => by cases h) (slices_Min_int_o_L0_x0 x0 x1 x2 x3 (slices_Min_int_o_L0_end x1 s) f c0)

def slices_Min_int_o_e0 (x1 : List Int) : slices_Min_int_o_L0_s0 := slices_Min_int_o_L0_end x1 (⟨(gt x1 0), 1⟩ : slices_Min_int_o_L0_s0)

def slices_Min_int_o_c0 (x1 : List Int) : Bool := (bif tb (decide (((x1.length : Nat) : Int) < 1)) then false else (bif tb (inb x1.length 0) then (bif tb (slices_Min_int_o_L0_ok x1 (⟨(gt x1 0), 1⟩ : slices_Min_int_o_L0_s0)) then (bif tb (slices_Min_int_o_L0_c0 x1 (slices_Min_int_o_e0 x1)) then true else false) else false) else false))

theorem slices_Min_int_o_t0 (x0 : Bool) (x1 : List Int) : slices_Min_int_o_c0 x1 = true → cl E0 68 [(V.d (slD (encI .i64) true 1 x0 x1))] [] = some ([(V.d (.int .i64 ((slices_Min_int_o_e0 x1).c2)))], []) := by
  unfold slices_Min_int_o_c0
  cases h1 : tb (decide (((x1.length : Nat) : Int) < 1))
  · cases h2 : tb (inb x1.length 0)
    · intro g0
      exact absurd g0 ft
    · cases h3 : tb (slices_Min_int_o_L0_ok x1 (⟨(gt x1 0), 1⟩ : slices_Min_int_o_L0_s0))
      · intro g0
        exact absurd g0 ft
      · cases h4 : tb (slices_Min_int_o_L0_c0 x1 (slices_Min_int_o_e0 x1))
        · intro g0
          exact absurd g0 ft
        · intro g0
          exact w68 [.o 6 (fun _ => o_len_os (enc := (encI .i64)) (l := x1) (fl := true) (n := x0) (s := 1)), .b (tbE h1), .o 10 (fun _ => o_idx_os (enc := (encI .i64)) (l := x1) (fl := true) (n := x0) (s := 1) (k := .i64) (tbE h2)), .l (slices_Min_int_o_L0_f0_0 x0 x1 (gt x1 0) 1 (⟨(gt x1 0), 1⟩ : slices_Min_int_o_L0_s0) (tbE h3) (tbE h4))] (by kernel_rfl)
  · intro g0
    exact absurd g0 ft

def math_bits_OnesCount64_i_e0 (x0 : Int) : Int := IntKind.u64.wrap ((andI .u64 (shrI .u64 x0 1) 6148914691236517205) + (andI .u64 x0 6148914691236517205))

def math_bits_OnesCount64_i_e1 (x0 : Int) : Int := andI .u64 (shrI .u64 (math_bits_OnesCount64_i_e0 x0) 2) 3689348814741910323

def math_bits_OnesCount64_i_e2 (x0 : Int) : Int := andI .u64 (math_bits_OnesCount64_i_e0 x0) 3689348814741910323

def math_bits_OnesCount64_i_e3 (x0 : Int) : Int := IntKind.u64.wrap ((math_bits_OnesCount64_i_e1 x0) + (math_bits_OnesCount64_i_e2 x0))

def math_bits_OnesCount64_i_e4 (x0 : Int) : Int := IntKind.u64.wrap ((shrI .u64 (math_bits_OnesCount64_i_e3 x0) 4) + (math_bits_OnesCount64_i_e3 x0))

def math_bits_OnesCount64_i_e5 (x0 : Int) : Int := andI .u64 (math_bits_OnesCount64_i_e4 x0) 1085102592571150095

def math_bits_OnesCount64_i_e6 (x0 : Int) : Int := IntKind.u64.wrap ((math_bits_OnesCount64_i_e5 x0) + (shrI .u64 (math_bits_OnesCount64_i_e5 x0) 8))

def math_bits_OnesCount64_i_e7 (x0 : Int) : Int := IntKind.u64.wrap ((math_bits_OnesCount64_i_e6 x0) + (shrI .u64 (math_bits_OnesCount64_i_e6 x0) 16))

def math_bits_OnesCount64_i_e8 (x0 : Int) : Int := IntKind.u64.wrap ((math_bits_OnesCount64_i_e7 x0) + (shrI .u64 (math_bits_OnesCount64_i_e7 x0) 32))

theorem math_bits_OnesCount64_i_t0 (x0 : Int) : cl E0 80 [(V.d (.int .u64 x0))] [] = some ([(V.d (.int .i64 (andI .i64 (wi ((math_bits_OnesCount64_i_e8 x0))) 127)))], []) := by
  exact w80 [.o 4 (fun _ => o_shr (k := .u64) (k2 := .u64) (x := x0) (y := 1) rfl), .o 10 (fun _ => o_shr (k := .u64) (k2 := .u64) (x := (math_bits_OnesCount64_i_e0 x0)) (y := 2) rfl), .o 16 (fun _ => o_shr (k := .u64) (k2 := .u64) (x := (math_bits_OnesCount64_i_e3 x0)) (y := 4) rfl), .o 22 (fun _ => o_shr (k := .u64) (k2 := .u64) (x := (math_bits_OnesCount64_i_e5 x0)) (y := 8) rfl), .o 26 (fun _ => o_shr (k := .u64) (k2 := .u64) (x := (math_bits_OnesCount64_i_e6 x0)) (y := 16) rfl), .o 30 (fun _ => o_shr (k := .u64) (k2 := .u64) (x := (math_bits_OnesCount64_i_e7 x0)) (y := 32) rfl)] (by kernel_rfl)

theorem math_bits_OnesCount_i_t0 (x0 : Int) : cl E0 72 [(V.d (.int .u64 x0))] [] = some ([(V.d (.int .i64 (andI .i64 (wi ((math_bits_OnesCount64_i_e8 x0))) 127)))], []) := by
  exact w72 [.c (math_bits_OnesCount64_i_t0 x0)] (by kernel_rfl)

end Go.Proofs.Ytdlhhoejnhjbhaa.Den

namespace Go.Proofs.Ytdlhhoejnhjbhaa.Den
open Go Go.Proofs
set_option maxRecDepth 100000
set_option maxHeartbeats 4000000
set_option linter.unusedVariables false
set_option linter.unusedSimpArgs false

structure fix_small_o_L0_s0 where
  c3 : Int
  deriving Inhabited

def fix_small_o_L0_enc (x0 : Bool) (x1 : List Int) (x2 : Int) (x3 : Int) (s0 : fix_small_o_L0_s0) : List V × Mem := ([(V.d (slD (encI .i64) true 1 x0 x1)), (V.d (.int .i64 x2)), (V.d (.int .i64 s0.c3))], [])

def fix_small_o_L0_sel (x1 : List Int) (x2 : Int) (s0 : fix_small_o_L0_s0) : Bool := (bif tb (decide (s0.c3 < x2)) then (bif tb (inb x1.length s0.c3) then (bif tb (decide ((gt x1 s0.c3) < (-1099511627776))) then false else (bif tb (decide (1099511627776 < (gt x1 s0.c3))) then false else true)) else false) else false)

def fix_small_o_L0_nx (x1 : List Int) (x2 : Int) (s0 : fix_small_o_L0_s0) : fix_small_o_L0_s0 := ⟨(wi (s0.c3 + 1))⟩

def fix_small_o_L0_ok (x1 : List Int) (x2 : Int) (s0 : fix_small_o_L0_s0) : Bool := (itS (fix_small_o_L0_sel x1 x2) (fix_small_o_L0_nx x1 x2) bound s0).isSome
def fix_small_o_L0_end (x1 : List Int) (x2 : Int) (s0 : fix_small_o_L0_s0) : fix_small_o_L0_s0 := (itS (fix_small_o_L0_sel x1 x2) (fix_small_o_L0_nx x1 x2) bound s0).getD default

theorem fix_small_o_L0_go (x0 : Bool) (x1 : List Int) (x2 : Int) (x3 : Int) (s0 : fix_small_o_L0_s0) : fix_small_o_L0_sel x1 x2 s0 = true → (roundG (runC E0 (cl E0) L69_0) [5, 6, 7] [2] 0) (fix_small_o_L0_enc x0 x1 x2 x3 s0) = some (.normal, fix_small_o_L0_enc x0 x1 x2 x3 (fix_small_o_L0_nx x1 x2 s0)) := by
  unfold fix_small_o_L0_sel fix_small_o_L0_nx
  cases h1 : tb (decide (s0.c3 < x2))
  · intro g0
    exact absurd g0 ft
  · cases h2 : tb (inb x1.length s0.c3)
    · intro g0
      exact absurd g0 ft
    · cases h3 : tb (decide ((gt x1 s0.c3) < (-1099511627776)))
      · cases h4 : tb (decide (1099511627776 < (gt x1 s0.c3)))
        · intro _
          exact round_walk [.b (tbE h1), .o 9 (fun _ => o_idx_os (enc := (encI .i64)) (l := x1) (fl := true) (n := x0) (s := 1) (k := .i64) (tbE h2)), .b (tbE h3), .b (tbE h4)] (by kernel_rfl)
        · intro g0
          exact absurd g0 ft
      · intro g0
        exact absurd g0 ft

def fix_small_o_L0_c0 (x1 : List Int) (x2 : Int) (s0 : fix_small_o_L0_s0) : Bool := (bif tb (decide (s0.c3 < x2)) then (bif tb (inb x1.length s0.c3) then true else false) else false)

def fix_small_o_L0_c1 (x2 : Int) (s0 : fix_small_o_L0_s0) : Bool := (bif tb (decide (s0.c3 < x2)) then false else true)

theorem fix_small_o_L0_x0 (x0 : Bool) (x1 : List Int) (x2 : Int) (x3 : Int) (s0 : fix_small_o_L0_s0) : fix_small_o_L0_sel x1 x2 s0 = false → fix_small_o_L0_c0 x1 x2 s0 = true → (roundG (runC E0 (cl E0) L69_0) [5, 6, 7] [2] 0) (fix_small_o_L0_enc x0 x1 x2 x3 s0) = some (.ret, ([(V.d (.bool false))], [])) := by
  unfold fix_small_o_L0_sel fix_small_o_L0_c0
  cases h1 : tb (decide (s0.c3 < x2))
  · intro g0 g1
    exact absurd g1 ft
  · cases h2 : tb (inb x1.length s0.c3)
    · intro g0 g1
      exact absurd g1 ft
    · cases h3 : tb (decide ((gt x1 s0.c3) < (-1099511627776)))
      · cases h4 : tb (decide (1099511627776 < (gt x1 s0.c3)))
        · intro g0 g1
          exact absurd g0 tf
        · intro g0 g1
          exact round_walk [.b (tbE h1), .o 9 (fun _ => o_idx_os (enc := (encI .i64)) (l := x1) (fl := true) (n := x0) (s := 1) (k := .i64) (tbE h2)), .b (tbE h3), .b (tbE h4)] (by kernel_rfl)
      · intro g0 g1
        exact round_walk [.b (tbE h1), .o 9 (fun _ => o_idx_os (enc := (encI .i64)) (l := x1) (fl := true) (n := x0) (s := 1) (k := .i64) (tbE h2)), .b (tbE h3)] (by kernel_rfl)

theorem fix_small_o_L0_x1 (x0 : Bool) (x1 : List Int) (x2 : Int) (x3 : Int) (s0 : fix_small_o_L0_s0) : fix_small_o_L0_sel x1 x2 s0 = false → fix_small_o_L0_c0 x1 x2 s0 = false → fix_small_o_L0_c1 x2 s0 = true → (roundG (runC E0 (cl E0) L69_0) [5, 6, 7] [2] 0) (fix_small_o_L0_enc x0 x1 x2 x3 s0) = some ((.exit 0), ([V.un], [])) := by
  unfold fix_small_o_L0_sel fix_small_o_L0_c0 fix_small_o_L0_c1
  cases h1 : tb (decide (s0.c3 < x2))
  · intro g0 g1 g2
    exact round_walk [.b (tbE h1)] (by kernel_rfl)
  · cases h2 : tb (inb x1.length s0.c3)
    · intro g0 g1 g2
      exact absurd g2 ft
    · cases h3 : tb (decide ((gt x1 s0.c3) < (-1099511627776)))
      · cases h4 : tb (decide (1099511627776 < (gt x1 s0.c3)))
        · intro g0 g1 g2
          exact absurd g0 tf
        · intro g0 g1 g2
          exact absurd g1 tf
      · intro g0 g1 g2
        exact absurd g1 tf

theorem fix_small_o_L0_f0_0 (x0 : Bool) (x1 : List Int) (x2 : Int) (x3 : Int) (s : fix_small_o_L0_s0) (hok : fix_small_o_L0_ok x1 x2 s = true) (c0 : fix_small_o_L0_c0 x1 x2 (fix_small_o_L0_end x1 x2 s) = true) : loopG (roundG (runC E0 (cl E0) L69_0) [5, 6, 7] [2] 0) bound (fix_small_o_L0_enc x0 x1 x2 x3 s) = some (.ret, ([(V.d (.bool false))], [])) := by
  have e : itS (fix_small_o_L0_sel x1 x2) (fix_small_o_L0_nx x1 x2) bound s = some (fix_small_o_L0_end x1 x2 s) := itS_get hok
  have f := itS_false e
  exact loop_it (fix_small_o_L0_go x0 x1 x2 x3) bound s _ _ _ e (fun h => by cases h) (fix_small_o_L0_x0 x0 x1 x2 x3 (fix_small_o_L0_end x1 x2 s) f c0)

theorem fix_small_o_L0_f0_1 (x0 : Bool) (x1 : List Int) (x2 : Int) (x3 : Int) (s : fix_small_o_L0_s0) (hok : fix_small_o_L0_ok x1 x2 s = true) (c0 : fix_small_o_L0_c0 x1 x2 (fix_small_o_L0_end x1 x2 s) = false) (c1 : fix_small_o_L0_c1 x2 (fix_small_o_L0_end x1 x2 s) = true) : loopG (roundG (runC E0 (cl E0) L69_0) [5, 6, 7] [2] 0) bound (fix_small_o_L0_enc x0 x1 x2 x3 s) = some ((.exit 0), ([V.un], [])) := by
  have e : itS (fix_small_o_L0_sel x1 x2) (fix_small_o_L0_nx x1 x2) bound s = some (fix_small_o_L0_end x1 x2 s) := itS_get hok
  have f := itS_false e
  exact loop_it (fix_small_o_L0_go x0 x1 x2 x3) bound s _ _ _ e (fun h => by cases h) (fix_small_o_L0_x1 x0 x1 x2 x3 (fix_small_o_L0_end x1 x2 s) f c0 c1)

def fix_small_o_e0 (x1 : List Int) : fix_small_o_L0_s0 := fix_small_o_L0_end x1 ((x1.length : Nat) : Int) (⟨0⟩ : fix_small_o_L0_s0)

def fix_small_o_c0 (x1 : List Int) : Bool := (bif tb (fix_small_o_L0_ok x1 ((x1.length : Nat) : Int) (⟨0⟩ : fix_small_o_L0_s0)) then (bif tb (fix_small_o_L0_c0 x1 ((x1.length : Nat) : Int) (fix_small_o_e0 x1)) then true else (bif tb (fix_small_o_L0_c1 ((x1.length : Nat) : Int) (fix_small_o_e0 x1)) then true else false)) else false)

def fix_small_o_r0_0 (x1 : List Int) : Bool := (bif tb (fix_small_o_L0_c0 x1 ((x1.length : Nat) : Int) (fix_small_o_e0 x1)) then false else true)

theorem fix_small_o_t0 (x0 : Bool) (x1 : List Int) : fix_small_o_c0 x1 = true → cl E0 69 [(V.d (slD (encI .i64) true 1 x0 x1))] [] = some ([(V.d (.bool (fix_small_o_r0_0 x1)))], []) := by
  unfold fix_small_o_c0 fix_small_o_r0_0
  cases h1 : tb (fix_small_o_L0_ok x1 ((x1.length : Nat) : Int) (⟨0⟩ : fix_small_o_L0_s0))
  · intro g0
    exact absurd g0 ft
  · cases h2 : tb (fix_small_o_L0_c0 x1 ((x1.length : Nat) : Int) (fix_small_o_e0 x1))
    · cases h3 : tb (fix_small_o_L0_c1 ((x1.length : Nat) : Int) (fix_small_o_e0 x1))
      · intro g0
        exact absurd g0 ft
      · intro g0
        exact w69 [.o 6 (fun _ => o_len_os (enc := (encI .i64)) (l := x1) (fl := true) (n := x0) (s := 1)), .l (fix_small_o_L0_f0_1 x0 x1 ((x1.length : Nat) : Int) 0 (⟨0⟩ : fix_small_o_L0_s0) (tbE h1) (tbE h2) (tbE h3))] (by kernel_rfl)
    · intro g0
      exact w69 [.o 6 (fun _ => o_len_os (enc := (encI .i64)) (l := x1) (fl := true) (n := x0) (s := 1)), .l (fix_small_o_L0_f0_0 x0 x1 ((x1.length : Nat) : Int) 0 (⟨0⟩ : fix_small_o_L0_s0) (tbE h1) (tbE h2))] (by kernel_rfl)

def fix_Clamp_iii_c0 (x0 : Int) (x1 : Int) (x2 : Int) : Bool := (bif tb (fix_small_o_c0 [x0, x1, x2]) then true else false)

def fix_Clamp_iii_r0_0 (x0 : Int) (x1 : Int) (x2 : Int) : Int := (bif tb (fix_small_o_r0_0 [x0, x1, x2]) then (mxI x1 (mnI x0 x2)) else 0)

theorem fix_Clamp_iii_t0 (x0 : Int) (x1 : Int) (x2 : Int) : fix_Clamp_iii_c0 x0 x1 x2 = true → cl E0 25 [(V.d (.int .i64 x0)), (V.d (.int .i64 x1)), (V.d (.int .i64 x2))] [] = some ([(V.d (.int .i64 (fix_Clamp_iii_r0_0 x0 x1 x2)))], []) := by
  unfold fix_Clamp_iii_c0 fix_Clamp_iii_r0_0
  cases h1 : tb (fix_small_o_c0 [x0, x1, x2])
  · intro g0
    exact absurd g0 ft
  · cases h2 : tb (fix_small_o_r0_0 [x0, x1, x2])
    · intro g0
      exact w25 [.c (fix_small_o_t0 false [x0, x1, x2] (tbE h1)), .b (notF (tbE h2))] (by kernel_rfl)
    · intro g0
      exact w25 [.c (fix_small_o_t0 false [x0, x1, x2] (tbE h1)), .b (notT (tbE h2))] (by kernel_rfl)

def fix_Near_iii_c0 (x0 : Int) (x1 : Int) (x2 : Int) : Bool := (bif tb (fix_small_o_c0 [x0, x1, x2]) then true else false)

def fix_Near_iii_r0_0 (x0 : Int) (x1 : Int) (x2 : Int) : Int := (bif tb (fix_small_o_r0_0 [x0, x1, x2]) then (bif tb (decide (x2 < 0)) then x0 else (mxI (wi (x0 - x2)) (mnI x1 (wi (x0 + x2))))) else 0)

theorem fix_Near_iii_t0 (x0 : Int) (x1 : Int) (x2 : Int) : fix_Near_iii_c0 x0 x1 x2 = true → cl E0 27 [(V.d (.int .i64 x0)), (V.d (.int .i64 x1)), (V.d (.int .i64 x2))] [] = some ([(V.d (.int .i64 (fix_Near_iii_r0_0 x0 x1 x2)))], []) := by
  unfold fix_Near_iii_c0 fix_Near_iii_r0_0
  cases h1 : tb (fix_small_o_c0 [x0, x1, x2])
  · intro g0
    exact absurd g0 ft
  · cases h2 : tb (fix_small_o_r0_0 [x0, x1, x2])
    · intro g0
      exact w27 [.c (fix_small_o_t0 false [x0, x1, x2] (tbE h1)), .b (notF (tbE h2))] (by kernel_rfl)
    · cases h3 : tb (decide (x2 < 0))
      · intro g0
        exact w27 [.c (fix_small_o_t0 false [x0, x1, x2] (tbE h1)), .b (notT (tbE h2)), .b (tbE h3)] (by kernel_rfl)
      · intro g0
        exact w27 [.c (fix_small_o_t0 false [x0, x1, x2] (tbE h1)), .b (notT (tbE h2)), .b (tbE h3)] (by kernel_rfl)

def fix_Floor_ii_c0 (x0 : Int) (x1 : Int) : Bool := (bif tb (fix_small_o_c0 [x0, x1]) then (bif tb (fix_small_o_r0_0 [x0, x1]) then (bif tb (decide (x1 < 1)) then true else (bif tb ((x1 : Int) == 0) then false else true)) else true) else false)

def fix_Floor_ii_r0_0 (x0 : Int) (x1 : Int) : Int := (bif tb (fix_small_o_r0_0 [x0, x1]) then (bif tb (decide (x1 < 1)) then 0 else (bif tb (decide ((remI .i64 x0 x1) < 0)) then (wi ((quoI .i64 x0 x1) - 1)) else (quoI .i64 x0 x1))) else 0)

theorem fix_Floor_ii_t0 (x0 : Int) (x1 : Int) : fix_Floor_ii_c0 x0 x1 = true → cl E0 29 [(V.d (.int .i64 x0)), (V.d (.int .i64 x1))] [] = some ([(V.d (.int .i64 (fix_Floor_ii_r0_0 x0 x1)))], []) := by
  unfold fix_Floor_ii_c0 fix_Floor_ii_r0_0
  cases h1 : tb (fix_small_o_c0 [x0, x1])
  · intro g0
    exact absurd g0 ft
  · cases h2 : tb (fix_small_o_r0_0 [x0, x1])
    · intro g0
      exact w29 [.c (fix_small_o_t0 false [x0, x1] (tbE h1)), .b (notF (tbE h2))] (by kernel_rfl)
    · cases h3 : tb (decide (x1 < 1))
      · cases h4 : tb ((x1 : Int) == 0)
        · cases h5 : tb (decide ((remI .i64 x0 x1) < 0))
          · intro g0
            exact w29 [.c (fix_small_o_t0 false [x0, x1] (tbE h1)), .b (notT (tbE h2)), .b (tbE h3), .o 17 (fun _ => o_quo (k := .i64) (x := x0) (y := x1) (tbE h4)), .o 20 (fun _ => o_rem (k := .i64) (x := x0) (y := x1) (tbE h4)), .b (tbE h5)] (by kernel_rfl)
          · intro g0
            exact w29 [.c (fix_small_o_t0 false [x0, x1] (tbE h1)), .b (notT (tbE h2)), .b (tbE h3), .o 17 (fun _ => o_quo (k := .i64) (x := x0) (y := x1) (tbE h4)), .o 20 (fun _ => o_rem (k := .i64) (x := x0) (y := x1) (tbE h4)), .b (tbE h5)] (by kernel_rfl)
        · intro g0
          exact absurd g0 ft
      · intro g0
        exact w29 [.c (fix_small_o_t0 false [x0, x1] (tbE h1)), .b (notT (tbE h2)), .b (tbE h3)] (by kernel_rfl)

def fix_Shift_ii_c0 (x0 : Int) (x1 : Int) : Bool := (bif tb (fix_small_o_c0 [x0]) then (bif tb (fix_small_o_r0_0 [x0]) then (bif tb (decide (x1 < 0)) then true else (bif tb (decide (40 < x1)) then true else (bif tb (decide (0 ≤ x1)) then true else false))) else true) else false)

def fix_Shift_ii_r0_0 (x0 : Int) (x1 : Int) : Int := (bif tb (fix_small_o_r0_0 [x0]) then (bif tb (decide (x1 < 0)) then 0 else (bif tb (decide (40 < x1)) then 0 else (shrI .i64 x0 x1))) else 0)

theorem fix_Shift_ii_t0 (x0 : Int) (x1 : Int) : fix_Shift_ii_c0 x0 x1 = true → cl E0 31 [(V.d (.int .i64 x0)), (V.d (.int .i64 x1))] [] = some ([(V.d (.int .i64 (fix_Shift_ii_r0_0 x0 x1)))], []) := by
  unfold fix_Shift_ii_c0 fix_Shift_ii_r0_0
  cases h1 : tb (fix_small_o_c0 [x0])
  · intro g0
    exact absurd g0 ft
  · cases h2 : tb (fix_small_o_r0_0 [x0])
    · intro g0
      exact w31 [.c (fix_small_o_t0 false [x0] (tbE h1)), .b (notF (tbE h2))] (by kernel_rfl)
    · cases h3 : tb (decide (x1 < 0))
      · cases h4 : tb (decide (40 < x1))
        · cases h5 : tb (decide (0 ≤ x1))
          · intro g0
            exact absurd g0 ft
          · intro g0
            exact w31 [.c (fix_small_o_t0 false [x0] (tbE h1)), .b (notT (tbE h2)), .b (tbE h3), .b (tbE h4), .o 19 (fun _ => o_shr (k := .i64) (k2 := .i64) (x := x0) (y := x1) (tbE h5))] (by kernel_rfl)
        · intro g0
          exact w31 [.c (fix_small_o_t0 false [x0] (tbE h1)), .b (notT (tbE h2)), .b (tbE h3), .b (tbE h4)] (by kernel_rfl)
      · intro g0
        exact w31 [.c (fix_small_o_t0 false [x0] (tbE h1)), .b (notT (tbE h2)), .b (tbE h3)] (by kernel_rfl)

def fix_Apart_ii_c0 (x0 : Int) (x1 : Int) : Bool := (bif tb (fix_small_o_c0 [x0, x1]) then true else false)

def fix_Apart_ii_r0_0 (x0 : Int) (x1 : Int) : Int := (bif tb (fix_small_o_r0_0 [x0, x1]) then (mxI (wi (x0 - x1)) (wi (x1 - x0))) else 0)

theorem fix_Apart_ii_t0 (x0 : Int) (x1 : Int) : fix_Apart_ii_c0 x0 x1 = true → cl E0 34 [(V.d (.int .i64 x0)), (V.d (.int .i64 x1))] [] = some ([(V.d (.int .i64 (fix_Apart_ii_r0_0 x0 x1)))], []) := by
  unfold fix_Apart_ii_c0 fix_Apart_ii_r0_0
  cases h1 : tb (fix_small_o_c0 [x0, x1])
  · intro g0
    exact absurd g0 ft
  · cases h2 : tb (fix_small_o_r0_0 [x0, x1])
    · intro g0
      exact w34 [.c (fix_small_o_t0 false [x0, x1] (tbE h1)), .b (notF (tbE h2))] (by kernel_rfl)
    · intro g0
      exact w34 [.c (fix_small_o_t0 false [x0, x1] (tbE h1)), .b (notT (tbE h2))] (by kernel_rfl)

structure fix_Bits_o_L0_s0 where
  c2 : Int
  c4 : Int
  deriving Inhabited

def fix_Bits_o_L0_enc (x0 : Bool) (x1 : List Bool) (x2 : Int) (x3 : Int) (x4 : Int) (s0 : fix_Bits_o_L0_s0) : List V × Mem := ([(V.d (slD encB true 1 x0 x1)), (V.d (.int .i64 s0.c2)), (V.d (.int .i64 x3)), (V.d (.int .i64 s0.c4))], [])

def fix_Bits_o_L0_sel (x1 : List Bool) (x3 : Int) (s0 : fix_Bits_o_L0_s0) : Bool := (bif tb (decide (s0.c4 < x3)) then (bif tb (inb x1.length s0.c4) then (bif tb (gt x1 s0.c4) then (bif tb (decide (0 ≤ s0.c4)) then true else false) else true) else false) else false)

def fix_Bits_o_L0_nx (x1 : List Bool) (x3 : Int) (s0 : fix_Bits_o_L0_s0) : fix_Bits_o_L0_s0 := (bif tb (gt x1 s0.c4) then ⟨(orI .i64 s0.c2 (shlI .i64 1 s0.c4)), (wi (s0.c4 + 1))⟩ else ⟨s0.c2, (wi (s0.c4 + 1))⟩)

def fix_Bits_o_L0_ok (x1 : List Bool) (x3 : Int) (s0 : fix_Bits_o_L0_s0) : Bool := (itS (fix_Bits_o_L0_sel x1 x3) (fix_Bits_o_L0_nx x1 x3) bound s0).isSome
def fix_Bits_o_L0_end (x1 : List Bool) (x3 : Int) (s0 : fix_Bits_o_L0_s0) : fix_Bits_o_L0_s0 := (itS (fix_Bits_o_L0_sel x1 x3) (fix_Bits_o_L0_nx x1 x3) bound s0).getD default

theorem fix_Bits_o_L0_go (x0 : Bool) (x1 : List Bool) (x2 : Int) (x3 : Int) (x4 : Int) (s0 : fix_Bits_o_L0_s0) : fix_Bits_o_L0_sel x1 x3 s0 = true → (roundG (runC E0 (cl E0) L36_0) [0, 3, 9, 10] [3] 0) (fix_Bits_o_L0_enc x0 x1 x2 x3 x4 s0) = some (.normal, fix_Bits_o_L0_enc x0 x1 x2 x3 x4 (fix_Bits_o_L0_nx x1 x3 s0)) := by
  unfold fix_Bits_o_L0_sel fix_Bits_o_L0_nx
  cases h1 : tb (decide (s0.c4 < x3))
  · intro g0
    exact absurd g0 ft
  · cases h2 : tb (inb x1.length s0.c4)
    · intro g0
      exact absurd g0 ft
    · cases h3 : tb (gt x1 s0.c4)
      · intro _
        exact round_walk [.b (tbE h1), .o 15 (fun _ => o_idx_os (enc := encB) (l := x1) (fl := true) (n := x0) (s := 1) (k := .i64) (tbE h2)), .b (tbE h3)] (by kernel_rfl)
      · cases h4 : tb (decide (0 ≤ s0.c4))
        · intro g0
          exact absurd g0 ft
        · intro _
          exact round_walk [.b (tbE h1), .o 15 (fun _ => o_idx_os (enc := encB) (l := x1) (fl := true) (n := x0) (s := 1) (k := .i64) (tbE h2)), .b (tbE h3), .o 19 (fun _ => o_shl (k := .i64) (k2 := .i64) (x := 1) (y := s0.c4) (tbE h4))] (by kernel_rfl)

def fix_Bits_o_L0_c0 (x3 : Int) (s0 : fix_Bits_o_L0_s0) : Bool := (bif tb (decide (s0.c4 < x3)) then false else true)

theorem fix_Bits_o_L0_x0 (x0 : Bool) (x1 : List Bool) (x2 : Int) (x3 : Int) (x4 : Int) (s0 : fix_Bits_o_L0_s0) : fix_Bits_o_L0_sel x1 x3 s0 = false → fix_Bits_o_L0_c0 x3 s0 = true → (roundG (runC E0 (cl E0) L36_0) [0, 3, 9, 10] [3] 0) (fix_Bits_o_L0_enc x0 x1 x2 x3 x4 s0) = some ((.exit 0), ([(V.d (.int .i64 s0.c2))], [])) := by
  unfold fix_Bits_o_L0_sel fix_Bits_o_L0_c0
  cases h1 : tb (decide (s0.c4 < x3))
  · intro g0 g1
    exact round_walk [.b (tbE h1)] (by kernel_rfl)
  · cases h2 : tb (inb x1.length s0.c4)
    · intro g0 g1
      exact absurd g1 ft
    · cases h3 : tb (gt x1 s0.c4)
      · intro g0 g1
        exact absurd g0 tf
      · cases h4 : tb (decide (0 ≤ s0.c4))
        · intro g0 g1
          exact absurd g1 ft
        · intro g0 g1
          exact absurd g0 tf

theorem fix_Bits_o_L0_f0_0 (x0 : Bool) (x1 : List Bool) (x2 : Int) (x3 : Int) (x4 : Int) (s : fix_Bits_o_L0_s0) (hok : fix_Bits_o_L0_ok x1 x3 s = true) (c0 : fix_Bits_o_L0_c0 x3 (fix_Bits_o_L0_end x1 x3 s) = true) : loopG (roundG (runC E0 (cl E0) L36_0) [0, 3, 9, 10] [3] 0) bound (fix_Bits_o_L0_enc x0 x1 x2 x3 x4 s) = some ((.exit 0), ([(V.d (.int .i64 ((fix_Bits_o_L0_end x1 x3 s).c2)))], [])) := by
  have e : itS (fix_Bits_o_L0_sel x1 x3) (fix_Bits_o_L0_nx x1 x3) bound s = some (fix_Bits_o_L0_end x1 x3 s) := itS_get hok
  have f := itS_false e
  exact loop_it (fix_Bits_o_L0_go x0 x1 x2 x3 x4) bound s _ _ _ e (fun h => by cases h) (fix_Bits_o_L0_x0 x0 x1 x2 x3 x4 (fix_Bits_o_L0_end x1 x3 s) f c0)

def fix_Bits_o_e0 (x1 : List Bool) : fix_Bits_o_L0_s0 := fix_Bits_o_L0_end x1 ((x1.length : Nat) : Int) (⟨0, 0⟩ : fix_Bits_o_L0_s0)

def fix_Bits_o_c0 (x1 : List Bool) : Bool := (bif tb (decide (16 < ((x1.length : Nat) : Int))) then true else (bif tb (fix_Bits_o_L0_ok x1 ((x1.length : Nat) : Int) (⟨0, 0⟩ : fix_Bits_o_L0_s0)) then (bif tb (fix_Bits_o_L0_c0 ((x1.length : Nat) : Int) (fix_Bits_o_e0 x1)) then true else false) else false))

def fix_Bits_o_r0_0 (x1 : List Bool) : Int := (bif tb (decide (16 < ((x1.length : Nat) : Int))) then 0 else ((fix_Bits_o_e0 x1).c2))

theorem fix_Bits_o_t0 (x0 : Bool) (x1 : List Bool) : fix_Bits_o_c0 x1 = true → cl E0 36 [(V.d (slD encB true 1 x0 x1))] [] = some ([(V.d (.int .i64 (fix_Bits_o_r0_0 x1)))], []) := by
  unfold fix_Bits_o_c0 fix_Bits_o_r0_0
  cases h1 : tb (decide (16 < ((x1.length : Nat) : Int)))
  · cases h2 : tb (fix_Bits_o_L0_ok x1 ((x1.length : Nat) : Int) (⟨0, 0⟩ : fix_Bits_o_L0_s0))
    · intro g0
      exact absurd g0 ft
    · cases h3 : tb (fix_Bits_o_L0_c0 ((x1.length : Nat) : Int) (fix_Bits_o_e0 x1))
      · intro g0
        exact absurd g0 ft
      · intro g0
        exact w36 [.o 6 (fun _ => o_len_os (enc := encB) (l := x1) (fl := true) (n := x0) (s := 1)), .b (tbE h1), .o 9 (fun _ => o_len_os (enc := encB) (l := x1) (fl := true) (n := x0) (s := 1)), .l (fix_Bits_o_L0_f0_0 x0 x1 0 ((x1.length : Nat) : Int) 0 (⟨0, 0⟩ : fix_Bits_o_L0_s0) (tbE h2) (tbE h3))] (by kernel_rfl)
  · intro g0
    exact w36 [.o 6 (fun _ => o_len_os (enc := encB) (l := x1) (fl := true) (n := x0) (s := 1)), .b (tbE h1)] (by kernel_rfl)

def fix_right_i_r0_0 (x0 : Int) : Bool := (bif tb (decide (0 ≤ x0)) then (decide (x0 < 65536)) else false)

theorem fix_right_i_t0 (x0 : Int) : cl E0 71 [(V.d (.int .i64 x0))] [] = some ([(V.d (.bool (fix_right_i_r0_0 x0)))], []) := by
  unfold fix_right_i_r0_0
  cases h1 : tb (decide (0 ≤ x0))
  · exact w71 [.b (tbE h1)] (by kernel_rfl)
  · exact w71 [.b (tbE h1)] (by kernel_rfl)

def fix_Has_ii_r0_0 (x0 : Int) (x1 : Int) : Bool := (bif tb (fix_right_i_r0_0 x0) then (bif tb (decide (0 ≤ x1)) then (bif tb (decide (x1 < 16)) then (((andI .i64 (shrI .i64 x0 x1) 1) : Int) == 1) else false) else false) else false)

theorem fix_Has_ii_t0 (x0 : Int) (x1 : Int) : cl E0 38 [(V.d (.int .i64 x0)), (V.d (.int .i64 x1))] [] = some ([(V.d (.bool (fix_Has_ii_r0_0 x0 x1)))], []) := by
  unfold fix_Has_ii_r0_0
  cases h1 : tb (fix_right_i_r0_0 x0)
  · exact w38 [.c (fix_right_i_t0 x0), .b (tbE h1)] (by kernel_rfl)
  · cases h2 : tb (decide (0 ≤ x1))
    · exact w38 [.c (fix_right_i_t0 x0), .b (tbE h1), .b (tbE h2)] (by kernel_rfl)
    · cases h3 : tb (decide (x1 < 16))
      · exact w38 [.c (fix_right_i_t0 x0), .b (tbE h1), .b (tbE h2), .b (tbE h3)] (by kernel_rfl)
      · exact w38 [.c (fix_right_i_t0 x0), .b (tbE h1), .b (tbE h2), .b (tbE h3), .o 18 (fun _ => o_shr (k := .i64) (k2 := .i64) (x := x0) (y := x1) (tbE h2))] (by kernel_rfl)

def fix_Count_i_r0_0 (x0 : Int) : Int := (bif tb (fix_right_i_r0_0 x0) then (andI .i64 (wi ((math_bits_OnesCount64_i_e8 (IntKind.u64.wrap (x0))))) 127) else 0)

theorem fix_Count_i_t0 (x0 : Int) : cl E0 40 [(V.d (.int .i64 x0))] [] = some ([(V.d (.int .i64 (fix_Count_i_r0_0 x0)))], []) := by
  unfold fix_Count_i_r0_0
  cases h1 : tb (fix_right_i_r0_0 x0)
  · exact w40 [.c (fix_right_i_t0 x0), .b (notF (tbE h1))] (by kernel_rfl)
  · exact w40 [.c (fix_right_i_t0 x0), .b (notT (tbE h1)), .c (math_bits_OnesCount_i_t0 (IntKind.u64.wrap (x0)))] (by kernel_rfl)

end Go.Proofs.Ytdlhhoejnhjbhaa.Den

namespace Go.Proofs.Ytdlhhoejnhjbhaa.Den
open Go Go.Proofs
set_option maxRecDepth 100000
set_option maxHeartbeats 4000000
set_option linter.unusedVariables false
set_option linter.unusedSimpArgs false

theorem law01_alive_t0 : cl E0 33 [] [] = some ([(V.d (.bool true))], []) := cl_of (n := 60) (by kernel_rfl)

end Go.Proofs.Ytdlhhoejnhjbhaa.Den

namespace Go.Proofs.Ytdlhhoejnhjbhaa.Den
open Go Go.Proofs
set_option maxRecDepth 100000
set_option maxHeartbeats 4000000
set_option linter.unusedVariables false
set_option linter.unusedSimpArgs false

def ref01_Small_i_r0_0 (x0 : Int) : Bool := (bif tb (decide ((-1099511627776) ≤ x0)) then (decide (x0 ≤ 1099511627776)) else false)

theorem ref01_Small_i_t0 (x0 : Int) : cl E0 70 [(V.d (.int .i64 x0))] [] = some ([(V.d (.bool (ref01_Small_i_r0_0 x0)))], []) := by
  unfold ref01_Small_i_r0_0
  cases h1 : tb (decide ((-1099511627776) ≤ x0))
  · exact w70 [.b (tbE h1)] (by kernel_rfl)
  · exact w70 [.b (tbE h1)] (by kernel_rfl)

structure ref01_All_o_L0_s0 where
  c2 : Int
  deriving Inhabited

def ref01_All_o_L0_enc (x0 : Bool) (x1 : List Int) (x2 : Int) (s0 : ref01_All_o_L0_s0) : List V × Mem := ([(V.d (slD (encI .i64) true 1 x0 x1)), (V.d (.int .i64 s0.c2))], [])

def ref01_All_o_L0_sel (x1 : List Int) (s0 : ref01_All_o_L0_s0) : Bool := (bif tb (decide (s0.c2 < ((x1.length : Nat) : Int))) then (bif tb (inb x1.length s0.c2) then (bif tb (ref01_Small_i_r0_0 (gt x1 s0.c2)) then true else false) else false) else false)

def ref01_All_o_L0_nx (x1 : List Int) (s0 : ref01_All_o_L0_s0) : ref01_All_o_L0_s0 := ⟨(wi (s0.c2 + 1))⟩

def ref01_All_o_L0_ok (x1 : List Int) (s0 : ref01_All_o_L0_s0) : Bool := (itS (ref01_All_o_L0_sel x1) (ref01_All_o_L0_nx x1) bound s0).isSome
def ref01_All_o_L0_end (x1 : List Int) (s0 : ref01_All_o_L0_s0) : ref01_All_o_L0_s0 := (itS (ref01_All_o_L0_sel x1) (ref01_All_o_L0_nx x1) bound s0).getD default

theorem ref01_All_o_L0_go (x0 : Bool) (x1 : List Int) (x2 : Int) (s0 : ref01_All_o_L0_s0) : ref01_All_o_L0_sel x1 s0 = true → (roundG (runC E0 (cl E0) L42_0) [0, 3] [2] 0) (ref01_All_o_L0_enc x0 x1 x2 s0) = some (.normal, ref01_All_o_L0_enc x0 x1 x2 (ref01_All_o_L0_nx x1 s0)) := by
  unfold ref01_All_o_L0_sel ref01_All_o_L0_nx
  cases h1 : tb (decide (s0.c2 < ((x1.length : Nat) : Int)))
  · intro g0
    exact absurd g0 ft
  · cases h2 : tb (inb x1.length s0.c2)
    · intro g0
      exact absurd g0 ft
    · cases h3 : tb (ref01_Small_i_r0_0 (gt x1 s0.c2))
      · intro g0
        exact absurd g0 ft
      · intro _
        exact round_walk [.o 7 (fun _ => o_len_os (enc := (encI .i64)) (l := x1) (fl := true) (n := x0) (s := 1)), .b (tbE h1), .o 13 (fun _ => o_idx_os (enc := (encI .i64)) (l := x1) (fl := true) (n := x0) (s := 1) (k := .i64) (tbE h2)), .c (ref01_Small_i_t0 (gt x1 s0.c2)), .b (notT (tbE h3))] (by kernel_rfl)

def ref01_All_o_L0_c0 (x1 : List Int) (s0 : ref01_All_o_L0_s0) : Bool := (bif tb (decide (s0.c2 < ((x1.length : Nat) : Int))) then (bif tb (inb x1.length s0.c2) then true else false) else false)

def ref01_All_o_L0_c1 (x1 : List Int) (s0 : ref01_All_o_L0_s0) : Bool := (bif tb (decide (s0.c2 < ((x1.length : Nat) : Int))) then false else true)

theorem ref01_All_o_L0_x0 (x0 : Bool) (x1 : List Int) (x2 : Int) (s0 : ref01_All_o_L0_s0) : ref01_All_o_L0_sel x1 s0 = false → ref01_All_o_L0_c0 x1 s0 = true → (roundG (runC E0 (cl E0) L42_0) [0, 3] [2] 0) (ref01_All_o_L0_enc x0 x1 x2 s0) = some (.ret, ([(V.d (.bool false))], [])) := by
  unfold ref01_All_o_L0_sel ref01_All_o_L0_c0
  cases h1 : tb (decide (s0.c2 < ((x1.length : Nat) : Int)))
  · intro g0 g1
    exact absurd g1 ft
  · cases h2 : tb (inb x1.length s0.c2)
    · intro g0 g1
      exact absurd g1 ft
    · cases h3 : tb (ref01_Small_i_r0_0 (gt x1 s0.c2))
      · intro g0 g1
        exact round_walk [.o 7 (fun _ => o_len_os (enc := (encI .i64)) (l := x1) (fl := true) (n := x0) (s := 1)), .b (tbE h1), .o 13 (fun _ => o_idx_os (enc := (encI .i64)) (l := x1) (fl := true) (n := x0) (s := 1) (k := .i64) (tbE h2)), .c (ref01_Small_i_t0 (gt x1 s0.c2)), .b (notF (tbE h3))] (by kernel_rfl)
      · intro g0 g1
        exact absurd g0 tf

theorem ref01_All_o_L0_x1 (x0 : Bool) (x1 : List Int) (x2 : Int) (s0 : ref01_All_o_L0_s0) : ref01_All_o_L0_sel x1 s0 = false → ref01_All_o_L0_c0 x1 s0 = false → ref01_All_o_L0_c1 x1 s0 = true → (roundG (runC E0 (cl E0) L42_0) [0, 3] [2] 0) (ref01_All_o_L0_enc x0 x1 x2 s0) = some ((.exit 0), ([V.un], [])) := by
  unfold ref01_All_o_L0_sel ref01_All_o_L0_c0 ref01_All_o_L0_c1
  cases h1 : tb (decide (s0.c2 < ((x1.length : Nat) : Int)))
  · intro g0 g1 g2
    exact round_walk [.o 7 (fun _ => o_len_os (enc := (encI .i64)) (l := x1) (fl := true) (n := x0) (s := 1)), .b (tbE h1)] (by kernel_rfl)
  · cases h2 : tb (inb x1.length s0.c2)
    · intro g0 g1 g2
      exact absurd g2 ft
    · cases h3 : tb (ref01_Small_i_r0_0 (gt x1 s0.c2))
      · intro g0 g1 g2
        exact absurd g1 tf
      · intro g0 g1 g2
        exact absurd g0 tf

theorem ref01_All_o_L0_f0_0 (x0 : Bool) (x1 : List Int) (x2 : Int) (s : ref01_All_o_L0_s0) (hok : ref01_All_o_L0_ok x1 s = true) (c0 : ref01_All_o_L0_c0 x1 (ref01_All_o_L0_end x1 s) = true) : loopG (roundG (runC E0 (cl E0) L42_0) [0, 3] [2] 0) bound (ref01_All_o_L0_enc x0 x1 x2 s) = some (.ret, ([(V.d (.bool false))], [])) := by
  have e : itS (ref01_All_o_L0_sel x1) (ref01_All_o_L0_nx x1) bound s = some (ref01_All_o_L0_end x1 s) := itS_get hok
  have f := itS_false e
  exact loop_it (ref01_All_o_L0_go x0 x1 x2) bound s _ _ _ e (fun h => by cases h) (ref01_All_o_L0_x0 x0 x1 x2 (ref01_All_o_L0_end x1 s) f c0)

theorem ref01_All_o_L0_f0_1 (x0 : Bool) (x1 : List Int) (x2 : Int) (s : ref01_All_o_L0_s0) (hok : ref01_All_o_L0_ok x1 s = true) (c0 : ref01_All_o_L0_c0 x1 (ref01_All_o_L0_end x1 s) = false) (c1 : ref01_All_o_L0_c1 x1 (ref01_All_o_L0_end x1 s) = true) : loopG (roundG (runC E0 (cl E0) L42_0) [0, 3] [2] 0) bound (ref01_All_o_L0_enc x0 x1 x2 s) = some ((.exit 0), ([V.un], [])) := by
  have e : itS (ref01_All_o_L0_sel x1) (ref01_All_o_L0_nx x1) bound s = some (ref01_All_o_L0_end x1 s) := itS_get hok
  have f := itS_false e
  exact loop_it (ref01_All_o_L0_go x0 x1 x2) bound s _ _ _ e (fun h => by cases h) (ref01_All_o_L0_x1 x0 x1 x2 (ref01_All_o_L0_end x1 s) f c0 c1)

def ref01_All_o_c0 (x1 : List Int) : Bool := (bif tb (ref01_All_o_L0_ok x1 (⟨0⟩ : ref01_All_o_L0_s0)) then (bif tb (ref01_All_o_L0_c0 x1 (ref01_All_o_L0_end x1 (⟨0⟩ : ref01_All_o_L0_s0))) then true else (bif tb (ref01_All_o_L0_c1 x1 (ref01_All_o_L0_end x1 (⟨0⟩ : ref01_All_o_L0_s0))) then true else false)) else false)

def ref01_All_o_r0_0 (x1 : List Int) : Bool := (bif tb (ref01_All_o_L0_c0 x1 (ref01_All_o_L0_end x1 (⟨0⟩ : ref01_All_o_L0_s0))) then false else true)

theorem ref01_All_o_t0 (x0 : Bool) (x1 : List Int) : ref01_All_o_c0 x1 = true → cl E0 42 [(V.d (slD (encI .i64) true 1 x0 x1))] [] = some ([(V.d (.bool (ref01_All_o_r0_0 x1)))], []) := by
  unfold ref01_All_o_c0 ref01_All_o_r0_0
  cases h1 : tb (ref01_All_o_L0_ok x1 (⟨0⟩ : ref01_All_o_L0_s0))
  · intro g0
    exact absurd g0 ft
  · cases h2 : tb (ref01_All_o_L0_c0 x1 (ref01_All_o_L0_end x1 (⟨0⟩ : ref01_All_o_L0_s0)))
    · cases h3 : tb (ref01_All_o_L0_c1 x1 (ref01_All_o_L0_end x1 (⟨0⟩ : ref01_All_o_L0_s0)))
      · intro g0
        exact absurd g0 ft
      · intro g0
        exact w42 [.l (ref01_All_o_L0_f0_1 x0 x1 0 (⟨0⟩ : ref01_All_o_L0_s0) (tbE h1) (tbE h2) (tbE h3))] (by kernel_rfl)
    · intro g0
      exact w42 [.l (ref01_All_o_L0_f0_0 x0 x1 0 (⟨0⟩ : ref01_All_o_L0_s0) (tbE h1) (tbE h2))] (by kernel_rfl)

def ref01_Clamp_iii_c0 (x0 : Int) (x1 : Int) (x2 : Int) : Bool := (bif tb (ref01_All_o_c0 [x0, x1, x2]) then true else false)

def ref01_Clamp_iii_r0_0 (x0 : Int) (x1 : Int) (x2 : Int) : Int := (bif tb (ref01_All_o_r0_0 [x0, x1, x2]) then (bif tb (decide (x2 < x1)) then x1 else (bif tb (decide (x0 < x1)) then x1 else (bif tb (decide (x2 < x0)) then x2 else x0))) else 0)

theorem ref01_Clamp_iii_t0 (x0 : Int) (x1 : Int) (x2 : Int) : ref01_Clamp_iii_c0 x0 x1 x2 = true → cl E0 26 [(V.d (.int .i64 x0)), (V.d (.int .i64 x1)), (V.d (.int .i64 x2))] [] = some ([(V.d (.int .i64 (ref01_Clamp_iii_r0_0 x0 x1 x2)))], []) := by
  unfold ref01_Clamp_iii_c0 ref01_Clamp_iii_r0_0
  cases h1 : tb (ref01_All_o_c0 [x0, x1, x2])
  · intro g0
    exact absurd g0 ft
  · cases h2 : tb (ref01_All_o_r0_0 [x0, x1, x2])
    · intro g0
      exact w26 [.c (ref01_All_o_t0 false [x0, x1, x2] (tbE h1)), .b (notF (tbE h2))] (by kernel_rfl)
    · cases h3 : tb (decide (x2 < x1))
      · cases h4 : tb (decide (x0 < x1))
        · cases h5 : tb (decide (x2 < x0))
          · intro g0
            exact w26 [.c (ref01_All_o_t0 false [x0, x1, x2] (tbE h1)), .b (notT (tbE h2)), .b (tbE h3), .b (tbE h4), .b (tbE h5)] (by kernel_rfl)
          · intro g0
            exact w26 [.c (ref01_All_o_t0 false [x0, x1, x2] (tbE h1)), .b (notT (tbE h2)), .b (tbE h3), .b (tbE h4), .b (tbE h5)] (by kernel_rfl)
        · intro g0
          exact w26 [.c (ref01_All_o_t0 false [x0, x1, x2] (tbE h1)), .b (notT (tbE h2)), .b (tbE h3), .b (tbE h4)] (by kernel_rfl)
      · intro g0
        exact w26 [.c (ref01_All_o_t0 false [x0, x1, x2] (tbE h1)), .b (notT (tbE h2)), .b (tbE h3)] (by kernel_rfl)

def ref01_Near_iii_c0 (x0 : Int) (x1 : Int) (x2 : Int) : Bool := (bif tb (ref01_All_o_c0 [x0, x1, x2]) then true else false)

def ref01_Near_iii_r0_0 (x0 : Int) (x1 : Int) (x2 : Int) : Int := (bif tb (ref01_All_o_r0_0 [x0, x1, x2]) then (bif tb (decide (x2 < 0)) then x0 else (bif tb (decide ((wi (x0 + x2)) < x1)) then (wi (x0 + x2)) else (bif tb (decide (x1 < (wi (x0 - x2)))) then (wi (x0 - x2)) else x1))) else 0)

theorem ref01_Near_iii_t0 (x0 : Int) (x1 : Int) (x2 : Int) : ref01_Near_iii_c0 x0 x1 x2 = true → cl E0 28 [(V.d (.int .i64 x0)), (V.d (.int .i64 x1)), (V.d (.int .i64 x2))] [] = some ([(V.d (.int .i64 (ref01_Near_iii_r0_0 x0 x1 x2)))], []) := by
  unfold ref01_Near_iii_c0 ref01_Near_iii_r0_0
  cases h1 : tb (ref01_All_o_c0 [x0, x1, x2])
  · intro g0
    exact absurd g0 ft
  · cases h2 : tb (ref01_All_o_r0_0 [x0, x1, x2])
    · intro g0
      exact w28 [.c (ref01_All_o_t0 false [x0, x1, x2] (tbE h1)), .b (notF (tbE h2))] (by kernel_rfl)
    · cases h3 : tb (decide (x2 < 0))
      · cases h4 : tb (decide ((wi (x0 + x2)) < x1))
        · cases h5 : tb (decide (x1 < (wi (x0 - x2))))
          · intro g0
            exact w28 [.c (ref01_All_o_t0 false [x0, x1, x2] (tbE h1)), .b (notT (tbE h2)), .b (tbE h3), .b (tbE h4), .b (tbE h5)] (by kernel_rfl)
          · intro g0
            exact w28 [.c (ref01_All_o_t0 false [x0, x1, x2] (tbE h1)), .b (notT (tbE h2)), .b (tbE h3), .b (tbE h4), .b (tbE h5)] (by kernel_rfl)
        · intro g0
          exact w28 [.c (ref01_All_o_t0 false [x0, x1, x2] (tbE h1)), .b (notT (tbE h2)), .b (tbE h3), .b (tbE h4)] (by kernel_rfl)
      · intro g0
        exact w28 [.c (ref01_All_o_t0 false [x0, x1, x2] (tbE h1)), .b (notT (tbE h2)), .b (tbE h3)] (by kernel_rfl)

def ref01_Floor_ii_c0 (x0 : Int) (x1 : Int) : Bool := (bif tb (ref01_All_o_c0 [x0, x1]) then (bif tb (ref01_All_o_r0_0 [x0, x1]) then (bif tb (decide (x1 < 1)) then true else (bif tb ((x1 : Int) == 0) then false else true)) else true) else false)

def ref01_Floor_ii_r0_0 (x0 : Int) (x1 : Int) : Int := (bif tb (ref01_All_o_r0_0 [x0, x1]) then (bif tb (decide (x1 < 1)) then 0 else (bif tb (decide (0 ≤ x0)) then (quoI .i64 x0 x1) else (wi (0 - (quoI .i64 (wi ((wi (x1 - 1)) - x0)) x1))))) else 0)

theorem ref01_Floor_ii_t0 (x0 : Int) (x1 : Int) : ref01_Floor_ii_c0 x0 x1 = true → cl E0 30 [(V.d (.int .i64 x0)), (V.d (.int .i64 x1))] [] = some ([(V.d (.int .i64 (ref01_Floor_ii_r0_0 x0 x1)))], []) := by
  unfold ref01_Floor_ii_c0 ref01_Floor_ii_r0_0
  cases h1 : tb (ref01_All_o_c0 [x0, x1])
  · intro g0
    exact absurd g0 ft
  · cases h2 : tb (ref01_All_o_r0_0 [x0, x1])
    · intro g0
      exact w30 [.c (ref01_All_o_t0 false [x0, x1] (tbE h1)), .b (notF (tbE h2))] (by kernel_rfl)
    · cases h3 : tb (decide (x1 < 1))
      · cases h4 : tb (decide (0 ≤ x0))
        · cases h5 : tb ((x1 : Int) == 0)
          · intro g0
            exact w30 [.c (ref01_All_o_t0 false [x0, x1] (tbE h1)), .b (notT (tbE h2)), .b (tbE h3), .b (tbE h4), .o 26 (fun _ => o_quo (k := .i64) (x := (wi ((wi (x1 - 1)) - x0))) (y := x1) (tbE h5))] (by kernel_rfl)
          · intro g0
            exact absurd g0 ft
        · cases h5 : tb ((x1 : Int) == 0)
          · intro g0
            exact w30 [.c (ref01_All_o_t0 false [x0, x1] (tbE h1)), .b (notT (tbE h2)), .b (tbE h3), .b (tbE h4), .o 20 (fun _ => o_quo (k := .i64) (x := x0) (y := x1) (tbE h5))] (by kernel_rfl)
          · intro g0
            exact absurd g0 ft
      · intro g0
        exact w30 [.c (ref01_All_o_t0 false [x0, x1] (tbE h1)), .b (notT (tbE h2)), .b (tbE h3)] (by kernel_rfl)

structure ref01_Shift_ii_L0_s0 where
  c2 : Int
  c3 : Int
  deriving Inhabited

def ref01_Shift_ii_L0_enc (x0 : Int) (x1 : Int) (x2 : Int) (x3 : Int) (s0 : ref01_Shift_ii_L0_s0) : List V × Mem := ([(V.d (.int .i64 x0)), (V.d (.int .i64 x1)), (V.d (.int .i64 s0.c2)), (V.d (.int .i64 s0.c3))], [])

def ref01_Shift_ii_L0_sel (x1 : Int) (s0 : ref01_Shift_ii_L0_s0) : Bool := (bif tb (decide (s0.c3 < x1)) then true else false)

def ref01_Shift_ii_L0_nx (x1 : Int) (s0 : ref01_Shift_ii_L0_s0) : ref01_Shift_ii_L0_s0 := ⟨(wi (2 * s0.c2)), (wi (s0.c3 + 1))⟩

def ref01_Shift_ii_L0_ok (x1 : Int) (s0 : ref01_Shift_ii_L0_s0) : Bool := (itS (ref01_Shift_ii_L0_sel x1) (ref01_Shift_ii_L0_nx x1) bound s0).isSome
def ref01_Shift_ii_L0_end (x1 : Int) (s0 : ref01_Shift_ii_L0_s0) : ref01_Shift_ii_L0_s0 := (itS (ref01_Shift_ii_L0_sel x1) (ref01_Shift_ii_L0_nx x1) bound s0).getD default

theorem ref01_Shift_ii_L0_go (x0 : Int) (x1 : Int) (x2 : Int) (x3 : Int) (s0 : ref01_Shift_ii_L0_s0) : ref01_Shift_ii_L0_sel x1 s0 = true → (roundG (runC E0 (cl E0) L32_0) [0, 1, 6, 7] [0, 6] 0) (ref01_Shift_ii_L0_enc x0 x1 x2 x3 s0) = some (.normal, ref01_Shift_ii_L0_enc x0 x1 x2 x3 (ref01_Shift_ii_L0_nx x1 s0)) := by
  unfold ref01_Shift_ii_L0_sel ref01_Shift_ii_L0_nx
  cases h1 : tb (decide (s0.c3 < x1))
  · intro g0
    exact absurd g0 ft
  · intro _
    exact round_walk [.b (tbE h1)] (by kernel_rfl)

theorem ref01_Shift_ii_L0_x0 (x0 : Int) (x1 : Int) (x2 : Int) (x3 : Int) (s0 : ref01_Shift_ii_L0_s0) : ref01_Shift_ii_L0_sel x1 s0 = false → (roundG (runC E0 (cl E0) L32_0) [0, 1, 6, 7] [0, 6] 0) (ref01_Shift_ii_L0_enc x0 x1 x2 x3 s0) = some ((.exit 0), ([(V.d (.int .i64 x0)), (V.d (.int .i64 s0.c2))], [])) := by
  unfold ref01_Shift_ii_L0_sel
  cases h1 : tb (decide (s0.c3 < x1))
  · intro g0
    exact round_walk [.b (tbE h1)] (by kernel_rfl)
  · intro g0
    exact absurd g0 tf

theorem ref01_Shift_ii_L0_f0_0 (x0 : Int) (x1 : Int) (x2 : Int) (x3 : Int) (s : ref01_Shift_ii_L0_s0) (hok : ref01_Shift_ii_L0_ok x1 s = true) : loopG (roundG (runC E0 (cl E0) L32_0) [0, 1, 6, 7] [0, 6] 0) bound (ref01_Shift_ii_L0_enc x0 x1 x2 x3 s) = some ((.exit 0), ([(V.d (.int .i64 x0)), (V.d (.int .i64 ((ref01_Shift_ii_L0_end x1 s).c2)))], [])) := by
  have e : itS (ref01_Shift_ii_L0_sel x1) (ref01_Shift_ii_L0_nx x1) bound s = some (ref01_Shift_ii_L0_end x1 s) := itS_get hok
  have f := itS_false e
  exact loop_it (ref01_Shift_ii_L0_go x0 x1 x2 x3) bound s _ _ _ e (fun h => by cases h) (ref01_Shift_ii_L0_x0 x0 x1 x2 x3 (ref01_Shift_ii_L0_end x1 s) f )

def ref01_Shift_ii_e0 (x1 : Int) : Int := ((ref01_Shift_ii_L0_end x1 (⟨1, 0⟩ : ref01_Shift_ii_L0_s0)).c2)

def ref01_Shift_ii_c0 (x0 : Int) (x1 : Int) : Bool := (bif tb (ref01_Small_i_r0_0 x0) then (bif tb (decide (x1 < 0)) then true else (bif tb (decide (40 < x1)) then true else (bif tb (ref01_Shift_ii_L0_ok x1 (⟨1, 0⟩ : ref01_Shift_ii_L0_s0)) then (bif tb (ref01_Floor_ii_c0 x0 (ref01_Shift_ii_e0 x1)) then true else false) else false))) else true)

def ref01_Shift_ii_r0_0 (x0 : Int) (x1 : Int) : Int := (bif tb (ref01_Small_i_r0_0 x0) then (bif tb (decide (x1 < 0)) then 0 else (bif tb (decide (40 < x1)) then 0 else (ref01_Floor_ii_r0_0 x0 (ref01_Shift_ii_e0 x1)))) else 0)

theorem ref01_Shift_ii_t0 (x0 : Int) (x1 : Int) : ref01_Shift_ii_c0 x0 x1 = true → cl E0 32 [(V.d (.int .i64 x0)), (V.d (.int .i64 x1))] [] = some ([(V.d (.int .i64 (ref01_Shift_ii_r0_0 x0 x1)))], []) := by
  unfold ref01_Shift_ii_c0 ref01_Shift_ii_r0_0
  cases h1 : tb (ref01_Small_i_r0_0 x0)
  · intro g0
    exact w32 [.c (ref01_Small_i_t0 x0), .b (notF (tbE h1))] (by kernel_rfl)
  · cases h2 : tb (decide (x1 < 0))
    · cases h3 : tb (decide (40 < x1))
      · cases h4 : tb (ref01_Shift_ii_L0_ok x1 (⟨1, 0⟩ : ref01_Shift_ii_L0_s0))
        · intro g0
          exact absurd g0 ft
        · cases h5 : tb (ref01_Floor_ii_c0 x0 (ref01_Shift_ii_e0 x1))
          · intro g0
            exact absurd g0 ft
          · intro g0
            exact w32 [.c (ref01_Small_i_t0 x0), .b (notT (tbE h1)), .b (tbE h2), .b (tbE h3), .l (ref01_Shift_ii_L0_f0_0 x0 x1 1 0 (⟨1, 0⟩ : ref01_Shift_ii_L0_s0) (tbE h4)), .c (ref01_Floor_ii_t0 x0 (ref01_Shift_ii_e0 x1) (tbE h5))] (by kernel_rfl)
      · intro g0
        exact w32 [.c (ref01_Small_i_t0 x0), .b (notT (tbE h1)), .b (tbE h2), .b (tbE h3)] (by kernel_rfl)
    · intro g0
      exact w32 [.c (ref01_Small_i_t0 x0), .b (notT (tbE h1)), .b (tbE h2)] (by kernel_rfl)

def ref01_Apart_ii_c0 (x0 : Int) (x1 : Int) : Bool := (bif tb (ref01_All_o_c0 [x0, x1]) then true else false)

def ref01_Apart_ii_r0_0 (x0 : Int) (x1 : Int) : Int := (bif tb (ref01_All_o_r0_0 [x0, x1]) then (bif tb (decide (x1 < x0)) then (wi (x0 - x1)) else (wi (x1 - x0))) else 0)

theorem ref01_Apart_ii_t0 (x0 : Int) (x1 : Int) : ref01_Apart_ii_c0 x0 x1 = true → cl E0 35 [(V.d (.int .i64 x0)), (V.d (.int .i64 x1))] [] = some ([(V.d (.int .i64 (ref01_Apart_ii_r0_0 x0 x1)))], []) := by
  unfold ref01_Apart_ii_c0 ref01_Apart_ii_r0_0
  cases h1 : tb (ref01_All_o_c0 [x0, x1])
  · intro g0
    exact absurd g0 ft
  · cases h2 : tb (ref01_All_o_r0_0 [x0, x1])
    · intro g0
      exact w35 [.c (ref01_All_o_t0 false [x0, x1] (tbE h1)), .b (notF (tbE h2))] (by kernel_rfl)
    · cases h3 : tb (decide (x1 < x0))
      · intro g0
        exact w35 [.c (ref01_All_o_t0 false [x0, x1] (tbE h1)), .b (notT (tbE h2)), .b (tbE h3)] (by kernel_rfl)
      · intro g0
        exact w35 [.c (ref01_All_o_t0 false [x0, x1] (tbE h1)), .b (notT (tbE h2)), .b (tbE h3)] (by kernel_rfl)

structure ref01_Bits_o_L0_s0 where
  c2 : Int
  c3 : Int
  c4 : Int
  deriving Inhabited

def ref01_Bits_o_L0_enc (x0 : Bool) (x1 : List Bool) (x2 : Int) (x3 : Int) (x4 : Int) (s0 : ref01_Bits_o_L0_s0) : List V × Mem := ([(V.d (slD encB true 1 x0 x1)), (V.d (.int .i64 s0.c2)), (V.d (.int .i64 s0.c3)), (V.d (.int .i64 s0.c4))], [])

def ref01_Bits_o_L0_sel (x1 : List Bool) (s0 : ref01_Bits_o_L0_s0) : Bool := (bif tb (decide (s0.c4 < ((x1.length : Nat) : Int))) then (bif tb (inb x1.length s0.c4) then true else false) else false)

def ref01_Bits_o_L0_nx (x1 : List Bool) (s0 : ref01_Bits_o_L0_s0) : ref01_Bits_o_L0_s0 := (bif tb (gt x1 s0.c4) then ⟨(wi (s0.c2 + s0.c3)), (wi (2 * s0.c3)), (wi (s0.c4 + 1))⟩ else ⟨s0.c2, (wi (2 * s0.c3)), (wi (s0.c4 + 1))⟩)

def ref01_Bits_o_L0_ok (x1 : List Bool) (s0 : ref01_Bits_o_L0_s0) : Bool := (itS (ref01_Bits_o_L0_sel x1) (ref01_Bits_o_L0_nx x1) bound s0).isSome
def ref01_Bits_o_L0_end (x1 : List Bool) (s0 : ref01_Bits_o_L0_s0) : ref01_Bits_o_L0_s0 := (itS (ref01_Bits_o_L0_sel x1) (ref01_Bits_o_L0_nx x1) bound s0).getD default

theorem ref01_Bits_o_L0_go (x0 : Bool) (x1 : List Bool) (x2 : Int) (x3 : Int) (x4 : Int) (s0 : ref01_Bits_o_L0_s0) : ref01_Bits_o_L0_sel x1 s0 = true → (roundG (runC E0 (cl E0) L37_0) [0, 3, 4, 5] [3] 0) (ref01_Bits_o_L0_enc x0 x1 x2 x3 x4 s0) = some (.normal, ref01_Bits_o_L0_enc x0 x1 x2 x3 x4 (ref01_Bits_o_L0_nx x1 s0)) := by
  unfold ref01_Bits_o_L0_sel ref01_Bits_o_L0_nx
  cases h1 : tb (decide (s0.c4 < ((x1.length : Nat) : Int)))
  · intro g0
    exact absurd g0 ft
  · cases h2 : tb (inb x1.length s0.c4)
    · intro g0
      exact absurd g0 ft
    · cases h3 : tb (gt x1 s0.c4)
      · intro _
        exact round_walk [.o 11 (fun _ => o_len_os (enc := encB) (l := x1) (fl := true) (n := x0) (s := 1)), .b (tbE h1), .o 17 (fun _ => o_idx_os (enc := encB) (l := x1) (fl := true) (n := x0) (s := 1) (k := .i64) (tbE h2)), .b (tbE h3)] (by kernel_rfl)
      · intro _
        exact round_walk [.o 11 (fun _ => o_len_os (enc := encB) (l := x1) (fl := true) (n := x0) (s := 1)), .b (tbE h1), .o 17 (fun _ => o_idx_os (enc := encB) (l := x1) (fl := true) (n := x0) (s := 1) (k := .i64) (tbE h2)), .b (tbE h3)] (by kernel_rfl)

def ref01_Bits_o_L0_c0 (x1 : List Bool) (s0 : ref01_Bits_o_L0_s0) : Bool := (bif tb (decide (s0.c4 < ((x1.length : Nat) : Int))) then false else true)

theorem ref01_Bits_o_L0_x0 (x0 : Bool) (x1 : List Bool) (x2 : Int) (x3 : Int) (x4 : Int) (s0 : ref01_Bits_o_L0_s0) : ref01_Bits_o_L0_sel x1 s0 = false → ref01_Bits_o_L0_c0 x1 s0 = true → (roundG (runC E0 (cl E0) L37_0) [0, 3, 4, 5] [3] 0) (ref01_Bits_o_L0_enc x0 x1 x2 x3 x4 s0) = some ((.exit 0), ([(V.d (.int .i64 s0.c2))], [])) := by
  unfold ref01_Bits_o_L0_sel ref01_Bits_o_L0_c0
  cases h1 : tb (decide (s0.c4 < ((x1.length : Nat) : Int)))
  · intro g0 g1
    exact round_walk [.o 11 (fun _ => o_len_os (enc := encB) (l := x1) (fl := true) (n := x0) (s := 1)), .b (tbE h1)] (by kernel_rfl)
  · cases h2 : tb (inb x1.length s0.c4)
    · intro g0 g1
      exact absurd g1 ft
    · cases h3 : tb (gt x1 s0.c4)
      · intro g0 g1
        exact absurd g0 tf
      · intro g0 g1
        exact absurd g0 tf

theorem ref01_Bits_o_L0_f0_0 (x0 : Bool) (x1 : List Bool) (x2 : Int) (x3 : Int) (x4 : Int) (s : ref01_Bits_o_L0_s0) (hok : ref01_Bits_o_L0_ok x1 s = true) (c0 : ref01_Bits_o_L0_c0 x1 (ref01_Bits_o_L0_end x1 s) = true) : loopG (roundG (runC E0 (cl E0) L37_0) [0, 3, 4, 5] [3] 0) bound (ref01_Bits_o_L0_enc x0 x1 x2 x3 x4 s) = some ((.exit 0), ([(V.d (.int .i64 ((ref01_Bits_o_L0_end x1 s).c2)))], [])) := by
  have e : itS (ref01_Bits_o_L0_sel x1) (ref01_Bits_o_L0_nx x1) bound s = some (ref01_Bits_o_L0_end x1 s) := itS_get hok
  have f := itS_false e
  exact loop_it (ref01_Bits_o_L0_go x0 x1 x2 x3 x4) bound s _ _ _ e (fun h => by cases h) (ref01_Bits_o_L0_x0 x0 x1 x2 x3 x4 (ref01_Bits_o_L0_end x1 s) f c0)

def ref01_Bits_o_c0 (x1 : List Bool) : Bool := (bif tb (decide (16 < ((x1.length : Nat) : Int))) then true else (bif tb (ref01_Bits_o_L0_ok x1 (⟨0, 1, 0⟩ : ref01_Bits_o_L0_s0)) then (bif tb (ref01_Bits_o_L0_c0 x1 (ref01_Bits_o_L0_end x1 (⟨0, 1, 0⟩ : ref01_Bits_o_L0_s0))) then true else false) else false))

def ref01_Bits_o_r0_0 (x1 : List Bool) : Int := (bif tb (decide (16 < ((x1.length : Nat) : Int))) then 0 else ((ref01_Bits_o_L0_end x1 (⟨0, 1, 0⟩ : ref01_Bits_o_L0_s0)).c2))

theorem ref01_Bits_o_t0 (x0 : Bool) (x1 : List Bool) : ref01_Bits_o_c0 x1 = true → cl E0 37 [(V.d (slD encB true 1 x0 x1))] [] = some ([(V.d (.int .i64 (ref01_Bits_o_r0_0 x1)))], []) := by
  unfold ref01_Bits_o_c0 ref01_Bits_o_r0_0
  cases h1 : tb (decide (16 < ((x1.length : Nat) : Int)))
  · cases h2 : tb (ref01_Bits_o_L0_ok x1 (⟨0, 1, 0⟩ : ref01_Bits_o_L0_s0))
    · intro g0
      exact absurd g0 ft
    · cases h3 : tb (ref01_Bits_o_L0_c0 x1 (ref01_Bits_o_L0_end x1 (⟨0, 1, 0⟩ : ref01_Bits_o_L0_s0)))
      · intro g0
        exact absurd g0 ft
      · intro g0
        exact w37 [.o 7 (fun _ => o_len_os (enc := encB) (l := x1) (fl := true) (n := x0) (s := 1)), .b (tbE h1), .l (ref01_Bits_o_L0_f0_0 x0 x1 0 1 0 (⟨0, 1, 0⟩ : ref01_Bits_o_L0_s0) (tbE h2) (tbE h3))] (by kernel_rfl)
  · intro g0
    exact w37 [.o 7 (fun _ => o_len_os (enc := encB) (l := x1) (fl := true) (n := x0) (s := 1)), .b (tbE h1)] (by kernel_rfl)

def ref01_Has_ii_S0_c0 (x0 : Int) (x1 : Int) : Bool := (bif tb (decide (x0 < 0)) then true else (bif tb (decide (65535 < x0)) then true else (bif tb (decide (x1 < 0)) then true else (bif tb (decide (15 < x1)) then true else false))))

theorem ref01_Has_ii_S0_t0 (x0 : Int) (x1 : Int) : ref01_Has_ii_S0_c0 x0 x1 = true → segG (runC E0 (cl E0) S39_0) [0, 1] [4] [0, 1] 0 ([(V.d (.int .i64 x0)), (V.d (.int .i64 x1))], []) = some (.ret, ([(V.d (.bool false))], [])) := by
  unfold ref01_Has_ii_S0_c0
  cases h1 : tb (decide (x0 < 0))
  · cases h2 : tb (decide (65535 < x0))
    · cases h3 : tb (decide (x1 < 0))
      · cases h4 : tb (decide (15 < x1))
        · intro g0
          exact absurd g0 ft
        · intro g0
          exact seg_walk [.b (tbE h1), .b (tbE h2), .b (tbE h3), .b (tbE h4)] (by kernel_rfl)
      · intro g0
        exact seg_walk [.b (tbE h1), .b (tbE h2), .b (tbE h3)] (by kernel_rfl)
    · intro g0
      exact seg_walk [.b (tbE h1), .b (tbE h2)] (by kernel_rfl)
  · intro g0
    exact seg_walk [.b (tbE h1)] (by kernel_rfl)

theorem ref01_Has_ii_S0_t1 (x0 : Int) (x1 : Int) : ref01_Has_ii_S0_c0 x0 x1 = false → segG (runC E0 (cl E0) S39_0) [0, 1] [4] [0, 1] 0 ([(V.d (.int .i64 x0)), (V.d (.int .i64 x1))], []) = some (.normal, ([(V.d (.int .i64 x0)), (V.d (.int .i64 x1))], [])) := by
  unfold ref01_Has_ii_S0_c0
  cases h1 : tb (decide (x0 < 0))
  · cases h2 : tb (decide (65535 < x0))
    · cases h3 : tb (decide (x1 < 0))
      · cases h4 : tb (decide (15 < x1))
        · intro g0
          exact seg_walk [.b (tbE h1), .b (tbE h2), .b (tbE h3), .b (tbE h4)] (by kernel_rfl)
        · intro g0
          exact absurd g0 tf
      · intro g0
        exact absurd g0 tf
    · intro g0
      exact absurd g0 tf
  · intro g0
    exact absurd g0 tf

structure ref01_Has_ii_L1_s0 where
  c1 : Int
  c2 : Int
  deriving Inhabited

def ref01_Has_ii_L1_enc (x0 : Int) (x1 : Int) (x2 : Int) (s0 : ref01_Has_ii_L1_s0) : List V × Mem := ([(V.d (.int .i64 x0)), (V.d (.int .i64 s0.c1)), (V.d (.int .i64 s0.c2))], [])

def ref01_Has_ii_L1_sel (x0 : Int) (s0 : ref01_Has_ii_L1_s0) : Bool := (bif tb (decide (s0.c2 < x0)) then true else false)

def ref01_Has_ii_L1_nx (x0 : Int) (s0 : ref01_Has_ii_L1_s0) : ref01_Has_ii_L1_s0 := ⟨(quoI .i64 s0.c1 2), (wi (s0.c2 + 1))⟩

def ref01_Has_ii_L1_ok (x0 : Int) (s0 : ref01_Has_ii_L1_s0) : Bool := (itS (ref01_Has_ii_L1_sel x0) (ref01_Has_ii_L1_nx x0) bound s0).isSome
def ref01_Has_ii_L1_end (x0 : Int) (s0 : ref01_Has_ii_L1_s0) : ref01_Has_ii_L1_s0 := (itS (ref01_Has_ii_L1_sel x0) (ref01_Has_ii_L1_nx x0) bound s0).getD default

theorem ref01_Has_ii_L1_go (x0 : Int) (x1 : Int) (x2 : Int) (s0 : ref01_Has_ii_L1_s0) : ref01_Has_ii_L1_sel x0 s0 = true → (roundG (runC E0 (cl E0) L39_1) [1, 5, 6] [5] 0) (ref01_Has_ii_L1_enc x0 x1 x2 s0) = some (.normal, ref01_Has_ii_L1_enc x0 x1 x2 (ref01_Has_ii_L1_nx x0 s0)) := by
  unfold ref01_Has_ii_L1_sel ref01_Has_ii_L1_nx
  cases h1 : tb (decide (s0.c2 < x0))
  · intro g0
    exact absurd g0 ft
  · intro _
    exact round_walk [.b (tbE h1)] (by kernel_rfl)

theorem ref01_Has_ii_L1_x0 (x0 : Int) (x1 : Int) (x2 : Int) (s0 : ref01_Has_ii_L1_s0) : ref01_Has_ii_L1_sel x0 s0 = false → (roundG (runC E0 (cl E0) L39_1) [1, 5, 6] [5] 0) (ref01_Has_ii_L1_enc x0 x1 x2 s0) = some ((.exit 0), ([(V.d (.int .i64 s0.c1))], [])) := by
  unfold ref01_Has_ii_L1_sel
  cases h1 : tb (decide (s0.c2 < x0))
  · intro g0
    exact round_walk [.b (tbE h1)] (by kernel_rfl)
  · intro g0
    exact absurd g0 tf

theorem ref01_Has_ii_L1_f0_0 (x0 : Int) (x1 : Int) (x2 : Int) (s : ref01_Has_ii_L1_s0) (hok : ref01_Has_ii_L1_ok x0 s = true) : loopG (roundG (runC E0 (cl E0) L39_1) [1, 5, 6] [5] 0) bound (ref01_Has_ii_L1_enc x0 x1 x2 s) = some ((.exit 0), ([(V.d (.int .i64 ((ref01_Has_ii_L1_end x0 s).c1)))], [])) := by
  have e : itS (ref01_Has_ii_L1_sel x0) (ref01_Has_ii_L1_nx x0) bound s = some (ref01_Has_ii_L1_end x0 s) := itS_get hok
  have f := itS_false e
  exact loop_it (ref01_Has_ii_L1_go x0 x1 x2) bound s _ _ _ e (fun h => by cases h) (ref01_Has_ii_L1_x0 x0 x1 x2 (ref01_Has_ii_L1_end x0 s) f )

def ref01_Has_ii_S2_c0 (x0 : Int) (x1 : Int) : Bool := (bif tb (ref01_Has_ii_L1_ok x0 (⟨x1, 0⟩ : ref01_Has_ii_L1_s0)) then true else false)

theorem ref01_Has_ii_S2_t0 (x0 : Int) (x1 : Int) : ref01_Has_ii_S2_c0 x0 x1 = true → segG (runC E0 (cl E0) S39_2) [1, 5] [] [5] 0 ([(V.d (.int .i64 x0)), (V.d (.int .i64 x1))], []) = some (.normal, ([(V.d (.int .i64 ((ref01_Has_ii_L1_end x0 (⟨x1, 0⟩ : ref01_Has_ii_L1_s0)).c1)))], [])) := by
  unfold ref01_Has_ii_S2_c0
  cases h1 : tb (ref01_Has_ii_L1_ok x0 (⟨x1, 0⟩ : ref01_Has_ii_L1_s0))
  · intro g0
    exact absurd g0 ft
  · intro g0
    exact seg_walk [.l (ref01_Has_ii_L1_f0_0 x0 x1 0 (⟨x1, 0⟩ : ref01_Has_ii_L1_s0) (tbE h1))] (by kernel_rfl)

def ref01_Has_ii_e0 (x0 : Int) (x1 : Int) : Int := remI .i64 ((ref01_Has_ii_L1_end x1 (⟨x0, 0⟩ : ref01_Has_ii_L1_s0)).c1) 2

def ref01_Has_ii_c0 (x0 : Int) (x1 : Int) : Bool := (bif tb (ref01_Has_ii_S0_c0 x0 x1) then true else (bif tb (ref01_Has_ii_S2_c0 x1 x0) then true else false))

def ref01_Has_ii_r0_0 (x0 : Int) (x1 : Int) : Bool := (bif tb (ref01_Has_ii_S0_c0 x0 x1) then false else (((ref01_Has_ii_e0 x0 x1) : Int) == 1))

theorem ref01_Has_ii_t0 (x0 : Int) (x1 : Int) : ref01_Has_ii_c0 x0 x1 = true → cl E0 39 [(V.d (.int .i64 x0)), (V.d (.int .i64 x1))] [] = some ([(V.d (.bool (ref01_Has_ii_r0_0 x0 x1)))], []) := by
  unfold ref01_Has_ii_c0 ref01_Has_ii_r0_0
  cases h1 : tb (ref01_Has_ii_S0_c0 x0 x1)
  · cases h2 : tb (ref01_Has_ii_S2_c0 x1 x0)
    · intro g0
      exact absurd g0 ft
    · intro g0
      exact w39 [.s (ref01_Has_ii_S0_t1 x0 x1 (tbE h1)), .s (ref01_Has_ii_S2_t0 x1 x0 (tbE h2))] (by kernel_rfl)
  · intro g0
    exact w39 [.s (ref01_Has_ii_S0_t0 x0 x1 (tbE h1))] (by kernel_rfl)

structure ref01_Count_i_L0_s0 where
  c1 : Int
  c2 : Int
  deriving Inhabited

def ref01_Count_i_L0_enc (x0 : Int) (x1 : Int) (x2 : Int) (s0 : ref01_Count_i_L0_s0) : List V × Mem := ([(V.d (.int .i64 x0)), (V.d (.int .i64 s0.c1)), (V.d (.int .i64 s0.c2))], [])

def ref01_Count_i_L0_sel (x0 : Int) (s0 : ref01_Count_i_L0_s0) : Bool := (bif tb (decide (s0.c2 < 16)) then (bif tb (ref01_Has_ii_c0 x0 s0.c2) then true else false) else false)

def ref01_Count_i_L0_nx (x0 : Int) (s0 : ref01_Count_i_L0_s0) : ref01_Count_i_L0_s0 := (bif tb (ref01_Has_ii_r0_0 x0 s0.c2) then ⟨(wi (s0.c1 + 1)), (wi (s0.c2 + 1))⟩ else ⟨s0.c1, (wi (s0.c2 + 1))⟩)

def ref01_Count_i_L0_ok (x0 : Int) (s0 : ref01_Count_i_L0_s0) : Bool := (itS (ref01_Count_i_L0_sel x0) (ref01_Count_i_L0_nx x0) bound s0).isSome
def ref01_Count_i_L0_end (x0 : Int) (s0 : ref01_Count_i_L0_s0) : ref01_Count_i_L0_s0 := (itS (ref01_Count_i_L0_sel x0) (ref01_Count_i_L0_nx x0) bound s0).getD default

theorem ref01_Count_i_L0_go (x0 : Int) (x1 : Int) (x2 : Int) (s0 : ref01_Count_i_L0_s0) : ref01_Count_i_L0_sel x0 s0 = true → (roundG (runC E0 (cl E0) L41_0) [0, 3, 4] [3] 0) (ref01_Count_i_L0_enc x0 x1 x2 s0) = some (.normal, ref01_Count_i_L0_enc x0 x1 x2 (ref01_Count_i_L0_nx x0 s0)) := by
  unfold ref01_Count_i_L0_sel ref01_Count_i_L0_nx
  cases h1 : tb (decide (s0.c2 < 16))
  · intro g0
    exact absurd g0 ft
  · cases h2 : tb (ref01_Has_ii_c0 x0 s0.c2)
    · intro g0
      exact absurd g0 ft
    · cases h3 : tb (ref01_Has_ii_r0_0 x0 s0.c2)
      · intro _
        exact round_walk [.b (tbE h1), .c (ref01_Has_ii_t0 x0 s0.c2 (tbE h2)), .b (tbE h3)] (by kernel_rfl)
      · intro _
        exact round_walk [.b (tbE h1), .c (ref01_Has_ii_t0 x0 s0.c2 (tbE h2)), .b (tbE h3)] (by kernel_rfl)

def ref01_Count_i_L0_c0 (s0 : ref01_Count_i_L0_s0) : Bool := (bif tb (decide (s0.c2 < 16)) then false else true)

theorem ref01_Count_i_L0_x0 (x0 : Int) (x1 : Int) (x2 : Int) (s0 : ref01_Count_i_L0_s0) : ref01_Count_i_L0_sel x0 s0 = false → ref01_Count_i_L0_c0 s0 = true → (roundG (runC E0 (cl E0) L41_0) [0, 3, 4] [3] 0) (ref01_Count_i_L0_enc x0 x1 x2 s0) = some ((.exit 0), ([(V.d (.int .i64 s0.c1))], [])) := by
  unfold ref01_Count_i_L0_sel ref01_Count_i_L0_c0
  cases h1 : tb (decide (s0.c2 < 16))
  · intro g0 g1
    exact round_walk [.b (tbE h1)] (by kernel_rfl)
  · cases h2 : tb (ref01_Has_ii_c0 x0 s0.c2)
    · intro g0 g1
      exact absurd g1 ft
    · cases h3 : tb (ref01_Has_ii_r0_0 x0 s0.c2)
      · intro g0 g1
        exact absurd g0 tf
      · intro g0 g1
        exact absurd g0 tf

theorem ref01_Count_i_L0_f0_0 (x0 : Int) (x1 : Int) (x2 : Int) (s : ref01_Count_i_L0_s0) (hok : ref01_Count_i_L0_ok x0 s = true) (c0 : ref01_Count_i_L0_c0 (ref01_Count_i_L0_end x0 s) = true) : loopG (roundG (runC E0 (cl E0) L41_0) [0, 3, 4] [3] 0) bound (ref01_Count_i_L0_enc x0 x1 x2 s) = some ((.exit 0), ([(V.d (.int .i64 ((ref01_Count_i_L0_end x0 s).c1)))], [])) := by
  have e : itS (ref01_Count_i_L0_sel x0) (ref01_Count_i_L0_nx x0) bound s = some (ref01_Count_i_L0_end x0 s) := itS_get hok
  have f := itS_false e
  exact loop_it (ref01_Count_i_L0_go x0 x1 x2) bound s _ _ _ e (fun h => by cases h) (ref01_Count_i_L0_x0 x0 x1 x2 (ref01_Count_i_L0_end x0 s) f c0)

def ref01_Count_i_c0 (x0 : Int) : Bool := (bif tb (ref01_Count_i_L0_ok x0 (⟨0, 0⟩ : ref01_Count_i_L0_s0)) then (bif tb (ref01_Count_i_L0_c0 (ref01_Count_i_L0_end x0 (⟨0, 0⟩ : ref01_Count_i_L0_s0))) then true else false) else false)

theorem ref01_Count_i_t0 (x0 : Int) : ref01_Count_i_c0 x0 = true → cl E0 41 [(V.d (.int .i64 x0))] [] = some ([(V.d (.int .i64 ((ref01_Count_i_L0_end x0 (⟨0, 0⟩ : ref01_Count_i_L0_s0)).c1)))], []) := by
  unfold ref01_Count_i_c0
  cases h1 : tb (ref01_Count_i_L0_ok x0 (⟨0, 0⟩ : ref01_Count_i_L0_s0))
  · intro g0
    exact absurd g0 ft
  · cases h2 : tb (ref01_Count_i_L0_c0 (ref01_Count_i_L0_end x0 (⟨0, 0⟩ : ref01_Count_i_L0_s0)))
    · intro g0
      exact absurd g0 ft
    · intro g0
      exact w41 [.l (ref01_Count_i_L0_f0_0 x0 0 0 (⟨0, 0⟩ : ref01_Count_i_L0_s0) (tbE h1) (tbE h2))] (by kernel_rfl)

end Go.Proofs.Ytdlhhoejnhjbhaa.Den

namespace Go.Proofs.Ytdlhhoejnhjbhaa.Den
open Go Go.Proofs
set_option maxRecDepth 100000
set_option maxHeartbeats 4000000
set_option linter.unusedVariables false
set_option linter.unusedSimpArgs false

def law01_FixMasks_S0_c0 (x1 : List Bool) : Bool := (bif tb (decide (40 < ((x1.length : Nat) : Int))) then true else false)

theorem law01_FixMasks_S0_t0 (x0 : Bool) (x1 : List Bool) (x2 : Int) (x3 : Int) : law01_FixMasks_S0_c0 x1 = true → segG (runC E0 (cl E0) S7_0) [0, 1, 2] [6] [0, 1, 2] 0 ([(V.d (slD encB true 1 x0 x1)), (V.d (.int .i64 x2)), (V.d (.int .i64 x3))], []) = some (.ret, ([(V.d (.bool true))], [])) := by
  unfold law01_FixMasks_S0_c0
  cases h1 : tb (decide (40 < ((x1.length : Nat) : Int)))
  · intro g0
    exact absurd g0 ft
  · intro g0
    exact seg_walk [.o 11 (fun _ => o_len_os (enc := encB) (l := x1) (fl := true) (n := x0) (s := 1)), .b (tbE h1), .c (law01_alive_t0)] (by kernel_rfl)

theorem law01_FixMasks_S0_t1 (x0 : Bool) (x1 : List Bool) (x2 : Int) (x3 : Int) : law01_FixMasks_S0_c0 x1 = false → segG (runC E0 (cl E0) S7_0) [0, 1, 2] [6] [0, 1, 2] 0 ([(V.d (slD encB true 1 x0 x1)), (V.d (.int .i64 x2)), (V.d (.int .i64 x3))], []) = some (.normal, ([(V.d (slD encB true 1 x0 x1)), (V.d (.int .i64 x2)), (V.d (.int .i64 x3))], [])) := by
  unfold law01_FixMasks_S0_c0
  cases h1 : tb (decide (40 < ((x1.length : Nat) : Int)))
  · intro g0
    exact seg_walk [.o 11 (fun _ => o_len_os (enc := encB) (l := x1) (fl := true) (n := x0) (s := 1)), .b (tbE h1)] (by kernel_rfl)
  · intro g0
    exact absurd g0 tf

def law01_FixMasks_S1_c0 (x1 : List Bool) (x2 : Int) (x3 : Int) (x4 : Int) : Bool := (bif tb (ref01_Bits_o_c0 x1) then (bif tb ((x4 : Int) != (ref01_Bits_o_r0_0 x1)) then true else (bif tb (ref01_Has_ii_c0 x2 x3) then (bif tb (true != ((fix_Has_ii_r0_0 x2 x3) == (ref01_Has_ii_r0_0 x2 x3))) then true else (bif tb (ref01_Count_i_c0 x2) then (bif tb (((fix_Count_i_r0_0 x2) : Int) != ((ref01_Count_i_L0_end x2 (⟨0, 0⟩ : ref01_Count_i_L0_s0)).c1)) then true else false) else false)) else false)) else false)

def law01_FixMasks_S1_c1 (x1 : List Bool) (x2 : Int) (x3 : Int) (x4 : Int) : Bool := (bif tb (ref01_Bits_o_c0 x1) then (bif tb ((x4 : Int) != (ref01_Bits_o_r0_0 x1)) then false else (bif tb (ref01_Has_ii_c0 x2 x3) then (bif tb (true != ((fix_Has_ii_r0_0 x2 x3) == (ref01_Has_ii_r0_0 x2 x3))) then false else (bif tb (ref01_Count_i_c0 x2) then (bif tb (((fix_Count_i_r0_0 x2) : Int) != ((ref01_Count_i_L0_end x2 (⟨0, 0⟩ : ref01_Count_i_L0_s0)).c1)) then false else true) else false)) else false)) else false)

theorem law01_FixMasks_S1_t0 (x0 : Bool) (x1 : List Bool) (x2 : Int) (x3 : Int) (x4 : Int) : law01_FixMasks_S1_c0 x1 x2 x3 x4 = true → segG (runC E0 (cl E0) S7_1) [0, 1, 2, 7] [6] [0, 7] 0 ([(V.d (slD encB true 1 x0 x1)), (V.d (.int .i64 x2)), (V.d (.int .i64 x3)), (V.d (.int .i64 x4))], []) = some (.ret, ([(V.d (.bool false))], [])) := by
  unfold law01_FixMasks_S1_c0
  cases h1 : tb (ref01_Bits_o_c0 x1)
  · intro g0
    exact absurd g0 ft
  · cases h2 : tb ((x4 : Int) != (ref01_Bits_o_r0_0 x1))
    · cases h3 : tb (ref01_Has_ii_c0 x2 x3)
      · intro g0
        exact absurd g0 ft
      · cases h4 : tb (true != ((fix_Has_ii_r0_0 x2 x3) == (ref01_Has_ii_r0_0 x2 x3)))
        · cases h5 : tb (ref01_Count_i_c0 x2)
          · intro g0
            exact absurd g0 ft
          · cases h6 : tb (((fix_Count_i_r0_0 x2) : Int) != ((ref01_Count_i_L0_end x2 (⟨0, 0⟩ : ref01_Count_i_L0_s0)).c1))
            · intro g0
              exact absurd g0 ft
            · intro g0
              exact seg_walk [.c (ref01_Bits_o_t0 x0 x1 (tbE h1)), .b (tbE h2), .c (fix_Has_ii_t0 x2 x3), .c (ref01_Has_ii_t0 x2 x3 (tbE h3)), .b (tbE h4), .c (fix_Count_i_t0 x2), .c (ref01_Count_i_t0 x2 (tbE h5)), .b (tbE h6)] (by kernel_rfl)
        · intro g0
          exact seg_walk [.c (ref01_Bits_o_t0 x0 x1 (tbE h1)), .b (tbE h2), .c (fix_Has_ii_t0 x2 x3), .c (ref01_Has_ii_t0 x2 x3 (tbE h3)), .b (tbE h4)] (by kernel_rfl)
    · intro g0
      exact seg_walk [.c (ref01_Bits_o_t0 x0 x1 (tbE h1)), .b (tbE h2)] (by kernel_rfl)

theorem law01_FixMasks_S1_t1 (x0 : Bool) (x1 : List Bool) (x2 : Int) (x3 : Int) (x4 : Int) : law01_FixMasks_S1_c0 x1 x2 x3 x4 = false → law01_FixMasks_S1_c1 x1 x2 x3 x4 = true → segG (runC E0 (cl E0) S7_1) [0, 1, 2, 7] [6] [0, 7] 0 ([(V.d (slD encB true 1 x0 x1)), (V.d (.int .i64 x2)), (V.d (.int .i64 x3)), (V.d (.int .i64 x4))], []) = some (.normal, ([(V.d (slD encB true 1 x0 x1)), (V.d (.int .i64 x4))], [])) := by
  unfold law01_FixMasks_S1_c0 law01_FixMasks_S1_c1
  cases h1 : tb (ref01_Bits_o_c0 x1)
  · intro g0 g1
    exact absurd g1 ft
  · cases h2 : tb ((x4 : Int) != (ref01_Bits_o_r0_0 x1))
    · cases h3 : tb (ref01_Has_ii_c0 x2 x3)
      · intro g0 g1
        exact absurd g1 ft
      · cases h4 : tb (true != ((fix_Has_ii_r0_0 x2 x3) == (ref01_Has_ii_r0_0 x2 x3)))
        · cases h5 : tb (ref01_Count_i_c0 x2)
          · intro g0 g1
            exact absurd g1 ft
          · cases h6 : tb (((fix_Count_i_r0_0 x2) : Int) != ((ref01_Count_i_L0_end x2 (⟨0, 0⟩ : ref01_Count_i_L0_s0)).c1))
            · intro g0 g1
              exact seg_walk [.c (ref01_Bits_o_t0 x0 x1 (tbE h1)), .b (tbE h2), .c (fix_Has_ii_t0 x2 x3), .c (ref01_Has_ii_t0 x2 x3 (tbE h3)), .b (tbE h4), .c (fix_Count_i_t0 x2), .c (ref01_Count_i_t0 x2 (tbE h5)), .b (tbE h6)] (by kernel_rfl)
            · intro g0 g1
              exact absurd g0 tf
        · intro g0 g1
          exact absurd g0 tf
    · intro g0 g1
      exact absurd g0 tf

structure law01_FixMasks_L2_s0 where
  c3 : Int
  c4 : Int
  deriving Inhabited

def law01_FixMasks_L2_enc (x0 : Bool) (x1 : List Bool) (x2 : Int) (x3 : Int) (x4 : Int) (s0 : law01_FixMasks_L2_s0) : List V × Mem := ([(V.d (slD encB true 1 x0 x1)), (V.d (.int .i64 x2)), (V.d (.int .i64 s0.c3)), (V.d (.int .i64 s0.c4))], [])

def law01_FixMasks_L2_sel (x1 : List Bool) (x2 : Int) (s0 : law01_FixMasks_L2_s0) : Bool := (bif tb (decide (s0.c4 < ((x1.length : Nat) : Int))) then (bif tb (inb x1.length s0.c4) then (bif tb (decide (((x1.length : Nat) : Int) ≤ 16)) then (bif tb (true != ((fix_Has_ii_r0_0 x2 s0.c4) == (gt x1 s0.c4))) then false else true) else true) else false) else false)

def law01_FixMasks_L2_nx (x1 : List Bool) (x2 : Int) (s0 : law01_FixMasks_L2_s0) : law01_FixMasks_L2_s0 := (bif tb (gt x1 s0.c4) then ⟨(wi (s0.c3 + 1)), (wi (s0.c4 + 1))⟩ else ⟨s0.c3, (wi (s0.c4 + 1))⟩)

def law01_FixMasks_L2_ok (x1 : List Bool) (x2 : Int) (s0 : law01_FixMasks_L2_s0) : Bool := (itS (law01_FixMasks_L2_sel x1 x2) (law01_FixMasks_L2_nx x1 x2) bound s0).isSome
def law01_FixMasks_L2_end (x1 : List Bool) (x2 : Int) (s0 : law01_FixMasks_L2_s0) : law01_FixMasks_L2_s0 := (itS (law01_FixMasks_L2_sel x1 x2) (law01_FixMasks_L2_nx x1 x2) bound s0).getD default

theorem law01_FixMasks_L2_go (x0 : Bool) (x1 : List Bool) (x2 : Int) (x3 : Int) (x4 : Int) (s0 : law01_FixMasks_L2_s0) : law01_FixMasks_L2_sel x1 x2 s0 = true → (roundG (runC E0 (cl E0) L7_2) [0, 7, 8, 9] [0, 6, 7, 8] 0) (law01_FixMasks_L2_enc x0 x1 x2 x3 x4 s0) = some (.normal, law01_FixMasks_L2_enc x0 x1 x2 x3 x4 (law01_FixMasks_L2_nx x1 x2 s0)) := by
  unfold law01_FixMasks_L2_sel law01_FixMasks_L2_nx
  cases h1 : tb (decide (s0.c4 < ((x1.length : Nat) : Int)))
  · intro g0
    exact absurd g0 ft
  · cases h2 : tb (inb x1.length s0.c4)
    · intro g0
      exact absurd g0 ft
    · cases h3 : tb (gt x1 s0.c4)
      · cases h4 : tb (decide (((x1.length : Nat) : Int) ≤ 16))
        · intro _
          exact round_walk [.o 38 (fun _ => o_len_os (enc := encB) (l := x1) (fl := true) (n := x0) (s := 1)), .b (tbE h1), .o 44 (fun _ => o_idx_os (enc := encB) (l := x1) (fl := true) (n := x0) (s := 1) (k := .i64) (tbE h2)), .b (tbE h3), .o 49 (fun _ => o_len_os (enc := encB) (l := x1) (fl := true) (n := x0) (s := 1)), .b (tbE h4)] (by kernel_rfl)
        · cases h5 : tb (true != ((fix_Has_ii_r0_0 x2 s0.c4) == (gt x1 s0.c4)))
          · intro _
            exact round_walk [.o 38 (fun _ => o_len_os (enc := encB) (l := x1) (fl := true) (n := x0) (s := 1)), .b (tbE h1), .o 44 (fun _ => o_idx_os (enc := encB) (l := x1) (fl := true) (n := x0) (s := 1) (k := .i64) (tbE h2)), .b (tbE h3), .o 49 (fun _ => o_len_os (enc := encB) (l := x1) (fl := true) (n := x0) (s := 1)), .b (tbE h4), .c (fix_Has_ii_t0 x2 s0.c4), .o 57 (fun _ => o_idx_os (enc := encB) (l := x1) (fl := true) (n := x0) (s := 1) (k := .i64) (tbE h2)), .b (tbE h5)] (by kernel_rfl)
          · intro g0
            exact absurd g0 ft
      · cases h4 : tb (decide (((x1.length : Nat) : Int) ≤ 16))
        · intro _
          exact round_walk [.o 38 (fun _ => o_len_os (enc := encB) (l := x1) (fl := true) (n := x0) (s := 1)), .b (tbE h1), .o 44 (fun _ => o_idx_os (enc := encB) (l := x1) (fl := true) (n := x0) (s := 1) (k := .i64) (tbE h2)), .b (tbE h3), .o 49 (fun _ => o_len_os (enc := encB) (l := x1) (fl := true) (n := x0) (s := 1)), .b (tbE h4)] (by kernel_rfl)
        · cases h5 : tb (true != ((fix_Has_ii_r0_0 x2 s0.c4) == (gt x1 s0.c4)))
          · intro _
            exact round_walk [.o 38 (fun _ => o_len_os (enc := encB) (l := x1) (fl := true) (n := x0) (s := 1)), .b (tbE h1), .o 44 (fun _ => o_idx_os (enc := encB) (l := x1) (fl := true) (n := x0) (s := 1) (k := .i64) (tbE h2)), .b (tbE h3), .o 49 (fun _ => o_len_os (enc := encB) (l := x1) (fl := true) (n := x0) (s := 1)), .b (tbE h4), .c (fix_Has_ii_t0 x2 s0.c4), .o 57 (fun _ => o_idx_os (enc := encB) (l := x1) (fl := true) (n := x0) (s := 1) (k := .i64) (tbE h2)), .b (tbE h5)] (by kernel_rfl)
          · intro g0
            exact absurd g0 ft

def law01_FixMasks_L2_c0 (x1 : List Bool) (s0 : law01_FixMasks_L2_s0) : Bool := (bif tb (decide (s0.c4 < ((x1.length : Nat) : Int))) then (bif tb (inb x1.length s0.c4) then true else false) else false)

def law01_FixMasks_L2_r0_4 (x1 : List Bool) (s0 : law01_FixMasks_L2_s0) : Int := (bif tb (gt x1 s0.c4) then (wi (s0.c3 + 1)) else s0.c3)

def law01_FixMasks_L2_c1 (x1 : List Bool) (s0 : law01_FixMasks_L2_s0) : Bool := (bif tb (decide (s0.c4 < ((x1.length : Nat) : Int))) then false else true)

theorem law01_FixMasks_L2_x0 (x0 : Bool) (x1 : List Bool) (x2 : Int) (x3 : Int) (x4 : Int) (s0 : law01_FixMasks_L2_s0) : law01_FixMasks_L2_sel x1 x2 s0 = false → law01_FixMasks_L2_c0 x1 s0 = true → (roundG (runC E0 (cl E0) L7_2) [0, 7, 8, 9] [0, 6, 7, 8] 0) (law01_FixMasks_L2_enc x0 x1 x2 x3 x4 s0) = some (.ret, ([(V.d (slD encB true 1 x0 x1)), (V.d (.bool false)), (V.d (.int .i64 x2)), (V.d (.int .i64 (law01_FixMasks_L2_r0_4 x1 s0)))], [])) := by
  unfold law01_FixMasks_L2_sel law01_FixMasks_L2_c0 law01_FixMasks_L2_r0_4
  cases h1 : tb (decide (s0.c4 < ((x1.length : Nat) : Int)))
  · intro g0 g1
    exact absurd g1 ft
  · cases h2 : tb (inb x1.length s0.c4)
    · intro g0 g1
      exact absurd g1 ft
    · cases h3 : tb (gt x1 s0.c4)
      · cases h4 : tb (decide (((x1.length : Nat) : Int) ≤ 16))
        · intro g0 g1
          exact absurd g0 tf
        · cases h5 : tb (true != ((fix_Has_ii_r0_0 x2 s0.c4) == (gt x1 s0.c4)))
          · intro g0 g1
            exact absurd g0 tf
          · intro g0 g1
            exact round_walk [.o 38 (fun _ => o_len_os (enc := encB) (l := x1) (fl := true) (n := x0) (s := 1)), .b (tbE h1), .o 44 (fun _ => o_idx_os (enc := encB) (l := x1) (fl := true) (n := x0) (s := 1) (k := .i64) (tbE h2)), .b (tbE h3), .o 49 (fun _ => o_len_os (enc := encB) (l := x1) (fl := true) (n := x0) (s := 1)), .b (tbE h4), .c (fix_Has_ii_t0 x2 s0.c4), .o 57 (fun _ => o_idx_os (enc := encB) (l := x1) (fl := true) (n := x0) (s := 1) (k := .i64) (tbE h2)), .b (tbE h5)] (by kernel_rfl)
      · cases h4 : tb (decide (((x1.length : Nat) : Int) ≤ 16))
        · intro g0 g1
          exact absurd g0 tf
        · cases h5 : tb (true != ((fix_Has_ii_r0_0 x2 s0.c4) == (gt x1 s0.c4)))
          · intro g0 g1
            exact absurd g0 tf
          · intro g0 g1
            exact round_walk [.o 38 (fun _ => o_len_os (enc := encB) (l := x1) (fl := true) (n := x0) (s := 1)), .b (tbE h1), .o 44 (fun _ => o_idx_os (enc := encB) (l := x1) (fl := true) (n := x0) (s := 1) (k := .i64) (tbE h2)), .b (tbE h3), .o 49 (fun _ => o_len_os (enc := encB) (l := x1) (fl := true) (n := x0) (s := 1)), .b (tbE h4), .c (fix_Has_ii_t0 x2 s0.c4), .o 57 (fun _ => o_idx_os (enc := encB) (l := x1) (fl := true) (n := x0) (s := 1) (k := .i64) (tbE h2)), .b (tbE h5)] (by kernel_rfl)

theorem law01_FixMasks_L2_x1 (x0 : Bool) (x1 : List Bool) (x2 : Int) (x3 : Int) (x4 : Int) (s0 : law01_FixMasks_L2_s0) : law01_FixMasks_L2_sel x1 x2 s0 = false → law01_FixMasks_L2_c0 x1 s0 = false → law01_FixMasks_L2_c1 x1 s0 = true → (roundG (runC E0 (cl E0) L7_2) [0, 7, 8, 9] [0, 6, 7, 8] 0) (law01_FixMasks_L2_enc x0 x1 x2 x3 x4 s0) = some ((.exit 0), ([(V.d (slD encB true 1 x0 x1)), V.un, (V.d (.int .i64 x2)), (V.d (.int .i64 s0.c3))], [])) := by
  unfold law01_FixMasks_L2_sel law01_FixMasks_L2_c0 law01_FixMasks_L2_c1
  cases h1 : tb (decide (s0.c4 < ((x1.length : Nat) : Int)))
  · intro g0 g1 g2
    exact round_walk [.o 38 (fun _ => o_len_os (enc := encB) (l := x1) (fl := true) (n := x0) (s := 1)), .b (tbE h1)] (by kernel_rfl)
  · cases h2 : tb (inb x1.length s0.c4)
    · intro g0 g1 g2
      exact absurd g2 ft
    · cases h3 : tb (gt x1 s0.c4)
      · cases h4 : tb (decide (((x1.length : Nat) : Int) ≤ 16))
        · intro g0 g1 g2
          exact absurd g0 tf
        · cases h5 : tb (true != ((fix_Has_ii_r0_0 x2 s0.c4) == (gt x1 s0.c4)))
          · intro g0 g1 g2
            exact absurd g0 tf
          · intro g0 g1 g2
            exact absurd g1 tf
      · cases h4 : tb (decide (((x1.length : Nat) : Int) ≤ 16))
        · intro g0 g1 g2
          exact absurd g0 tf
        · cases h5 : tb (true != ((fix_Has_ii_r0_0 x2 s0.c4) == (gt x1 s0.c4)))
          · intro g0 g1 g2
            exact absurd g0 tf
          · intro g0 g1 g2
            exact absurd g1 tf

theorem law01_FixMasks_L2_f0_0 (x0 : Bool) (x1 : List Bool) (x2 : Int) (x3 : Int) (x4 : Int) (s : law01_FixMasks_L2_s0) (hok : law01_FixMasks_L2_ok x1 x2 s = true) (c0 : law01_FixMasks_L2_c0 x1 (law01_FixMasks_L2_end x1 x2 s) = true) : loopG (roundG (runC E0 (cl E0) L7_2) [0, 7, 8, 9] [0, 6, 7, 8] 0) bound (law01_FixMasks_L2_enc x0 x1 x2 x3 x4 s) = some (.ret, ([(V.d (slD encB true 1 x0 x1)), (V.d (.bool false)), (V.d (.int .i64 x2)), (V.d (.int .i64 (law01_FixMasks_L2_r0_4 x1 (law01_FixMasks_L2_end x1 x2 s))))], [])) := by
  have e : itS (law01_FixMasks_L2_sel x1 x2) (law01_FixMasks_L2_nx x1 x2) bound s = some (law01_FixMasks_L2_end x1 x2 s) := itS_get hok
  have f := itS_false e
  exact loop_it (law01_FixMasks_L2_go x0 x1 x2 x3 x4) bound s _ _ _ e (fun h => by cases h) (law01_FixMasks_L2_x0 x0 x1 x2 x3 x4 (law01_FixMasks_L2_end x1 x2 s) f c0)

theorem law01_FixMasks_L2_f0_1 (x0 : Bool) (x1 : List Bool) (x2 : Int) (x3 : Int) (x4 : Int) (s : law01_FixMasks_L2_s0) (hok : law01_FixMasks_L2_ok x1 x2 s = true) (c0 : law01_FixMasks_L2_c0 x1 (law01_FixMasks_L2_end x1 x2 s) = false) (c1 : law01_FixMasks_L2_c1 x1 (law01_FixMasks_L2_end x1 x2 s) = true) : loopG (roundG (runC E0 (cl E0) L7_2) [0, 7, 8, 9] [0, 6, 7, 8] 0) bound (law01_FixMasks_L2_enc x0 x1 x2 x3 x4 s) = some ((.exit 0), ([(V.d (slD encB true 1 x0 x1)), V.un, (V.d (.int .i64 x2)), (V.d (.int .i64 ((law01_FixMasks_L2_end x1 x2 s).c3)))], [])) := by
  have e : itS (law01_FixMasks_L2_sel x1 x2) (law01_FixMasks_L2_nx x1 x2) bound s = some (law01_FixMasks_L2_end x1 x2 s) := itS_get hok
  have f := itS_false e
  exact loop_it (law01_FixMasks_L2_go x0 x1 x2 x3 x4) bound s _ _ _ e (fun h => by cases h) (law01_FixMasks_L2_x1 x0 x1 x2 x3 x4 (law01_FixMasks_L2_end x1 x2 s) f c0 c1)

def law01_FixMasks_S3_c0 (x1 : List Bool) (x2 : Int) : Bool := (bif tb (law01_FixMasks_L2_ok x1 x2 (⟨0, 0⟩ : law01_FixMasks_L2_s0)) then (bif tb (law01_FixMasks_L2_c0 x1 (law01_FixMasks_L2_end x1 x2 (⟨0, 0⟩ : law01_FixMasks_L2_s0))) then true else false) else false)

def law01_FixMasks_S3_c1 (x1 : List Bool) (x2 : Int) : Bool := (bif tb (law01_FixMasks_L2_ok x1 x2 (⟨0, 0⟩ : law01_FixMasks_L2_s0)) then (bif tb (law01_FixMasks_L2_c0 x1 (law01_FixMasks_L2_end x1 x2 (⟨0, 0⟩ : law01_FixMasks_L2_s0))) then false else (bif tb (law01_FixMasks_L2_c1 x1 (law01_FixMasks_L2_end x1 x2 (⟨0, 0⟩ : law01_FixMasks_L2_s0))) then true else false)) else false)

theorem law01_FixMasks_S3_t0 (x0 : Bool) (x1 : List Bool) (x2 : Int) : law01_FixMasks_S3_c0 x1 x2 = true → segG (runC E0 (cl E0) S7_3) [0, 7, 8] [6] [0, 7, 8] 0 ([(V.d (slD encB true 1 x0 x1)), (V.d (.int .i64 x2)), (V.d (.int .i64 0))], []) = some (.ret, ([(V.d (.bool false))], [])) := by
  unfold law01_FixMasks_S3_c0
  cases h1 : tb (law01_FixMasks_L2_ok x1 x2 (⟨0, 0⟩ : law01_FixMasks_L2_s0))
  · intro g0
    exact absurd g0 ft
  · cases h2 : tb (law01_FixMasks_L2_c0 x1 (law01_FixMasks_L2_end x1 x2 (⟨0, 0⟩ : law01_FixMasks_L2_s0)))
    · cases h3 : tb (law01_FixMasks_L2_c1 x1 (law01_FixMasks_L2_end x1 x2 (⟨0, 0⟩ : law01_FixMasks_L2_s0)))
      · intro g0
        exact absurd g0 ft
      · intro g0
        exact absurd g0 ft
    · intro g0
      exact seg_walk [.l (law01_FixMasks_L2_f0_0 x0 x1 x2 0 0 (⟨0, 0⟩ : law01_FixMasks_L2_s0) (tbE h1) (tbE h2))] (by kernel_rfl)

theorem law01_FixMasks_S3_t1 (x0 : Bool) (x1 : List Bool) (x2 : Int) : law01_FixMasks_S3_c0 x1 x2 = false → law01_FixMasks_S3_c1 x1 x2 = true → segG (runC E0 (cl E0) S7_3) [0, 7, 8] [6] [0, 7, 8] 0 ([(V.d (slD encB true 1 x0 x1)), (V.d (.int .i64 x2)), (V.d (.int .i64 0))], []) = some (.normal, ([(V.d (slD encB true 1 x0 x1)), (V.d (.int .i64 x2)), (V.d (.int .i64 ((law01_FixMasks_L2_end x1 x2 (⟨0, 0⟩ : law01_FixMasks_L2_s0)).c3)))], [])) := by
  unfold law01_FixMasks_S3_c0 law01_FixMasks_S3_c1
  cases h1 : tb (law01_FixMasks_L2_ok x1 x2 (⟨0, 0⟩ : law01_FixMasks_L2_s0))
  · intro g0 g1
    exact absurd g1 ft
  · cases h2 : tb (law01_FixMasks_L2_c0 x1 (law01_FixMasks_L2_end x1 x2 (⟨0, 0⟩ : law01_FixMasks_L2_s0)))
    · cases h3 : tb (law01_FixMasks_L2_c1 x1 (law01_FixMasks_L2_end x1 x2 (⟨0, 0⟩ : law01_FixMasks_L2_s0)))
      · intro g0 g1
        exact absurd g1 ft
      · intro g0 g1
        exact seg_walk [.l (law01_FixMasks_L2_f0_1 x0 x1 x2 0 0 (⟨0, 0⟩ : law01_FixMasks_L2_s0) (tbE h1) (tbE h2) (tbE h3))] (by kernel_rfl)
    · intro g0 g1
      exact absurd g0 tf

def law01_FixMasks_S4_r0_0 (x1 : List Bool) (x2 : Int) (x3 : Int) : Bool := (bif tb (decide (16 < ((x1.length : Nat) : Int))) then true else (((fix_Count_i_r0_0 x2) : Int) == x3))

theorem law01_FixMasks_S4_t0 (x0 : Bool) (x1 : List Bool) (x2 : Int) (x3 : Int) : segG (runC E0 (cl E0) S7_4) [0, 7, 8] [] [6] 0 ([(V.d (slD encB true 1 x0 x1)), (V.d (.int .i64 x2)), (V.d (.int .i64 x3))], []) = some (.normal, ([(V.d (.bool (law01_FixMasks_S4_r0_0 x1 x2 x3)))], [])) := by
  unfold law01_FixMasks_S4_r0_0
  cases h1 : tb (decide (16 < ((x1.length : Nat) : Int)))
  · exact seg_walk [.c (law01_alive_t0), .k true, .o 64 (fun _ => o_len_os (enc := encB) (l := x1) (fl := true) (n := x0) (s := 1)), .b (tbE h1), .c (fix_Count_i_t0 x2)] (by kernel_rfl)
  · exact seg_walk [.c (law01_alive_t0), .k true, .o 64 (fun _ => o_len_os (enc := encB) (l := x1) (fl := true) (n := x0) (s := 1)), .b (tbE h1)] (by kernel_rfl)

def law01_FixMasks_e0 (x1 : List Bool) : Int := ((law01_FixMasks_L2_end x1 (fix_Bits_o_r0_0 x1) (⟨0, 0⟩ : law01_FixMasks_L2_s0)).c3)

def law01_FixMasks_c0 (x1 : List Bool) (x2 : Int) (x3 : Int) : Bool := (bif tb (law01_FixMasks_S0_c0 x1) then true else (bif tb (fix_Bits_o_c0 x1) then (bif tb (law01_FixMasks_S1_c0 x1 x2 x3 (fix_Bits_o_r0_0 x1)) then true else (bif tb (law01_FixMasks_S1_c1 x1 x2 x3 (fix_Bits_o_r0_0 x1)) then (bif tb (law01_FixMasks_S3_c0 x1 (fix_Bits_o_r0_0 x1)) then true else (bif tb (law01_FixMasks_S3_c1 x1 (fix_Bits_o_r0_0 x1)) then true else false)) else false)) else false))

def law01_FixMasks_r0_0 (x1 : List Bool) (x2 : Int) (x3 : Int) : Bool := (bif tb (law01_FixMasks_S0_c0 x1) then true else (bif tb (law01_FixMasks_S1_c0 x1 x2 x3 (fix_Bits_o_r0_0 x1)) then false else (bif tb (law01_FixMasks_S3_c0 x1 (fix_Bits_o_r0_0 x1)) then false else (law01_FixMasks_S4_r0_0 x1 (fix_Bits_o_r0_0 x1) (law01_FixMasks_e0 x1)))))

theorem law01_FixMasks_t0 (x0 : Bool) (x1 : List Bool) (x2 : Int) (x3 : Int) : law01_FixMasks_c0 x1 x2 x3 = true → cl E0 7 [(V.d (slD encB true 1 x0 x1)), (V.d (.int .i64 x2)), (V.d (.int .i64 x3))] [] = some ([(V.d (.bool (law01_FixMasks_r0_0 x1 x2 x3)))], []) := by
  unfold law01_FixMasks_c0 law01_FixMasks_r0_0
  cases h1 : tb (law01_FixMasks_S0_c0 x1)
  · cases h2 : tb (fix_Bits_o_c0 x1)
    · intro g0
      exact absurd g0 ft
    · cases h3 : tb (law01_FixMasks_S1_c0 x1 x2 x3 (fix_Bits_o_r0_0 x1))
      · cases h4 : tb (law01_FixMasks_S1_c1 x1 x2 x3 (fix_Bits_o_r0_0 x1))
        · intro g0
          exact absurd g0 ft
        · cases h5 : tb (law01_FixMasks_S3_c0 x1 (fix_Bits_o_r0_0 x1))
          · cases h6 : tb (law01_FixMasks_S3_c1 x1 (fix_Bits_o_r0_0 x1))
            · intro g0
              exact absurd g0 ft
            · intro g0
              exact w7 [.s (law01_FixMasks_S0_t1 x0 x1 x2 x3 (tbE h1)), .c (fix_Bits_o_t0 x0 x1 (tbE h2)), .s (law01_FixMasks_S1_t1 x0 x1 x2 x3 (fix_Bits_o_r0_0 x1) (tbE h3) (tbE h4)), .s (law01_FixMasks_S3_t1 x0 x1 (fix_Bits_o_r0_0 x1) (tbE h5) (tbE h6)), .s (law01_FixMasks_S4_t0 x0 x1 (fix_Bits_o_r0_0 x1) (law01_FixMasks_e0 x1))] (by kernel_rfl)
          · intro g0
            exact w7 [.s (law01_FixMasks_S0_t1 x0 x1 x2 x3 (tbE h1)), .c (fix_Bits_o_t0 x0 x1 (tbE h2)), .s (law01_FixMasks_S1_t1 x0 x1 x2 x3 (fix_Bits_o_r0_0 x1) (tbE h3) (tbE h4)), .s (law01_FixMasks_S3_t0 x0 x1 (fix_Bits_o_r0_0 x1) (tbE h5))] (by kernel_rfl)
      · intro g0
        exact w7 [.s (law01_FixMasks_S0_t1 x0 x1 x2 x3 (tbE h1)), .c (fix_Bits_o_t0 x0 x1 (tbE h2)), .s (law01_FixMasks_S1_t0 x0 x1 x2 x3 (fix_Bits_o_r0_0 x1) (tbE h3))] (by kernel_rfl)
  · intro g0
    exact w7 [.s (law01_FixMasks_S0_t0 x0 x1 x2 x3 (tbE h1))] (by kernel_rfl)

end Go.Proofs.Ytdlhhoejnhjbhaa.Den

/- A type's data, opened cell by cell. -/
namespace Go.Proofs.Ytdlhhoejnhjbhaa.Den
open Go
set_option linter.unusedVariables false
set_option linter.unusedSimpArgs false

inductive CK where
  | b
  | i (k : IntKind)
  | s
  | l (e : TypeId)

def flatK (P : Program) : Nat → TypeId → Option (List CK)
  | 0, _ => none
  | n + 1, t => match P.underlying t with
    | some .bool => some [.b]
    | some (.int k) => some [.i k]
    | some .string => some [.s]
    | some (.slice e) => some [.l e]
    | some (.struct fs) => (fs.toList.mapM fun f => flatK P n f.type).map List.flatten
    | some (.array m e) => (flatK P n e).map fun l => (List.replicate m l).flatten
    | _ => none

def WfI (k : IntKind) (z : Int) : Prop := (Lit.int k z).wf = true

def CellK (P : Program) : CK → D → Prop
  | .b, d => ∃ b, d = .bool b
  | .i k, d => ∃ z, d = .int k z ∧ WfI k z
  | .s, d => ∃ s, d = .str s ∧ s.size ≤ maxLen
  | .l e, d => d = .nils ∨ ∃ rows, d = .rs (isFlat P e) (P.cellsOf e) rows false ∧ rows.length ≤ maxLen ∧ ∃ n, ∀ r, r ∈ rows → Ty P n e r

def CellsK (P : Program) : List CK → List D → Prop
  | [], ds => ds = []
  | k :: ks, ds => ∃ d r, ds = d :: r ∧ CellK P k d ∧ CellsK P ks r

theorem CellsK.append {P : Program} : ∀ {a b : List CK} {x y : List D}, CellsK P a x → CellsK P b y → CellsK P (a ++ b) (x ++ y)
  | [], _, _, _, h, h' => by simp only [CellsK] at h; subst h; simpa using h'
  | k :: a, b, x, y, h, h' => by
    simp only [CellsK] at h
    obtain ⟨d, r, rfl, h1, h2⟩ := h
    simp only [List.cons_append, CellsK]
    exact ⟨d, _, rfl, h1, CellsK.append h2 h'⟩

theorem flatK_fs {P : Program} {n : Nat} (ih : ∀ t ks ds, flatK P n t = some ks → Ty P n t ds → CellsK P ks ds) : ∀ (fs : List Field) (l : List (List CK)) (ds : List D), fs.mapM (fun f => flatK P n f.type) = some l → TyFs (Ty P n) fs ds → CellsK P l.flatten ds
  | [], l, ds, h, ht => by
    simp at h; subst h
    obtain rfl := tyfs_nil ht
    simp [CellsK]
  | f :: fs, l, ds, h, ht => by
    rw [List.mapM_cons] at h
    simp only [Option.bind_eq_bind, Option.bind_eq_some_iff, Option.pure_def, Option.some.injEq] at h
    obtain ⟨a, h1, b, h2, rfl⟩ := h
    obtain ⟨x, y, rfl, g1, g2⟩ := tyfs_cons ht
    simp only [List.flatten_cons]
    exact (ih _ _ _ h1 g1).append (flatK_fs ih fs b y h2 g2)

theorem flatK_ok {P : Program} : ∀ (n : Nat) (t : TypeId) (ks : List CK) (ds : List D), flatK P n t = some ks → Ty P n t ds → CellsK P ks ds
  | 0, _, _, _, h, _ => by simp [flatK] at h
  | n + 1, t, ks, ds, h, ht => by
    simp only [flatK] at h
    cases hu : P.underlying t with
    | none => simp [hu] at h
    | some u =>
      rw [hu] at h
      cases u with
      | bool => cases h; obtain ⟨b, rfl⟩ := ty_bool ht hu; exact ⟨_, [], rfl, ⟨b, rfl⟩, rfl⟩
      | int k => cases h; obtain ⟨z, rfl, hz⟩ := ty_int ht hu; exact ⟨_, [], rfl, ⟨z, rfl, hz⟩, rfl⟩
      | string => cases h; obtain ⟨z, rfl, hz⟩ := ty_str ht hu; exact ⟨_, [], rfl, ⟨z, rfl, hz⟩, rfl⟩
      | slice e =>
        cases h
        rcases ty_slice ht hu with rfl | ⟨rows, rfl, h1, h2⟩
        · exact ⟨_, [], rfl, .inl rfl, rfl⟩
        · exact ⟨_, [], rfl, .inr ⟨rows, rfl, h1, n, h2⟩, rfl⟩
      | struct fs =>
        obtain ⟨l, hl, rfl⟩ := Option.map_eq_some_iff.1 h
        exact flatK_fs (fun t ks ds => flatK_ok n t ks ds) fs.toList l ds hl (ty_struct ht hu)
      | array m e =>
        obtain ⟨l, hl, rfl⟩ := Option.map_eq_some_iff.1 h
        obtain ⟨rows, hr, rfl, hall⟩ := ty_arr ht hu
        have key : ∀ (rows : List (List D)), (∀ r, r ∈ rows → Ty P n e r) → CellsK P (List.replicate rows.length l).flatten rows.flatten := by
          intro rows
          induction rows with
          | nil => intro _; simp [CellsK]
          | cons r rows ih =>
            intro hall
            simp only [List.length_cons, List.replicate_succ, List.flatten_cons]
            exact (flatK_ok n e l r hl (hall r (by simp))).append (ih fun x hx => hall x (by simp [hx]))
        rw [← hr]; exact key rows hall
      | _ => simp at h

/-- The rows of a list, told by an encoding. -/
theorem rows_of {α : Type} {enc : α → List D} {wf : α → Prop} {T : List D → Prop} (h : ∀ r, T r → ∃ x, r = enc x ∧ wf x) : ∀ rows : List (List D), (∀ r, r ∈ rows → T r) → ∃ l : List α, rows = l.map enc ∧ ∀ x, x ∈ l → wf x
  | [], _ => ⟨[], rfl, fun _ h => by simp at h⟩
  | r :: rows, hr => by
    obtain ⟨x, rfl, hx⟩ := h r (hr r (by simp))
    obtain ⟨l, rfl, hl⟩ := rows_of h rows fun y hy => hr y (by simp [hy])
    refine ⟨x :: l, rfl, fun y hy => ?_⟩
    rcases List.mem_cons.1 hy with rfl | hy
    · exact hx
    · exact hl y hy

theorem ints_of {P : Program} {n : Nat} {e : TypeId} {k : IntKind} (hu : P.underlying e = some (.int k)) {rows : List (List D)} (h : ∀ r, r ∈ rows → Ty P n e r) : ∃ l : List Int, rows = l.map (encI k) ∧ ∀ z, z ∈ l → WfI k z :=
  rows_of (T := Ty P n e) (fun r hr => by
    cases n with
    | zero => simp [Ty] at hr
    | succ n => obtain ⟨z, rfl, hz⟩ := ty_int hr hu; exact ⟨z, rfl, hz⟩) rows h

theorem bools_of {P : Program} {n : Nat} {e : TypeId} (hu : P.underlying e = some .bool) {rows : List (List D)} (h : ∀ r, r ∈ rows → Ty P n e r) : ∃ l : List Bool, rows = l.map encB ∧ ∀ z, z ∈ l → True :=
  rows_of (T := Ty P n e) (fun r hr => by
    cases n with
    | zero => simp [Ty] at hr
    | succ n => obtain ⟨z, rfl⟩ := ty_bool hr hu; exact ⟨z, rfl, trivial⟩) rows h

theorem tyFs_mono {T T' : TypeId → List D → Prop} (h : ∀ t ds, T t ds → T' t ds) : ∀ (fs : List Field) (ds : List D), TyFs T fs ds → TyFs T' fs ds
  | [], ds, ht => ht
  | f :: fs, ds, ht => by
    obtain ⟨x, y, rfl, g1, g2⟩ := tyfs_cons ht
    simp only [TyFs]
    exact ⟨x, y, rfl, h _ _ g1, tyFs_mono h fs y g2⟩

theorem ty_mono {P : Program} : ∀ (n : Nat) (t : TypeId) (ds : List D), Ty P n t ds → Ty P (n + 1) t ds
  | 0, _, _, h => by simp [Ty] at h
  | n + 1, t, ds, h => by
    rw [Ty] at h ⊢
    cases hu : P.underlying t with
    | none => simp [hu] at h
    | some u =>
      rw [hu] at h
      cases u with
      | slice e =>
        rcases h with rfl | ⟨rows, rfl, h1, h2⟩
        · exact .inl rfl
        · exact .inr ⟨rows, rfl, h1, fun r hr => ty_mono n _ _ (h2 r hr)⟩
      | struct fs => exact tyFs_mono (fun t ds => ty_mono n t ds) _ _ h
      | array m e =>
        obtain ⟨rows, h1, rfl, h2⟩ := h
        exact ⟨rows, h1, rfl, fun r hr => ty_mono n _ _ (h2 r hr)⟩
      | _ => exact h

theorem mapM_mono {α β : Type} {f g : α → Option β} (h : ∀ a b, f a = some b → g a = some b) : ∀ (l : List α) (r : List β), l.mapM f = some r → l.mapM g = some r
  | [], r, hr => by simpa using hr
  | a :: l, r, hr => by
    rw [List.mapM_cons] at hr ⊢
    simp only [Option.bind_eq_bind, Option.bind_eq_some_iff, Option.pure_def, Option.some.injEq] at hr ⊢
    obtain ⟨x, h1, y, h2, rfl⟩ := hr
    exact ⟨x, h a x h1, y, mapM_mono h l y h2, rfl⟩

theorem flatK_mono {P : Program} : ∀ (n : Nat) (t : TypeId) (ks : List CK), flatK P n t = some ks → flatK P (n + 1) t = some ks
  | 0, _, _, h => by simp [flatK] at h
  | n + 1, t, ks, h => by
    rw [flatK] at h ⊢
    cases hu : P.underlying t with
    | none => simp [hu] at h
    | some u =>
      rw [hu] at h
      cases u with
      | struct fs =>
        obtain ⟨l, hl, rfl⟩ := Option.map_eq_some_iff.1 h
        simp only [mapM_mono (fun f b hb => flatK_mono n _ _ hb) _ _ hl, Option.map_some]
      | array m e =>
        obtain ⟨l, hl, rfl⟩ := Option.map_eq_some_iff.1 h
        simp only [flatK_mono n _ _ hl, Option.map_some]
      | _ => exact h

/-- The cells of an element's type, at any depth. -/
theorem flatK_any {P : Program} {k : Nat} {t : TypeId} {ks : List CK} {ds : List D} (h : flatK P k t = some ks) {n : Nat} (ht : Ty P n t ds) : CellsK P ks ds := by
  have h1 : ∀ j, flatK P (k + j) t = some ks := fun j => by
    induction j with
    | zero => exact h
    | succ j ih => exact flatK_mono _ _ _ ih
  have h2 : ∀ j, Ty P (n + j) t ds := fun j => by
    induction j with
    | zero => exact ht
    | succ j ih => exact ty_mono _ _ _ ih
  refine flatK_ok (k + n) t ks ds (h1 n) ?_
  rw [Nat.add_comm]; exact h2 k

theorem wfI_i64 {z : Int} (h : WfI .i64 z) : -9223372036854775808 ≤ z ∧ z ≤ 9223372036854775807 := by
  simp [WfI, Lit.wf, IntKind.min, IntKind.max, IntKind.signed, IntKind.bits] at h
  omega
end Go.Proofs.Ytdlhhoejnhjbhaa.Den

/- Plain laws on the words of the printed texts. -/
namespace Go.Proofs.Ytdlhhoejnhjbhaa.Den
open Go
set_option linter.unusedVariables false
set_option linter.unusedSimpArgs false

@[simp] theorem tb_eq (b : Bool) : tb b = b := rfl

theorem wrap64 {x : Int} (h1 : -9223372036854775808 ≤ x) (h2 : x ≤ 9223372036854775807) : IntKind.i64.wrap x = x := by
  unfold IntKind.wrap
  simp [IntKind.bits, IntKind.signed]
  omega

theorem wi_eq {x : Int} (h1 : -9223372036854775808 ≤ x) (h2 : x ≤ 9223372036854775807) : wi x = x := wrap64 h1 h2

theorem wfI_i32 {z : Int} (h : WfI .i32 z) : -2147483648 ≤ z ∧ z ≤ 2147483647 := by
  simp [WfI, Lit.wf, IntKind.min, IntKind.max, IntKind.signed, IntKind.bits] at h
  omega
theorem wfI_i16 {z : Int} (h : WfI .i16 z) : -32768 ≤ z ∧ z ≤ 32767 := by
  simp [WfI, Lit.wf, IntKind.min, IntKind.max, IntKind.signed, IntKind.bits] at h
  omega
theorem wfI_u8 {z : Int} (h : WfI .u8 z) : 0 ≤ z ∧ z ≤ 255 := by
  simp [WfI, Lit.wf, IntKind.min, IntKind.max, IntKind.signed, IntKind.bits] at h
  omega
theorem wfI_u16 {z : Int} (h : WfI .u16 z) : 0 ≤ z ∧ z ≤ 65535 := by
  simp [WfI, Lit.wf, IntKind.min, IntKind.max, IntKind.signed, IntKind.bits] at h
  omega
theorem wfI_u32 {z : Int} (h : WfI .u32 z) : 0 ≤ z ∧ z ≤ 4294967295 := by
  simp [WfI, Lit.wf, IntKind.min, IntKind.max, IntKind.signed, IntKind.bits] at h
  omega

theorem mxI_eq (a b : Int) : mxI a b = max a b := by unfold mxI; split <;> omega
theorem mnI_eq (a b : Int) : mnI a b = min a b := by unfold mnI; split <;> omega

theorem inb_iff {n : Nat} {i : Int} : inb n i = true ↔ 0 ≤ i ∧ i < n := by simp [inb]
theorem inb_of {n : Nat} {i : Int} (h1 : 0 ≤ i) (h2 : i < n) : inb n i = true := inb_iff.2 ⟨h1, h2⟩

theorem loop_inv {S : Type} {sel : S → Bool} {nx : S → S} (J : S → Prop) (μ : S → Nat) {s0 : S} (h0 : J s0) (hb : μ s0 < 1152921504606846976) (hn : ∀ s, J s → sel s = true → J (nx s) ∧ μ (nx s) < μ s) :
    ∃ s1, itS sel nx bound s0 = some s1 ∧ J s1 ∧ sel s1 = false := itS_inv J μ hn bound s0 h0 hb

/-- A loop told by a function of its states. -/
theorem loop_fun {S : Type} {sel : S → Bool} {nx : S → S} (J : S → Prop) (μ : S → Nat) (g : S → S) {s0 : S} (h0 : J s0) (hb : μ s0 < 1152921504606846976) (hs : ∀ s, J s → sel s = false → g s = s) (hn : ∀ s, J s → sel s = true → J (nx s) ∧ μ (nx s) < μ s ∧ g (nx s) = g s) :
    itS sel nx bound s0 = some (g s0) := itS_eq J μ g hs hn bound s0 h0 hb

theorem gt_mem {α : Type} [Inhabited α] {l : List α} {i : Int} (h1 : 0 ≤ i) (h2 : i < l.length) : gt l i ∈ l := by
  have h : i.toNat < l.length := by omega
  have : gt l i = l[i.toNat] := by simp [gt, List.getD, h]
  rw [this]; exact List.getElem_mem h

theorem gt_nat {α : Type} [Inhabited α] {l : List α} {k : Nat} (h : k < l.length) : gt l (k : Int) = l[k] := by simp [gt, List.getD, h]

theorem gt_getElem {α : Type} [Inhabited α] {l : List α} {i : Int} (h1 : 0 ≤ i) (h2 : i.toNat < l.length) : gt l i = l[i.toNat] := by simp [gt, List.getD, h2]

/-- A loop over a list by an index, that stops where a test fails. -/
theorem all_loop {S α : Type} [Inhabited α] {sel : S → Bool} {nx : S → S} {s0 : S} (l : List α) (ix : S → Int) (p : α → Bool) (J : S → Prop) (hl : l.length < 1152921504606846976) (h0 : ix s0 = 0) (hJ0 : J s0)
    (hnx : ∀ s, J s → 0 ≤ ix s → ix s < l.length → sel s = true → ix (nx s) = ix s + 1 ∧ J (nx s)) (hsel : ∀ s, J s → 0 ≤ ix s → ix s ≤ l.length → sel s = (decide (ix s < l.length) && p (gt l (ix s)))) :
    ∃ s1, itS sel nx bound s0 = some s1 ∧ J s1 ∧ 0 ≤ ix s1 ∧ ((ix s1 = l.length ∧ l.all p = true) ∨ (ix s1 < l.length ∧ p (gt l (ix s1)) = false ∧ l.all p = false)) := by
  obtain ⟨s1, e, ⟨hJ, a1, a2, a3⟩, hs⟩ := loop_inv (sel := sel) (nx := nx) (fun s => J s ∧ 0 ≤ ix s ∧ ix s ≤ l.length ∧ ∀ j : Nat, (j : Int) < ix s → p (gt l j) = true) (fun s => (l.length - ix s).toNat) (s0 := s0)
    ⟨hJ0, by omega, by omega, fun j hj => by omega⟩ (by omega) (fun s ⟨hJ, b1, b2, b3⟩ hs => by
      have h1 := hsel s hJ b1 b2
      rw [hs] at h1
      have h2 := (Bool.and_eq_true _ _).mp h1.symm
      have h3 : ix s < l.length := by simpa using h2.1
      obtain ⟨h4, h5⟩ := hnx s hJ b1 h3 hs
      refine ⟨⟨h5, by omega, by omega, fun j hj => ?_⟩, by omega⟩
      by_cases hjj : (j : Int) < ix s
      · exact b3 j hjj
      · have : (j : Int) = ix s := by omega
        rw [this]; exact h2.2)
  refine ⟨s1, e, hJ, a1, ?_⟩
  rcases Int.lt_or_eq_of_le a2 with h | h
  · have h1 := hsel s1 hJ a1 a2
    rw [hs] at h1
    have hp : p (gt l (ix s1)) = false := by simpa [h] using h1.symm
    refine .inr ⟨h, hp, ?_⟩
    rw [List.all_eq_false]
    exact ⟨_, gt_mem a1 h, by simp [hp]⟩
  · refine .inl ⟨h, ?_⟩
    rw [List.all_eq_true]
    intro x hx
    obtain ⟨j, hj, rfl⟩ := List.getElem_of_mem hx
    have := a3 j (by omega)
    rwa [gt_nat hj] at this

/-- A loop by an index that goes to its end. -/
theorem idx_loop {S : Type} {sel : S → Bool} {nx : S → S} {s0 : S} (n : Int) (ix : S → Int) (J : S → Prop) (hn : n < 1152921504606846976) (h0 : J s0) (h1 : 0 ≤ ix s0) (h2 : ix s0 ≤ n)
    (hr : ∀ s, J s → 0 ≤ ix s → ix s < n → sel s = true ∧ J (nx s) ∧ ix (nx s) = ix s + 1) (he : ∀ s, J s → ix s = n → sel s = false) : ∃ s1, itS sel nx bound s0 = some s1 ∧ J s1 ∧ ix s1 = n := by
  obtain ⟨s1, e, ⟨hJ, a1, a2⟩, hs⟩ := loop_inv (sel := sel) (nx := nx) (fun s => J s ∧ 0 ≤ ix s ∧ ix s ≤ n) (fun s => (n - ix s).toNat) (s0 := s0) ⟨h0, h1, h2⟩ (by omega) (fun s ⟨hJ, b1, b2⟩ hs => by
    by_cases h : ix s = n
    · rw [he s hJ h] at hs; cases hs
    · obtain ⟨_, g1, g2⟩ := hr s hJ b1 (by omega)
      exact ⟨⟨g1, by omega, by omega⟩, by omega⟩)
  refine ⟨s1, e, hJ, ?_⟩
  by_cases h : ix s1 = n
  · exact h
  · rw [(hr s1 hJ a1 (by omega)).1] at hs; cases hs

end Go.Proofs.Ytdlhhoejnhjbhaa.Den

/- Plain laws on lists and loops, for all seats. -/
namespace Go.Proofs.Ytdlhhoejnhjbhaa.Den
open Go
set_option linter.unusedVariables false
set_option linter.unusedSimpArgs false

/-- A loop whose states are known one by one. -/
theorem loop_seq {S : Type} {sel : S → Bool} {nx : S → S} (st : Nat → S) (n : Nat) (hb : n < 1152921504606846976) (hn : ∀ k, k < n → sel (st k) = true ∧ nx (st k) = st (k + 1)) (he : sel (st n) = false) : itS sel nx bound (st 0) = some (st n) := by
  have key : ∀ (d N : Nat), d ≤ n → d < N → itS sel nx N (st (n - d)) = some (st n) := by
    intro d
    induction d with
    | zero =>
      intro N _ hN
      obtain ⟨N, rfl⟩ : ∃ M, N = M + 1 := ⟨N - 1, by omega⟩
      simp only [Nat.sub_zero, itS, he]
    | succ d ih =>
      intro N h1 hN
      obtain ⟨N, rfl⟩ : ∃ M, N = M + 1 := ⟨N - 1, by omega⟩
      obtain ⟨g1, g2⟩ := hn (n - (d + 1)) (by omega)
      simp only [itS, g1, g2]
      rw [show n - (d + 1) + 1 = n - d by omega]
      exact ih N (by omega) (by omega)
  have := key n bound (Nat.le_refl _) (by unfold bound; omega)
  rwa [Nat.sub_self] at this

theorem gt_zip {l k : List Int} (h : l.length = k.length) {i : Int} (h1 : 0 ≤ i) (h2 : i < l.length) : gt (l.zip k) i = (gt l i, gt k i) := by
  rw [gt_getElem h1 (by rw [List.length_zip]; omega), gt_getElem h1 (by omega), gt_getElem h1 (by omega), List.getElem_zip]

theorem zip_all : ∀ {l k : List Int}, l.length = k.length → ((l.zip k).all fun p => p.1 == p.2) = decide (l = k)
  | [], [], _ => by simp
  | x :: l, y :: k, h => by
    rw [List.zip_cons_cons, List.all_cons, zip_all (by simpa using h), Bool.eq_iff_iff]
    simp
  | [], _ :: _, h => by simp at h
  | _ :: _, [], h => by simp at h

/-- A loop that goes on while two lists are alike. -/
theorem eq_loop {S : Type} {sel : S → Bool} {nx : S → S} {s0 : S} {l k : List Int} (hlk : l.length = k.length) (ix : S → Int) (hl : l.length < 1152921504606846976) (h0 : ix s0 = 0)
    (hnx : ∀ s, 0 ≤ ix s → ix s < l.length → ix (nx s) = ix s + 1) (hsel : ∀ s, 0 ≤ ix s → ix s ≤ l.length → sel s = (decide (ix s < l.length) && (gt l (ix s) == gt k (ix s)))) :
    ∃ s1, itS sel nx bound s0 = some s1 ∧ 0 ≤ ix s1 ∧ ((ix s1 = l.length ∧ l = k) ∨ (ix s1 < l.length ∧ (gt l (ix s1) == gt k (ix s1)) = false ∧ l ≠ k)) := by
  have hz : (l.zip k).length = l.length := by rw [List.length_zip]; omega
  obtain ⟨s1, e, -, g0, g⟩ := all_loop (sel := sel) (nx := nx) (s0 := s0) (l.zip k) ix (fun p => p.1 == p.2) (fun _ => True) (by omega) h0 trivial
    (fun s _ a1 a2 _ => ⟨hnx s a1 (by omega), trivial⟩)
    (fun s _ a1 a2 => by
      rw [hsel s a1 (by omega), hz]
      by_cases h : ix s < l.length
      · rw [gt_zip hlk a1 h]
      · simp [h])
  rw [zip_all hlk, hz] at g
  refine ⟨s1, e, g0, ?_⟩
  rcases g with ⟨a, b⟩ | ⟨a, b, c⟩
  · exact .inl ⟨a, by simpa using b⟩
  · rw [gt_zip hlk g0 a] at b
    exact .inr ⟨a, b, by simpa using c⟩

theorem sub_nat {α : Type} (l : List α) (a b : Nat) : sub l (a : Int) (b : Int) = (l.drop a).take (b - a) := by
  unfold sub; congr 1; omega

theorem gt_append_left {α : Type} [Inhabited α] {l k : List α} {i : Int} (h : 0 ≤ i) (h2 : i < l.length) : gt (l ++ k) i = gt l i := by
  rw [gt_getElem h (by rw [List.length_append]; omega), gt_getElem h (by omega), List.getElem_append_left]

theorem take_succ_gt {α : Type} [Inhabited α] {l : List α} {k : Nat} (h : k < l.length) : l.take (k + 1) = l.take k ++ [gt l (k : Int)] := by
  rw [gt_nat h, List.take_succ_eq_append_getElem h]

/-! ### numbers -/

theorem u8w (x : Int) : IntKind.u8.wrap x = x % 256 := by simp [IntKind.wrap, IntKind.bits, IntKind.signed]
theorem u16w (x : Int) : IntKind.u16.wrap x = x % 65536 := by simp [IntKind.wrap, IntKind.bits, IntKind.signed]
theorem u32w (x : Int) : IntKind.u32.wrap x = x % 4294967296 := by simp [IntKind.wrap, IntKind.bits, IntKind.signed]
theorem i32w (x : Int) : IntKind.i32.wrap x = if 2147483648 ≤ x % 4294967296 then x % 4294967296 - 4294967296 else x % 4294967296 := by
  simp [IntKind.wrap, IntKind.bits, IntKind.signed]

theorem shr_i64 (x : Int) (k : Nat) (hk : k ≤ 64) : shrI .i64 x (k : Int) = x / (2 ^ k : Int) := by
  unfold shrI
  have : min (k : Int).toNat IntKind.i64.bits = k := by simp [IntKind.bits]; omega
  rw [this]
  exact Int.fdiv_eq_ediv_of_nonneg _ (by exact_mod_cast Nat.zero_le _)

theorem quo_i64 {x y : Int} (h1 : 0 ≤ x) (h2 : 0 ≤ y) (h3 : x ≤ 9223372036854775807) : quoI .i64 x y = x / y := by
  unfold quoI
  rw [Int.tdiv_eq_ediv_of_nonneg h1]
  have a := Int.ediv_nonneg h1 h2
  have b := Int.ediv_le_self y h1
  exact wrap64 (by omega) (by omega)

theorem rem_i64 {x y : Int} (h1 : 0 ≤ x) : remI .i64 x y = x % y := by
  unfold remI; exact Int.tmod_eq_emod_of_nonneg h1

theorem bvOf {n : Nat} {a : Nat} (h : a < 2 ^ n) : (BitVec.ofInt n (a : Int)) = BitVec.ofNat n a := by
  simp

theorem or_nat {k : IntKind} {a b : Nat} (ha : a < 2 ^ k.bits) (hb : b < 2 ^ k.bits) : orI k (a : Int) (b : Int) = k.wrap ((a ||| b : Nat) : Int) := by
  unfold orI
  rw [bvOf ha, bvOf hb, BitVec.toNat_or, BitVec.toNat_ofNat, BitVec.toNat_ofNat, Nat.mod_eq_of_lt ha, Nat.mod_eq_of_lt hb]

theorem or_add {a b i : Nat} (hb : b < 2 ^ i) : (2 ^ i * a) ||| b = 2 ^ i * a + b := by
  exact (Nat.two_pow_add_eq_or_of_lt hb a).symm

end Go.Proofs.Ytdlhhoejnhjbhaa.Den

/- How many bits of 16 are 1: the library's sum against the sum of the bits (numbers alone). -/
namespace Go.Proofs.Ytdlhhoejnhjbhaa.Den
open Go
set_option linter.unusedVariables false
set_option linter.unusedSimpArgs false

def ocN (n : Nat) : Nat :=
  (fun e0 => (fun e3 => (fun e5 => (fun e6 => (fun e7 => (fun e8 => e8 &&& 127) ((e7 + (e7 >>> 32)) % 18446744073709551616)) ((e6 + (e6 >>> 16)) % 18446744073709551616)) ((e5 + (e5 >>> 8)) % 18446744073709551616))
   ((((e3 >>> 4) + e3) % 18446744073709551616) &&& 1085102592571150095)) ((((e0 >>> 2) &&& 3689348814741910323) + (e0 &&& 3689348814741910323)) % 18446744073709551616)) ((((n >>> 1) &&& 6148914691236517205) + (n &&& 6148914691236517205)) % 18446744073709551616)

def pcN (n : Nat) : Nat := n % 2 + n / 2 % 2 + n / 4 % 2 + n / 8 % 2 + n / 16 % 2 + n / 32 % 2 + n / 64 % 2 + n / 128 % 2 + n / 256 % 2 + n / 512 % 2 + n / 1024 % 2 + n / 2048 % 2 + n / 4096 % 2 + n / 8192 % 2 + n / 16384 % 2 + n / 32768 % 2

def chk2 : Nat → Nat → Bool
  | 0, lo => Nat.beq (ocN lo) (pcN lo)
  | k + 1, lo => chk2 k lo && chk2 k (lo + 2 ^ k)

theorem chk2_spec : ∀ (k lo : Nat), chk2 k lo = true → ∀ n, lo ≤ n → n < lo + 2 ^ k → ocN n = pcN n
  | 0, lo, h, n, h1, h2 => by
    have : n = lo := by simp at h2; omega
    subst this
    exact Nat.eq_of_beq_eq_true h
  | k + 1, lo, h, n, h1, h2 => by
    simp only [chk2, Bool.and_eq_true] at h
    have e : 2 ^ (k + 1) = 2 ^ k + 2 ^ k := by rw [Nat.pow_succ]; omega
    by_cases hn : n < lo + 2 ^ k
    · exact chk2_spec k lo h.1 n h1 hn
    · exact chk2_spec k (lo + 2 ^ k) h.2 n (by omega) (by omega)

theorem ones_16 {n : Nat} (h : n < 65536) : ocN n = pcN n := chk2_spec 16 0 (by decide +kernel) n (Nat.zero_le _) (by simpa using h)

end Go.Proofs.Ytdlhhoejnhjbhaa.Den

/- Layer 1 (fix): masks: Bits, Has, Count, of the program and of the reference, told plainly. -/
namespace Go.Proofs.Ytdlhhoejnhjbhaa.Den
open Go
set_option linter.unusedVariables false
set_option linter.unusedSimpArgs false

/-- The mask of a list, as a number. -/
def bitsN : List Bool → Nat
  | [] => 0
  | b :: l => b.toNat + 2 * bitsN l

theorem bitsN_app (l : List Bool) (b : Bool) : bitsN (l ++ [b]) = bitsN l + b.toNat * 2 ^ l.length := by
  induction l with
  | nil => simp [bitsN]
  | cons a l ih => simp only [List.cons_append, bitsN, ih, List.length_cons, Nat.pow_succ]; rw [Nat.mul_add, ← Nat.mul_assoc, Nat.mul_comm 2 b.toNat, Nat.mul_assoc, Nat.mul_comm 2 (2 ^ _)]; omega

theorem bitsN_lt (l : List Bool) : bitsN l < 2 ^ l.length := by
  induction l with
  | nil => simp [bitsN]
  | cons a l ih => simp only [bitsN, List.length_cons, Nat.pow_succ]; cases a <;> simp <;> omega

theorem bitsN_le {l : List Bool} (h : l.length ≤ 16) : bitsN l < 65536 := by
  have h1 := bitsN_lt l
  have h2 : 2 ^ l.length ≤ 2 ^ 16 := Nat.pow_le_pow_right (by omega) h
  omega

theorem bitsN_at : ∀ (l : List Bool) (i : Nat) (h : i < l.length), bitsN l / 2 ^ i % 2 = (l[i]).toNat
  | b :: l, 0, _ => by simp [bitsN]; cases b <;> simp <;> omega
  | b :: l, i + 1, h => by
    have ih := bitsN_at l i (by simpa using h)
    simp only [bitsN, List.getElem_cons_succ]
    rw [← ih, Nat.pow_succ, Nat.mul_comm (2 ^ i) 2, ← Nat.div_div_eq_div_mul]
    congr 2
    cases b <;> simp <;> omega

theorem wi_small {x : Int} (h1 : -4611686018427387904 ≤ x) (h2 : x ≤ 4611686018427387904) : wi x = x := wi_eq (by omega) (by omega)

theorem Bits_r {l : List Bool} (h : l.length ≤ 16) : fix_Bits_o_c0 l = true ∧ fix_Bits_o_r0_0 l = (bitsN l : Nat) := by
  obtain ⟨s1, e, ⟨hJ, hi⟩, hn⟩ := idx_loop (sel := fix_Bits_o_L0_sel l l.length) (nx := fix_Bits_o_L0_nx l l.length) (s0 := ⟨0, 0⟩) (l.length : Int) (fun s => s.c4) (fun s => s.c2 = (bitsN (l.take s.c4.toNat) : Nat) ∧ 0 ≤ s.c4) (by omega) ⟨by simp [bitsN], by simp⟩ (by simp) (by simp)
    (fun s ⟨hJ, h0⟩ h1 h2 => by
      have hin := inb_of h1 h2
      have hk : s.c4.toNat < l.length := by omega
      have hw : wi (s.c4 + 1) = s.c4 + 1 := wi_small (by omega) (by omega)
      have hg : gt l s.c4 = l[s.c4.toNat] := gt_getElem h1 hk
      have ht : l.take (s.c4 + 1).toNat = l.take s.c4.toNat ++ [gt l s.c4] := by
        rw [show (s.c4 + 1).toNat = s.c4.toNat + 1 by omega, List.take_succ_eq_append_getElem hk, hg]
      have hlen : (l.take s.c4.toNat).length = s.c4.toNat := by simp; omega
      refine ⟨by simp [fix_Bits_o_L0_sel, h2, hin, h1], ?_⟩
      cases hb : gt l s.c4 with
      | false =>
        simp only [fix_Bits_o_L0_nx, hb, tb_eq, cond_false, hw]
        refine ⟨⟨?_, by omega⟩, trivial⟩
        rw [ht, bitsN_app, hb, hJ]; simp
      | true =>
        simp only [fix_Bits_o_L0_nx, hb, tb_eq, cond_true, hw]
        refine ⟨⟨?_, by omega⟩, trivial⟩
        have hlt := bitsN_lt (l.take s.c4.toNat)
        rw [hlen] at hlt
        have hp : 2 ^ s.c4.toNat ≤ 2 ^ 15 := Nat.pow_le_pow_right (by omega) (by omega)
        have hsh : shlI .i64 1 s.c4 = ((2 ^ s.c4.toNat : Nat) : Int) := by
          unfold shlI
          have : min s.c4.toNat IntKind.i64.bits = s.c4.toNat := by simp [IntKind.bits]; omega
          rw [this, Int.one_mul]
          have : ((2 : Int) ^ s.c4.toNat) = ((2 ^ s.c4.toNat : Nat) : Int) := by push_cast; rfl
          rw [this]
          exact wrap64 (by omega) (by omega)
        rw [ht, bitsN_app, hb, hJ, hsh, or_nat (by simp [IntKind.bits]; omega) (by simp [IntKind.bits]; omega), hlen, Nat.or_comm]
        have := or_add (a := 1) hlt
        rw [Nat.mul_one] at this
        rw [this]
        simp only [Bool.toNat_true, Nat.one_mul]
        rw [wrap64 (by omega) (by omega)]
        omega)
    (fun s _ hs => by simp [fix_Bits_o_L0_sel, hs])
  have hok : fix_Bits_o_L0_ok l l.length ⟨0, 0⟩ = true := by simp [fix_Bits_o_L0_ok, e]
  have hend : fix_Bits_o_e0 l = s1 := by simp [fix_Bits_o_e0, fix_Bits_o_L0_end, e]
  have hn' : s1.c4 = l.length := hn
  have hc : ¬ (16 < (l.length : Int)) := by omega
  have : fix_Bits_o_L0_c0 (l.length : Int) s1 = true := by simp [fix_Bits_o_L0_c0, hn']
  simp only [fix_Bits_o_c0, fix_Bits_o_r0_0, hok, hend, tb_eq, cond_true, hc, decide_false, cond_false, this, true_and]
  rw [hJ, hn']; simp

theorem Bits_big {l : List Bool} (h : 16 < l.length) : fix_Bits_o_c0 l = true ∧ fix_Bits_o_r0_0 l = 0 := by
  have hc : (16 < (l.length : Int)) := by omega
  simp [fix_Bits_o_c0, fix_Bits_o_r0_0, hc]

theorem rBits_r {l : List Bool} (h : l.length ≤ 16) : ref01_Bits_o_c0 l = true ∧ ref01_Bits_o_r0_0 l = (bitsN l : Nat) := by
  obtain ⟨s1, e, ⟨hJ, hJ2, hi⟩, hn⟩ := idx_loop (sel := ref01_Bits_o_L0_sel l) (nx := ref01_Bits_o_L0_nx l) (s0 := ⟨0, 1, 0⟩) (l.length : Int) (fun s => s.c4) (fun s => s.c2 = (bitsN (l.take s.c4.toNat) : Nat) ∧ s.c3 = ((2 ^ s.c4.toNat : Nat) : Int) ∧ 0 ≤ s.c4) (by omega) ⟨by simp [bitsN], by simp, by simp⟩ (by simp) (by simp)
    (fun s ⟨hJ, hJ2, h0⟩ h1 h2 => by
      have hin := inb_of h1 h2
      have hk : s.c4.toNat < l.length := by omega
      have hw : wi (s.c4 + 1) = s.c4 + 1 := wi_small (by omega) (by omega)
      have hg : gt l s.c4 = l[s.c4.toNat] := gt_getElem h1 hk
      have ht : l.take (s.c4 + 1).toNat = l.take s.c4.toNat ++ [gt l s.c4] := by
        rw [show (s.c4 + 1).toNat = s.c4.toNat + 1 by omega, List.take_succ_eq_append_getElem hk, hg]
      have hlen : (l.take s.c4.toNat).length = s.c4.toNat := by simp; omega
      have hlt := bitsN_lt (l.take s.c4.toNat)
      rw [hlen] at hlt
      have hp : 2 ^ s.c4.toNat ≤ 2 ^ 15 := Nat.pow_le_pow_right (by omega) (by omega)
      have h22 : wi (2 * s.c3) = ((2 ^ (s.c4 + 1).toNat : Nat) : Int) := by
        rw [hJ2, show (s.c4 + 1).toNat = s.c4.toNat + 1 by omega, Nat.pow_succ, wi_small (by omega) (by omega)]; omega
      refine ⟨by simp [ref01_Bits_o_L0_sel, h2, hin], ?_⟩
      cases hb : gt l s.c4 with
      | false =>
        simp only [ref01_Bits_o_L0_nx, hb, tb_eq, cond_false, hw, h22]
        refine ⟨⟨?_, trivial, by omega⟩, trivial⟩
        rw [ht, bitsN_app, hb, hJ]; simp
      | true =>
        simp only [ref01_Bits_o_L0_nx, hb, tb_eq, cond_true, hw, h22]
        refine ⟨⟨?_, trivial, by omega⟩, trivial⟩
        rw [ht, bitsN_app, hb, hJ, hJ2, hlen, wi_small (by omega) (by omega)]; simp)
    (fun s _ hs => by simp [ref01_Bits_o_L0_sel, hs])
  have hok : ref01_Bits_o_L0_ok l ⟨0, 1, 0⟩ = true := by simp [ref01_Bits_o_L0_ok, e]
  have hend : ref01_Bits_o_L0_end l ⟨0, 1, 0⟩ = s1 := by simp [ref01_Bits_o_L0_end, e]
  have hn' : s1.c4 = l.length := hn
  have hc : ¬ (16 < (l.length : Int)) := by omega
  have : ref01_Bits_o_L0_c0 l s1 = true := by simp [ref01_Bits_o_L0_c0, hn']
  simp only [ref01_Bits_o_c0, ref01_Bits_o_r0_0, hok, hend, tb_eq, cond_true, hc, decide_false, cond_false, this, true_and]
  rw [hJ, hn']; simp

theorem rBits_big {l : List Bool} (h : 16 < l.length) : ref01_Bits_o_c0 l = true ∧ ref01_Bits_o_r0_0 l = 0 := by
  have hc : (16 < (l.length : Int)) := by omega
  simp [ref01_Bits_o_c0, ref01_Bits_o_r0_0, hc]

/-- Is the bit 1? -/
def hasB (x i : Int) : Bool := decide (0 ≤ x ∧ x < 65536 ∧ 0 ≤ i ∧ i < 16) && (x.toNat / 2 ^ i.toNat % 2 == 1)

theorem and1_i64 (x : Nat) : andI .i64 (x : Int) 1 = ((x % 2 : Nat) : Int) := by
  unfold andI
  have h1 : (BitVec.ofInt IntKind.i64.bits 1) = BitVec.ofNat IntKind.i64.bits 1 := rfl
  have h2 : (BitVec.ofInt IntKind.i64.bits (x : Int)) = BitVec.ofNat IntKind.i64.bits x := BitVec.ofInt_natCast _ _
  rw [h1, h2, BitVec.toNat_and, BitVec.toNat_ofNat, BitVec.toNat_ofNat]
  have h3 : (1 : Nat) % 2 ^ IntKind.i64.bits = 1 := rfl
  rw [h3, Nat.and_one_is_mod]
  have : x % 2 ^ IntKind.i64.bits % 2 = x % 2 := Nat.mod_mod_of_dvd _ ⟨2 ^ 63, rfl⟩
  rw [this]
  exact wrap64 (by omega) (by omega)

theorem right_r (x : Int) : fix_right_i_r0_0 x = decide (0 ≤ x ∧ x < 65536) := by
  simp only [fix_right_i_r0_0, tb_eq]
  by_cases h : 0 ≤ x <;> simp [h]

theorem Has_r (x i : Int) : fix_Has_ii_r0_0 x i = hasB x i := by
  unfold fix_Has_ii_r0_0 hasB
  rw [right_r]
  by_cases h : 0 ≤ x ∧ x < 65536 ∧ 0 ≤ i ∧ i < 16
  · obtain ⟨h1, h2, h3, h4⟩ := h
    obtain ⟨n, rfl⟩ : ∃ n : Nat, x = n := ⟨x.toNat, by omega⟩
    obtain ⟨k, rfl⟩ : ∃ k : Nat, i = k := ⟨i.toNat, by omega⟩
    have hsh : shrI .i64 (n : Int) (k : Int) = ((n / 2 ^ k : Nat) : Int) := by
      rw [shr_i64 _ k (by omega)]; push_cast; rfl
    simp only [h1, h2, h3, h4, and_self, decide_true, tb_eq, cond_true, hsh, and1_i64, Int.toNat_natCast, Bool.true_and]
    rw [Bool.eq_iff_iff]
    simp only [beq_iff_eq]
    omega
  · have : decide (0 ≤ x ∧ x < 65536 ∧ 0 ≤ i ∧ i < 16) = false := by simpa using h
    rw [this, Bool.false_and]
    by_cases h1 : 0 ≤ x ∧ x < 65536
    · by_cases h2 : 0 ≤ i
      · by_cases h3 : i < 16
        · exact absurd ⟨h1.1, h1.2, h2, h3⟩ h
        · simp [h1, h2, h3]
      · simp [h1, h2]
    · simp [h1]

theorem rHas_r (x i : Int) : ref01_Has_ii_c0 x i = true ∧ ref01_Has_ii_r0_0 x i = hasB x i := by
  unfold ref01_Has_ii_c0 ref01_Has_ii_r0_0 ref01_Has_ii_S0_c0 hasB
  by_cases h : 0 ≤ x ∧ x < 65536 ∧ 0 ≤ i ∧ i < 16
  · obtain ⟨h1, h2, h3, h4⟩ := h
    have e1 : ¬ x < 0 := by omega
    have e2 : ¬ 65535 < x := by omega
    have e3 : ¬ i < 0 := by omega
    have e4 : ¬ 15 < i := by omega
    obtain ⟨s1, e, ⟨hJ, hi⟩, hn⟩ := idx_loop (sel := ref01_Has_ii_L1_sel i) (nx := ref01_Has_ii_L1_nx i) (s0 := ⟨x, 0⟩) i (fun s => s.c2) (fun s => s.c1 = ((x.toNat / 2 ^ s.c2.toNat : Nat) : Int) ∧ 0 ≤ s.c2) (by omega) ⟨by simp; omega, by simp⟩ (by simp) (by simpa using h3)
      (fun s ⟨hJ, h0⟩ h1' h2' => by
        refine ⟨by simp [ref01_Has_ii_L1_sel, h2'], ?_⟩
        simp only [ref01_Has_ii_L1_nx]
        have hw : wi (s.c2 + 1) = s.c2 + 1 := wi_small (by omega) (by omega)
        have hle := Nat.div_le_self x.toNat (2 ^ s.c2.toNat)
        rw [hw]
        refine ⟨⟨?_, by omega⟩, rfl⟩
        rw [show (s.c2 + 1).toNat = s.c2.toNat + 1 by omega, Nat.pow_succ, ← Nat.div_div_eq_div_mul]
        generalize x.toNat / 2 ^ s.c2.toNat = q at *
        rw [hJ, quo_i64 (by omega) (by omega) (by omega)]
        omega)
      (fun s _ hs => by simp [ref01_Has_ii_L1_sel, hs])
    have hok : ref01_Has_ii_L1_ok i ⟨x, 0⟩ = true := by simp [ref01_Has_ii_L1_ok, e]
    have hend : ref01_Has_ii_L1_end i ⟨x, 0⟩ = s1 := by simp [ref01_Has_ii_L1_end, e]
    have hn' : s1.c2 = i := hn
    have he : ref01_Has_ii_e0 x i = ((x.toNat / 2 ^ i.toNat % 2 : Nat) : Int) := by
      unfold ref01_Has_ii_e0
      rw [hend, hJ, hn']
      generalize x.toNat / 2 ^ i.toNat = q
      rw [rem_i64 (by omega)]; omega
    simp only [e1, e2, e3, e4, decide_false, tb_eq, cond_false, ref01_Has_ii_S2_c0, hok, cond_true, he, true_and]
    simp only [h1, h2, h3, h4, and_self, decide_true, Bool.true_and]
    rw [Bool.eq_iff_iff]
    simp only [beq_iff_eq]
    omega
  · have : decide (0 ≤ x ∧ x < 65536 ∧ 0 ≤ i ∧ i < 16) = false := by simpa using h
    rw [this, Bool.false_and]
    by_cases e1 : x < 0
    · simp [e1]
    · by_cases e2 : 65535 < x
      · simp [e1, e2]
      · by_cases e3 : i < 0
        · simp [e1, e2, e3]
        · by_cases e4 : 15 < i
          · simp [e1, e2, e3, e4]
          · exact absurd ⟨by omega, by omega, by omega, by omega⟩ h

/-- How many bits are 1. -/
def cntN (x : Int) : Nat := if 0 ≤ x ∧ x < 65536 then pcN x.toNat else 0

theorem and_u64 {a b : Nat} (ha : a < 2 ^ 64) (hb : b < 2 ^ 64) : andI .u64 (a : Int) (b : Int) = ((a &&& b : Nat) : Int) := by
  unfold andI
  have h1 : (BitVec.ofInt IntKind.u64.bits (a : Int)) = BitVec.ofNat IntKind.u64.bits a := BitVec.ofInt_natCast _ _
  have h2 : (BitVec.ofInt IntKind.u64.bits (b : Int)) = BitVec.ofNat IntKind.u64.bits b := BitVec.ofInt_natCast _ _
  rw [h1, h2, BitVec.toNat_and, BitVec.toNat_ofNat, BitVec.toNat_ofNat]
  have e : (2 : Nat) ^ IntKind.u64.bits = 2 ^ 64 := rfl
  rw [e, Nat.mod_eq_of_lt ha, Nat.mod_eq_of_lt hb]
  have : a &&& b ≤ a := Nat.and_le_left
  simp only [IntKind.wrap, IntKind.bits, IntKind.signed]
  simp
  omega

theorem shr_u64 (a k : Nat) (hk : k ≤ 64) : shrI .u64 (a : Int) (k : Int) = ((a >>> k : Nat) : Int) := by
  unfold shrI
  have : min (k : Int).toNat IntKind.u64.bits = k := by simp [IntKind.bits]; omega
  rw [this, Int.fdiv_eq_ediv_of_nonneg _ (by exact_mod_cast Nat.zero_le _), Nat.shiftRight_eq_div_pow]
  push_cast; rfl

theorem wrap_u64 (a : Nat) : IntKind.u64.wrap (a : Int) = ((a % 18446744073709551616 : Nat) : Int) := by
  simp only [IntKind.wrap, IntKind.bits, IntKind.signed]
  simp

theorem OnesCount_r (n : Nat) : math_bits_OnesCount64_i_e8 (n : Int) = ((((fun e7 => (e7 + (e7 >>> 32)) % 18446744073709551616) ((fun e6 => (e6 + (e6 >>> 16)) % 18446744073709551616) ((fun e5 => (e5 + (e5 >>> 8)) % 18446744073709551616) ((fun e3 => (((e3 >>> 4) + e3) % 18446744073709551616) &&& 1085102592571150095)
    ((fun e0 => (((e0 >>> 2) &&& 3689348814741910323) + (e0 &&& 3689348814741910323)) % 18446744073709551616) ((((n % 18446744073709551616) >>> 1 &&& 6148914691236517205) + ((n % 18446744073709551616) &&& 6148914691236517205)) % 18446744073709551616)))))) : Nat) : Int) ∨ 18446744073709551616 ≤ n := by
  by_cases hn : 18446744073709551616 ≤ n
  · exact .inr hn
  left
  have hn' : n % 18446744073709551616 = n := Nat.mod_eq_of_lt (by omega)
  have lt : ∀ a : Nat, a % 18446744073709551616 < 2 ^ 64 := fun a => Nat.mod_lt _ (by decide)
  have sl : ∀ (a k : Nat), a < 2 ^ 64 → a >>> k < 2 ^ 64 := fun a k h => Nat.lt_of_le_of_lt (by rw [Nat.shiftRight_eq_div_pow]; exact Nat.div_le_self _ _) h
  have an : ∀ (a b : Nat), a < 2 ^ 64 → a &&& b < 2 ^ 64 := fun a b h => Nat.lt_of_le_of_lt Nat.and_le_left h
  have e0 : math_bits_OnesCount64_i_e0 (n : Int) = ((((n >>> 1 &&& 6148914691236517205) + (n &&& 6148914691236517205)) % 18446744073709551616 : Nat) : Int) := by
    unfold math_bits_OnesCount64_i_e0
    have h1 := shr_u64 n 1 (by omega)
    have h2 := and_u64 (a := n >>> 1) (b := 6148914691236517205) (sl _ _ (by omega)) (by decide)
    have h3 := and_u64 (a := n) (b := 6148914691236517205) (by omega) (by decide)
    simp only [Int.cast_ofNat_Int] at h1 h2 h3
    rw [h1, h2, h3, ← wrap_u64, Int.natCast_add]
  rw [hn']
  generalize hx : ((n >>> 1 &&& 6148914691236517205) + (n &&& 6148914691236517205)) % 18446744073709551616 = x0 at *
  have x0l : x0 < 2 ^ 64 := by rw [← hx]; exact lt _
  have e3 : math_bits_OnesCount64_i_e3 (n : Int) = ((((x0 >>> 2 &&& 3689348814741910323) + (x0 &&& 3689348814741910323)) % 18446744073709551616 : Nat) : Int) := by
    unfold math_bits_OnesCount64_i_e3 math_bits_OnesCount64_i_e1 math_bits_OnesCount64_i_e2
    rw [e0]
    have h1 := shr_u64 x0 2 (by omega)
    have h2 := and_u64 (a := x0 >>> 2) (b := 3689348814741910323) (sl _ _ x0l) (by decide)
    have h3 := and_u64 (a := x0) (b := 3689348814741910323) x0l (by decide)
    simp only [Int.cast_ofNat_Int] at h1 h2 h3
    rw [h1, h2, h3, ← wrap_u64, Int.natCast_add]
  simp only []
  generalize hx3 : ((x0 >>> 2 &&& 3689348814741910323) + (x0 &&& 3689348814741910323)) % 18446744073709551616 = x3 at *
  have x3l : x3 < 2 ^ 64 := by rw [← hx3]; exact lt _
  have e5 : math_bits_OnesCount64_i_e5 (n : Int) = ((((x3 >>> 4) + x3) % 18446744073709551616 &&& 1085102592571150095 : Nat) : Int) := by
    unfold math_bits_OnesCount64_i_e5 math_bits_OnesCount64_i_e4
    rw [e3]
    have h1 := shr_u64 x3 4 (by omega)
    have h2 := and_u64 (a := ((x3 >>> 4) + x3) % 18446744073709551616) (b := 1085102592571150095) (lt _) (by decide)
    simp only [Int.cast_ofNat_Int] at h1 h2
    rw [h1, ← h2, ← wrap_u64, Int.natCast_add]
  generalize hx5 : ((x3 >>> 4) + x3) % 18446744073709551616 &&& 1085102592571150095 = x5 at *
  have x5l : x5 < 2 ^ 64 := by rw [← hx5]; exact an _ _ (lt _)
  have e6 : math_bits_OnesCount64_i_e6 (n : Int) = (((x5 + (x5 >>> 8)) % 18446744073709551616 : Nat) : Int) := by
    unfold math_bits_OnesCount64_i_e6
    rw [e5]
    have h1 := shr_u64 x5 8 (by omega)
    simp only [Int.cast_ofNat_Int] at h1
    rw [h1, ← wrap_u64, Int.natCast_add]
  generalize hx6 : (x5 + (x5 >>> 8)) % 18446744073709551616 = x6 at *
  have e7 : math_bits_OnesCount64_i_e7 (n : Int) = (((x6 + (x6 >>> 16)) % 18446744073709551616 : Nat) : Int) := by
    unfold math_bits_OnesCount64_i_e7
    rw [e6]
    have h1 := shr_u64 x6 16 (by omega)
    simp only [Int.cast_ofNat_Int] at h1
    rw [h1, ← wrap_u64, Int.natCast_add]
  generalize hx7 : (x6 + (x6 >>> 16)) % 18446744073709551616 = x7 at *
  unfold math_bits_OnesCount64_i_e8
  rw [e7]
  have h1 := shr_u64 x7 32 (by omega)
  simp only [Int.cast_ofNat_Int] at h1
  rw [h1, ← wrap_u64, Int.natCast_add]

theorem Count_r (x : Int) : fix_Count_i_r0_0 x = (cntN x : Nat) := by
  unfold fix_Count_i_r0_0 cntN
  rw [right_r]
  by_cases h : 0 ≤ x ∧ x < 65536
  · obtain ⟨n, rfl⟩ : ∃ n : Nat, x = n := ⟨x.toNat, by omega⟩
    have hn : n < 65536 := by omega
    simp only [h, and_self, decide_true, tb_eq, cond_true, if_true, Int.toNat_natCast]
    rw [wrap_u64, Nat.mod_eq_of_lt (by omega)]
    have e := OnesCount_r n
    rcases e with e | e
    · rw [Nat.mod_eq_of_lt (show n < 18446744073709551616 by omega)] at e
      have ho := ones_16 hn
      have key : ∀ m : Nat, m < 18446744073709551616 → andI .i64 (wi (m : Int)) 127 = ((m &&& 127 : Nat) : Int) := by
        intro m hm
        have hw : (BitVec.ofInt IntKind.i64.bits (wi (m : Int))) = BitVec.ofNat IntKind.i64.bits m := by
          have e1 : BitVec.ofInt IntKind.i64.bits (m : Int) = BitVec.ofNat IntKind.i64.bits m := BitVec.ofInt_natCast _ _
          rw [← e1]
          apply BitVec.eq_of_toInt_eq
          rw [BitVec.toInt_ofInt, BitVec.toInt_ofInt]
          have : ∃ q : Int, wi (m : Int) = (m : Int) + q * 18446744073709551616 := by
            have hw : wi (m : Int) = if 9223372036854775808 ≤ (m : Int) % 18446744073709551616 then (m : Int) % 18446744073709551616 - 18446744073709551616 else (m : Int) % 18446744073709551616 := by
              simp [wi, IntKind.wrap, IntKind.bits, IntKind.signed]
            rw [hw]
            split
            · exact ⟨-1 - (m : Int) / 18446744073709551616, by omega⟩
            · exact ⟨- ((m : Int) / 18446744073709551616), by omega⟩
          obtain ⟨q, hq⟩ := this
          rw [hq]
          have : ((2 : Nat) ^ IntKind.i64.bits : Nat) = 18446744073709551616 := rfl
          rw [this]
          exact Int.add_mul_bmod_self_right ..
        unfold andI
        have h127 : (BitVec.ofInt IntKind.i64.bits 127) = BitVec.ofNat IntKind.i64.bits 127 := rfl
        rw [hw, h127, BitVec.toNat_and, BitVec.toNat_ofNat, BitVec.toNat_ofNat]
        have e1 : (2 : Nat) ^ IntKind.i64.bits = 18446744073709551616 := rfl
        rw [e1, Nat.mod_eq_of_lt hm, show (127 : Nat) % 18446744073709551616 = 127 from rfl]
        have : m &&& 127 ≤ 127 := Nat.and_le_right
        exact wrap64 (by omega) (by omega)
      rw [e, key _ (Nat.mod_lt _ (by decide)), ← ho]
      rfl
    · omega
  · have : decide (0 ≤ x ∧ x < 65536) = false := by simpa using h
    rw [this, if_neg h]; rfl

/-- The bits up to a place, added up. -/
def upN (x : Int) : Nat → Nat
  | 0 => 0
  | k + 1 => upN x k + (hasB x (k : Int)).toNat

theorem upN_16 (x : Int) : upN x 16 = cntN x := by
  unfold cntN
  split
  · rename_i h
    simp only [upN, hasB, pcN]
    have hb : ∀ k : Nat, k < 16 → (decide (0 ≤ x ∧ x < 65536 ∧ 0 ≤ (k : Int) ∧ (k : Int) < 16) && (x.toNat / 2 ^ (k : Int).toNat % 2 == 1)).toNat = x.toNat / 2 ^ k % 2 := fun k hk => by
      have : decide (0 ≤ x ∧ x < 65536 ∧ 0 ≤ (k : Int) ∧ (k : Int) < 16) = true := by simp; omega
      rw [this, Bool.true_and, Int.toNat_natCast]
      rcases Nat.mod_two_eq_zero_or_one (x.toNat / 2 ^ k) with h | h <;> simp [h]
    rw [hb 0 (by omega), hb 1 (by omega), hb 2 (by omega), hb 3 (by omega), hb 4 (by omega), hb 5 (by omega), hb 6 (by omega), hb 7 (by omega), hb 8 (by omega), hb 9 (by omega), hb 10 (by omega), hb 11 (by omega), hb 12 (by omega), hb 13 (by omega), hb 14 (by omega), hb 15 (by omega)]
    simp
  · rename_i h
    have : ∀ i, hasB x i = false := fun i => by
      unfold hasB
      rw [decide_eq_false (by omega), Bool.false_and]
    simp [upN, this]

theorem rCount_r (x : Int) : ref01_Count_i_c0 x = true ∧ (ref01_Count_i_L0_end x (⟨0, 0⟩ : ref01_Count_i_L0_s0)).c1 = (cntN x : Nat) := by
  obtain ⟨s1, e, ⟨hJ, hi⟩, hn⟩ := idx_loop (sel := ref01_Count_i_L0_sel x) (nx := ref01_Count_i_L0_nx x) (s0 := ⟨0, 0⟩) 16 (fun s => s.c2) (fun s => s.c1 = (upN x s.c2.toNat : Nat) ∧ s.c1 ≤ s.c2) (by omega) ⟨rfl, by simp⟩ (by simp) (by simp)
    (fun s ⟨hJ, h0⟩ h1 h2 => by
      have hw : wi (s.c2 + 1) = s.c2 + 1 := wi_small (by omega) (by omega)
      have hup : upN x (s.c2 + 1).toNat = upN x s.c2.toNat + (hasB x s.c2).toNat := by
        rw [show (s.c2 + 1).toNat = s.c2.toNat + 1 by omega]
        simp only [upN]
        rw [Int.toNat_of_nonneg h1]
      refine ⟨by simp [ref01_Count_i_L0_sel, h2, (rHas_r x s.c2).1], ?_⟩
      simp only [ref01_Count_i_L0_nx, (rHas_r x s.c2).2, tb_eq, hw]
      cases hb : hasB x s.c2 with
      | false =>
        simp only [cond_false]
        refine ⟨⟨?_, by omega⟩, trivial⟩
        rw [hup, hb, hJ]; simp
      | true =>
        simp only [cond_true]
        have hw1 : wi (s.c1 + 1) = s.c1 + 1 := wi_small (by omega) (by omega)
        rw [hw1]
        refine ⟨⟨?_, by omega⟩, trivial⟩
        rw [hup, hb, hJ]; simp)
    (fun s _ hs => by simp [ref01_Count_i_L0_sel, hs])
  have hok : ref01_Count_i_L0_ok x ⟨0, 0⟩ = true := by simp [ref01_Count_i_L0_ok, e]
  have hend : ref01_Count_i_L0_end x ⟨0, 0⟩ = s1 := by simp [ref01_Count_i_L0_end, e]
  have hn' : s1.c2 = 16 := hn
  refine ⟨?_, ?_⟩
  · simp [ref01_Count_i_c0, hok, hend, ref01_Count_i_L0_c0, hn']
  · rw [hend, hJ, hn', ← upN_16]; rfl

end Go.Proofs.Ytdlhhoejnhjbhaa.Den

/- FixMasks: the plain law. -/
namespace Go.Proofs.Ytdlhhoejnhjbhaa.Den
open Go
set_option linter.unusedVariables false
set_option linter.unusedSimpArgs false
set_option maxRecDepth 100000

theorem cnt_bits {l : List Bool} (h : l.length ≤ 16) : ∀ k : Nat, k ≤ l.length → upN (bitsN l : Nat) k = (l.take k).countP (fun b => b)
  | 0, _ => by simp [upN]
  | k + 1, hk => by
    have hlt := bitsN_le h
    have hb : hasB (bitsN l : Nat) (k : Int) = l[k] := by
      unfold hasB
      rw [decide_eq_true (by omega), Bool.true_and, Int.toNat_natCast, Int.toNat_natCast, bitsN_at l k (by omega)]
      cases l[k] <;> rfl
    simp only [upN]
    rw [cnt_bits h k (by omega), hb, List.take_succ_eq_append_getElem (by omega), List.countP_append]
    cases l[k] <;> simp

theorem cnt_tail0 {l : List Bool} (h : l.length ≤ 16) : ∀ d : Nat, l.length + d ≤ 16 → upN (bitsN l : Nat) (l.length + d) = upN (bitsN l : Nat) l.length
  | 0, _ => rfl
  | d + 1, hd => by
    have hlt := bitsN_lt l
    have hp : 2 ^ l.length ≤ 2 ^ (l.length + d) := Nat.pow_le_pow_right (by omega) (by omega)
    have hb : hasB (bitsN l : Nat) ((l.length + d : Nat) : Int) = false := by
      unfold hasB
      rw [Int.toNat_natCast, Int.toNat_natCast, Nat.div_eq_of_lt (by omega)]
      simp
    rw [show l.length + (d + 1) = (l.length + d) + 1 by omega]
    simp only [upN]
    rw [hb, cnt_tail0 h d (by omega)]; rfl

theorem pure_FixMasks (x0 : Bool) (x1 : List Bool) (x2 : Int) (x3 : Int) (wx1 : (x1.length ≤ maxLen ∧ ∀ z ∈ x1, True)) (wx2 : WfI .i64 x2) (wx3 : WfI .i64 x3) : law01_FixMasks_c0 x1 x2 x3 = true ∧ (law01_FixMasks_r0_0 x1 x2 x3) = true := by
  by_cases hbig : 40 < (x1.length : Int)
  · simp [law01_FixMasks_c0, law01_FixMasks_r0_0, law01_FixMasks_S0_c0, hbig]
  have hS0 : law01_FixMasks_S0_c0 x1 = false := by simp [law01_FixMasks_S0_c0, hbig]
  obtain ⟨m, hm, hcB, hrB, hcR, hrR⟩ : ∃ m : Nat, m < 65536 ∧ fix_Bits_o_c0 x1 = true ∧ fix_Bits_o_r0_0 x1 = (m : Int) ∧ ref01_Bits_o_c0 x1 = true ∧ ref01_Bits_o_r0_0 x1 = (m : Int) := by
    by_cases h : x1.length ≤ 16
    · exact ⟨bitsN x1, bitsN_le h, (Bits_r h).1, (Bits_r h).2, (rBits_r h).1, (rBits_r h).2⟩
    · exact ⟨0, by omega, (Bits_big (by omega)).1, (Bits_big (by omega)).2, (rBits_big (by omega)).1, (rBits_big (by omega)).2⟩
  have hS1 : law01_FixMasks_S1_c0 x1 x2 x3 (m : Int) = false ∧ law01_FixMasks_S1_c1 x1 x2 x3 (m : Int) = true := by
    simp [law01_FixMasks_S1_c0, law01_FixMasks_S1_c1, hcR, hrR, (rHas_r x2 x3).1, (rHas_r x2 x3).2, Has_r, (rCount_r x2).1, (rCount_r x2).2, Count_r]
  -- the loop
  have loop : ∃ s1, itS (law01_FixMasks_L2_sel x1 (m : Int)) (law01_FixMasks_L2_nx x1 (m : Int)) bound ⟨0, 0⟩ = some s1 ∧ s1.c4 = x1.length ∧ s1.c3 = ((x1.countP fun b => b : Nat) : Int) := by
    obtain ⟨s1, e, ⟨hJ, hi⟩, hn⟩ := idx_loop (sel := law01_FixMasks_L2_sel x1 (m : Int)) (nx := law01_FixMasks_L2_nx x1 (m : Int)) (s0 := ⟨0, 0⟩) (x1.length : Int) (fun s => s.c4) (fun s => s.c3 = (((x1.take s.c4.toNat).countP fun b => b : Nat) : Int) ∧ 0 ≤ s.c4) (by omega) ⟨by simp, by simp⟩ (by simp) (by simp)
      (fun s ⟨hJ, h0⟩ h1 h2 => by
        have hin := inb_of h1 h2
        have hk : s.c4.toNat < x1.length := by omega
        have hw : wi (s.c4 + 1) = s.c4 + 1 := wi_small (by omega) (by omega)
        have hg : gt x1 s.c4 = x1[s.c4.toNat] := gt_getElem h1 hk
        have ht : x1.take (s.c4 + 1).toNat = x1.take s.c4.toNat ++ [gt x1 s.c4] := by
          rw [show (s.c4 + 1).toNat = s.c4.toNat + 1 by omega, List.take_succ_eq_append_getElem hk, hg]
        have hcl : (x1.take s.c4.toNat).countP (fun b => b) ≤ x1.length := Nat.le_trans List.countP_le_length (by simp; omega)
        refine ⟨?_, ?_⟩
        · simp only [law01_FixMasks_L2_sel, h2, hin, decide_true, tb_eq, cond_true, Has_r]
          by_cases h16 : (x1.length : Int) ≤ 16
          · have h16' : x1.length ≤ 16 := by omega
            have em : (m : Int) = (bitsN x1 : Nat) := by rw [← hrB, (Bits_r h16').2]
            have hb : hasB (m : Int) s.c4 = gt x1 s.c4 := by
              rw [em, hg]
              have hlt := bitsN_le h16'
              unfold hasB
              rw [decide_eq_true (by omega), Bool.true_and, Int.toNat_natCast, bitsN_at x1 _ hk]
              cases x1[s.c4.toNat] <;> rfl
            simp [h16, hb]
          · simp [h16]
        · cases hb : gt x1 s.c4 with
          | false =>
            simp only [law01_FixMasks_L2_nx, hb, tb_eq, cond_false, hw]
            refine ⟨⟨?_, by omega⟩, trivial⟩
            rw [ht, List.countP_append, hb, hJ]; simp
          | true =>
            simp only [law01_FixMasks_L2_nx, hb, tb_eq, cond_true, hw]
            rw [wi_small (by omega) (by omega)]
            refine ⟨⟨?_, by omega⟩, trivial⟩
            rw [ht, List.countP_append, hb, hJ]; simp)
      (fun s _ hs => by simp [law01_FixMasks_L2_sel, hs])
    have hn' : s1.c4 = x1.length := hn
    exact ⟨s1, e, hn', by rw [hJ, hn']; simp⟩
  obtain ⟨s1, e, hn, hc⟩ := loop
  have hok : law01_FixMasks_L2_ok x1 (m : Int) ⟨0, 0⟩ = true := by simp [law01_FixMasks_L2_ok, e]
  have hend : law01_FixMasks_L2_end x1 (m : Int) ⟨0, 0⟩ = s1 := by simp [law01_FixMasks_L2_end, e]
  have hS3 : law01_FixMasks_S3_c0 x1 (m : Int) = false ∧ law01_FixMasks_S3_c1 x1 (m : Int) = true := by
    simp [law01_FixMasks_S3_c0, law01_FixMasks_S3_c1, hok, hend, law01_FixMasks_L2_c0, law01_FixMasks_L2_c1, hn]
  have he0 : law01_FixMasks_e0 x1 = ((x1.countP fun b => b : Nat) : Int) := by simp [law01_FixMasks_e0, hrB, hend, hc]
  simp only [law01_FixMasks_c0, law01_FixMasks_r0_0, hS0, hcB, hrB, hS1.1, hS1.2, hS3.1, hS3.2, tb_eq, cond_true, cond_false, true_and]
  simp only [law01_FixMasks_S4_r0_0, tb_eq, Count_r, he0]
  by_cases h16 : 16 < (x1.length : Int)
  · simp [h16]
  · have h16' : x1.length ≤ 16 := by omega
    have em : (m : Int) = (bitsN x1 : Nat) := by rw [← hrB, (Bits_r h16').2]
    have : cntN (m : Int) = x1.countP fun b => b := by
      have h1 := cnt_bits h16' x1.length (Nat.le_refl _)
      have h2 := cnt_tail0 h16' (16 - x1.length) (by omega)
      rw [show x1.length + (16 - x1.length) = 16 by omega] at h2
      rw [em, ← upN_16, h2, h1]; simp
    simp [h16, this]

end Go.Proofs.Ytdlhhoejnhjbhaa.Den

/- What all rows of a seat rest on. -/
namespace Go.Proofs.Ytdlhhoejnhjbhaa.Den
open Go Go.Proofs
set_option maxRecDepth 100000

theorem own : ownKnob Try.prog.godebug = none := by kernel_rfl
theorem laidOut : laidOutB Try.prog = true := by kernel_rfl
theorem mixed : Try.prog.follows .mixedOrders = true := by kernel_rfl
theorem envOK : EnvOK Try.prog E0 := ⟨e0_cf, fun f args m r m' h => by simp [E0] at h, e0_del⟩
theorem glOK (w : World) : GlOK E0 (cx0 w) := fun g cs h => by simp [E0] at h
end Go.Proofs.Ytdlhhoejnhjbhaa.Den

/- The row of FixMasks. -/
namespace Go.Proofs.Ytdlhhoejnhjbhaa.Den
open Go Go.Proofs Go.ChangeShapes Go.WideShapes Go.ChangeAt Go.RowKit
open Go.Proofs.Ytdlhhoejnhjbhaa (Rows.fixMasksSpec Rows.fixMasksRow Rows.FixMasksSaid)
set_option maxRecDepth 100000
set_option linter.unusedSimpArgs false
set_option linter.unusedVariables false

theorem row7 (rs : List (List D)) (h : TyAll Try.prog 20 Try.f7.params.toList rs) : ∃ k m', callD E0 k 7 (argsV Try.prog Try.f7.params.toList rs) [] = some ([.d (.bool true)], m') := by
  rw [Try.params7] at h ⊢
  simp only [TyAll] at h
  obtain ⟨_, _, rfl, q0, _, _, rfl, q1, _, _, rfl, q2, rfl⟩ := h
  have k0 := flatK_ok 20 _ _ _ (show flatK Try.prog 20 36 = some [.l 4] by kernel_rfl) q0
  simp only [CellsK, CellK] at k0
  obtain ⟨d0_0, _, rfl, y0_0, rfl⟩ := k0
  obtain ⟨n0_0, a0_0, rfl, v0_0⟩ : ∃ n l, d0_0 = slD encB true 1 n l ∧ (l.length ≤ maxLen ∧ ∀ z ∈ l, True) := by
    rcases y0_0 with rfl | ⟨rows1, rfl, hl1, m1, hr1⟩
    · exact ⟨true, [], rfl, by simp [maxLen], fun z hz => by simp at hz⟩
    · obtain ⟨l2, rfl, hw2⟩ : ∃ l : List Bool, rows1 = l.map encB ∧ ∀ z ∈ l, True := rows_of (T := Ty Try.prog m1 4) (fun r hr => by
          have q := flatK_any (show flatK Try.prog 20 4 = some [.b] by kernel_rfl) hr
          simp only [CellsK, CellK] at q
          obtain ⟨_, _, rfl, ⟨b0, rfl⟩, rfl⟩ := q
          exact ⟨b0, rfl, trivial⟩) rows1 hr1
      rw [show isFlat Try.prog 4 = true by kernel_rfl, show Try.prog.cellsOf 4 = 1 by kernel_rfl]
      exact ⟨false, l2, slD_rs _ _ _ _, by simpa using hl1, hw2⟩
  have k1 := flatK_ok 20 _ _ _ (show flatK Try.prog 20 3 = some [.i .i64] by kernel_rfl) q1
  simp only [CellsK, CellK] at k1
  obtain ⟨_, _, rfl, ⟨a1_0, rfl, w1_0⟩, rfl⟩ := k1
  have k2 := flatK_ok 20 _ _ _ (show flatK Try.prog 20 3 = some [.i .i64] by kernel_rfl) q2
  simp only [CellsK, CellK] at k2
  obtain ⟨_, _, rfl, ⟨a2_0, rfl, w2_0⟩, rfl⟩ := k2
  simp only [argsV, argV, Try.underlying3, Try.underlying36, List.map_cons, List.map_nil]
  obtain ⟨g1, g2⟩ := pure_FixMasks n0_0 a0_0 a1_0 a2_0 v0_0 w1_0 w2_0
  have hc := law01_FixMasks_t0 n0_0 a0_0 a1_0 a2_0 g1
  rw [g2] at hc
  obtain ⟨k, hk⟩ := of_cl hc
  exact ⟨k, _, hk⟩

theorem fixMasks_lifted (os : Os) (started : os.Started) (H : Type) (enc : TypeId × Value → H) :
    ReturnsInHanded {} Try.checked os 7 .any (Rows.fixMasksSpec.pre6 enc Try.prog Try.f7 Rows.fixMasksRow.domain false) (Rows.fixMasksSpec.post enc Try.prog Try.f7 false true false false) :=
  law_lifted (C := Try.checked) (fn := Try.f7) mixed envOK glOK own started (by kernel_rfl) Try.func7 laidOut
    (ChangeSpec.witness6 (enc := enc) (C := Try.checked) false ⟨#[], #[.slice none 0 0, .int .i64 0, .int .i64 0], []⟩ 8 (by kernel_rfl) (by kernel_rfl) (by kernel_rfl) (by kernel_rfl))
    (by kernel_rfl) (rt := 4) rfl Try.underlying4 rfl
    (fun ds h => by
      match ds, h with
      | [_, _, _], _ => rfl)
    row7

theorem fixMasks_holds : Rows.FixMasksSaid :=
  OpenClaim.holds_of_wide 7 Try.f7 rfl rfl rfl rfl rfl rfl rfl ⟨rfl, rfl, rfl, rfl, rfl⟩ rfl rfl rfl rfl rfl (by kernel_rfl) Try.func7 (by kernel_rfl)
    (of_decide_eq_true (by kernel_rfl)) (by unfold Func.isWrapper; first | (rw [if_pos (by decide +kernel)]; kernel_rfl) | (rw [if_neg (by decide +kernel)]; exact ⟨rfl, rfl⟩))
    (fun os started H enc _ => fixMasks_lifted os started H enc)

end Go.Proofs.Ytdlhhoejnhjbhaa.Den
