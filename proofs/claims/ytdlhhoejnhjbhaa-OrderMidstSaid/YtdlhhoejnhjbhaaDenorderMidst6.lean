/- OrderMidst: part 6 of what its proof rests on: an evaluator of the program's code, proved sound; plain functions printed from the code by a program of this session, with proofs; plain laws. No condition. -/
import Derived.Test.YtdlhhoejnhjbhaaDenorderMidst5

namespace Go.Proofs.Ytdlhhoejnhjbhaa.Den
open Go Go.Proofs
set_option maxRecDepth 100000
set_option maxHeartbeats 4000000
set_option linter.unusedVariables false
set_option linter.unusedSimpArgs false

def slices_Clone_int_o_c0 (x0 : Bool) (x1 : List Int) : Bool := (bif tb (false != (x0 && x1.isEmpty)) then true else (bif tb (decide ((([] : List Int).length + x1.length) * 8 ≤ 140737488355328)) then true else false))

def slices_Clone_int_o_r0_0 (x0 : Bool) (x1 : List Int) : Bool := (bif tb (false != (x0 && x1.isEmpty)) then true else false)

def slices_Clone_int_o_r0_1 (x0 : Bool) (x1 : List Int) : List Int := (bif tb (false != (x0 && x1.isEmpty)) then ([] : List Int) else x1)

theorem slices_Clone_int_o_t0 (x0 : Bool) (x1 : List Int) : slices_Clone_int_o_c0 x0 x1 = true → cl E0 65 [(V.d (slD (encI .i64) true 1 x0 x1))] [] = some ([(V.so (slices_Clone_int_o_r0_0 x0 x1) 0 ((slices_Clone_int_o_r0_1 x0 x1).length))], [(Blk.flat 3 1 (List.map (encI .i64) (slices_Clone_int_o_r0_1 x0 x1)) false)]) := by
  unfold slices_Clone_int_o_c0 slices_Clone_int_o_r0_0 slices_Clone_int_o_r0_1
  cases h1 : tb (false != (x0 && x1.isEmpty))
  · cases h2 : tb (decide ((([] : List Int).length + x1.length) * 8 ≤ 140737488355328))
    · intro g0
      exact absurd g0 ft
    · intro g0
      exact w65 [.o 4 (fun _ => o_nil_os (enc := (encI .i64)) (l := x1) (fl := true) (n := x0) (s := 1) (neg := false)), .b (tbE h1), .m 7 (o_app_sf (m := [(Blk.flat 3 1 [] false), (Blk.flat 3 1 [] false)]) (enc := (encI .i64)) (l0 := ([] : List Int)) (l1 := x1) (id := 1) (e := 3) (s := 1) (bytes := 8) (x := (V.d (slD (encI .i64) true 1 x0 x1))) (n := 0) (by kernel_rfl) (by kernel_rfl) flatRowsOf_os sizeOk_os (tbE h2))] (by kernel_rfl)
  · intro g0
    exact w65 [.o 4 (fun _ => o_nil_os (enc := (encI .i64)) (l := x1) (fl := true) (n := x0) (s := 1) (neg := false)), .b (tbE h1)] (by kernel_rfl)

structure slices_Max_int_o_L0_s0 where
  c2 : Int
  c3 : Int
  deriving Inhabited

def slices_Max_int_o_L0_enc (x0 : Bool) (x1 : List Int) (x2 : Int) (x3 : Int) (s0 : slices_Max_int_o_L0_s0) : List V × Mem := ([(V.d (slD (encI .i64) true 1 x0 x1)), (V.d (.int .i64 s0.c2)), (V.d (.int .i64 s0.c3))], [])

def slices_Max_int_o_L0_sel (x1 : List Int) (s0 : slices_Max_int_o_L0_s0) : Bool := (bif tb (decide (s0.c3 < ((x1.length : Nat) : Int))) then (bif tb (inb x1.length s0.c3) then true else false) else false)

def slices_Max_int_o_L0_nx (x1 : List Int) (s0 : slices_Max_int_o_L0_s0) : slices_Max_int_o_L0_s0 := ⟨(mxI s0.c2 (gt x1 s0.c3)), (wi (s0.c3 + 1))⟩

def slices_Max_int_o_L0_ok (x1 : List Int) (s0 : slices_Max_int_o_L0_s0) : Bool := (itS (slices_Max_int_o_L0_sel x1) (slices_Max_int_o_L0_nx x1) bound s0).isSome
def slices_Max_int_o_L0_end (x1 : List Int) (s0 : slices_Max_int_o_L0_s0) : slices_Max_int_o_L0_s0 := (itS (slices_Max_int_o_L0_sel x1) (slices_Max_int_o_L0_nx x1) bound s0).getD default

theorem slices_Max_int_o_L0_go (x0 : Bool) (x1 : List Int) (x2 : Int) (x3 : Int) (s0 : slices_Max_int_o_L0_s0) : slices_Max_int_o_L0_sel x1 s0 = true → (roundG (runC E0 (cl E0) L67_0) [0, 3, 4] [3] 0) (slices_Max_int_o_L0_enc x0 x1 x2 x3 s0) = some (.normal, slices_Max_int_o_L0_enc x0 x1 x2 x3 (slices_Max_int_o_L0_nx x1 s0)) := by
  unfold slices_Max_int_o_L0_sel slices_Max_int_o_L0_nx
  cases h1 : tb (decide (s0.c3 < ((x1.length : Nat) : Int)))
  · intro g0
    exact absurd g0 ft
  · cases h2 : tb (inb x1.length s0.c3)
    · intro g0
      exact absurd g0 ft
    · intro _
      exact round_walk [.o 14 (fun _ => o_len_os (enc := (encI .i64)) (l := x1) (fl := true) (n := x0) (s := 1)), .b (tbE h1), .o 21 (fun _ => o_idx_os (enc := (encI .i64)) (l := x1) (fl := true) (n := x0) (s := 1) (k := .i64) (tbE h2))] (by kernel_rfl)

def slices_Max_int_o_L0_c0 (x1 : List Int) (s0 : slices_Max_int_o_L0_s0) : Bool := (bif tb (decide (s0.c3 < ((x1.length : Nat) : Int))) then false else true)

theorem slices_Max_int_o_L0_x0 (x0 : Bool) (x1 : List Int) (x2 : Int) (x3 : Int) (s0 : slices_Max_int_o_L0_s0) : slices_Max_int_o_L0_sel x1 s0 = false → slices_Max_int_o_L0_c0 x1 s0 = true → (roundG (runC E0 (cl E0) L67_0) [0, 3, 4] [3] 0) (slices_Max_int_o_L0_enc x0 x1 x2 x3 s0) = some ((.exit 0), ([(V.d (.int .i64 s0.c2))], [])) := by
  unfold slices_Max_int_o_L0_sel slices_Max_int_o_L0_c0
  cases h1 : tb (decide (s0.c3 < ((x1.length : Nat) : Int)))
  · intro g0 g1
    exact round_walk [.o 14 (fun _ => o_len_os (enc := (encI .i64)) (l := x1) (fl := true) (n := x0) (s := 1)), .b (tbE h1)] (by kernel_rfl)
  · cases h2 : tb (inb x1.length s0.c3)
    · intro g0 g1
      exact absurd g1 ft
    · intro g0 g1
      exact absurd g0 tf

theorem slices_Max_int_o_L0_f0_0 (x0 : Bool) (x1 : List Int) (x2 : Int) (x3 : Int) (s : slices_Max_int_o_L0_s0) (hok : slices_Max_int_o_L0_ok x1 s = true) (c0 : slices_Max_int_o_L0_c0 x1 (slices_Max_int_o_L0_end x1 s) = true) : loopG (roundG (runC E0 (cl E0) L67_0) [0, 3, 4] [3] 0) bound (slices_Max_int_o_L0_enc x0 x1 x2 x3 s) = some ((.exit 0), ([(V.d (.int .i64 ((slices_Max_int_o_L0_end x1 s).c2)))], [])) := by
  have e : itS (slices_Max_int_o_L0_sel x1) (slices_Max_int_o_L0_nx x1) bound s = some (slices_Max_int_o_L0_end x1 s) := itS_get hok
  have f := itS_false e
  exact loop_it (slices_Max_int_o_L0_go x0 x1 x2 x3) bound s _ _ _ e (fun h => by cases h) (slices_Max_int_o_L0_x0 x0 x1 x2 x3 (slices_Max_int_o_L0_end x1 s) f c0)

def slices_Max_int_o_e0 (x1 : List Int) : slices_Max_int_o_L0_s0 := slices_Max_int_o_L0_end x1 (⟨(gt x1 0), 1⟩ : slices_Max_int_o_L0_s0)

def slices_Max_int_o_c0 (x1 : List Int) : Bool := (bif tb (decide (((x1.length : Nat) : Int) < 1)) then false else (bif tb (inb x1.length 0) then (bif tb (slices_Max_int_o_L0_ok x1 (⟨(gt x1 0), 1⟩ : slices_Max_int_o_L0_s0)) then (bif tb (slices_Max_int_o_L0_c0 x1 (slices_Max_int_o_e0 x1)) then true else false) else false) else false))

theorem slices_Max_int_o_t0 (x0 : Bool) (x1 : List Int) : slices_Max_int_o_c0 x1 = true → cl E0 67 [(V.d (slD (encI .i64) true 1 x0 x1))] [] = some ([(V.d (.int .i64 ((slices_Max_int_o_e0 x1).c2)))], []) := by
  unfold slices_Max_int_o_c0
  cases h1 : tb (decide (((x1.length : Nat) : Int) < 1))
  · cases h2 : tb (inb x1.length 0)
    · intro g0
      exact absurd g0 ft
    · cases h3 : tb (slices_Max_int_o_L0_ok x1 (⟨(gt x1 0), 1⟩ : slices_Max_int_o_L0_s0))
      · intro g0
        exact absurd g0 ft
      · cases h4 : tb (slices_Max_int_o_L0_c0 x1 (slices_Max_int_o_e0 x1))
        · intro g0
          exact absurd g0 ft
        · intro g0
          exact w67 [.o 6 (fun _ => o_len_os (enc := (encI .i64)) (l := x1) (fl := true) (n := x0) (s := 1)), .b (tbE h1), .o 10 (fun _ => o_idx_os (enc := (encI .i64)) (l := x1) (fl := true) (n := x0) (s := 1) (k := .i64) (tbE h2)), .l (slices_Max_int_o_L0_f0_0 x0 x1 (gt x1 0) 1 (⟨(gt x1 0), 1⟩ : slices_Max_int_o_L0_s0) (tbE h3) (tbE h4))] (by kernel_rfl)
  · intro g0
    exact absurd g0 ft

structure slices_Min_int_o_L0_s0 where
  c2 : Int
  c3 : Int
  deriving Inhabited

def slices_Min_int_o_L0_enc (x0 : Bool) (x1 : List Int) (x2 : Int) (x3 : Int) (s0 : slices_Min_int_o_L0_s0) : List V × Mem := ([(V.d (slD (encI .i64) true 1 x0 x1)), (V.d (.int .i64 s0.c2)), (V.d (.int .i64 s0.c3))], [])

def slices_Min_int_o_L0_sel (x1 : List Int) (s0 : slices_Min_int_o_L0_s0) : Bool := (bif tb (decide (s0.c3 < ((x1.length : Nat) : Int))) then (bif tb (inb x1.length s0.c3) then true else false) else false)

def slices_Min_int_o_L0_nx (x1 : List Int) (s0 : slices_Min_int_o_L0_s0) : slices_Min_int_o_L0_s0 := ⟨(mnI s0.c2 (gt x1 s0.c3)), (wi (s0.c3 + 1))⟩

def slices_Min_int_o_L0_ok (x1 : List Int) (s0 : slices_Min_int_o_L0_s0) : Bool := (itS (slices_Min_int_o_L0_sel x1) (slices_Min_int_o_L0_nx x1) bound s0).isSome
def slices_Min_int_o_L0_end (x1 : List Int) (s0 : slices_Min_int_o_L0_s0) : slices_Min_int_o_L0_s0 := (itS (slices_Min_int_o_L0_sel x1) (slices_Min_int_o_L0_nx x1) bound s0).getD default

theorem slices_Min_int_o_L0_go (x0 : Bool) (x1 : List Int) (x2 : Int) (x3 : Int) (s0 : slices_Min_int_o_L0_s0) : slices_Min_int_o_L0_sel x1 s0 = true → (roundG (runC E0 (cl E0) L68_0) [0, 3, 4] [3] 0) (slices_Min_int_o_L0_enc x0 x1 x2 x3 s0) = some (.normal, slices_Min_int_o_L0_enc x0 x1 x2 x3 (slices_Min_int_o_L0_nx x1 s0)) := by
  unfold slices_Min_int_o_L0_sel slices_Min_int_o_L0_nx
  cases h1 : tb (decide (s0.c3 < ((x1.length : Nat) : Int)))
  · intro g0
    exact absurd g0 ft
  · cases h2 : tb (inb x1.length s0.c3)
    · intro g0
      exact absurd g0 ft
    · intro _
      exact round_walk [.o 14 (fun _ => o_len_os (enc := (encI .i64)) (l := x1) (fl := true) (n := x0) (s := 1)), .b (tbE h1), .o 21 (fun _ => o_idx_os (enc := (encI .i64)) (l := x1) (fl := true) (n := x0) (s := 1) (k := .i64) (tbE h2))] (by kernel_rfl)

def slices_Min_int_o_L0_c0 (x1 : List Int) (s0 : slices_Min_int_o_L0_s0) : Bool := (bif tb (decide (s0.c3 < ((x1.length : Nat) : Int))) then false else true)

theorem slices_Min_int_o_L0_x0 (x0 : Bool) (x1 : List Int) (x2 : Int) (x3 : Int) (s0 : slices_Min_int_o_L0_s0) : slices_Min_int_o_L0_sel x1 s0 = false → slices_Min_int_o_L0_c0 x1 s0 = true → (roundG (runC E0 (cl E0) L68_0) [0, 3, 4] [3] 0) (slices_Min_int_o_L0_enc x0 x1 x2 x3 s0) = some ((.exit 0), ([(V.d (.int .i64 s0.c2))], [])) := by
  unfold slices_Min_int_o_L0_sel slices_Min_int_o_L0_c0
  cases h1 : tb (decide (s0.c3 < ((x1.length : Nat) : Int)))
  · intro g0 g1
    exact round_walk [.o 14 (fun _ => o_len_os (enc := (encI .i64)) (l := x1) (fl := true) (n := x0) (s := 1)), .b (tbE h1)] (by kernel_rfl)
  · cases h2 : tb (inb x1.length s0.c3)
    · intro g0 g1
      exact absurd g1 ft
    · intro g0 g1
      exact absurd g0 tf

theorem slices_Min_int_o_L0_f0_0 (x0 : Bool) (x1 : List Int) (x2 : Int) (x3 : Int) (s : slices_Min_int_o_L0_s0) (hok : slices_Min_int_o_L0_ok x1 s = true) (c0 : slices_Min_int_o_L0_c0 x1 (slices_Min_int_o_L0_end x1 s) = true) : loopG (roundG (runC E0 (cl E0) L68_0) [0, 3, 4] [3] 0) bound (slices_Min_int_o_L0_enc x0 x1 x2 x3 s) = some ((.exit 0), ([(V.d (.int .i64 ((slices_Min_int_o_L0_end x1 s).c2)))], [])) := by
  have e : itS (slices_Min_int_o_L0_sel x1) (slices_Min_int_o_L0_nx x1) bound s = some (slices_Min_int_o_L0_end x1 s) := itS_get hok
  have f := itS_false e
  exact loop_it (slices_Min_int_o_L0_go x0 x1 x2 x3) bound s _ _ _ e (fun h => by cases h) (slices_Min_int_o_L0_x0 x0 x1 x2 x3 (slices_Min_int_o_L0_end x1 s) f c0)

def slices_Min_int_o_e0 (x1 : List Int) : slices_Min_int_o_L0_s0 := slices_Min_int_o_L0_end x1 (⟨(gt x1 0), 1⟩ : slices_Min_int_o_L0_s0)

def slices_Min_int_o_c0 (x1 : List Int) : Bool := (bif tb (decide (((x1.length : Nat) : Int) < 1)) then false else (bif tb (inb x1.length 0) then (bif tb (slices_Min_int_o_L0_ok x1 (⟨(gt x1 0), 1⟩ : slices_Min_int_o_L0_s0)) then (bif tb (slices_Min_int_o_L0_c0 x1 (slices_Min_int_o_e0 x1)) then true else false) else false) else false))

theorem slices_Min_int_o_t0 (x0 : Bool) (x1 : List Int) : slices_Min_int_o_c0 x1 = true → cl E0 68 [(V.d (slD (encI .i64) true 1 x0 x1))] [] = some ([(V.d (.int .i64 ((slices_Min_int_o_e0 x1).c2)))], []) := by
  unfold slices_Min_int_o_c0
  cases h1 : tb (decide (((x1.length : Nat) : Int) < 1))
  · cases h2 : tb (inb x1.length 0)
    · intro g0
      exact absurd g0 ft
    · cases h3 : tb (slices_Min_int_o_L0_ok x1 (⟨(gt x1 0), 1⟩ : slices_Min_int_o_L0_s0))
      · intro g0
        exact absurd g0 ft
      · cases h4 : tb (slices_Min_int_o_L0_c0 x1 (slices_Min_int_o_e0 x1))
        · intro g0
          exact absurd g0 ft
        · intro g0
          exact w68 [.o 6 (fun _ => o_len_os (enc := (encI .i64)) (l := x1) (fl := true) (n := x0) (s := 1)), .b (tbE h1), .o 10 (fun _ => o_idx_os (enc := (encI .i64)) (l := x1) (fl := true) (n := x0) (s := 1) (k := .i64) (tbE h2)), .l (slices_Min_int_o_L0_f0_0 x0 x1 (gt x1 0) 1 (⟨(gt x1 0), 1⟩ : slices_Min_int_o_L0_s0) (tbE h3) (tbE h4))] (by kernel_rfl)
  · intro g0
    exact absurd g0 ft

def math_bits_OnesCount64_i_e0 (x0 : Int) : Int := IntKind.u64.wrap ((andI .u64 (shrI .u64 x0 1) 6148914691236517205) + (andI .u64 x0 6148914691236517205))

def math_bits_OnesCount64_i_e1 (x0 : Int) : Int := andI .u64 (shrI .u64 (math_bits_OnesCount64_i_e0 x0) 2) 3689348814741910323

def math_bits_OnesCount64_i_e2 (x0 : Int) : Int := andI .u64 (math_bits_OnesCount64_i_e0 x0) 3689348814741910323

def math_bits_OnesCount64_i_e3 (x0 : Int) : Int := IntKind.u64.wrap ((math_bits_OnesCount64_i_e1 x0) + (math_bits_OnesCount64_i_e2 x0))

def math_bits_OnesCount64_i_e4 (x0 : Int) : Int := IntKind.u64.wrap ((shrI .u64 (math_bits_OnesCount64_i_e3 x0) 4) + (math_bits_OnesCount64_i_e3 x0))

def math_bits_OnesCount64_i_e5 (x0 : Int) : Int := andI .u64 (math_bits_OnesCount64_i_e4 x0) 1085102592571150095

def math_bits_OnesCount64_i_e6 (x0 : Int) : Int := IntKind.u64.wrap ((math_bits_OnesCount64_i_e5 x0) + (shrI .u64 (math_bits_OnesCount64_i_e5 x0) 8))

def math_bits_OnesCount64_i_e7 (x0 : Int) : Int := IntKind.u64.wrap ((math_bits_OnesCount64_i_e6 x0) + (shrI .u64 (math_bits_OnesCount64_i_e6 x0) 16))

def math_bits_OnesCount64_i_e8 (x0 : Int) : Int := IntKind.u64.wrap ((math_bits_OnesCount64_i_e7 x0) + (shrI .u64 (math_bits_OnesCount64_i_e7 x0) 32))

theorem math_bits_OnesCount64_i_t0 (x0 : Int) : cl E0 80 [(V.d (.int .u64 x0))] [] = some ([(V.d (.int .i64 (andI .i64 (wi ((math_bits_OnesCount64_i_e8 x0))) 127)))], []) := by
  exact w80 [.o 4 (fun _ => o_shr (k := .u64) (k2 := .u64) (x := x0) (y := 1) rfl), .o 10 (fun _ => o_shr (k := .u64) (k2 := .u64) (x := (math_bits_OnesCount64_i_e0 x0)) (y := 2) rfl), .o 16 (fun _ => o_shr (k := .u64) (k2 := .u64) (x := (math_bits_OnesCount64_i_e3 x0)) (y := 4) rfl), .o 22 (fun _ => o_shr (k := .u64) (k2 := .u64) (x := (math_bits_OnesCount64_i_e5 x0)) (y := 8) rfl), .o 26 (fun _ => o_shr (k := .u64) (k2 := .u64) (x := (math_bits_OnesCount64_i_e6 x0)) (y := 16) rfl), .o 30 (fun _ => o_shr (k := .u64) (k2 := .u64) (x := (math_bits_OnesCount64_i_e7 x0)) (y := 32) rfl)] (by kernel_rfl)

theorem math_bits_OnesCount_i_t0 (x0 : Int) : cl E0 72 [(V.d (.int .u64 x0))] [] = some ([(V.d (.int .i64 (andI .i64 (wi ((math_bits_OnesCount64_i_e8 x0))) 127)))], []) := by
  exact w72 [.c (math_bits_OnesCount64_i_t0 x0)] (by kernel_rfl)

end Go.Proofs.Ytdlhhoejnhjbhaa.Den

namespace Go.Proofs.Ytdlhhoejnhjbhaa.Den
open Go Go.Proofs
set_option maxRecDepth 100000
set_option maxHeartbeats 4000000
set_option linter.unusedVariables false
set_option linter.unusedSimpArgs false

def order_right_c1_i_r0_0 (x0 : Int) : Bool := (bif tb (decide (x0 < (-1099511627776))) then true else (decide (1099511627776 < x0)))

theorem order_right_c1_i_t0 (x0 : Int) : cl E0 78 [(V.d (.int .i64 x0))] [] = some ([(V.d (.bool (order_right_c1_i_r0_0 x0)))], []) := by
  unfold order_right_c1_i_r0_0
  cases h1 : tb (decide (x0 < (-1099511627776)))
  · exact w78 [.b (tbE h1)] (by kernel_rfl)
  · exact w78 [.b (tbE h1)] (by kernel_rfl)

structure slices_IndexFunc_int_o_order_right_c1_L0_s0 where
  c3 : Int
  deriving Inhabited

def slices_IndexFunc_int_o_order_right_c1_L0_enc (x0 : Bool) (x1 : List Int) (x2 : Int) (x3 : Int) (s0 : slices_IndexFunc_int_o_order_right_c1_L0_s0) : List V × Mem := ([(V.d (slD (encI .i64) true 1 x0 x1)), (V.fn (.func 78) [] []), (V.d (.int .i64 x2)), (V.d (.int .i64 s0.c3))], [])

def slices_IndexFunc_int_o_order_right_c1_L0_sel (x1 : List Int) (x2 : Int) (s0 : slices_IndexFunc_int_o_order_right_c1_L0_s0) : Bool := (bif tb (decide (s0.c3 < x2)) then (bif tb (inb x1.length s0.c3) then (bif tb (order_right_c1_i_r0_0 (gt x1 s0.c3)) then false else true) else false) else false)

def slices_IndexFunc_int_o_order_right_c1_L0_nx (x1 : List Int) (x2 : Int) (s0 : slices_IndexFunc_int_o_order_right_c1_L0_s0) : slices_IndexFunc_int_o_order_right_c1_L0_s0 := ⟨(wi (s0.c3 + 1))⟩

def slices_IndexFunc_int_o_order_right_c1_L0_ok (x1 : List Int) (x2 : Int) (s0 : slices_IndexFunc_int_o_order_right_c1_L0_s0) : Bool := (itS (slices_IndexFunc_int_o_order_right_c1_L0_sel x1 x2) (slices_IndexFunc_int_o_order_right_c1_L0_nx x1 x2) bound s0).isSome
def slices_IndexFunc_int_o_order_right_c1_L0_end (x1 : List Int) (x2 : Int) (s0 : slices_IndexFunc_int_o_order_right_c1_L0_s0) : slices_IndexFunc_int_o_order_right_c1_L0_s0 := (itS (slices_IndexFunc_int_o_order_right_c1_L0_sel x1 x2) (slices_IndexFunc_int_o_order_right_c1_L0_nx x1 x2) bound s0).getD default

theorem slices_IndexFunc_int_o_order_right_c1_L0_go (x0 : Bool) (x1 : List Int) (x2 : Int) (x3 : Int) (s0 : slices_IndexFunc_int_o_order_right_c1_L0_s0) : slices_IndexFunc_int_o_order_right_c1_L0_sel x1 x2 s0 = true → (roundG (runC E0 (cl E0) L82_0) [0, 1, 7, 8] [4] 0) (slices_IndexFunc_int_o_order_right_c1_L0_enc x0 x1 x2 x3 s0) = some (.normal, slices_IndexFunc_int_o_order_right_c1_L0_enc x0 x1 x2 x3 (slices_IndexFunc_int_o_order_right_c1_L0_nx x1 x2 s0)) := by
  unfold slices_IndexFunc_int_o_order_right_c1_L0_sel slices_IndexFunc_int_o_order_right_c1_L0_nx
  cases h1 : tb (decide (s0.c3 < x2))
  · intro g0
    exact absurd g0 ft
  · cases h2 : tb (inb x1.length s0.c3)
    · intro g0
      exact absurd g0 ft
    · cases h3 : tb (order_right_c1_i_r0_0 (gt x1 s0.c3))
      · intro _
        exact round_walk [.b (tbE h1), .o 14 (fun _ => o_idx_os (enc := (encI .i64)) (l := x1) (fl := true) (n := x0) (s := 1) (k := .i64) (tbE h2)), .c (order_right_c1_i_t0 (gt x1 s0.c3)), .b (tbE h3)] (by kernel_rfl)
      · intro g0
        exact absurd g0 ft

def slices_IndexFunc_int_o_order_right_c1_L0_c0 (x1 : List Int) (x2 : Int) (s0 : slices_IndexFunc_int_o_order_right_c1_L0_s0) : Bool := (bif tb (decide (s0.c3 < x2)) then (bif tb (inb x1.length s0.c3) then true else false) else false)

def slices_IndexFunc_int_o_order_right_c1_L0_c1 (x2 : Int) (s0 : slices_IndexFunc_int_o_order_right_c1_L0_s0) : Bool := (bif tb (decide (s0.c3 < x2)) then false else true)

theorem slices_IndexFunc_int_o_order_right_c1_L0_x0 (x0 : Bool) (x1 : List Int) (x2 : Int) (x3 : Int) (s0 : slices_IndexFunc_int_o_order_right_c1_L0_s0) : slices_IndexFunc_int_o_order_right_c1_L0_sel x1 x2 s0 = false → slices_IndexFunc_int_o_order_right_c1_L0_c0 x1 x2 s0 = true → (roundG (runC E0 (cl E0) L82_0) [0, 1, 7, 8] [4] 0) (slices_IndexFunc_int_o_order_right_c1_L0_enc x0 x1 x2 x3 s0) = some (.ret, ([(V.d (.int .i64 s0.c3))], [])) := by
  unfold slices_IndexFunc_int_o_order_right_c1_L0_sel slices_IndexFunc_int_o_order_right_c1_L0_c0
  cases h1 : tb (decide (s0.c3 < x2))
  · intro g0 g1
    exact absurd g1 ft
  · cases h2 : tb (inb x1.length s0.c3)
    · intro g0 g1
      exact absurd g1 ft
    · cases h3 : tb (order_right_c1_i_r0_0 (gt x1 s0.c3))
      · intro g0 g1
        exact absurd g0 tf
      · intro g0 g1
        exact round_walk [.b (tbE h1), .o 14 (fun _ => o_idx_os (enc := (encI .i64)) (l := x1) (fl := true) (n := x0) (s := 1) (k := .i64) (tbE h2)), .c (order_right_c1_i_t0 (gt x1 s0.c3)), .b (tbE h3)] (by kernel_rfl)

theorem slices_IndexFunc_int_o_order_right_c1_L0_x1 (x0 : Bool) (x1 : List Int) (x2 : Int) (x3 : Int) (s0 : slices_IndexFunc_int_o_order_right_c1_L0_s0) : slices_IndexFunc_int_o_order_right_c1_L0_sel x1 x2 s0 = false → slices_IndexFunc_int_o_order_right_c1_L0_c0 x1 x2 s0 = false → slices_IndexFunc_int_o_order_right_c1_L0_c1 x2 s0 = true → (roundG (runC E0 (cl E0) L82_0) [0, 1, 7, 8] [4] 0) (slices_IndexFunc_int_o_order_right_c1_L0_enc x0 x1 x2 x3 s0) = some ((.exit 0), ([V.un], [])) := by
  unfold slices_IndexFunc_int_o_order_right_c1_L0_sel slices_IndexFunc_int_o_order_right_c1_L0_c0 slices_IndexFunc_int_o_order_right_c1_L0_c1
  cases h1 : tb (decide (s0.c3 < x2))
  · intro g0 g1 g2
    exact round_walk [.b (tbE h1)] (by kernel_rfl)
  · cases h2 : tb (inb x1.length s0.c3)
    · intro g0 g1 g2
      exact absurd g2 ft
    · cases h3 : tb (order_right_c1_i_r0_0 (gt x1 s0.c3))
      · intro g0 g1 g2
        exact absurd g0 tf
      · intro g0 g1 g2
        exact absurd g1 tf

theorem slices_IndexFunc_int_o_order_right_c1_L0_f0_0 (x0 : Bool) (x1 : List Int) (x2 : Int) (x3 : Int) (s : slices_IndexFunc_int_o_order_right_c1_L0_s0) (hok : slices_IndexFunc_int_o_order_right_c1_L0_ok x1 x2 s = true) (c0 : slices_IndexFunc_int_o_order_right_c1_L0_c0 x1 x2 (slices_IndexFunc_int_o_order_right_c1_L0_end x1 x2 s) = true) : loopG (roundG (runC E0 (cl E0) L82_0) [0, 1, 7, 8] [4] 0) bound (slices_IndexFunc_int_o_order_right_c1_L0_enc x0 x1 x2 x3 s) = some (.ret, ([(V.d (.int .i64 ((slices_IndexFunc_int_o_order_right_c1_L0_end x1 x2 s).c3)))], [])) := by
  have e : itS (slices_IndexFunc_int_o_order_right_c1_L0_sel x1 x2) (slices_IndexFunc_int_o_order_right_c1_L0_nx x1 x2) bound s = some (slices_IndexFunc_int_o_order_right_c1_L0_end x1 x2 s) := itS_get hok
  have f := itS_false e
  exact loop_it (slices_IndexFunc_int_o_order_right_c1_L0_go x0 x1 x2 x3) bound s _ _ _ e (fun h => by cases h) (slices_IndexFunc_int_o_order_right_c1_L0_x0 x0 x1 x2 x3 (slices_IndexFunc_int_o_order_right_c1_L0_end x1 x2 s) f c0)

theorem slices_IndexFunc_int_o_order_right_c1_L0_f0_1 (x0 : Bool) (x1 : List Int) (x2 : Int) (x3 : Int) (s : slices_IndexFunc_int_o_order_right_c1_L0_s0) (hok : slices_IndexFunc_int_o_order_right_c1_L0_ok x1 x2 s = true) (c0 : slices_IndexFunc_int_o_order_right_c1_L0_c0 x1 x2 (slices_IndexFunc_int_o_order_right_c1_L0_end x1 x2 s) = false) (c1 : slices_IndexFunc_int_o_order_right_c1_L0_c1 x2 (slices_IndexFunc_int_o_order_right_c1_L0_end x1 x2 s) = true) : loopG (roundG (runC E0 (cl E0) L82_0) [0, 1, 7, 8] [4] 0) bound (slices_IndexFunc_int_o_order_right_c1_L0_enc x0 x1 x2 x3 s) = some ((.exit 0), ([V.un], [])) := by
  have e : itS (slices_IndexFunc_int_o_order_right_c1_L0_sel x1 x2) (slices_IndexFunc_int_o_order_right_c1_L0_nx x1 x2) bound s = some (slices_IndexFunc_int_o_order_right_c1_L0_end x1 x2 s) := itS_get hok
  have f := itS_false e
  exact loop_it (slices_IndexFunc_int_o_order_right_c1_L0_go x0 x1 x2 x3) bound s _ _ _ e (fun h => by cases h) (slices_IndexFunc_int_o_order_right_c1_L0_x1 x0 x1 x2 x3 (slices_IndexFunc_int_o_order_right_c1_L0_end x1 x2 s) f c0 c1)

def slices_IndexFunc_int_o_order_right_c1_e0 (x1 : List Int) : slices_IndexFunc_int_o_order_right_c1_L0_s0 := slices_IndexFunc_int_o_order_right_c1_L0_end x1 ((x1.length : Nat) : Int) (⟨0⟩ : slices_IndexFunc_int_o_order_right_c1_L0_s0)

def slices_IndexFunc_int_o_order_right_c1_c0 (x1 : List Int) : Bool := (bif tb (slices_IndexFunc_int_o_order_right_c1_L0_ok x1 ((x1.length : Nat) : Int) (⟨0⟩ : slices_IndexFunc_int_o_order_right_c1_L0_s0)) then (bif tb (slices_IndexFunc_int_o_order_right_c1_L0_c0 x1 ((x1.length : Nat) : Int) (slices_IndexFunc_int_o_order_right_c1_e0 x1)) then true else (bif tb (slices_IndexFunc_int_o_order_right_c1_L0_c1 ((x1.length : Nat) : Int) (slices_IndexFunc_int_o_order_right_c1_e0 x1)) then true else false)) else false)

def slices_IndexFunc_int_o_order_right_c1_r0_0 (x1 : List Int) : Int := (bif tb (slices_IndexFunc_int_o_order_right_c1_L0_c0 x1 ((x1.length : Nat) : Int) (slices_IndexFunc_int_o_order_right_c1_e0 x1)) then ((slices_IndexFunc_int_o_order_right_c1_e0 x1).c3) else (-1))

theorem slices_IndexFunc_int_o_order_right_c1_t0 (x0 : Bool) (x1 : List Int) : slices_IndexFunc_int_o_order_right_c1_c0 x1 = true → cl E0 82 [(V.d (slD (encI .i64) true 1 x0 x1)), (V.fn (.func 78) [] [])] [] = some ([(V.d (.int .i64 (slices_IndexFunc_int_o_order_right_c1_r0_0 x1)))], []) := by
  unfold slices_IndexFunc_int_o_order_right_c1_c0 slices_IndexFunc_int_o_order_right_c1_r0_0
  cases h1 : tb (slices_IndexFunc_int_o_order_right_c1_L0_ok x1 ((x1.length : Nat) : Int) (⟨0⟩ : slices_IndexFunc_int_o_order_right_c1_L0_s0))
  · intro g0
    exact absurd g0 ft
  · cases h2 : tb (slices_IndexFunc_int_o_order_right_c1_L0_c0 x1 ((x1.length : Nat) : Int) (slices_IndexFunc_int_o_order_right_c1_e0 x1))
    · cases h3 : tb (slices_IndexFunc_int_o_order_right_c1_L0_c1 ((x1.length : Nat) : Int) (slices_IndexFunc_int_o_order_right_c1_e0 x1))
      · intro g0
        exact absurd g0 ft
      · intro g0
        exact w82 [.o 7 (fun _ => o_len_os (enc := (encI .i64)) (l := x1) (fl := true) (n := x0) (s := 1)), .l (slices_IndexFunc_int_o_order_right_c1_L0_f0_1 x0 x1 ((x1.length : Nat) : Int) 0 (⟨0⟩ : slices_IndexFunc_int_o_order_right_c1_L0_s0) (tbE h1) (tbE h2) (tbE h3))] (by kernel_rfl)
    · intro g0
      exact w82 [.o 7 (fun _ => o_len_os (enc := (encI .i64)) (l := x1) (fl := true) (n := x0) (s := 1)), .l (slices_IndexFunc_int_o_order_right_c1_L0_f0_0 x0 x1 ((x1.length : Nat) : Int) 0 (⟨0⟩ : slices_IndexFunc_int_o_order_right_c1_L0_s0) (tbE h1) (tbE h2))] (by kernel_rfl)

def slices_ContainsFunc_int_o_order_right_c1_c0 (x1 : List Int) : Bool := (bif tb (slices_IndexFunc_int_o_order_right_c1_c0 x1) then true else false)

theorem slices_ContainsFunc_int_o_order_right_c1_t0 (x0 : Bool) (x1 : List Int) : slices_ContainsFunc_int_o_order_right_c1_c0 x1 = true → cl E0 77 [(V.d (slD (encI .i64) true 1 x0 x1)), (V.fn (.func 78) [] [])] [] = some ([(V.d (.bool (decide (0 ≤ (slices_IndexFunc_int_o_order_right_c1_r0_0 x1)))))], []) := by
  unfold slices_ContainsFunc_int_o_order_right_c1_c0
  cases h1 : tb (slices_IndexFunc_int_o_order_right_c1_c0 x1)
  · intro g0
    exact absurd g0 ft
  · intro g0
    exact w77 [.c (slices_IndexFunc_int_o_order_right_c1_t0 x0 x1 (tbE h1))] (by kernel_rfl)

def order_right_o_c0 (x1 : List Int) : Bool := (bif tb (decide (((x1.length : Nat) : Int) ≤ 16)) then (bif tb (slices_ContainsFunc_int_o_order_right_c1_c0 x1) then true else false) else true)

def order_right_o_r0_0 (x1 : List Int) : Bool := (bif tb (decide (((x1.length : Nat) : Int) ≤ 16)) then (!(decide (0 ≤ (slices_IndexFunc_int_o_order_right_c1_r0_0 x1)))) else false)

theorem order_right_o_t0 (x0 : Bool) (x1 : List Int) : order_right_o_c0 x1 = true → cl E0 63 [(V.d (slD (encI .i64) true 1 x0 x1))] [] = some ([(V.d (.bool (order_right_o_r0_0 x1)))], []) := by
  unfold order_right_o_c0 order_right_o_r0_0
  cases h1 : tb (decide (((x1.length : Nat) : Int) ≤ 16))
  · intro g0
    exact w63 [.o 5 (fun _ => o_len_os (enc := (encI .i64)) (l := x1) (fl := true) (n := x0) (s := 1)), .b (tbE h1)] (by kernel_rfl)
  · cases h2 : tb (slices_ContainsFunc_int_o_order_right_c1_c0 x1)
    · intro g0
      exact absurd g0 ft
    · intro g0
      exact w63 [.o 5 (fun _ => o_len_os (enc := (encI .i64)) (l := x1) (fl := true) (n := x0) (s := 1)), .b (tbE h1), .c (slices_ContainsFunc_int_o_order_right_c1_t0 x0 x1 (tbE h2))] (by kernel_rfl)

def order_Sort_o_S0_c0 (x2 : List Int) : Bool := (bif tb (order_right_o_c0 x2) then (bif tb (order_right_o_r0_0 x2) then true else false) else false)

def order_Sort_o_S0_c1 (x2 : List Int) : Bool := (bif tb (order_right_o_c0 x2) then (bif tb (order_right_o_r0_0 x2) then false else true) else false)

theorem order_Sort_o_S0_t0 (x0 : Bool) (x1 : Bool) (x2 : List Int) : order_Sort_o_S0_c0 x2 = true → segG (runC E0 (cl E0) S18_0) [0] [2] [0] 1 ([(V.d (slD (encI .i64) true 1 x1 x2))], [(Blk.flat 3 1 [] x0)]) = some (.normal, ([(V.d (slD (encI .i64) true 1 x1 x2))], [(Blk.flat 3 1 [] x0)])) := by
  unfold order_Sort_o_S0_c0
  cases h1 : tb (order_right_o_c0 x2)
  · intro g0
    exact absurd g0 ft
  · cases h2 : tb (order_right_o_r0_0 x2)
    · intro g0
      exact absurd g0 ft
    · intro g0
      exact seg_walk [.c (order_right_o_t0 x1 x2 (tbE h1)), .b (notT (tbE h2))] (by kernel_rfl)

theorem order_Sort_o_S0_t1 (x0 : Bool) (x1 : Bool) (x2 : List Int) : order_Sort_o_S0_c0 x2 = false → order_Sort_o_S0_c1 x2 = true → segG (runC E0 (cl E0) S18_0) [0] [2] [0] 1 ([(V.d (slD (encI .i64) true 1 x1 x2))], [(Blk.flat 3 1 [] x0)]) = some (.ret, ([(V.so true 1 0)], [(Blk.flat 3 1 [] x0), (Blk.flat 3 1 [] false)])) := by
  unfold order_Sort_o_S0_c0 order_Sort_o_S0_c1
  cases h1 : tb (order_right_o_c0 x2)
  · intro g0 g1
    exact absurd g1 ft
  · cases h2 : tb (order_right_o_r0_0 x2)
    · intro g0 g1
      exact seg_walk [.c (order_right_o_t0 x1 x2 (tbE h1)), .b (notF (tbE h2))] (by kernel_rfl)
    · intro g0 g1
      exact absurd g0 tf

structure order_Sort_o_L1_s0 where
  c2 : Bool
  c3 : Int
  c7 : List Int
  deriving Inhabited

def order_Sort_o_L1_enc (x0 : List Int) (x1 : Bool) (x2 : Bool) (x3 : Bool) (x4 : Nat) (x5 : Bool) (x6 : Int) (x7 : Int) (x8 : Int) (s0 : order_Sort_o_L1_s0) : List V × Mem := ([(V.so x3 1 x4), (V.d (.bool s0.c2)), (V.d (.int .i64 s0.c3)), (V.d (.int .i64 x7)), (V.d (.int .i64 x8))], [(Blk.flat 3 1 [] x1), (Blk.flat 3 1 (List.map (encI .i64) s0.c7) false)])

def order_Sort_o_L1_h0_e0 (s0 : order_Sort_o_L1_s0) : List Int := st (st s0.c7 (wi (s0.c3 - 1)) (gt s0.c7 s0.c3)) s0.c3 (gt s0.c7 (wi (s0.c3 - 1)))

def order_Sort_o_L1_sel (x4 : Nat) (s0 : order_Sort_o_L1_s0) : Bool := (bif tb (decide (s0.c3 < ((x4 : Nat) : Int))) then (bif tb (inb x4 (wi (s0.c3 - 1))) then (bif tb (Nat.beq x4 s0.c7.length) then (bif tb (inb x4 s0.c3) then (bif tb (decide ((gt s0.c7 s0.c3) < (gt s0.c7 (wi (s0.c3 - 1))))) then (bif tb (Nat.beq x4 (st s0.c7 (wi (s0.c3 - 1)) (gt s0.c7 s0.c3)).length) then true else false) else true) else false) else false) else false) else false)

def order_Sort_o_L1_nx (x4 : Nat) (s0 : order_Sort_o_L1_s0) : order_Sort_o_L1_s0 := (bif tb (decide ((gt s0.c7 s0.c3) < (gt s0.c7 (wi (s0.c3 - 1))))) then ⟨true, (wi (s0.c3 + 1)), (order_Sort_o_L1_h0_e0 s0)⟩ else ⟨s0.c2, (wi (s0.c3 + 1)), s0.c7⟩)

def order_Sort_o_L1_ok (x4 : Nat) (s0 : order_Sort_o_L1_s0) : Bool := (itS (order_Sort_o_L1_sel x4) (order_Sort_o_L1_nx x4) bound s0).isSome
def order_Sort_o_L1_end (x4 : Nat) (s0 : order_Sort_o_L1_s0) : order_Sort_o_L1_s0 := (itS (order_Sort_o_L1_sel x4) (order_Sort_o_L1_nx x4) bound s0).getD default

theorem order_Sort_o_L1_go (x0 : List Int) (x1 : Bool) (x2 : Bool) (x3 : Bool) (x4 : Nat) (x5 : Bool) (x6 : Int) (x7 : Int) (x8 : Int) (s0 : order_Sort_o_L1_s0) : order_Sort_o_L1_sel x4 s0 = true → (roundG (runC E0 (cl E0) L18_1) [3, 4, 5, 16, 17] [3, 4, 16, 17] 2) (order_Sort_o_L1_enc x0 x1 x2 x3 x4 x5 x6 x7 x8 s0) = some (.normal, order_Sort_o_L1_enc x0 x1 x2 x3 x4 x5 x6 x7 x8 (order_Sort_o_L1_nx x4 s0)) := by
  unfold order_Sort_o_L1_sel order_Sort_o_L1_nx
  cases h1 : tb (decide (s0.c3 < ((x4 : Nat) : Int)))
  · intro g0
    exact absurd g0 ft
  · cases h2 : tb (inb x4 (wi (s0.c3 - 1)))
    · intro g0
      exact absurd g0 ft
    · cases h3 : tb (Nat.beq x4 s0.c7.length)
      · intro g0
        exact absurd g0 ft
      · cases h4 : tb (inb x4 s0.c3)
        · intro g0
          exact absurd g0 ft
        · cases h5 : tb (decide ((gt s0.c7 s0.c3) < (gt s0.c7 (wi (s0.c3 - 1)))))
          · intro _
            exact round_walk [.b (tbE h1), .m 28 (o_idx_so (m := [(Blk.flat 3 1 [] true), (Blk.flat 3 1 (List.map (encI .i64) s0.c7) true)]) (b := x3) (id := 1) (n := x4) (s := 1) (k := .i64) (by kernel_rfl) (tbE h2)), .m 29 (o_load_L (m := [(Blk.flat 3 1 [] true), (Blk.flat 3 1 (List.map (encI .i64) s0.c7) true)]) (enc := (encI .i64)) (l := s0.c7) (id := 1) (e := 3) (s := 1) (off := 0) (size := 1) (p := true) (agg := false) (i := (wi (s0.c3 - 1))) (v := (V.d (.int .i64 (gt s0.c7 (wi (s0.c3 - 1)))))) (n := x4) (tbE h3) (by kernel_rfl) (tbE h2) (by kernel_rfl)), .m 32 (o_idx_so (m := [(Blk.flat 3 1 [] true), (Blk.flat 3 1 (List.map (encI .i64) s0.c7) true)]) (b := x3) (id := 1) (n := x4) (s := 1) (k := .i64) (by kernel_rfl) (tbE h4)), .m 33 (o_load_L (m := [(Blk.flat 3 1 [] true), (Blk.flat 3 1 (List.map (encI .i64) s0.c7) true)]) (enc := (encI .i64)) (l := s0.c7) (id := 1) (e := 3) (s := 1) (off := 0) (size := 1) (p := true) (agg := false) (i := s0.c3) (v := (V.d (.int .i64 (gt s0.c7 s0.c3)))) (n := x4) (tbE h3) (by kernel_rfl) (tbE h4) (by kernel_rfl)), .b (tbE h5)] (by kernel_rfl)
          · cases h6 : tb (Nat.beq x4 (st s0.c7 (wi (s0.c3 - 1)) (gt s0.c7 s0.c3)).length)
            · intro g0
              exact absurd g0 ft
            · intro _
              exact round_walk [.b (tbE h1), .m 28 (o_idx_so (m := [(Blk.flat 3 1 [] true), (Blk.flat 3 1 (List.map (encI .i64) s0.c7) true)]) (b := x3) (id := 1) (n := x4) (s := 1) (k := .i64) (by kernel_rfl) (tbE h2)), .m 29 (o_load_L (m := [(Blk.flat 3 1 [] true), (Blk.flat 3 1 (List.map (encI .i64) s0.c7) true)]) (enc := (encI .i64)) (l := s0.c7) (id := 1) (e := 3) (s := 1) (off := 0) (size := 1) (p := true) (agg := false) (i := (wi (s0.c3 - 1))) (v := (V.d (.int .i64 (gt s0.c7 (wi (s0.c3 - 1)))))) (n := x4) (tbE h3) (by kernel_rfl) (tbE h2) (by kernel_rfl)), .m 32 (o_idx_so (m := [(Blk.flat 3 1 [] true), (Blk.flat 3 1 (List.map (encI .i64) s0.c7) true)]) (b := x3) (id := 1) (n := x4) (s := 1) (k := .i64) (by kernel_rfl) (tbE h4)), .m 33 (o_load_L (m := [(Blk.flat 3 1 [] true), (Blk.flat 3 1 (List.map (encI .i64) s0.c7) true)]) (enc := (encI .i64)) (l := s0.c7) (id := 1) (e := 3) (s := 1) (off := 0) (size := 1) (p := true) (agg := false) (i := s0.c3) (v := (V.d (.int .i64 (gt s0.c7 s0.c3)))) (n := x4) (tbE h3) (by kernel_rfl) (tbE h4) (by kernel_rfl)), .b (tbE h5), .m 42 (o_idx_so (m := [(Blk.flat 3 1 [] x1), (Blk.flat 3 1 (List.map (encI .i64) s0.c7) false)]) (b := x3) (id := 1) (n := x4) (s := 1) (k := .i64) (by kernel_rfl) (tbE h4)), .m 43 (o_load_L (m := [(Blk.flat 3 1 [] x1), (Blk.flat 3 1 (List.map (encI .i64) s0.c7) false)]) (enc := (encI .i64)) (l := s0.c7) (id := 1) (e := 3) (s := 1) (off := 0) (size := 1) (p := false) (agg := false) (i := s0.c3) (v := (V.d (.int .i64 (gt s0.c7 s0.c3)))) (n := x4) (tbE h3) (by kernel_rfl) (tbE h4) (by kernel_rfl)), .m 47 (o_idx_so (m := [(Blk.flat 3 1 [] x1), (Blk.flat 3 1 (List.map (encI .i64) s0.c7) false)]) (b := x3) (id := 1) (n := x4) (s := 1) (k := .i64) (by kernel_rfl) (tbE h2)), .m 48 (o_load_L (m := [(Blk.flat 3 1 [] x1), (Blk.flat 3 1 (List.map (encI .i64) s0.c7) false)]) (enc := (encI .i64)) (l := s0.c7) (id := 1) (e := 3) (s := 1) (off := 0) (size := 1) (p := false) (agg := false) (i := (wi (s0.c3 - 1))) (v := (V.d (.int .i64 (gt s0.c7 (wi (s0.c3 - 1)))))) (n := x4) (tbE h3) (by kernel_rfl) (tbE h2) (by kernel_rfl)), .m 49 (o_idx_so (m := [(Blk.flat 3 1 [] x1), (Blk.flat 3 1 (List.map (encI .i64) s0.c7) false)]) (b := x3) (id := 1) (n := x4) (s := 1) (k := .i64) (by kernel_rfl) (tbE h2)), .m 100049 (o_store_L (m := [(Blk.flat 3 1 [] x1), (Blk.flat 3 1 (List.map (encI .i64) s0.c7) false)]) (enc := (encI .i64)) (l := s0.c7) (id := 1) (e := 3) (s := 1) (size := 1) (off := 0) (i := (wi (s0.c3 - 1))) (v := (V.d (.int .i64 (gt s0.c7 s0.c3)))) (x := (gt s0.c7 s0.c3)) (ys := [(.int .i64 (gt s0.c7 s0.c3))]) (n := x4) (tbE h3) (by kernel_rfl) (tbE h2) ⟨by kernel_rfl, by kernel_rfl⟩ (by kernel_rfl) (by kernel_rfl)), .m 50 (o_idx_so (m := [(Blk.flat 3 1 [] x1), (Blk.flat 3 1 (List.map (encI .i64) (st s0.c7 (wi (s0.c3 - 1)) (gt s0.c7 s0.c3))) false)]) (b := x3) (id := 1) (n := x4) (s := 1) (k := .i64) (by kernel_rfl) (tbE h4)), .m 100050 (o_store_L (m := [(Blk.flat 3 1 [] x1), (Blk.flat 3 1 (List.map (encI .i64) (st s0.c7 (wi (s0.c3 - 1)) (gt s0.c7 s0.c3))) false)]) (enc := (encI .i64)) (l := (st s0.c7 (wi (s0.c3 - 1)) (gt s0.c7 s0.c3))) (id := 1) (e := 3) (s := 1) (size := 1) (off := 0) (i := s0.c3) (v := (V.d (.int .i64 (gt s0.c7 (wi (s0.c3 - 1)))))) (x := (gt s0.c7 (wi (s0.c3 - 1)))) (ys := [(.int .i64 (gt s0.c7 (wi (s0.c3 - 1))))]) (n := x4) (tbE h6) (by kernel_rfl) (tbE h4) ⟨by kernel_rfl, by kernel_rfl⟩ (by kernel_rfl) (by kernel_rfl))] (by kernel_rfl)

def order_Sort_o_L1_c0 (x4 : Nat) (s0 : order_Sort_o_L1_s0) : Bool := (bif tb (decide (s0.c3 < ((x4 : Nat) : Int))) then false else true)

theorem order_Sort_o_L1_x0 (x0 : List Int) (x1 : Bool) (x2 : Bool) (x3 : Bool) (x4 : Nat) (x5 : Bool) (x6 : Int) (x7 : Int) (x8 : Int) (s0 : order_Sort_o_L1_s0) : order_Sort_o_L1_sel x4 s0 = false → order_Sort_o_L1_c0 x4 s0 = true → (roundG (runC E0 (cl E0) L18_1) [3, 4, 5, 16, 17] [3, 4, 16, 17] 2) (order_Sort_o_L1_enc x0 x1 x2 x3 x4 x5 x6 x7 x8 s0) = some ((.exit 2), ([(V.so x3 1 x4), (V.d (.bool s0.c2)), (V.d (.int .i64 x7)), (V.d (.int .i64 x8))], [(Blk.flat 3 1 [] x1), (Blk.flat 3 1 (List.map (encI .i64) s0.c7) false)])) := by
  unfold order_Sort_o_L1_sel order_Sort_o_L1_c0
  cases h1 : tb (decide (s0.c3 < ((x4 : Nat) : Int)))
  · intro g0 g1
    exact round_walk [.b (tbE h1)] (by kernel_rfl)
  · cases h2 : tb (inb x4 (wi (s0.c3 - 1)))
    · intro g0 g1
      exact absurd g1 ft
    · cases h3 : tb (Nat.beq x4 s0.c7.length)
      · intro g0 g1
        exact absurd g1 ft
      · cases h4 : tb (inb x4 s0.c3)
        · intro g0 g1
          exact absurd g1 ft
        · cases h5 : tb (decide ((gt s0.c7 s0.c3) < (gt s0.c7 (wi (s0.c3 - 1)))))
          · intro g0 g1
            exact absurd g0 tf
          · cases h6 : tb (Nat.beq x4 (st s0.c7 (wi (s0.c3 - 1)) (gt s0.c7 s0.c3)).length)
            · intro g0 g1
              exact absurd g1 ft
            · intro g0 g1
              exact absurd g0 tf

theorem order_Sort_o_L1_f0_0 (x0 : List Int) (x1 : Bool) (x2 : Bool) (x3 : Bool) (x4 : Nat) (x5 : Bool) (x6 : Int) (x7 : Int) (x8 : Int) (s : order_Sort_o_L1_s0) (hok : order_Sort_o_L1_ok x4 s = true) (c0 : order_Sort_o_L1_c0 x4 (order_Sort_o_L1_end x4 s) = true) : loopG (roundG (runC E0 (cl E0) L18_1) [3, 4, 5, 16, 17] [3, 4, 16, 17] 2) bound (order_Sort_o_L1_enc x0 x1 x2 x3 x4 x5 x6 x7 x8 s) = some ((.exit 2), ([(V.so x3 1 x4), (V.d (.bool ((order_Sort_o_L1_end x4 s).c2))), (V.d (.int .i64 x7)), (V.d (.int .i64 x8))], [(Blk.flat 3 1 [] x1), (Blk.flat 3 1 (List.map (encI .i64) ((order_Sort_o_L1_end x4 s).c7)) false)])) := by
  have e : itS (order_Sort_o_L1_sel x4) (order_Sort_o_L1_nx x4) bound s = some (order_Sort_o_L1_end x4 s) := itS_get hok
  have f := itS_false e
  exact loop_it (order_Sort_o_L1_go x0 x1 x2 x3 x4 x5 x6 x7 x8) bound s _ _ _ e (fun h => by cases h) (order_Sort_o_L1_x0 x0 x1 x2 x3 x4 x5 x6 x7 x8 (order_Sort_o_L1_end x4 s) f c0)

structure order_Sort_o_L2_s0 where
  c3 : Int
  c5 : List Int
  deriving Inhabited

def order_Sort_o_L2_enc (x0 : List Int) (x1 : Bool) (x2 : Bool) (x3 : Bool) (x4 : Nat) (x5 : Int) (x6 : Int) (s0 : order_Sort_o_L2_s0) : List V × Mem := ([(V.so x3 1 x4), (V.d (.int .i64 x5)), (V.d (.int .i64 s0.c3))], [(Blk.flat 3 1 [] x1), (Blk.flat 3 1 (List.map (encI .i64) s0.c5) false)])

def order_Sort_o_L2_h0_e0 (x4 : Nat) (s0 : order_Sort_o_L2_s0) : order_Sort_o_L1_s0 := order_Sort_o_L1_end x4 (⟨false, 1, s0.c5⟩ : order_Sort_o_L1_s0)

def order_Sort_o_L2_sel (x4 : Nat) (x5 : Int) (s0 : order_Sort_o_L2_s0) : Bool := (bif tb (decide (s0.c3 < x5)) then (bif tb (order_Sort_o_L1_ok x4 (⟨false, 1, s0.c5⟩ : order_Sort_o_L1_s0)) then (bif tb (order_Sort_o_L1_c0 x4 (order_Sort_o_L2_h0_e0 x4 s0)) then (bif tb ((order_Sort_o_L2_h0_e0 x4 s0).c2) then true else false) else false) else false) else false)

def order_Sort_o_L2_nx (x4 : Nat) (x5 : Int) (s0 : order_Sort_o_L2_s0) : order_Sort_o_L2_s0 := ⟨(wi (s0.c3 + 1)), ((order_Sort_o_L2_h0_e0 x4 s0).c7)⟩

def order_Sort_o_L2_ok (x4 : Nat) (x5 : Int) (s0 : order_Sort_o_L2_s0) : Bool := (itS (order_Sort_o_L2_sel x4 x5) (order_Sort_o_L2_nx x4 x5) bound s0).isSome
def order_Sort_o_L2_end (x4 : Nat) (x5 : Int) (s0 : order_Sort_o_L2_s0) : order_Sort_o_L2_s0 := (itS (order_Sort_o_L2_sel x4 x5) (order_Sort_o_L2_nx x4 x5) bound s0).getD default

theorem order_Sort_o_L2_go (x0 : List Int) (x1 : Bool) (x2 : Bool) (x3 : Bool) (x4 : Nat) (x5 : Int) (x6 : Int) (s0 : order_Sort_o_L2_s0) : order_Sort_o_L2_sel x4 x5 s0 = true → (roundG (runC E0 (cl E0) L18_2) [3, 16, 17] [3] 2) (order_Sort_o_L2_enc x0 x1 x2 x3 x4 x5 x6 s0) = some (.normal, order_Sort_o_L2_enc x0 x1 x2 x3 x4 x5 x6 (order_Sort_o_L2_nx x4 x5 s0)) := by
  unfold order_Sort_o_L2_sel order_Sort_o_L2_nx
  cases h1 : tb (decide (s0.c3 < x5))
  · intro g0
    exact absurd g0 ft
  · cases h2 : tb (order_Sort_o_L1_ok x4 (⟨false, 1, s0.c5⟩ : order_Sort_o_L1_s0))
    · intro g0
      exact absurd g0 ft
    · cases h3 : tb (order_Sort_o_L1_c0 x4 (order_Sort_o_L2_h0_e0 x4 s0))
      · intro g0
        exact absurd g0 ft
      · cases h4 : tb ((order_Sort_o_L2_h0_e0 x4 s0).c2)
        · intro g0
          exact absurd g0 ft
        · intro _
          exact round_walk [.b (tbE h1), .l (order_Sort_o_L1_f0_0 s0.c5 x1 false x3 x4 false 1 x5 s0.c3 (⟨false, 1, s0.c5⟩ : order_Sort_o_L1_s0) (tbE h2) (tbE h3)), .b (notT (tbE h4))] (by kernel_rfl)

def order_Sort_o_L2_c0 (x4 : Nat) (x5 : Int) (s0 : order_Sort_o_L2_s0) : Bool := (bif tb (decide (s0.c3 < x5)) then (bif tb (order_Sort_o_L1_ok x4 (⟨false, 1, s0.c5⟩ : order_Sort_o_L1_s0)) then (bif tb (order_Sort_o_L1_c0 x4 (order_Sort_o_L2_h0_e0 x4 s0)) then true else false) else false) else true)

def order_Sort_o_L2_r0_3 (x4 : Nat) (x5 : Int) (s0 : order_Sort_o_L2_s0) : List Int := (bif tb (decide (s0.c3 < x5)) then ((order_Sort_o_L2_h0_e0 x4 s0).c7) else s0.c5)

theorem order_Sort_o_L2_x0 (x0 : List Int) (x1 : Bool) (x2 : Bool) (x3 : Bool) (x4 : Nat) (x5 : Int) (x6 : Int) (s0 : order_Sort_o_L2_s0) : order_Sort_o_L2_sel x4 x5 s0 = false → order_Sort_o_L2_c0 x4 x5 s0 = true → (roundG (runC E0 (cl E0) L18_2) [3, 16, 17] [3] 2) (order_Sort_o_L2_enc x0 x1 x2 x3 x4 x5 x6 s0) = some ((.exit 0), ([(V.so x3 1 x4)], [(Blk.flat 3 1 [] x1), (Blk.flat 3 1 (List.map (encI .i64) (order_Sort_o_L2_r0_3 x4 x5 s0)) false)])) := by
  unfold order_Sort_o_L2_sel order_Sort_o_L2_c0 order_Sort_o_L2_r0_3
  cases h1 : tb (decide (s0.c3 < x5))
  · intro g0 g1
    exact round_walk [.b (tbE h1)] (by kernel_rfl)
  · cases h2 : tb (order_Sort_o_L1_ok x4 (⟨false, 1, s0.c5⟩ : order_Sort_o_L1_s0))
    · intro g0 g1
      exact absurd g1 ft
    · cases h3 : tb (order_Sort_o_L1_c0 x4 (order_Sort_o_L2_h0_e0 x4 s0))
      · intro g0 g1
        exact absurd g1 ft
      · cases h4 : tb ((order_Sort_o_L2_h0_e0 x4 s0).c2)
        · intro g0 g1
          exact round_walk [.b (tbE h1), .l (order_Sort_o_L1_f0_0 s0.c5 x1 false x3 x4 false 1 x5 s0.c3 (⟨false, 1, s0.c5⟩ : order_Sort_o_L1_s0) (tbE h2) (tbE h3)), .b (notF (tbE h4))] (by kernel_rfl)
        · intro g0 g1
          exact absurd g0 tf

theorem order_Sort_o_L2_f0_0 (x0 : List Int) (x1 : Bool) (x2 : Bool) (x3 : Bool) (x4 : Nat) (x5 : Int) (x6 : Int) (s : order_Sort_o_L2_s0) (hok : order_Sort_o_L2_ok x4 x5 s = true) (c0 : order_Sort_o_L2_c0 x4 x5 (order_Sort_o_L2_end x4 x5 s) = true) : loopG (roundG (runC E0 (cl E0) L18_2) [3, 16, 17] [3] 2) bound (order_Sort_o_L2_enc x0 x1 x2 x3 x4 x5 x6 s) = some ((.exit 0), ([(V.so x3 1 x4)], [(Blk.flat 3 1 [] x1), (Blk.flat 3 1 (List.map (encI .i64) (order_Sort_o_L2_r0_3 x4 x5 (order_Sort_o_L2_end x4 x5 s))) false)])) := by
  have e : itS (order_Sort_o_L2_sel x4 x5) (order_Sort_o_L2_nx x4 x5) bound s = some (order_Sort_o_L2_end x4 x5 s) := itS_get hok
  have f := itS_false e
  exact loop_it (order_Sort_o_L2_go x0 x1 x2 x3 x4 x5 x6) bound s _ _ _ e (fun h => by cases h) (order_Sort_o_L2_x0 x0 x1 x2 x3 x4 x5 x6 (order_Sort_o_L2_end x4 x5 s) f c0)

def order_Sort_o_S3_e0 (x0 : List Int) (x3 : Nat) : order_Sort_o_L2_s0 := order_Sort_o_L2_end x3 ((x3 : Nat) : Int) (⟨0, x0⟩ : order_Sort_o_L2_s0)

def order_Sort_o_S3_c0 (x0 : List Int) (x3 : Nat) : Bool := (bif tb (order_Sort_o_L2_ok x3 ((x3 : Nat) : Int) (⟨0, x0⟩ : order_Sort_o_L2_s0)) then (bif tb (order_Sort_o_L2_c0 x3 ((x3 : Nat) : Int) (order_Sort_o_S3_e0 x0 x3)) then true else false) else false)

theorem order_Sort_o_S3_t0 (x0 : List Int) (x1 : Bool) (x3 : Nat) : order_Sort_o_S3_c0 x0 x3 = true → segG (runC E0 (cl E0) S18_3) [3] [] [3] 2 ([(V.so false 1 x3)], [(Blk.flat 3 1 [] x1), (Blk.flat 3 1 (List.map (encI .i64) x0) false)]) = some (.normal, ([(V.so false 1 x3)], [(Blk.flat 3 1 [] x1), (Blk.flat 3 1 (List.map (encI .i64) (order_Sort_o_L2_r0_3 x3 ((x3 : Nat) : Int) (order_Sort_o_S3_e0 x0 x3))) false)])) := by
  unfold order_Sort_o_S3_c0
  cases h1 : tb (order_Sort_o_L2_ok x3 ((x3 : Nat) : Int) (⟨0, x0⟩ : order_Sort_o_L2_s0))
  · intro g0
    exact absurd g0 ft
  · cases h2 : tb (order_Sort_o_L2_c0 x3 ((x3 : Nat) : Int) (order_Sort_o_S3_e0 x0 x3))
    · intro g0
      exact absurd g0 ft
    · intro g0
      exact seg_walk [.l (order_Sort_o_L2_f0_0 x0 x1 false false x3 ((x3 : Nat) : Int) 0 (⟨0, x0⟩ : order_Sort_o_L2_s0) (tbE h1) (tbE h2))] (by kernel_rfl)

def order_Sort_o_e0 (x1 : List Int) : List Int := cpL (List.replicate ((x1.length : Nat) : Int).toNat (0 : Int)) x1

def order_Sort_o_e1 (x1 : List Int) : Int := ((min x1.length (List.replicate ((x1.length : Nat) : Int).toNat (0 : Int)).length : Nat) : Int)

def order_Sort_o_e2 (x1 : List Int) : Nat := ((List.replicate ((x1.length : Nat) : Int).toNat (0 : Int)).length)

def order_Sort_o_c0 (x1 : List Int) : Bool := (bif tb (order_Sort_o_S0_c0 x1) then (bif tb (decide (0 ≤ ((x1.length : Nat) : Int)) && decide (((x1.length : Nat) : Int) * 8 ≤ 140737488355328)) then (bif tb (order_Sort_o_S3_c0 (order_Sort_o_e0 x1) (order_Sort_o_e2 x1)) then true else false) else false) else false)

def order_Sort_o_c1 (x1 : List Int) : Bool := (bif tb (order_Sort_o_S0_c0 x1) then false else (bif tb (order_Sort_o_S0_c1 x1) then true else false))

theorem order_Sort_o_t0 (x0 : Bool) (x1 : List Int) : order_Sort_o_c0 x1 = true → cl E0 18 [(V.d (slD (encI .i64) true 1 x0 x1))] [] = some ([(V.so false 0 (order_Sort_o_e2 x1))], [(Blk.flat 3 1 (List.map (encI .i64) (order_Sort_o_L2_r0_3 (order_Sort_o_e2 x1) (((order_Sort_o_e2 x1) : Nat) : Int) (order_Sort_o_S3_e0 (order_Sort_o_e0 x1) (order_Sort_o_e2 x1)))) false)]) := by
  unfold order_Sort_o_c0
  cases h1 : tb (order_Sort_o_S0_c0 x1)
  · cases h2 : tb (order_Sort_o_S0_c1 x1)
    · intro g0
      exact absurd g0 ft
    · intro g0
      exact absurd g0 ft
  · cases h2 : tb (decide (0 ≤ ((x1.length : Nat) : Int)) && decide (((x1.length : Nat) : Int) * 8 ≤ 140737488355328))
    · intro g0
      exact absurd g0 ft
    · cases h3 : tb (order_Sort_o_S3_c0 (order_Sort_o_e0 x1) (order_Sort_o_e2 x1))
      · intro g0
        exact absurd g0 ft
      · intro g0
        exact w18 [.s (order_Sort_o_S0_t0 false x0 x1 (tbE h1)), .o 10 (fun _ => o_len_os (enc := (encI .i64)) (l := x1) (fl := true) (n := x0) (s := 1)), .m 11 (o_mksl (m := [(Blk.flat 3 1 [] false)]) (enc := (encI .i64)) (z := (0 : Int)) (e := 3) (bytes := 8) (zero := [(.int .i64 0)]) (k := .i64) (k2 := .i64) (n := ((x1.length : Nat) : Int)) (by kernel_rfl) (by kernel_rfl) (tbE h2)), .m 14 (o_copy (m := [(Blk.flat 3 1 [] false), (Blk.flat 3 1 (List.map (encI .i64) (List.replicate ((x1.length : Nat) : Int).toNat (0 : Int))) false)]) (enc := (encI .i64)) (l0 := (List.replicate ((x1.length : Nat) : Int).toNat (0 : Int))) (l1 := x1) (id := 1) (e := 3) (s := 1) (x := (V.d (slD (encI .i64) true 1 x0 x1))) (n := ((List.replicate ((x1.length : Nat) : Int).toNat (0 : Int)).length)) (Nat.beq_refl _) (by kernel_rfl) flatRowsOf_os sizeOk_os), .s (order_Sort_o_S3_t0 (order_Sort_o_e0 x1) false (order_Sort_o_e2 x1) (tbE h3))] (by kernel_rfl)

theorem order_Sort_o_t1 (x0 : Bool) (x1 : List Int) : order_Sort_o_c0 x1 = false → order_Sort_o_c1 x1 = true → cl E0 18 [(V.d (slD (encI .i64) true 1 x0 x1))] [] = some ([(V.so true 0 0)], [(Blk.flat 3 1 [] false)]) := by
  unfold order_Sort_o_c0 order_Sort_o_c1
  cases h1 : tb (order_Sort_o_S0_c0 x1)
  · cases h2 : tb (order_Sort_o_S0_c1 x1)
    · intro g0 g1
      exact absurd g1 ft
    · intro g0 g1
      exact w18 [.s (order_Sort_o_S0_t1 false x0 x1 (tbE h1) (tbE h2))] (by kernel_rfl)
  · cases h2 : tb (decide (0 ≤ ((x1.length : Nat) : Int)) && decide (((x1.length : Nat) : Int) * 8 ≤ 140737488355328))
    · intro g0 g1
      exact absurd g1 ft
    · cases h3 : tb (order_Sort_o_S3_c0 (order_Sort_o_e0 x1) (order_Sort_o_e2 x1))
      · intro g0 g1
        exact absurd g1 ft
      · intro g0 g1
        exact absurd g0 tf

def order_Mid_o_e0 (x1 : List Int) : Int := gt (order_Sort_o_L2_r0_3 (order_Sort_o_e2 x1) (((order_Sort_o_e2 x1) : Nat) : Int) (order_Sort_o_S3_e0 (order_Sort_o_e0 x1) (order_Sort_o_e2 x1))) (quoI .i64 (wi ((((order_Sort_o_e2 x1) : Nat) : Int) - 1)) 2)

def order_Mid_o_e1 (x1 : List Int) : Int := gt (order_Sort_o_L2_r0_3 (order_Sort_o_e2 x1) (((order_Sort_o_e2 x1) : Nat) : Int) (order_Sort_o_S3_e0 (order_Sort_o_e0 x1) (order_Sort_o_e2 x1))) (quoI .i64 (((order_Sort_o_e2 x1) : Nat) : Int) 2)

def order_Mid_o_e2 (x1 : List Int) : Int := shrI .i64 (wi ((order_Mid_o_e0 x1) + (order_Mid_o_e1 x1))) 1

def order_Mid_o_c0 (x1 : List Int) : Bool := (bif tb (order_right_o_c0 x1) then (bif tb (order_right_o_r0_0 x1) then (bif tb (decide (((x1.length : Nat) : Int) < 1)) then true else (bif tb (decide (4 < ((x1.length : Nat) : Int))) then true else (bif tb (order_Sort_o_c0 x1) then (bif tb (inb (order_Sort_o_e2 x1) (quoI .i64 (wi ((((order_Sort_o_e2 x1) : Nat) : Int) - 1)) 2)) then (bif tb (Nat.beq (order_Sort_o_e2 x1) (order_Sort_o_L2_r0_3 (order_Sort_o_e2 x1) (((order_Sort_o_e2 x1) : Nat) : Int) (order_Sort_o_S3_e0 (order_Sort_o_e0 x1) (order_Sort_o_e2 x1))).length) then (bif tb (inb (order_Sort_o_e2 x1) (quoI .i64 (((order_Sort_o_e2 x1) : Nat) : Int) 2)) then true else false) else false) else false) else false))) else true) else false)

def order_Mid_o_r0_0 (x1 : List Int) : Int := (bif tb (order_right_o_r0_0 x1) then (bif tb (decide (((x1.length : Nat) : Int) < 1)) then 0 else (bif tb (decide (4 < ((x1.length : Nat) : Int))) then 0 else (order_Mid_o_e2 x1))) else 0)

def order_Mid_o_r0_1 (x1 : List Int) : Bool := (bif tb (order_right_o_r0_0 x1) then (bif tb (decide (((x1.length : Nat) : Int) < 1)) then false else (bif tb (decide (4 < ((x1.length : Nat) : Int))) then false else true)) else false)

theorem order_Mid_o_t0 (x0 : Bool) (x1 : List Int) : order_Mid_o_c0 x1 = true → cl E0 15 [(V.d (slD (encI .i64) true 1 x0 x1))] [] = some ([(V.d (.int .i64 (order_Mid_o_r0_0 x1))), (V.d (.bool (order_Mid_o_r0_1 x1)))], []) := by
  unfold order_Mid_o_c0 order_Mid_o_r0_0 order_Mid_o_r0_1
  cases h1 : tb (order_right_o_c0 x1)
  · intro g0
    exact absurd g0 ft
  · cases h2 : tb (order_right_o_r0_0 x1)
    · intro g0
      exact w15 [.c (order_right_o_t0 x0 x1 (tbE h1)), .b (notF (tbE h2))] (by kernel_rfl)
    · cases h3 : tb (decide (((x1.length : Nat) : Int) < 1))
      · cases h4 : tb (decide (4 < ((x1.length : Nat) : Int)))
        · cases h5 : tb (order_Sort_o_c0 x1)
          · cases h6 : tb (order_Sort_o_c1 x1)
            · intro g0
              exact absurd g0 ft
            · intro g0
              exact absurd g0 ft
          · cases h6 : tb (inb (order_Sort_o_e2 x1) (quoI .i64 (wi ((((order_Sort_o_e2 x1) : Nat) : Int) - 1)) 2))
            · intro g0
              exact absurd g0 ft
            · cases h7 : tb (Nat.beq (order_Sort_o_e2 x1) (order_Sort_o_L2_r0_3 (order_Sort_o_e2 x1) (((order_Sort_o_e2 x1) : Nat) : Int) (order_Sort_o_S3_e0 (order_Sort_o_e0 x1) (order_Sort_o_e2 x1))).length)
              · intro g0
                exact absurd g0 ft
              · cases h8 : tb (inb (order_Sort_o_e2 x1) (quoI .i64 (((order_Sort_o_e2 x1) : Nat) : Int) 2))
                · intro g0
                  exact absurd g0 ft
                · intro g0
                  exact w15 [.c (order_right_o_t0 x0 x1 (tbE h1)), .b (notT (tbE h2)), .o 11 (fun _ => o_len_os (enc := (encI .i64)) (l := x1) (fl := true) (n := x0) (s := 1)), .b (tbE h3), .o 16 (fun _ => o_len_os (enc := (encI .i64)) (l := x1) (fl := true) (n := x0) (s := 1)), .b (tbE h4), .c (order_Sort_o_t0 x0 x1 (tbE h5)), .m 27 (o_idx_so (m := [(Blk.flat 3 1 (List.map (encI .i64) (order_Sort_o_L2_r0_3 (order_Sort_o_e2 x1) (((order_Sort_o_e2 x1) : Nat) : Int) (order_Sort_o_S3_e0 (order_Sort_o_e0 x1) (order_Sort_o_e2 x1)))) true)]) (b := false) (id := 0) (n := (order_Sort_o_e2 x1)) (s := 1) (k := .i64) (by kernel_rfl) (tbE h6)), .m 28 (o_load_L (m := [(Blk.flat 3 1 (List.map (encI .i64) (order_Sort_o_L2_r0_3 (order_Sort_o_e2 x1) (((order_Sort_o_e2 x1) : Nat) : Int) (order_Sort_o_S3_e0 (order_Sort_o_e0 x1) (order_Sort_o_e2 x1)))) true)]) (enc := (encI .i64)) (l := (order_Sort_o_L2_r0_3 (order_Sort_o_e2 x1) (((order_Sort_o_e2 x1) : Nat) : Int) (order_Sort_o_S3_e0 (order_Sort_o_e0 x1) (order_Sort_o_e2 x1)))) (id := 0) (e := 3) (s := 1) (off := 0) (size := 1) (p := true) (agg := false) (i := (quoI .i64 (wi ((((order_Sort_o_e2 x1) : Nat) : Int) - 1)) 2)) (v := (V.d (.int .i64 (order_Mid_o_e0 x1)))) (n := (order_Sort_o_e2 x1)) (tbE h7) (by kernel_rfl) (tbE h6) (by kernel_rfl)), .m 32 (o_idx_so (m := [(Blk.flat 3 1 (List.map (encI .i64) (order_Sort_o_L2_r0_3 (order_Sort_o_e2 x1) (((order_Sort_o_e2 x1) : Nat) : Int) (order_Sort_o_S3_e0 (order_Sort_o_e0 x1) (order_Sort_o_e2 x1)))) true)]) (b := false) (id := 0) (n := (order_Sort_o_e2 x1)) (s := 1) (k := .i64) (by kernel_rfl) (tbE h8)), .m 33 (o_load_L (m := [(Blk.flat 3 1 (List.map (encI .i64) (order_Sort_o_L2_r0_3 (order_Sort_o_e2 x1) (((order_Sort_o_e2 x1) : Nat) : Int) (order_Sort_o_S3_e0 (order_Sort_o_e0 x1) (order_Sort_o_e2 x1)))) true)]) (enc := (encI .i64)) (l := (order_Sort_o_L2_r0_3 (order_Sort_o_e2 x1) (((order_Sort_o_e2 x1) : Nat) : Int) (order_Sort_o_S3_e0 (order_Sort_o_e0 x1) (order_Sort_o_e2 x1)))) (id := 0) (e := 3) (s := 1) (off := 0) (size := 1) (p := true) (agg := false) (i := (quoI .i64 (((order_Sort_o_e2 x1) : Nat) : Int) 2)) (v := (V.d (.int .i64 (order_Mid_o_e1 x1)))) (n := (order_Sort_o_e2 x1)) (tbE h7) (by kernel_rfl) (tbE h8) (by kernel_rfl)), .o 35 (fun _ => o_shr (k := .i64) (k2 := .u64) (x := (wi ((order_Mid_o_e0 x1) + (order_Mid_o_e1 x1)))) (y := 1) rfl)] (by kernel_rfl)
        · intro g0
          exact w15 [.c (order_right_o_t0 x0 x1 (tbE h1)), .b (notT (tbE h2)), .o 11 (fun _ => o_len_os (enc := (encI .i64)) (l := x1) (fl := true) (n := x0) (s := 1)), .b (tbE h3), .o 16 (fun _ => o_len_os (enc := (encI .i64)) (l := x1) (fl := true) (n := x0) (s := 1)), .b (tbE h4)] (by kernel_rfl)
      · intro g0
        exact w15 [.c (order_right_o_t0 x0 x1 (tbE h1)), .b (notT (tbE h2)), .o 11 (fun _ => o_len_os (enc := (encI .i64)) (l := x1) (fl := true) (n := x0) (s := 1)), .b (tbE h3)] (by kernel_rfl)

def order_Without_oi_c0 (x0 : Bool) (x1 : List Int) (x2 : Int) : Bool := (bif tb (order_right_o_c0 x1) then (bif tb (order_right_o_r0_0 x1) then (bif tb (slices_Clone_int_o_c0 x0 x1) then (bif tb (decide (x2 < 0)) then true else (bif tb (decide (((x1.length : Nat) : Int) ≤ x2)) then true else false)) else false) else true) else false)

def order_Without_oi_r0_0 (x0 : Bool) (x1 : List Int) : Bool := (bif tb (order_right_o_r0_0 x1) then (slices_Clone_int_o_r0_0 x0 x1) else true)

def order_Without_oi_r0_1 (x0 : Bool) (x1 : List Int) : List Int := (bif tb (order_right_o_r0_0 x1) then (slices_Clone_int_o_r0_1 x0 x1) else ([] : List Int))

def order_Without_oi_c1 (x0 : Bool) (x1 : List Int) (x2 : Int) : Bool := (bif tb (order_right_o_c0 x1) then (bif tb (order_right_o_r0_0 x1) then (bif tb (slices_Clone_int_o_c0 x0 x1) then (bif tb (decide (x2 < 0)) then false else (bif tb (decide (((x1.length : Nat) : Int) ≤ x2)) then false else (bif tb (slices_Clone_int_o_r0_0 x0 x1) then false else (bif tb (delB ((slices_Clone_int_o_r0_1 x0 x1).length) x2 (wi (x2 + 1))) then true else false)))) else false) else false) else false)

theorem order_Without_oi_t0 (x0 : Bool) (x1 : List Int) (x2 : Int) : order_Without_oi_c0 x0 x1 x2 = true → cl E0 20 [(V.d (slD (encI .i64) true 1 x0 x1)), (V.d (.int .i64 x2))] [] = some ([(V.so (order_Without_oi_r0_0 x0 x1) 0 ((order_Without_oi_r0_1 x0 x1).length))], [(Blk.flat 3 1 (List.map (encI .i64) (order_Without_oi_r0_1 x0 x1)) false)]) := by
  unfold order_Without_oi_c0 order_Without_oi_r0_0 order_Without_oi_r0_1
  cases h1 : tb (order_right_o_c0 x1)
  · intro g0
    exact absurd g0 ft
  · cases h2 : tb (order_right_o_r0_0 x1)
    · intro g0
      exact w20 [.c (order_right_o_t0 x0 x1 (tbE h1)), .b (notF (tbE h2))] (by kernel_rfl)
    · cases h3 : tb (slices_Clone_int_o_c0 x0 x1)
      · intro g0
        exact absurd g0 ft
      · cases h4 : tb (decide (x2 < 0))
        · cases h5 : tb (decide (((x1.length : Nat) : Int) ≤ x2))
          · cases h6 : tb (slices_Clone_int_o_r0_0 x0 x1)
            · cases h7 : tb (delB ((slices_Clone_int_o_r0_1 x0 x1).length) x2 (wi (x2 + 1)))
              · intro g0
                exact absurd g0 ft
              · intro g0
                exact absurd g0 ft
            · intro g0
              exact absurd g0 ft
          · intro g0
            exact w20 [.c (order_right_o_t0 x0 x1 (tbE h1)), .b (notT (tbE h2)), .c (slices_Clone_int_o_t0 x0 x1 (tbE h3)), .b (tbE h4), .o 16 (fun _ => o_len_os (enc := (encI .i64)) (l := x1) (fl := true) (n := x0) (s := 1)), .b (tbE h5)] (by kernel_rfl)
        · intro g0
          exact w20 [.c (order_right_o_t0 x0 x1 (tbE h1)), .b (notT (tbE h2)), .c (slices_Clone_int_o_t0 x0 x1 (tbE h3)), .b (tbE h4)] (by kernel_rfl)

theorem order_Without_oi_t1 (x0 : Bool) (x1 : List Int) (x2 : Int) : order_Without_oi_c0 x0 x1 x2 = false → order_Without_oi_c1 x0 x1 x2 = true → cl E0 20 [(V.d (slD (encI .i64) true 1 x0 x1)), (V.d (.int .i64 x2))] [] = some ([(V.sl 0 ((dlL (slices_Clone_int_o_r0_1 x0 x1) x2 (wi (x2 + 1))).length) 0 (((dlL (slices_Clone_int_o_r0_1 x0 x1) x2 (wi (x2 + 1))).length) - ((wi (x2 + 1)).toNat - x2.toNat)))], [(Blk.flat 3 1 (List.map (encI .i64) (dlL (slices_Clone_int_o_r0_1 x0 x1) x2 (wi (x2 + 1)))) false)]) := by
  unfold order_Without_oi_c0 order_Without_oi_c1
  cases h1 : tb (order_right_o_c0 x1)
  · intro g0 g1
    exact absurd g1 ft
  · cases h2 : tb (order_right_o_r0_0 x1)
    · intro g0 g1
      exact absurd g0 tf
    · cases h3 : tb (slices_Clone_int_o_c0 x0 x1)
      · intro g0 g1
        exact absurd g1 ft
      · cases h4 : tb (decide (x2 < 0))
        · cases h5 : tb (decide (((x1.length : Nat) : Int) ≤ x2))
          · cases h6 : tb (slices_Clone_int_o_r0_0 x0 x1)
            · cases h7 : tb (delB ((slices_Clone_int_o_r0_1 x0 x1).length) x2 (wi (x2 + 1)))
              · intro g0 g1
                exact absurd g1 ft
              · intro g0 g1
                exact w20 [.c (order_right_o_t0 x0 x1 (tbE h1)), .b (notT (tbE h2)), .c (slices_Clone_int_o_t0 x0 x1 (tbE h3)), .b (tbE h4), .o 16 (fun _ => o_len_os (enc := (encI .i64)) (l := x1) (fl := true) (n := x0) (s := 1)), .b (tbE h5), .m 24 (o_del' (nl := (slices_Clone_int_o_r0_0 x0 x1)) (notF (tbE h6)) (m := [(Blk.flat 3 1 [] false), (Blk.flat 3 1 (List.map (encI .i64) (slices_Clone_int_o_r0_1 x0 x1)) false)]) (f := 66) (l := (slices_Clone_int_o_r0_1 x0 x1)) (id := 1) (e := 3) (n := ((slices_Clone_int_o_r0_1 x0 x1).length)) (a := x2) (b := (wi (x2 + 1))) (by kernel_rfl) (Nat.beq_refl _) (by kernel_rfl) (tbE h7))] (by kernel_rfl)
            · intro g0 g1
              exact absurd g1 ft
          · intro g0 g1
            exact absurd g0 tf
        · intro g0 g1
          exact absurd g0 tf

def order_Spread_o_e0 (x1 : List Int) : Int := wi (((slices_Max_int_o_e0 x1).c2) - ((slices_Min_int_o_e0 x1).c2))

def order_Spread_o_c0 (x1 : List Int) : Bool := (bif tb (order_right_o_c0 x1) then (bif tb (order_right_o_r0_0 x1) then (bif tb ((((x1.length : Nat) : Int) : Int) == 0) then true else (bif tb (slices_Max_int_o_c0 x1) then (bif tb (slices_Min_int_o_c0 x1) then true else false) else false)) else true) else false)

def order_Spread_o_r0_0 (x1 : List Int) : Int := (bif tb (order_right_o_r0_0 x1) then (bif tb ((((x1.length : Nat) : Int) : Int) == 0) then 0 else (order_Spread_o_e0 x1)) else 0)

theorem order_Spread_o_t0 (x0 : Bool) (x1 : List Int) : order_Spread_o_c0 x1 = true → cl E0 22 [(V.d (slD (encI .i64) true 1 x0 x1))] [] = some ([(V.d (.int .i64 (order_Spread_o_r0_0 x1)))], []) := by
  unfold order_Spread_o_c0 order_Spread_o_r0_0
  cases h1 : tb (order_right_o_c0 x1)
  · intro g0
    exact absurd g0 ft
  · cases h2 : tb (order_right_o_r0_0 x1)
    · intro g0
      exact w22 [.c (order_right_o_t0 x0 x1 (tbE h1)), .b (notF (tbE h2))] (by kernel_rfl)
    · cases h3 : tb ((((x1.length : Nat) : Int) : Int) == 0)
      · cases h4 : tb (slices_Max_int_o_c0 x1)
        · intro g0
          exact absurd g0 ft
        · cases h5 : tb (slices_Min_int_o_c0 x1)
          · intro g0
            exact absurd g0 ft
          · intro g0
            exact w22 [.c (order_right_o_t0 x0 x1 (tbE h1)), .b (notT (tbE h2)), .o 8 (fun _ => o_len_os (enc := (encI .i64)) (l := x1) (fl := true) (n := x0) (s := 1)), .b (tbE h3), .c (slices_Max_int_o_t0 x0 x1 (tbE h4)), .c (slices_Min_int_o_t0 x0 x1 (tbE h5))] (by kernel_rfl)
      · intro g0
        exact w22 [.c (order_right_o_t0 x0 x1 (tbE h1)), .b (notT (tbE h2)), .o 8 (fun _ => o_len_os (enc := (encI .i64)) (l := x1) (fl := true) (n := x0) (s := 1)), .b (tbE h3)] (by kernel_rfl)

end Go.Proofs.Ytdlhhoejnhjbhaa.Den

namespace Go.Proofs.Ytdlhhoejnhjbhaa.Den
open Go Go.Proofs
set_option maxRecDepth 100000
set_option maxHeartbeats 4000000
set_option linter.unusedVariables false
set_option linter.unusedSimpArgs false

def ref01_Small_i_r0_0 (x0 : Int) : Bool := (bif tb (decide ((-1099511627776) ≤ x0)) then (decide (x0 ≤ 1099511627776)) else false)

theorem ref01_Small_i_t0 (x0 : Int) : cl E0 70 [(V.d (.int .i64 x0))] [] = some ([(V.d (.bool (ref01_Small_i_r0_0 x0)))], []) := by
  unfold ref01_Small_i_r0_0
  cases h1 : tb (decide ((-1099511627776) ≤ x0))
  · exact w70 [.b (tbE h1)] (by kernel_rfl)
  · exact w70 [.b (tbE h1)] (by kernel_rfl)

structure ref01_All_o_L0_s0 where
  c2 : Int
  deriving Inhabited

def ref01_All_o_L0_enc (x0 : Bool) (x1 : List Int) (x2 : Int) (s0 : ref01_All_o_L0_s0) : List V × Mem := ([(V.d (slD (encI .i64) true 1 x0 x1)), (V.d (.int .i64 s0.c2))], [])

def ref01_All_o_L0_sel (x1 : List Int) (s0 : ref01_All_o_L0_s0) : Bool := (bif tb (decide (s0.c2 < ((x1.length : Nat) : Int))) then (bif tb (inb x1.length s0.c2) then (bif tb (ref01_Small_i_r0_0 (gt x1 s0.c2)) then true else false) else false) else false)

def ref01_All_o_L0_nx (x1 : List Int) (s0 : ref01_All_o_L0_s0) : ref01_All_o_L0_s0 := ⟨(wi (s0.c2 + 1))⟩

def ref01_All_o_L0_ok (x1 : List Int) (s0 : ref01_All_o_L0_s0) : Bool := (itS (ref01_All_o_L0_sel x1) (ref01_All_o_L0_nx x1) bound s0).isSome
def ref01_All_o_L0_end (x1 : List Int) (s0 : ref01_All_o_L0_s0) : ref01_All_o_L0_s0 := (itS (ref01_All_o_L0_sel x1) (ref01_All_o_L0_nx x1) bound s0).getD default

theorem ref01_All_o_L0_go (x0 : Bool) (x1 : List Int) (x2 : Int) (s0 : ref01_All_o_L0_s0) : ref01_All_o_L0_sel x1 s0 = true → (roundG (runC E0 (cl E0) L42_0) [0, 3] [2] 0) (ref01_All_o_L0_enc x0 x1 x2 s0) = some (.normal, ref01_All_o_L0_enc x0 x1 x2 (ref01_All_o_L0_nx x1 s0)) := by
  unfold ref01_All_o_L0_sel ref01_All_o_L0_nx
  cases h1 : tb (decide (s0.c2 < ((x1.length : Nat) : Int)))
  · intro g0
    exact absurd g0 ft
  · cases h2 : tb (inb x1.length s0.c2)
    · intro g0
      exact absurd g0 ft
    · cases h3 : tb (ref01_Small_i_r0_0 (gt x1 s0.c2))
      · intro g0
        exact absurd g0 ft
      · intro _
        exact round_walk [.o 7 (fun _ => o_len_os (enc := (encI .i64)) (l := x1) (fl := true) (n := x0) (s := 1)), .b (tbE h1), .o 13 (fun _ => o_idx_os (enc := (encI .i64)) (l := x1) (fl := true) (n := x0) (s := 1) (k := .i64) (tbE h2)), .c (ref01_Small_i_t0 (gt x1 s0.c2)), .b (notT (tbE h3))] (by kernel_rfl)

def ref01_All_o_L0_c0 (x1 : List Int) (s0 : ref01_All_o_L0_s0) : Bool := (bif tb (decide (s0.c2 < ((x1.length : Nat) : Int))) then (bif tb (inb x1.length s0.c2) then true else false) else false)

def ref01_All_o_L0_c1 (x1 : List Int) (s0 : ref01_All_o_L0_s0) : Bool := (bif tb (decide (s0.c2 < ((x1.length : Nat) : Int))) then false else true)

theorem ref01_All_o_L0_x0 (x0 : Bool) (x1 : List Int) (x2 : Int) (s0 : ref01_All_o_L0_s0) : ref01_All_o_L0_sel x1 s0 = false → ref01_All_o_L0_c0 x1 s0 = true → (roundG (runC E0 (cl E0) L42_0) [0, 3] [2] 0) (ref01_All_o_L0_enc x0 x1 x2 s0) = some (.ret, ([(V.d (.bool false))], [])) := by
  unfold ref01_All_o_L0_sel ref01_All_o_L0_c0
  cases h1 : tb (decide (s0.c2 < ((x1.length : Nat) : Int)))
  · intro g0 g1
    exact absurd g1 ft
  · cases h2 : tb (inb x1.length s0.c2)
    · intro g0 g1
      exact absurd g1 ft
    · cases h3 : tb (ref01_Small_i_r0_0 (gt x1 s0.c2))
      · intro g0 g1
        exact round_walk [.o 7 (fun _ => o_len_os (enc := (encI .i64)) (l := x1) (fl := true) (n := x0) (s := 1)), .b (tbE h1), .o 13 (fun _ => o_idx_os (enc := (encI .i64)) (l := x1) (fl := true) (n := x0) (s := 1) (k := .i64) (tbE h2)), .c (ref01_Small_i_t0 (gt x1 s0.c2)), .b (notF (tbE h3))] (by kernel_rfl)
      · intro g0 g1
        exact absurd g0 tf

theorem ref01_All_o_L0_x1 (x0 : Bool) (x1 : List Int) (x2 : Int) (s0 : ref01_All_o_L0_s0) : ref01_All_o_L0_sel x1 s0 = false → ref01_All_o_L0_c0 x1 s0 = false → ref01_All_o_L0_c1 x1 s0 = true → (roundG (runC E0 (cl E0) L42_0) [0, 3] [2] 0) (ref01_All_o_L0_enc x0 x1 x2 s0) = some ((.exit 0), ([V.un], [])) := by
  unfold ref01_All_o_L0_sel ref01_All_o_L0_c0 ref01_All_o_L0_c1
  cases h1 : tb (decide (s0.c2 < ((x1.length : Nat) : Int)))
  · intro g0 g1 g2
    exact round_walk [.o 7 (fun _ => o_len_os (enc := (encI .i64)) (l := x1) (fl := true) (n := x0) (s := 1)), .b (tbE h1)] (by kernel_rfl)
  · cases h2 : tb (inb x1.length s0.c2)
    · intro g0 g1 g2
      exact absurd g2 ft
    · cases h3 : tb (ref01_Small_i_r0_0 (gt x1 s0.c2))
      · intro g0 g1 g2
        exact absurd g1 tf
      · intro g0 g1 g2
        exact absurd g0 tf

theorem ref01_All_o_L0_f0_0 (x0 : Bool) (x1 : List Int) (x2 : Int) (s : ref01_All_o_L0_s0) (hok : ref01_All_o_L0_ok x1 s = true) (c0 : ref01_All_o_L0_c0 x1 (ref01_All_o_L0_end x1 s) = true) : loopG (roundG (runC E0 (cl E0) L42_0) [0, 3] [2] 0) bound (ref01_All_o_L0_enc x0 x1 x2 s) = some (.ret, ([(V.d (.bool false))], [])) := by
  have e : itS (ref01_All_o_L0_sel x1) (ref01_All_o_L0_nx x1) bound s = some (ref01_All_o_L0_end x1 s) := itS_get hok
  have f := itS_false e
  exact loop_it (ref01_All_o_L0_go x0 x1 x2) bound s _ _ _ e (fun h => by cases h) (ref01_All_o_L0_x0 x0 x1 x2 (ref01_All_o_L0_end x1 s) f c0)

theorem ref01_All_o_L0_f0_1 (x0 : Bool) (x1 : List Int) (x2 : Int) (s : ref01_All_o_L0_s0) (hok : ref01_All_o_L0_ok x1 s = true) (c0 : ref01_All_o_L0_c0 x1 (ref01_All_o_L0_end x1 s) = false) (c1 : ref01_All_o_L0_c1 x1 (ref01_All_o_L0_end x1 s) = true) : loopG (roundG (runC E0 (cl E0) L42_0) [0, 3] [2] 0) bound (ref01_All_o_L0_enc x0 x1 x2 s) = some ((.exit 0), ([V.un], [])) := by
  have e : itS (ref01_All_o_L0_sel x1) (ref01_All_o_L0_nx x1) bound s = some (ref01_All_o_L0_end x1 s) := itS_get hok
  have f := itS_false e
  exact loop_it (ref01_All_o_L0_go x0 x1 x2) bound s _ _ _ e (fun h => by cases h) (ref01_All_o_L0_x1 x0 x1 x2 (ref01_All_o_L0_end x1 s) f c0 c1)

def ref01_All_o_c0 (x1 : List Int) : Bool := (bif tb (ref01_All_o_L0_ok x1 (⟨0⟩ : ref01_All_o_L0_s0)) then (bif tb (ref01_All_o_L0_c0 x1 (ref01_All_o_L0_end x1 (⟨0⟩ : ref01_All_o_L0_s0))) then true else (bif tb (ref01_All_o_L0_c1 x1 (ref01_All_o_L0_end x1 (⟨0⟩ : ref01_All_o_L0_s0))) then true else false)) else false)

def ref01_All_o_r0_0 (x1 : List Int) : Bool := (bif tb (ref01_All_o_L0_c0 x1 (ref01_All_o_L0_end x1 (⟨0⟩ : ref01_All_o_L0_s0))) then false else true)

theorem ref01_All_o_t0 (x0 : Bool) (x1 : List Int) : ref01_All_o_c0 x1 = true → cl E0 42 [(V.d (slD (encI .i64) true 1 x0 x1))] [] = some ([(V.d (.bool (ref01_All_o_r0_0 x1)))], []) := by
  unfold ref01_All_o_c0 ref01_All_o_r0_0
  cases h1 : tb (ref01_All_o_L0_ok x1 (⟨0⟩ : ref01_All_o_L0_s0))
  · intro g0
    exact absurd g0 ft
  · cases h2 : tb (ref01_All_o_L0_c0 x1 (ref01_All_o_L0_end x1 (⟨0⟩ : ref01_All_o_L0_s0)))
    · cases h3 : tb (ref01_All_o_L0_c1 x1 (ref01_All_o_L0_end x1 (⟨0⟩ : ref01_All_o_L0_s0)))
      · intro g0
        exact absurd g0 ft
      · intro g0
        exact w42 [.l (ref01_All_o_L0_f0_1 x0 x1 0 (⟨0⟩ : ref01_All_o_L0_s0) (tbE h1) (tbE h2) (tbE h3))] (by kernel_rfl)
    · intro g0
      exact w42 [.l (ref01_All_o_L0_f0_0 x0 x1 0 (⟨0⟩ : ref01_All_o_L0_s0) (tbE h1) (tbE h2))] (by kernel_rfl)

def ref01_Clamp_iii_c0 (x0 : Int) (x1 : Int) (x2 : Int) : Bool := (bif tb (ref01_All_o_c0 [x0, x1, x2]) then true else false)

def ref01_Clamp_iii_r0_0 (x0 : Int) (x1 : Int) (x2 : Int) : Int := (bif tb (ref01_All_o_r0_0 [x0, x1, x2]) then (bif tb (decide (x2 < x1)) then x1 else (bif tb (decide (x0 < x1)) then x1 else (bif tb (decide (x2 < x0)) then x2 else x0))) else 0)

theorem ref01_Clamp_iii_t0 (x0 : Int) (x1 : Int) (x2 : Int) : ref01_Clamp_iii_c0 x0 x1 x2 = true → cl E0 26 [(V.d (.int .i64 x0)), (V.d (.int .i64 x1)), (V.d (.int .i64 x2))] [] = some ([(V.d (.int .i64 (ref01_Clamp_iii_r0_0 x0 x1 x2)))], []) := by
  unfold ref01_Clamp_iii_c0 ref01_Clamp_iii_r0_0
  cases h1 : tb (ref01_All_o_c0 [x0, x1, x2])
  · intro g0
    exact absurd g0 ft
  · cases h2 : tb (ref01_All_o_r0_0 [x0, x1, x2])
    · intro g0
      exact w26 [.c (ref01_All_o_t0 false [x0, x1, x2] (tbE h1)), .b (notF (tbE h2))] (by kernel_rfl)
    · cases h3 : tb (decide (x2 < x1))
      · cases h4 : tb (decide (x0 < x1))
        · cases h5 : tb (decide (x2 < x0))
          · intro g0
            exact w26 [.c (ref01_All_o_t0 false [x0, x1, x2] (tbE h1)), .b (notT (tbE h2)), .b (tbE h3), .b (tbE h4), .b (tbE h5)] (by kernel_rfl)
          · intro g0
            exact w26 [.c (ref01_All_o_t0 false [x0, x1, x2] (tbE h1)), .b (notT (tbE h2)), .b (tbE h3), .b (tbE h4), .b (tbE h5)] (by kernel_rfl)
        · intro g0
          exact w26 [.c (ref01_All_o_t0 false [x0, x1, x2] (tbE h1)), .b (notT (tbE h2)), .b (tbE h3), .b (tbE h4)] (by kernel_rfl)
      · intro g0
        exact w26 [.c (ref01_All_o_t0 false [x0, x1, x2] (tbE h1)), .b (notT (tbE h2)), .b (tbE h3)] (by kernel_rfl)

def ref01_Near_iii_c0 (x0 : Int) (x1 : Int) (x2 : Int) : Bool := (bif tb (ref01_All_o_c0 [x0, x1, x2]) then true else false)

def ref01_Near_iii_r0_0 (x0 : Int) (x1 : Int) (x2 : Int) : Int := (bif tb (ref01_All_o_r0_0 [x0, x1, x2]) then (bif tb (decide (x2 < 0)) then x0 else (bif tb (decide ((wi (x0 + x2)) < x1)) then (wi (x0 + x2)) else (bif tb (decide (x1 < (wi (x0 - x2)))) then (wi (x0 - x2)) else x1))) else 0)

theorem ref01_Near_iii_t0 (x0 : Int) (x1 : Int) (x2 : Int) : ref01_Near_iii_c0 x0 x1 x2 = true → cl E0 28 [(V.d (.int .i64 x0)), (V.d (.int .i64 x1)), (V.d (.int .i64 x2))] [] = some ([(V.d (.int .i64 (ref01_Near_iii_r0_0 x0 x1 x2)))], []) := by
  unfold ref01_Near_iii_c0 ref01_Near_iii_r0_0
  cases h1 : tb (ref01_All_o_c0 [x0, x1, x2])
  · intro g0
    exact absurd g0 ft
  · cases h2 : tb (ref01_All_o_r0_0 [x0, x1, x2])
    · intro g0
      exact w28 [.c (ref01_All_o_t0 false [x0, x1, x2] (tbE h1)), .b (notF (tbE h2))] (by kernel_rfl)
    · cases h3 : tb (decide (x2 < 0))
      · cases h4 : tb (decide ((wi (x0 + x2)) < x1))
        · cases h5 : tb (decide (x1 < (wi (x0 - x2))))
          · intro g0
            exact w28 [.c (ref01_All_o_t0 false [x0, x1, x2] (tbE h1)), .b (notT (tbE h2)), .b (tbE h3), .b (tbE h4), .b (tbE h5)] (by kernel_rfl)
          · intro g0
            exact w28 [.c (ref01_All_o_t0 false [x0, x1, x2] (tbE h1)), .b (notT (tbE h2)), .b (tbE h3), .b (tbE h4), .b (tbE h5)] (by kernel_rfl)
        · intro g0
          exact w28 [.c (ref01_All_o_t0 false [x0, x1, x2] (tbE h1)), .b (notT (tbE h2)), .b (tbE h3), .b (tbE h4)] (by kernel_rfl)
      · intro g0
        exact w28 [.c (ref01_All_o_t0 false [x0, x1, x2] (tbE h1)), .b (notT (tbE h2)), .b (tbE h3)] (by kernel_rfl)

def ref01_Floor_ii_c0 (x0 : Int) (x1 : Int) : Bool := (bif tb (ref01_All_o_c0 [x0, x1]) then (bif tb (ref01_All_o_r0_0 [x0, x1]) then (bif tb (decide (x1 < 1)) then true else (bif tb ((x1 : Int) == 0) then false else true)) else true) else false)

def ref01_Floor_ii_r0_0 (x0 : Int) (x1 : Int) : Int := (bif tb (ref01_All_o_r0_0 [x0, x1]) then (bif tb (decide (x1 < 1)) then 0 else (bif tb (decide (0 ≤ x0)) then (quoI .i64 x0 x1) else (wi (0 - (quoI .i64 (wi ((wi (x1 - 1)) - x0)) x1))))) else 0)

theorem ref01_Floor_ii_t0 (x0 : Int) (x1 : Int) : ref01_Floor_ii_c0 x0 x1 = true → cl E0 30 [(V.d (.int .i64 x0)), (V.d (.int .i64 x1))] [] = some ([(V.d (.int .i64 (ref01_Floor_ii_r0_0 x0 x1)))], []) := by
  unfold ref01_Floor_ii_c0 ref01_Floor_ii_r0_0
  cases h1 : tb (ref01_All_o_c0 [x0, x1])
  · intro g0
    exact absurd g0 ft
  · cases h2 : tb (ref01_All_o_r0_0 [x0, x1])
    · intro g0
      exact w30 [.c (ref01_All_o_t0 false [x0, x1] (tbE h1)), .b (notF (tbE h2))] (by kernel_rfl)
    · cases h3 : tb (decide (x1 < 1))
      · cases h4 : tb (decide (0 ≤ x0))
        · cases h5 : tb ((x1 : Int) == 0)
          · intro g0
            exact w30 [.c (ref01_All_o_t0 false [x0, x1] (tbE h1)), .b (notT (tbE h2)), .b (tbE h3), .b (tbE h4), .o 26 (fun _ => o_quo (k := .i64) (x := (wi ((wi (x1 - 1)) - x0))) (y := x1) (tbE h5))] (by kernel_rfl)
          · intro g0
            exact absurd g0 ft
        · cases h5 : tb ((x1 : Int) == 0)
          · intro g0
            exact w30 [.c (ref01_All_o_t0 false [x0, x1] (tbE h1)), .b (notT (tbE h2)), .b (tbE h3), .b (tbE h4), .o 20 (fun _ => o_quo (k := .i64) (x := x0) (y := x1) (tbE h5))] (by kernel_rfl)
          · intro g0
            exact absurd g0 ft
      · intro g0
        exact w30 [.c (ref01_All_o_t0 false [x0, x1] (tbE h1)), .b (notT (tbE h2)), .b (tbE h3)] (by kernel_rfl)

structure ref01_Shift_ii_L0_s0 where
  c2 : Int
  c3 : Int
  deriving Inhabited

def ref01_Shift_ii_L0_enc (x0 : Int) (x1 : Int) (x2 : Int) (x3 : Int) (s0 : ref01_Shift_ii_L0_s0) : List V × Mem := ([(V.d (.int .i64 x0)), (V.d (.int .i64 x1)), (V.d (.int .i64 s0.c2)), (V.d (.int .i64 s0.c3))], [])

def ref01_Shift_ii_L0_sel (x1 : Int) (s0 : ref01_Shift_ii_L0_s0) : Bool := (bif tb (decide (s0.c3 < x1)) then true else false)

def ref01_Shift_ii_L0_nx (x1 : Int) (s0 : ref01_Shift_ii_L0_s0) : ref01_Shift_ii_L0_s0 := ⟨(wi (2 * s0.c2)), (wi (s0.c3 + 1))⟩

def ref01_Shift_ii_L0_ok (x1 : Int) (s0 : ref01_Shift_ii_L0_s0) : Bool := (itS (ref01_Shift_ii_L0_sel x1) (ref01_Shift_ii_L0_nx x1) bound s0).isSome
def ref01_Shift_ii_L0_end (x1 : Int) (s0 : ref01_Shift_ii_L0_s0) : ref01_Shift_ii_L0_s0 := (itS (ref01_Shift_ii_L0_sel x1) (ref01_Shift_ii_L0_nx x1) bound s0).getD default

theorem ref01_Shift_ii_L0_go (x0 : Int) (x1 : Int) (x2 : Int) (x3 : Int) (s0 : ref01_Shift_ii_L0_s0) : ref01_Shift_ii_L0_sel x1 s0 = true → (roundG (runC E0 (cl E0) L32_0) [0, 1, 6, 7] [0, 6] 0) (ref01_Shift_ii_L0_enc x0 x1 x2 x3 s0) = some (.normal, ref01_Shift_ii_L0_enc x0 x1 x2 x3 (ref01_Shift_ii_L0_nx x1 s0)) := by
  unfold ref01_Shift_ii_L0_sel ref01_Shift_ii_L0_nx
  cases h1 : tb (decide (s0.c3 < x1))
  · intro g0
    exact absurd g0 ft
  · intro _
    exact round_walk [.b (tbE h1)] (by kernel_rfl)

theorem ref01_Shift_ii_L0_x0 (x0 : Int) (x1 : Int) (x2 : Int) (x3 : Int) (s0 : ref01_Shift_ii_L0_s0) : ref01_Shift_ii_L0_sel x1 s0 = false → (roundG (runC E0 (cl E0) L32_0) [0, 1, 6, 7] [0, 6] 0) (ref01_Shift_ii_L0_enc x0 x1 x2 x3 s0) = some ((.exit 0), ([(V.d (.int .i64 x0)), (V.d (.int .i64 s0.c2))], [])) := by
  unfold ref01_Shift_ii_L0_sel
  cases h1 : tb (decide (s0.c3 < x1))
  · intro g0
    exact round_walk [.b (tbE h1)] (by kernel_rfl)
  · intro g0
    exact absurd g0 tf

theorem ref01_Shift_ii_L0_f0_0 (x0 : Int) (x1 : Int) (x2 : Int) (x3 : Int) (s : ref01_Shift_ii_L0_s0) (hok : ref01_Shift_ii_L0_ok x1 s = true) : loopG (roundG (runC E0 (cl E0) L32_0) [0, 1, 6, 7] [0, 6] 0) bound (ref01_Shift_ii_L0_enc x0 x1 x2 x3 s) = some ((.exit 0), ([(V.d (.int .i64 x0)), (V.d (.int .i64 ((ref01_Shift_ii_L0_end x1 s).c2)))], [])) := by
  have e : itS (ref01_Shift_ii_L0_sel x1) (ref01_Shift_ii_L0_nx x1) bound s = some (ref01_Shift_ii_L0_end x1 s) := itS_get hok
  have f := itS_false e
  exact loop_it (ref01_Shift_ii_L0_go x0 x1 x2 x3) bound s _ _ _ e (fun h => by cases h) (ref01_Shift_ii_L0_x0 x0 x1 x2 x3 (ref01_Shift_ii_L0_end x1 s) f )

def ref01_Shift_ii_e0 (x1 : Int) : Int := ((ref01_Shift_ii_L0_end x1 (⟨1, 0⟩ : ref01_Shift_ii_L0_s0)).c2)

def ref01_Shift_ii_c0 (x0 : Int) (x1 : Int) : Bool := (bif tb (ref01_Small_i_r0_0 x0) then (bif tb (decide (x1 < 0)) then true else (bif tb (decide (40 < x1)) then true else (bif tb (ref01_Shift_ii_L0_ok x1 (⟨1, 0⟩ : ref01_Shift_ii_L0_s0)) then (bif tb (ref01_Floor_ii_c0 x0 (ref01_Shift_ii_e0 x1)) then true else false) else false))) else true)

def ref01_Shift_ii_r0_0 (x0 : Int) (x1 : Int) : Int := (bif tb (ref01_Small_i_r0_0 x0) then (bif tb (decide (x1 < 0)) then 0 else (bif tb (decide (40 < x1)) then 0 else (ref01_Floor_ii_r0_0 x0 (ref01_Shift_ii_e0 x1)))) else 0)

theorem ref01_Shift_ii_t0 (x0 : Int) (x1 : Int) : ref01_Shift_ii_c0 x0 x1 = true → cl E0 32 [(V.d (.int .i64 x0)), (V.d (.int .i64 x1))] [] = some ([(V.d (.int .i64 (ref01_Shift_ii_r0_0 x0 x1)))], []) := by
  unfold ref01_Shift_ii_c0 ref01_Shift_ii_r0_0
  cases h1 : tb (ref01_Small_i_r0_0 x0)
  · intro g0
    exact w32 [.c (ref01_Small_i_t0 x0), .b (notF (tbE h1))] (by kernel_rfl)
  · cases h2 : tb (decide (x1 < 0))
    · cases h3 : tb (decide (40 < x1))
      · cases h4 : tb (ref01_Shift_ii_L0_ok x1 (⟨1, 0⟩ : ref01_Shift_ii_L0_s0))
        · intro g0
          exact absurd g0 ft
        · cases h5 : tb (ref01_Floor_ii_c0 x0 (ref01_Shift_ii_e0 x1))
          · intro g0
            exact absurd g0 ft
          · intro g0
            exact w32 [.c (ref01_Small_i_t0 x0), .b (notT (tbE h1)), .b (tbE h2), .b (tbE h3), .l (ref01_Shift_ii_L0_f0_0 x0 x1 1 0 (⟨1, 0⟩ : ref01_Shift_ii_L0_s0) (tbE h4)), .c (ref01_Floor_ii_t0 x0 (ref01_Shift_ii_e0 x1) (tbE h5))] (by kernel_rfl)
      · intro g0
        exact w32 [.c (ref01_Small_i_t0 x0), .b (notT (tbE h1)), .b (tbE h2), .b (tbE h3)] (by kernel_rfl)
    · intro g0
      exact w32 [.c (ref01_Small_i_t0 x0), .b (notT (tbE h1)), .b (tbE h2)] (by kernel_rfl)

def ref01_Apart_ii_c0 (x0 : Int) (x1 : Int) : Bool := (bif tb (ref01_All_o_c0 [x0, x1]) then true else false)

def ref01_Apart_ii_r0_0 (x0 : Int) (x1 : Int) : Int := (bif tb (ref01_All_o_r0_0 [x0, x1]) then (bif tb (decide (x1 < x0)) then (wi (x0 - x1)) else (wi (x1 - x0))) else 0)

theorem ref01_Apart_ii_t0 (x0 : Int) (x1 : Int) : ref01_Apart_ii_c0 x0 x1 = true → cl E0 35 [(V.d (.int .i64 x0)), (V.d (.int .i64 x1))] [] = some ([(V.d (.int .i64 (ref01_Apart_ii_r0_0 x0 x1)))], []) := by
  unfold ref01_Apart_ii_c0 ref01_Apart_ii_r0_0
  cases h1 : tb (ref01_All_o_c0 [x0, x1])
  · intro g0
    exact absurd g0 ft
  · cases h2 : tb (ref01_All_o_r0_0 [x0, x1])
    · intro g0
      exact w35 [.c (ref01_All_o_t0 false [x0, x1] (tbE h1)), .b (notF (tbE h2))] (by kernel_rfl)
    · cases h3 : tb (decide (x1 < x0))
      · intro g0
        exact w35 [.c (ref01_All_o_t0 false [x0, x1] (tbE h1)), .b (notT (tbE h2)), .b (tbE h3)] (by kernel_rfl)
      · intro g0
        exact w35 [.c (ref01_All_o_t0 false [x0, x1] (tbE h1)), .b (notT (tbE h2)), .b (tbE h3)] (by kernel_rfl)

structure ref01_Bits_o_L0_s0 where
  c2 : Int
  c3 : Int
  c4 : Int
  deriving Inhabited

def ref01_Bits_o_L0_enc (x0 : Bool) (x1 : List Bool) (x2 : Int) (x3 : Int) (x4 : Int) (s0 : ref01_Bits_o_L0_s0) : List V × Mem := ([(V.d (slD encB true 1 x0 x1)), (V.d (.int .i64 s0.c2)), (V.d (.int .i64 s0.c3)), (V.d (.int .i64 s0.c4))], [])

def ref01_Bits_o_L0_sel (x1 : List Bool) (s0 : ref01_Bits_o_L0_s0) : Bool := (bif tb (decide (s0.c4 < ((x1.length : Nat) : Int))) then (bif tb (inb x1.length s0.c4) then true else false) else false)

def ref01_Bits_o_L0_nx (x1 : List Bool) (s0 : ref01_Bits_o_L0_s0) : ref01_Bits_o_L0_s0 := (bif tb (gt x1 s0.c4) then ⟨(wi (s0.c2 + s0.c3)), (wi (2 * s0.c3)), (wi (s0.c4 + 1))⟩ else ⟨s0.c2, (wi (2 * s0.c3)), (wi (s0.c4 + 1))⟩)

def ref01_Bits_o_L0_ok (x1 : List Bool) (s0 : ref01_Bits_o_L0_s0) : Bool := (itS (ref01_Bits_o_L0_sel x1) (ref01_Bits_o_L0_nx x1) bound s0).isSome
def ref01_Bits_o_L0_end (x1 : List Bool) (s0 : ref01_Bits_o_L0_s0) : ref01_Bits_o_L0_s0 := (itS (ref01_Bits_o_L0_sel x1) (ref01_Bits_o_L0_nx x1) bound s0).getD default

theorem ref01_Bits_o_L0_go (x0 : Bool) (x1 : List Bool) (x2 : Int) (x3 : Int) (x4 : Int) (s0 : ref01_Bits_o_L0_s0) : ref01_Bits_o_L0_sel x1 s0 = true → (roundG (runC E0 (cl E0) L37_0) [0, 3, 4, 5] [3] 0) (ref01_Bits_o_L0_enc x0 x1 x2 x3 x4 s0) = some (.normal, ref01_Bits_o_L0_enc x0 x1 x2 x3 x4 (ref01_Bits_o_L0_nx x1 s0)) := by
  unfold ref01_Bits_o_L0_sel ref01_Bits_o_L0_nx
  cases h1 : tb (decide (s0.c4 < ((x1.length : Nat) : Int)))
  · intro g0
    exact absurd g0 ft
  · cases h2 : tb (inb x1.length s0.c4)
    · intro g0
      exact absurd g0 ft
    · cases h3 : tb (gt x1 s0.c4)
      · intro _
        exact round_walk [.o 11 (fun _ => o_len_os (enc := encB) (l := x1) (fl := true) (n := x0) (s := 1)), .b (tbE h1), .o 17 (fun _ => o_idx_os (enc := encB) (l := x1) (fl := true) (n := x0) (s := 1) (k := .i64) (tbE h2)), .b (tbE h3)] (by kernel_rfl)
      · intro _
        exact round_walk [.o 11 (fun _ => o_len_os (enc := encB) (l := x1) (fl := true) (n := x0) (s := 1)), .b (tbE h1), .o 17 (fun _ => o_idx_os (enc := encB) (l := x1) (fl := true) (n := x0) (s := 1) (k := .i64) (tbE h2)), .b (tbE h3)] (by kernel_rfl)

def ref01_Bits_o_L0_c0 (x1 : List Bool) (s0 : ref01_Bits_o_L0_s0) : Bool := (bif tb (decide (s0.c4 < ((x1.length : Nat) : Int))) then false else true)

theorem ref01_Bits_o_L0_x0 (x0 : Bool) (x1 : List Bool) (x2 : Int) (x3 : Int) (x4 : Int) (s0 : ref01_Bits_o_L0_s0) : ref01_Bits_o_L0_sel x1 s0 = false → ref01_Bits_o_L0_c0 x1 s0 = true → (roundG (runC E0 (cl E0) L37_0) [0, 3, 4, 5] [3] 0) (ref01_Bits_o_L0_enc x0 x1 x2 x3 x4 s0) = some ((.exit 0), ([(V.d (.int .i64 s0.c2))], [])) := by
  unfold ref01_Bits_o_L0_sel ref01_Bits_o_L0_c0
  cases h1 : tb (decide (s0.c4 < ((x1.length : Nat) : Int)))
  · intro g0 g1
    exact round_walk [.o 11 (fun _ => o_len_os (enc := encB) (l := x1) (fl := true) (n := x0) (s := 1)), .b (tbE h1)] (by kernel_rfl)
  · cases h2 : tb (inb x1.length s0.c4)
    · intro g0 g1
      exact absurd g1 ft
    · cases h3 : tb (gt x1 s0.c4)
      · intro g0 g1
        exact absurd g0 tf
      · intro g0 g1
        exact absurd g0 tf

theorem ref01_Bits_o_L0_f0_0 (x0 : Bool) (x1 : List Bool) (x2 : Int) (x3 : Int) (x4 : Int) (s : ref01_Bits_o_L0_s0) (hok : ref01_Bits_o_L0_ok x1 s = true) (c0 : ref01_Bits_o_L0_c0 x1 (ref01_Bits_o_L0_end x1 s) = true) : loopG (roundG (runC E0 (cl E0) L37_0) [0, 3, 4, 5] [3] 0) bound (ref01_Bits_o_L0_enc x0 x1 x2 x3 x4 s) = some ((.exit 0), ([(V.d (.int .i64 ((ref01_Bits_o_L0_end x1 s).c2)))], [])) := by
  have e : itS (ref01_Bits_o_L0_sel x1) (ref01_Bits_o_L0_nx x1) bound s = some (ref01_Bits_o_L0_end x1 s) := itS_get hok
  have f := itS_false e
  exact loop_it (ref01_Bits_o_L0_go x0 x1 x2 x3 x4) bound s _ _ _ e (fun h => by cases h) (ref01_Bits_o_L0_x0 x0 x1 x2 x3 x4 (ref01_Bits_o_L0_end x1 s) f c0)

def ref01_Bits_o_c0 (x1 : List Bool) : Bool := (bif tb (decide (16 < ((x1.length : Nat) : Int))) then true else (bif tb (ref01_Bits_o_L0_ok x1 (⟨0, 1, 0⟩ : ref01_Bits_o_L0_s0)) then (bif tb (ref01_Bits_o_L0_c0 x1 (ref01_Bits_o_L0_end x1 (⟨0, 1, 0⟩ : ref01_Bits_o_L0_s0))) then true else false) else false))

def ref01_Bits_o_r0_0 (x1 : List Bool) : Int := (bif tb (decide (16 < ((x1.length : Nat) : Int))) then 0 else ((ref01_Bits_o_L0_end x1 (⟨0, 1, 0⟩ : ref01_Bits_o_L0_s0)).c2))

theorem ref01_Bits_o_t0 (x0 : Bool) (x1 : List Bool) : ref01_Bits_o_c0 x1 = true → cl E0 37 [(V.d (slD encB true 1 x0 x1))] [] = some ([(V.d (.int .i64 (ref01_Bits_o_r0_0 x1)))], []) := by
  unfold ref01_Bits_o_c0 ref01_Bits_o_r0_0
  cases h1 : tb (decide (16 < ((x1.length : Nat) : Int)))
  · cases h2 : tb (ref01_Bits_o_L0_ok x1 (⟨0, 1, 0⟩ : ref01_Bits_o_L0_s0))
    · intro g0
      exact absurd g0 ft
    · cases h3 : tb (ref01_Bits_o_L0_c0 x1 (ref01_Bits_o_L0_end x1 (⟨0, 1, 0⟩ : ref01_Bits_o_L0_s0)))
      · intro g0
        exact absurd g0 ft
      · intro g0
        exact w37 [.o 7 (fun _ => o_len_os (enc := encB) (l := x1) (fl := true) (n := x0) (s := 1)), .b (tbE h1), .l (ref01_Bits_o_L0_f0_0 x0 x1 0 1 0 (⟨0, 1, 0⟩ : ref01_Bits_o_L0_s0) (tbE h2) (tbE h3))] (by kernel_rfl)
  · intro g0
    exact w37 [.o 7 (fun _ => o_len_os (enc := encB) (l := x1) (fl := true) (n := x0) (s := 1)), .b (tbE h1)] (by kernel_rfl)

def ref01_Has_ii_S0_c0 (x0 : Int) (x1 : Int) : Bool := (bif tb (decide (x0 < 0)) then true else (bif tb (decide (65535 < x0)) then true else (bif tb (decide (x1 < 0)) then true else (bif tb (decide (15 < x1)) then true else false))))

theorem ref01_Has_ii_S0_t0 (x0 : Int) (x1 : Int) : ref01_Has_ii_S0_c0 x0 x1 = true → segG (runC E0 (cl E0) S39_0) [0, 1] [4] [0, 1] 0 ([(V.d (.int .i64 x0)), (V.d (.int .i64 x1))], []) = some (.ret, ([(V.d (.bool false))], [])) := by
  unfold ref01_Has_ii_S0_c0
  cases h1 : tb (decide (x0 < 0))
  · cases h2 : tb (decide (65535 < x0))
    · cases h3 : tb (decide (x1 < 0))
      · cases h4 : tb (decide (15 < x1))
        · intro g0
          exact absurd g0 ft
        · intro g0
          exact seg_walk [.b (tbE h1), .b (tbE h2), .b (tbE h3), .b (tbE h4)] (by kernel_rfl)
      · intro g0
        exact seg_walk [.b (tbE h1), .b (tbE h2), .b (tbE h3)] (by kernel_rfl)
    · intro g0
      exact seg_walk [.b (tbE h1), .b (tbE h2)] (by kernel_rfl)
  · intro g0
    exact seg_walk [.b (tbE h1)] (by kernel_rfl)

theorem ref01_Has_ii_S0_t1 (x0 : Int) (x1 : Int) : ref01_Has_ii_S0_c0 x0 x1 = false → segG (runC E0 (cl E0) S39_0) [0, 1] [4] [0, 1] 0 ([(V.d (.int .i64 x0)), (V.d (.int .i64 x1))], []) = some (.normal, ([(V.d (.int .i64 x0)), (V.d (.int .i64 x1))], [])) := by
  unfold ref01_Has_ii_S0_c0
  cases h1 : tb (decide (x0 < 0))
  · cases h2 : tb (decide (65535 < x0))
    · cases h3 : tb (decide (x1 < 0))
      · cases h4 : tb (decide (15 < x1))
        · intro g0
          exact seg_walk [.b (tbE h1), .b (tbE h2), .b (tbE h3), .b (tbE h4)] (by kernel_rfl)
        · intro g0
          exact absurd g0 tf
      · intro g0
        exact absurd g0 tf
    · intro g0
      exact absurd g0 tf
  · intro g0
    exact absurd g0 tf

structure ref01_Has_ii_L1_s0 where
  c1 : Int
  c2 : Int
  deriving Inhabited

def ref01_Has_ii_L1_enc (x0 : Int) (x1 : Int) (x2 : Int) (s0 : ref01_Has_ii_L1_s0) : List V × Mem := ([(V.d (.int .i64 x0)), (V.d (.int .i64 s0.c1)), (V.d (.int .i64 s0.c2))], [])

def ref01_Has_ii_L1_sel (x0 : Int) (s0 : ref01_Has_ii_L1_s0) : Bool := (bif tb (decide (s0.c2 < x0)) then true else false)

def ref01_Has_ii_L1_nx (x0 : Int) (s0 : ref01_Has_ii_L1_s0) : ref01_Has_ii_L1_s0 := ⟨(quoI .i64 s0.c1 2), (wi (s0.c2 + 1))⟩

def ref01_Has_ii_L1_ok (x0 : Int) (s0 : ref01_Has_ii_L1_s0) : Bool := (itS (ref01_Has_ii_L1_sel x0) (ref01_Has_ii_L1_nx x0) bound s0).isSome
def ref01_Has_ii_L1_end (x0 : Int) (s0 : ref01_Has_ii_L1_s0) : ref01_Has_ii_L1_s0 := (itS (ref01_Has_ii_L1_sel x0) (ref01_Has_ii_L1_nx x0) bound s0).getD default

theorem ref01_Has_ii_L1_go (x0 : Int) (x1 : Int) (x2 : Int) (s0 : ref01_Has_ii_L1_s0) : ref01_Has_ii_L1_sel x0 s0 = true → (roundG (runC E0 (cl E0) L39_1) [1, 5, 6] [5] 0) (ref01_Has_ii_L1_enc x0 x1 x2 s0) = some (.normal, ref01_Has_ii_L1_enc x0 x1 x2 (ref01_Has_ii_L1_nx x0 s0)) := by
  unfold ref01_Has_ii_L1_sel ref01_Has_ii_L1_nx
  cases h1 : tb (decide (s0.c2 < x0))
  · intro g0
    exact absurd g0 ft
  · intro _
    exact round_walk [.b (tbE h1)] (by kernel_rfl)

theorem ref01_Has_ii_L1_x0 (x0 : Int) (x1 : Int) (x2 : Int) (s0 : ref01_Has_ii_L1_s0) : ref01_Has_ii_L1_sel x0 s0 = false → (roundG (runC E0 (cl E0) L39_1) [1, 5, 6] [5] 0) (ref01_Has_ii_L1_enc x0 x1 x2 s0) = some ((.exit 0), ([(V.d (.int .i64 s0.c1))], [])) := by
  unfold ref01_Has_ii_L1_sel
  cases h1 : tb (decide (s0.c2 < x0))
  · intro g0
    exact round_walk [.b (tbE h1)] (by kernel_rfl)
  · intro g0
    exact absurd g0 tf

theorem ref01_Has_ii_L1_f0_0 (x0 : Int) (x1 : Int) (x2 : Int) (s : ref01_Has_ii_L1_s0) (hok : ref01_Has_ii_L1_ok x0 s = true) : loopG (roundG (runC E0 (cl E0) L39_1) [1, 5, 6] [5] 0) bound (ref01_Has_ii_L1_enc x0 x1 x2 s) = some ((.exit 0), ([(V.d (.int .i64 ((ref01_Has_ii_L1_end x0 s).c1)))], [])) := by
  have e : itS (ref01_Has_ii_L1_sel x0) (ref01_Has_ii_L1_nx x0) bound s = some (ref01_Has_ii_L1_end x0 s) := itS_get hok
  have f := itS_false e
  exact loop_it (ref01_Has_ii_L1_go x0 x1 x2) bound s _ _ _ e (fun h => by cases h) (ref01_Has_ii_L1_x0 x0 x1 x2 (ref01_Has_ii_L1_end x0 s) f )

def ref01_Has_ii_S2_c0 (x0 : Int) (x1 : Int) : Bool := (bif tb (ref01_Has_ii_L1_ok x0 (⟨x1, 0⟩ : ref01_Has_ii_L1_s0)) then true else false)

theorem ref01_Has_ii_S2_t0 (x0 : Int) (x1 : Int) : ref01_Has_ii_S2_c0 x0 x1 = true → segG (runC E0 (cl E0) S39_2) [1, 5] [] [5] 0 ([(V.d (.int .i64 x0)), (V.d (.int .i64 x1))], []) = some (.normal, ([(V.d (.int .i64 ((ref01_Has_ii_L1_end x0 (⟨x1, 0⟩ : ref01_Has_ii_L1_s0)).c1)))], [])) := by
  unfold ref01_Has_ii_S2_c0
  cases h1 : tb (ref01_Has_ii_L1_ok x0 (⟨x1, 0⟩ : ref01_Has_ii_L1_s0))
  · intro g0
    exact absurd g0 ft
  · intro g0
    exact seg_walk [.l (ref01_Has_ii_L1_f0_0 x0 x1 0 (⟨x1, 0⟩ : ref01_Has_ii_L1_s0) (tbE h1))] (by kernel_rfl)

def ref01_Has_ii_e0 (x0 : Int) (x1 : Int) : Int := remI .i64 ((ref01_Has_ii_L1_end x1 (⟨x0, 0⟩ : ref01_Has_ii_L1_s0)).c1) 2

def ref01_Has_ii_c0 (x0 : Int) (x1 : Int) : Bool := (bif tb (ref01_Has_ii_S0_c0 x0 x1) then true else (bif tb (ref01_Has_ii_S2_c0 x1 x0) then true else false))

def ref01_Has_ii_r0_0 (x0 : Int) (x1 : Int) : Bool := (bif tb (ref01_Has_ii_S0_c0 x0 x1) then false else (((ref01_Has_ii_e0 x0 x1) : Int) == 1))

theorem ref01_Has_ii_t0 (x0 : Int) (x1 : Int) : ref01_Has_ii_c0 x0 x1 = true → cl E0 39 [(V.d (.int .i64 x0)), (V.d (.int .i64 x1))] [] = some ([(V.d (.bool (ref01_Has_ii_r0_0 x0 x1)))], []) := by
  unfold ref01_Has_ii_c0 ref01_Has_ii_r0_0
  cases h1 : tb (ref01_Has_ii_S0_c0 x0 x1)
  · cases h2 : tb (ref01_Has_ii_S2_c0 x1 x0)
    · intro g0
      exact absurd g0 ft
    · intro g0
      exact w39 [.s (ref01_Has_ii_S0_t1 x0 x1 (tbE h1)), .s (ref01_Has_ii_S2_t0 x1 x0 (tbE h2))] (by kernel_rfl)
  · intro g0
    exact w39 [.s (ref01_Has_ii_S0_t0 x0 x1 (tbE h1))] (by kernel_rfl)

structure ref01_Count_i_L0_s0 where
  c1 : Int
  c2 : Int
  deriving Inhabited

def ref01_Count_i_L0_enc (x0 : Int) (x1 : Int) (x2 : Int) (s0 : ref01_Count_i_L0_s0) : List V × Mem := ([(V.d (.int .i64 x0)), (V.d (.int .i64 s0.c1)), (V.d (.int .i64 s0.c2))], [])

def ref01_Count_i_L0_sel (x0 : Int) (s0 : ref01_Count_i_L0_s0) : Bool := (bif tb (decide (s0.c2 < 16)) then (bif tb (ref01_Has_ii_c0 x0 s0.c2) then true else false) else false)

def ref01_Count_i_L0_nx (x0 : Int) (s0 : ref01_Count_i_L0_s0) : ref01_Count_i_L0_s0 := (bif tb (ref01_Has_ii_r0_0 x0 s0.c2) then ⟨(wi (s0.c1 + 1)), (wi (s0.c2 + 1))⟩ else ⟨s0.c1, (wi (s0.c2 + 1))⟩)

def ref01_Count_i_L0_ok (x0 : Int) (s0 : ref01_Count_i_L0_s0) : Bool := (itS (ref01_Count_i_L0_sel x0) (ref01_Count_i_L0_nx x0) bound s0).isSome
def ref01_Count_i_L0_end (x0 : Int) (s0 : ref01_Count_i_L0_s0) : ref01_Count_i_L0_s0 := (itS (ref01_Count_i_L0_sel x0) (ref01_Count_i_L0_nx x0) bound s0).getD default

theorem ref01_Count_i_L0_go (x0 : Int) (x1 : Int) (x2 : Int) (s0 : ref01_Count_i_L0_s0) : ref01_Count_i_L0_sel x0 s0 = true → (roundG (runC E0 (cl E0) L41_0) [0, 3, 4] [3] 0) (ref01_Count_i_L0_enc x0 x1 x2 s0) = some (.normal, ref01_Count_i_L0_enc x0 x1 x2 (ref01_Count_i_L0_nx x0 s0)) := by
  unfold ref01_Count_i_L0_sel ref01_Count_i_L0_nx
  cases h1 : tb (decide (s0.c2 < 16))
  · intro g0
    exact absurd g0 ft
  · cases h2 : tb (ref01_Has_ii_c0 x0 s0.c2)
    · intro g0
      exact absurd g0 ft
    · cases h3 : tb (ref01_Has_ii_r0_0 x0 s0.c2)
      · intro _
        exact round_walk [.b (tbE h1), .c (ref01_Has_ii_t0 x0 s0.c2 (tbE h2)), .b (tbE h3)] (by kernel_rfl)
      · intro _
        exact round_walk [.b (tbE h1), .c (ref01_Has_ii_t0 x0 s0.c2 (tbE h2)), .b (tbE h3)] (by kernel_rfl)

def ref01_Count_i_L0_c0 (s0 : ref01_Count_i_L0_s0) : Bool := (bif tb (decide (s0.c2 < 16)) then false else true)

theorem ref01_Count_i_L0_x0 (x0 : Int) (x1 : Int) (x2 : Int) (s0 : ref01_Count_i_L0_s0) : ref01_Count_i_L0_sel x0 s0 = false → ref01_Count_i_L0_c0 s0 = true → (roundG (runC E0 (cl E0) L41_0) [0, 3, 4] [3] 0) (ref01_Count_i_L0_enc x0 x1 x2 s0) = some ((.exit 0), ([(V.d (.int .i64 s0.c1))], [])) := by
  unfold ref01_Count_i_L0_sel ref01_Count_i_L0_c0
  cases h1 : tb (decide (s0.c2 < 16))
  · intro g0 g1
    exact round_walk [.b (tbE h1)] (by kernel_rfl)
  · cases h2 : tb (ref01_Has_ii_c0 x0 s0.c2)
    · intro g0 g1
      exact absurd g1 ft
    · cases h3 : tb (ref01_Has_ii_r0_0 x0 s0.c2)
      · intro g0 g1
        exact absurd g0 tf
      · intro g0 g1
        exact absurd g0 tf

theorem ref01_Count_i_L0_f0_0 (x0 : Int) (x1 : Int) (x2 : Int) (s : ref01_Count_i_L0_s0) (hok : ref01_Count_i_L0_ok x0 s = true) (c0 : ref01_Count_i_L0_c0 (ref01_Count_i_L0_end x0 s) = true) : loopG (roundG (runC E0 (cl E0) L41_0) [0, 3, 4] [3] 0) bound (ref01_Count_i_L0_enc x0 x1 x2 s) = some ((.exit 0), ([(V.d (.int .i64 ((ref01_Count_i_L0_end x0 s).c1)))], [])) := by
  have e : itS (ref01_Count_i_L0_sel x0) (ref01_Count_i_L0_nx x0) bound s = some (ref01_Count_i_L0_end x0 s) := itS_get hok
  have f := itS_false e
  exact loop_it (ref01_Count_i_L0_go x0 x1 x2) bound s _ _ _ e (fun h => by cases h) (ref01_Count_i_L0_x0 x0 x1 x2 (ref01_Count_i_L0_end x0 s) f c0)

def ref01_Count_i_c0 (x0 : Int) : Bool := (bif tb (ref01_Count_i_L0_ok x0 (⟨0, 0⟩ : ref01_Count_i_L0_s0)) then (bif tb (ref01_Count_i_L0_c0 (ref01_Count_i_L0_end x0 (⟨0, 0⟩ : ref01_Count_i_L0_s0))) then true else false) else false)

theorem ref01_Count_i_t0 (x0 : Int) : ref01_Count_i_c0 x0 = true → cl E0 41 [(V.d (.int .i64 x0))] [] = some ([(V.d (.int .i64 ((ref01_Count_i_L0_end x0 (⟨0, 0⟩ : ref01_Count_i_L0_s0)).c1)))], []) := by
  unfold ref01_Count_i_c0
  cases h1 : tb (ref01_Count_i_L0_ok x0 (⟨0, 0⟩ : ref01_Count_i_L0_s0))
  · intro g0
    exact absurd g0 ft
  · cases h2 : tb (ref01_Count_i_L0_c0 (ref01_Count_i_L0_end x0 (⟨0, 0⟩ : ref01_Count_i_L0_s0)))
    · intro g0
      exact absurd g0 ft
    · intro g0
      exact w41 [.l (ref01_Count_i_L0_f0_0 x0 0 0 (⟨0, 0⟩ : ref01_Count_i_L0_s0) (tbE h1) (tbE h2))] (by kernel_rfl)

end Go.Proofs.Ytdlhhoejnhjbhaa.Den

namespace Go.Proofs.Ytdlhhoejnhjbhaa.Den
open Go Go.Proofs
set_option maxRecDepth 100000
set_option maxHeartbeats 4000000
set_option linter.unusedVariables false
set_option linter.unusedSimpArgs false

def ref02_Right_o_c0 (x1 : List Int) : Bool := (bif tb (ref01_All_o_c0 x1) then true else false)

def ref02_Right_o_r0_0 (x1 : List Int) : Bool := (bif tb (ref01_All_o_r0_0 x1) then (decide (((x1.length : Nat) : Int) ≤ 16)) else false)

theorem ref02_Right_o_t0 (x0 : Bool) (x1 : List Int) : ref02_Right_o_c0 x1 = true → cl E0 24 [(V.d (slD (encI .i64) true 1 x0 x1))] [] = some ([(V.d (.bool (ref02_Right_o_r0_0 x1)))], []) := by
  unfold ref02_Right_o_c0 ref02_Right_o_r0_0
  cases h1 : tb (ref01_All_o_c0 x1)
  · intro g0
    exact absurd g0 ft
  · cases h2 : tb (ref01_All_o_r0_0 x1)
    · intro g0
      exact w24 [.c (ref01_All_o_t0 x0 x1 (tbE h1)), .b (tbE h2)] (by kernel_rfl)
    · intro g0
      exact w24 [.c (ref01_All_o_t0 x0 x1 (tbE h1)), .b (tbE h2), .o 9 (fun _ => o_len_os (enc := (encI .i64)) (l := x1) (fl := true) (n := x0) (s := 1))] (by kernel_rfl)

def ref02_Mid_o_S0_c0 (x1 : List Int) (x2 : Bool) : Bool := (bif tb (x2) then (bif tb (decide (((x1.length : Nat) : Int) < 1)) then true else (bif tb (decide (4 < ((x1.length : Nat) : Int))) then true else false)) else true)

theorem ref02_Mid_o_S0_t0 (x0 : Bool) (x1 : List Int) (x2 : Bool) : ref02_Mid_o_S0_c0 x1 x2 = true → segG (runC E0 (cl E0) S16_0) [0, 4] [2, 3] [0] 0 ([(V.d (slD (encI .i64) true 1 x0 x1)), (V.d (.bool x2))], []) = some (.ret, ([(V.d (.int .i64 0)), (V.d (.bool false))], [])) := by
  unfold ref02_Mid_o_S0_c0
  cases h1 : tb (x2)
  · intro g0
    exact seg_walk [.b (notF (tbE h1))] (by kernel_rfl)
  · cases h2 : tb (decide (((x1.length : Nat) : Int) < 1))
    · cases h3 : tb (decide (4 < ((x1.length : Nat) : Int)))
      · intro g0
        exact absurd g0 ft
      · intro g0
        exact seg_walk [.b (notT (tbE h1)), .o 12 (fun _ => o_len_os (enc := (encI .i64)) (l := x1) (fl := true) (n := x0) (s := 1)), .b (tbE h2), .o 17 (fun _ => o_len_os (enc := (encI .i64)) (l := x1) (fl := true) (n := x0) (s := 1)), .b (tbE h3)] (by kernel_rfl)
    · intro g0
      exact seg_walk [.b (notT (tbE h1)), .o 12 (fun _ => o_len_os (enc := (encI .i64)) (l := x1) (fl := true) (n := x0) (s := 1)), .b (tbE h2)] (by kernel_rfl)

theorem ref02_Mid_o_S0_t1 (x0 : Bool) (x1 : List Int) (x2 : Bool) : ref02_Mid_o_S0_c0 x1 x2 = false → segG (runC E0 (cl E0) S16_0) [0, 4] [2, 3] [0] 0 ([(V.d (slD (encI .i64) true 1 x0 x1)), (V.d (.bool x2))], []) = some (.normal, ([(V.d (slD (encI .i64) true 1 x0 x1))], [])) := by
  unfold ref02_Mid_o_S0_c0
  cases h1 : tb (x2)
  · intro g0
    exact absurd g0 tf
  · cases h2 : tb (decide (((x1.length : Nat) : Int) < 1))
    · cases h3 : tb (decide (4 < ((x1.length : Nat) : Int)))
      · intro g0
        exact seg_walk [.b (notT (tbE h1)), .o 12 (fun _ => o_len_os (enc := (encI .i64)) (l := x1) (fl := true) (n := x0) (s := 1)), .b (tbE h2), .o 17 (fun _ => o_len_os (enc := (encI .i64)) (l := x1) (fl := true) (n := x0) (s := 1)), .b (tbE h3)] (by kernel_rfl)
      · intro g0
        exact absurd g0 tf
    · intro g0
      exact absurd g0 tf

def ref02_Sort_o_S0_c0 (x3 : Bool) : Bool := (bif tb (x3) then true else false)

theorem ref02_Sort_o_S0_t0 (x0 : Bool) (x1 : Bool) (x2 : List Int) (x3 : Bool) : ref02_Sort_o_S0_c0 x3 = true → segG (runC E0 (cl E0) S19_0) [0, 3] [2] [0] 1 ([(V.d (slD (encI .i64) true 1 x1 x2)), (V.d (.bool x3))], [(Blk.flat 3 1 [] x0)]) = some (.normal, ([(V.d (slD (encI .i64) true 1 x1 x2))], [(Blk.flat 3 1 [] x0)])) := by
  unfold ref02_Sort_o_S0_c0
  cases h1 : tb (x3)
  · intro g0
    exact absurd g0 ft
  · intro g0
    exact seg_walk [.b (notT (tbE h1))] (by kernel_rfl)

theorem ref02_Sort_o_S0_t1 (x0 : Bool) (x1 : Bool) (x2 : List Int) (x3 : Bool) : ref02_Sort_o_S0_c0 x3 = false → segG (runC E0 (cl E0) S19_0) [0, 3] [2] [0] 1 ([(V.d (slD (encI .i64) true 1 x1 x2)), (V.d (.bool x3))], [(Blk.flat 3 1 [] x0)]) = some (.ret, ([(V.so true 1 0)], [(Blk.flat 3 1 [] x0), (Blk.flat 3 1 [] false)])) := by
  unfold ref02_Sort_o_S0_c0
  cases h1 : tb (x3)
  · intro g0
    exact seg_walk [.b (notF (tbE h1))] (by kernel_rfl)
  · intro g0
    exact absurd g0 tf

def ref02_Sort_o_S1_c0 (x4 : List Int) (x6 : Int) : Bool := (bif tb (decide (x6 < ((x4.length : Nat) : Int))) then true else false)

theorem ref02_Sort_o_S1_t0 (x0 : List Int) (x1 : Bool) (x2 : Bool) (x3 : Bool) (x4 : List Int) (x5 : Bool) (x6 : Int) : ref02_Sort_o_S1_c0 x4 x6 = true → segG (runC E0 (cl E0) S19_1) [0, 4, 5] [4] [0, 4, 5] 2 ([(V.d (slD (encI .i64) true 1 x3 x4)), (V.so x5 1 x0.length), (V.d (.int .i64 x6))], [(Blk.flat 3 1 [] x1), (Blk.flat 3 1 (List.map (encI .i64) x0) x2)]) = some (.normal, ([(V.d (slD (encI .i64) true 1 x3 x4)), (V.so x5 1 x0.length), (V.d (.int .i64 x6))], [(Blk.flat 3 1 [] x1), (Blk.flat 3 1 (List.map (encI .i64) x0) x2)])) := by
  unfold ref02_Sort_o_S1_c0
  cases h1 : tb (decide (x6 < ((x4.length : Nat) : Int)))
  · intro g0
    exact absurd g0 ft
  · intro g0
    exact seg_walk [.o 15 (fun _ => o_len_os (enc := (encI .i64)) (l := x4) (fl := true) (n := x3) (s := 1)), .b (tbE h1)] (by kernel_rfl)

theorem ref02_Sort_o_S1_t1 (x0 : List Int) (x1 : Bool) (x2 : Bool) (x3 : Bool) (x4 : List Int) (x5 : Bool) (x6 : Int) : ref02_Sort_o_S1_c0 x4 x6 = false → segG (runC E0 (cl E0) S19_1) [0, 4, 5] [4] [0, 4, 5] 2 ([(V.d (slD (encI .i64) true 1 x3 x4)), (V.so x5 1 x0.length), (V.d (.int .i64 x6))], [(Blk.flat 3 1 [] x1), (Blk.flat 3 1 (List.map (encI .i64) x0) x2)]) = some ((.exit 0), ([(V.so x5 1 x0.length)], [(Blk.flat 3 1 [] x1), (Blk.flat 3 1 (List.map (encI .i64) x0) x2)])) := by
  unfold ref02_Sort_o_S1_c0
  cases h1 : tb (decide (x6 < ((x4.length : Nat) : Int)))
  · intro g0
    exact seg_walk [.o 15 (fun _ => o_len_os (enc := (encI .i64)) (l := x4) (fl := true) (n := x3) (s := 1)), .b (tbE h1)] (by kernel_rfl)
  · intro g0
    exact absurd g0 tf

structure ref02_Sort_o_L2_s0 where
  c4 : Bool
  c5 : Bool
  c6 : Int
  c10 : List Int
  deriving Inhabited

def ref02_Sort_o_L2_enc (x0 : List Int) (x1 : List Int) (x2 : Bool) (x3 : Bool) (x4 : Bool) (x5 : Bool) (x6 : List Int) (x7 : Bool) (x8 : Int) (x9 : Bool) (x10 : Bool) (x11 : Int) (s0 : ref02_Sort_o_L2_s0) : List V × Mem := ([(V.d (slD (encI .i64) true 1 x5 x6)), (V.so x7 1 x0.length), (V.d (.int .i64 x8)), (V.so s0.c4 2 s0.c10.length), (V.d (.bool s0.c5)), (V.d (.int .i64 s0.c6))], [(Blk.flat 3 1 [] x2), (Blk.flat 3 1 (List.map (encI .i64) x0) x3), (Blk.flat 3 1 (List.map (encI .i64) s0.c10) false)])

def ref02_Sort_o_L2_sel (x0 : List Int) (x6 : List Int) (x8 : Int) (s0 : ref02_Sort_o_L2_s0) : Bool := (bif tb (decide (s0.c6 < ((x0.length : Nat) : Int))) then (bif tb (s0.c5) then (bif tb (inb x0.length s0.c6) then (bif tb (decide ((s0.c10.length + [(gt x0 s0.c6)].length) * 8 ≤ 140737488355328)) then true else false) else false) else (bif tb (inb x0.length s0.c6) then (bif tb (inb x6.length x8) then (bif tb (decide ((gt x6 x8) < (gt x0 s0.c6))) then (bif tb (decide ((s0.c10.length + [(gt x6 x8)].length) * 8 ≤ 140737488355328)) then (bif tb (decide (((s0.c10 ++ [(gt x6 x8)]).length + [(gt x0 s0.c6)].length) * 8 ≤ 140737488355328)) then true else false) else false) else (bif tb (decide ((s0.c10.length + [(gt x0 s0.c6)].length) * 8 ≤ 140737488355328)) then true else false)) else false) else false)) else false)

def ref02_Sort_o_L2_nx (x0 : List Int) (x6 : List Int) (x8 : Int) (s0 : ref02_Sort_o_L2_s0) : ref02_Sort_o_L2_s0 := ⟨false, (bif tb (s0.c5) then s0.c5 else (bif tb (decide ((gt x6 x8) < (gt x0 s0.c6))) then true else s0.c5)), (wi (s0.c6 + 1)), (bif tb (s0.c5) then (s0.c10 ++ [(gt x0 s0.c6)]) else (bif tb (decide ((gt x6 x8) < (gt x0 s0.c6))) then ((s0.c10 ++ [(gt x6 x8)]) ++ [(gt x0 s0.c6)]) else (s0.c10 ++ [(gt x0 s0.c6)])))⟩

def ref02_Sort_o_L2_ok (x0 : List Int) (x6 : List Int) (x8 : Int) (s0 : ref02_Sort_o_L2_s0) : Bool := (itS (ref02_Sort_o_L2_sel x0 x6 x8) (ref02_Sort_o_L2_nx x0 x6 x8) bound s0).isSome
def ref02_Sort_o_L2_end (x0 : List Int) (x6 : List Int) (x8 : Int) (s0 : ref02_Sort_o_L2_s0) : ref02_Sort_o_L2_s0 := (itS (ref02_Sort_o_L2_sel x0 x6 x8) (ref02_Sort_o_L2_nx x0 x6 x8) bound s0).getD default

theorem ref02_Sort_o_L2_go (x0 : List Int) (x1 : List Int) (x2 : Bool) (x3 : Bool) (x4 : Bool) (x5 : Bool) (x6 : List Int) (x7 : Bool) (x8 : Int) (x9 : Bool) (x10 : Bool) (x11 : Int) (s0 : ref02_Sort_o_L2_s0) : ref02_Sort_o_L2_sel x0 x6 x8 s0 = true → (roundG (runC E0 (cl E0) L19_2) [0, 4, 5, 6, 7, 8] [0, 5, 6, 7] 3) (ref02_Sort_o_L2_enc x0 x1 x2 x3 x4 x5 x6 x7 x8 x9 x10 x11 s0) = some (.normal, ref02_Sort_o_L2_enc x0 x1 x2 x3 x4 x5 x6 x7 x8 x9 x10 x11 (ref02_Sort_o_L2_nx x0 x6 x8 s0)) := by
  unfold ref02_Sort_o_L2_sel ref02_Sort_o_L2_nx
  cases h1 : tb (decide (s0.c6 < ((x0.length : Nat) : Int)))
  · intro g0
    exact absurd g0 ft
  · cases h2 : tb (s0.c5)
    · cases h3 : tb (inb x0.length s0.c6)
      · intro g0
        exact absurd g0 ft
      · cases h4 : tb (inb x6.length x8)
        · intro g0
          exact absurd g0 ft
        · cases h5 : tb (decide ((gt x6 x8) < (gt x0 s0.c6)))
          · cases h6 : tb (decide ((s0.c10.length + [(gt x0 s0.c6)].length) * 8 ≤ 140737488355328))
            · intro g0
              exact absurd g0 ft
            · intro _
              exact round_walk [.b (tbE h1), .b (notF (tbE h2)), .m 30 (o_idx_so (m := [(Blk.flat 3 1 [] true), (Blk.flat 3 1 (List.map (encI .i64) x0) true), (Blk.flat 3 1 (List.map (encI .i64) s0.c10) true)]) (b := x7) (id := 1) (n := x0.length) (s := 1) (k := .i64) (by kernel_rfl) (tbE h3)), .m 31 (o_load_L (m := [(Blk.flat 3 1 [] true), (Blk.flat 3 1 (List.map (encI .i64) x0) true), (Blk.flat 3 1 (List.map (encI .i64) s0.c10) true)]) (enc := (encI .i64)) (l := x0) (id := 1) (e := 3) (s := 1) (off := 0) (size := 1) (p := true) (agg := false) (i := s0.c6) (v := (V.d (.int .i64 (gt x0 s0.c6)))) (n := x0.length) (Nat.beq_refl _) (by kernel_rfl) (tbE h3) (by kernel_rfl)), .o 34 (fun _ => o_idx_os (enc := (encI .i64)) (l := x6) (fl := true) (n := x5) (s := 1) (k := .i64) (tbE h4)), .b (tbE h5), .m 48 (o_idx_so (m := [(Blk.flat 3 1 [] x2), (Blk.flat 3 1 (List.map (encI .i64) x0) x3), (Blk.flat 3 1 (List.map (encI .i64) s0.c10) false)]) (b := x7) (id := 1) (n := x0.length) (s := 1) (k := .i64) (by kernel_rfl) (tbE h3)), .m 49 (o_load_L (m := [(Blk.flat 3 1 [] x2), (Blk.flat 3 1 (List.map (encI .i64) x0) x3), (Blk.flat 3 1 (List.map (encI .i64) s0.c10) false)]) (enc := (encI .i64)) (l := x0) (id := 1) (e := 3) (s := 1) (off := 0) (size := 1) (p := x3) (agg := false) (i := s0.c6) (v := (V.d (.int .i64 (gt x0 s0.c6)))) (n := x0.length) (Nat.beq_refl _) (by kernel_rfl) (tbE h3) (by kernel_rfl)), .m 51 (o_app_so (nl := s0.c4) (m := [(Blk.flat 3 1 [] x2), (Blk.flat 3 1 (List.map (encI .i64) x0) x3), (Blk.flat 3 1 (List.map (encI .i64) s0.c10) false), (Blk.flat 3 1 [[(.int .i64 (gt x0 s0.c6))]] false)]) (enc := (encI .i64)) (l0 := s0.c10) (l1 := [(gt x0 s0.c6)]) (id := 2) (e := 3) (s := 1) (bytes := 8) (x := (V.so false 3 1)) (n := s0.c10.length) (Nat.beq_refl _) (by kernel_rfl) (by kernel_rfl) (by kernel_rfl) (tbE h6))] (by kernel_rfl)
          · cases h6 : tb (decide ((s0.c10.length + [(gt x6 x8)].length) * 8 ≤ 140737488355328))
            · intro g0
              exact absurd g0 ft
            · cases h7 : tb (decide (((s0.c10 ++ [(gt x6 x8)]).length + [(gt x0 s0.c6)].length) * 8 ≤ 140737488355328))
              · intro g0
                exact absurd g0 ft
              · intro _
                exact round_walk [.b (tbE h1), .b (notF (tbE h2)), .m 30 (o_idx_so (m := [(Blk.flat 3 1 [] true), (Blk.flat 3 1 (List.map (encI .i64) x0) true), (Blk.flat 3 1 (List.map (encI .i64) s0.c10) true)]) (b := x7) (id := 1) (n := x0.length) (s := 1) (k := .i64) (by kernel_rfl) (tbE h3)), .m 31 (o_load_L (m := [(Blk.flat 3 1 [] true), (Blk.flat 3 1 (List.map (encI .i64) x0) true), (Blk.flat 3 1 (List.map (encI .i64) s0.c10) true)]) (enc := (encI .i64)) (l := x0) (id := 1) (e := 3) (s := 1) (off := 0) (size := 1) (p := true) (agg := false) (i := s0.c6) (v := (V.d (.int .i64 (gt x0 s0.c6)))) (n := x0.length) (Nat.beq_refl _) (by kernel_rfl) (tbE h3) (by kernel_rfl)), .o 34 (fun _ => o_idx_os (enc := (encI .i64)) (l := x6) (fl := true) (n := x5) (s := 1) (k := .i64) (tbE h4)), .b (tbE h5), .o 41 (fun _ => o_idx_os (enc := (encI .i64)) (l := x6) (fl := true) (n := x5) (s := 1) (k := .i64) (tbE h4)), .m 44 (o_app_so (nl := s0.c4) (m := [(Blk.flat 3 1 [] x2), (Blk.flat 3 1 (List.map (encI .i64) x0) x3), (Blk.flat 3 1 (List.map (encI .i64) s0.c10) false), (Blk.flat 3 1 [[(.int .i64 (gt x6 x8))]] false)]) (enc := (encI .i64)) (l0 := s0.c10) (l1 := [(gt x6 x8)]) (id := 2) (e := 3) (s := 1) (bytes := 8) (x := (V.so false 3 1)) (n := s0.c10.length) (Nat.beq_refl _) (by kernel_rfl) (by kernel_rfl) (by kernel_rfl) (tbE h6)), .m 48 (o_idx_so (m := [(Blk.flat 3 1 [] x2), (Blk.flat 3 1 (List.map (encI .i64) x0) x3), (Blk.flat 3 1 (List.map (encI .i64) (s0.c10 ++ [(gt x6 x8)])) false), (Blk.flat 3 1 [[(.int .i64 (gt x6 x8))]] false)]) (b := x7) (id := 1) (n := x0.length) (s := 1) (k := .i64) (by kernel_rfl) (tbE h3)), .m 49 (o_load_L (m := [(Blk.flat 3 1 [] x2), (Blk.flat 3 1 (List.map (encI .i64) x0) x3), (Blk.flat 3 1 (List.map (encI .i64) (s0.c10 ++ [(gt x6 x8)])) false), (Blk.flat 3 1 [[(.int .i64 (gt x6 x8))]] false)]) (enc := (encI .i64)) (l := x0) (id := 1) (e := 3) (s := 1) (off := 0) (size := 1) (p := x3) (agg := false) (i := s0.c6) (v := (V.d (.int .i64 (gt x0 s0.c6)))) (n := x0.length) (Nat.beq_refl _) (by kernel_rfl) (tbE h3) (by kernel_rfl)), .m 51 (o_app_sf (m := [(Blk.flat 3 1 [] x2), (Blk.flat 3 1 (List.map (encI .i64) x0) x3), (Blk.flat 3 1 (List.map (encI .i64) (s0.c10 ++ [(gt x6 x8)])) false), (Blk.flat 3 1 [[(.int .i64 (gt x6 x8))]] false), (Blk.flat 3 1 [[(.int .i64 (gt x0 s0.c6))]] false)]) (enc := (encI .i64)) (l0 := (s0.c10 ++ [(gt x6 x8)])) (l1 := [(gt x0 s0.c6)]) (id := 2) (e := 3) (s := 1) (bytes := 8) (x := (V.so false 4 1)) (n := ((s0.c10 ++ [(gt x6 x8)]).length)) (Nat.beq_refl _) (by kernel_rfl) (by kernel_rfl) (by kernel_rfl) (tbE h7))] (by kernel_rfl)
    · cases h3 : tb (inb x0.length s0.c6)
      · intro g0
        exact absurd g0 ft
      · cases h4 : tb (decide ((s0.c10.length + [(gt x0 s0.c6)].length) * 8 ≤ 140737488355328))
        · intro g0
          exact absurd g0 ft
        · intro _
          exact round_walk [.b (tbE h1), .b (notT (tbE h2)), .m 48 (o_idx_so (m := [(Blk.flat 3 1 [] x2), (Blk.flat 3 1 (List.map (encI .i64) x0) x3), (Blk.flat 3 1 (List.map (encI .i64) s0.c10) false)]) (b := x7) (id := 1) (n := x0.length) (s := 1) (k := .i64) (by kernel_rfl) (tbE h3)), .m 49 (o_load_L (m := [(Blk.flat 3 1 [] x2), (Blk.flat 3 1 (List.map (encI .i64) x0) x3), (Blk.flat 3 1 (List.map (encI .i64) s0.c10) false)]) (enc := (encI .i64)) (l := x0) (id := 1) (e := 3) (s := 1) (off := 0) (size := 1) (p := x3) (agg := false) (i := s0.c6) (v := (V.d (.int .i64 (gt x0 s0.c6)))) (n := x0.length) (Nat.beq_refl _) (by kernel_rfl) (tbE h3) (by kernel_rfl)), .m 51 (o_app_so (nl := s0.c4) (m := [(Blk.flat 3 1 [] x2), (Blk.flat 3 1 (List.map (encI .i64) x0) x3), (Blk.flat 3 1 (List.map (encI .i64) s0.c10) false), (Blk.flat 3 1 [[(.int .i64 (gt x0 s0.c6))]] false)]) (enc := (encI .i64)) (l0 := s0.c10) (l1 := [(gt x0 s0.c6)]) (id := 2) (e := 3) (s := 1) (bytes := 8) (x := (V.so false 3 1)) (n := s0.c10.length) (Nat.beq_refl _) (by kernel_rfl) (by kernel_rfl) (by kernel_rfl) (tbE h4))] (by kernel_rfl)

def ref02_Sort_o_L2_c0 (x0 : List Int) (s0 : ref02_Sort_o_L2_s0) : Bool := (bif tb (decide (s0.c6 < ((x0.length : Nat) : Int))) then false else true)

theorem ref02_Sort_o_L2_x0 (x0 : List Int) (x1 : List Int) (x2 : Bool) (x3 : Bool) (x4 : Bool) (x5 : Bool) (x6 : List Int) (x7 : Bool) (x8 : Int) (x9 : Bool) (x10 : Bool) (x11 : Int) (s0 : ref02_Sort_o_L2_s0) : ref02_Sort_o_L2_sel x0 x6 x8 s0 = false → ref02_Sort_o_L2_c0 x0 s0 = true → (roundG (runC E0 (cl E0) L19_2) [0, 4, 5, 6, 7, 8] [0, 5, 6, 7] 3) (ref02_Sort_o_L2_enc x0 x1 x2 x3 x4 x5 x6 x7 x8 x9 x10 x11 s0) = some ((.exit 2), ([(V.d (slD (encI .i64) true 1 x5 x6)), (V.d (.int .i64 x8)), (V.so s0.c4 2 s0.c10.length), (V.d (.bool s0.c5))], [(Blk.flat 3 1 [] x2), (Blk.flat 3 1 (List.map (encI .i64) x0) x3), (Blk.flat 3 1 (List.map (encI .i64) s0.c10) false)])) := by
  unfold ref02_Sort_o_L2_sel ref02_Sort_o_L2_c0
  cases h1 : tb (decide (s0.c6 < ((x0.length : Nat) : Int)))
  · intro g0 g1
    exact round_walk [.b (tbE h1)] (by kernel_rfl)
  · cases h2 : tb (s0.c5)
    · cases h3 : tb (inb x0.length s0.c6)
      · intro g0 g1
        exact absurd g1 ft
      · cases h4 : tb (inb x6.length x8)
        · intro g0 g1
          exact absurd g1 ft
        · cases h5 : tb (decide ((gt x6 x8) < (gt x0 s0.c6)))
          · cases h6 : tb (decide ((s0.c10.length + [(gt x0 s0.c6)].length) * 8 ≤ 140737488355328))
            · intro g0 g1
              exact absurd g1 ft
            · intro g0 g1
              exact absurd g0 tf
          · cases h6 : tb (decide ((s0.c10.length + [(gt x6 x8)].length) * 8 ≤ 140737488355328))
            · intro g0 g1
              exact absurd g1 ft
            · cases h7 : tb (decide (((s0.c10 ++ [(gt x6 x8)]).length + [(gt x0 s0.c6)].length) * 8 ≤ 140737488355328))
              · intro g0 g1
                exact absurd g1 ft
              · intro g0 g1
                exact absurd g0 tf
    · cases h3 : tb (inb x0.length s0.c6)
      · intro g0 g1
        exact absurd g1 ft
      · cases h4 : tb (decide ((s0.c10.length + [(gt x0 s0.c6)].length) * 8 ≤ 140737488355328))
        · intro g0 g1
          exact absurd g1 ft
        · intro g0 g1
          exact absurd g0 tf

theorem ref02_Sort_o_L2_f0_0 (x0 : List Int) (x1 : List Int) (x2 : Bool) (x3 : Bool) (x4 : Bool) (x5 : Bool) (x6 : List Int) (x7 : Bool) (x8 : Int) (x9 : Bool) (x10 : Bool) (x11 : Int) (s : ref02_Sort_o_L2_s0) (hok : ref02_Sort_o_L2_ok x0 x6 x8 s = true) (c0 : ref02_Sort_o_L2_c0 x0 (ref02_Sort_o_L2_end x0 x6 x8 s) = true) : loopG (roundG (runC E0 (cl E0) L19_2) [0, 4, 5, 6, 7, 8] [0, 5, 6, 7] 3) bound (ref02_Sort_o_L2_enc x0 x1 x2 x3 x4 x5 x6 x7 x8 x9 x10 x11 s) = some ((.exit 2), ([(V.d (slD (encI .i64) true 1 x5 x6)), (V.d (.int .i64 x8)), (V.so ((ref02_Sort_o_L2_end x0 x6 x8 s).c4) 2 (((ref02_Sort_o_L2_end x0 x6 x8 s).c10).length)), (V.d (.bool ((ref02_Sort_o_L2_end x0 x6 x8 s).c5)))], [(Blk.flat 3 1 [] x2), (Blk.flat 3 1 (List.map (encI .i64) x0) x3), (Blk.flat 3 1 (List.map (encI .i64) ((ref02_Sort_o_L2_end x0 x6 x8 s).c10)) false)])) := by
  have e : itS (ref02_Sort_o_L2_sel x0 x6 x8) (ref02_Sort_o_L2_nx x0 x6 x8) bound s = some (ref02_Sort_o_L2_end x0 x6 x8 s) := itS_get hok
  have f := itS_false e
  exact loop_it (ref02_Sort_o_L2_go x0 x1 x2 x3 x4 x5 x6 x7 x8 x9 x10 x11) bound s _ _ _ e (fun h => by cases h) (ref02_Sort_o_L2_x0 x0 x1 x2 x3 x4 x5 x6 x7 x8 x9 x10 x11 (ref02_Sort_o_L2_end x0 x6 x8 s) f c0)

def ref02_Sort_o_S1_1_c0 (x6 : List Int) (x8 : Int) : Bool := (bif tb (decide (x8 < ((x6.length : Nat) : Int))) then true else false)

theorem ref02_Sort_o_S1_1_t0 (x0 : List Int) (x1 : List Int) (x2 : Bool) (x3 : Bool) (x4 : Bool) (x5 : Bool) (x6 : List Int) (x7 : Bool) (x8 : Int) : ref02_Sort_o_S1_1_c0 x6 x8 = true → segG (runC E0 (cl E0) S19_1) [0, 4, 5] [4] [0, 4, 5] 3 ([(V.d (slD (encI .i64) true 1 x5 x6)), (V.so x7 2 x1.length), (V.d (.int .i64 x8))], [(Blk.flat 3 1 [] x2), (Blk.flat 3 1 (List.map (encI .i64) x0) x3), (Blk.flat 3 1 (List.map (encI .i64) x1) x4)]) = some (.normal, ([(V.d (slD (encI .i64) true 1 x5 x6)), (V.so x7 2 x1.length), (V.d (.int .i64 x8))], [(Blk.flat 3 1 [] x2), (Blk.flat 3 1 (List.map (encI .i64) x0) x3), (Blk.flat 3 1 (List.map (encI .i64) x1) x4)])) := by
  unfold ref02_Sort_o_S1_1_c0
  cases h1 : tb (decide (x8 < ((x6.length : Nat) : Int)))
  · intro g0
    exact absurd g0 ft
  · intro g0
    exact seg_walk [.o 15 (fun _ => o_len_os (enc := (encI .i64)) (l := x6) (fl := true) (n := x5) (s := 1)), .b (tbE h1)] (by kernel_rfl)

theorem ref02_Sort_o_S1_1_t1 (x0 : List Int) (x1 : List Int) (x2 : Bool) (x3 : Bool) (x4 : Bool) (x5 : Bool) (x6 : List Int) (x7 : Bool) (x8 : Int) : ref02_Sort_o_S1_1_c0 x6 x8 = false → segG (runC E0 (cl E0) S19_1) [0, 4, 5] [4] [0, 4, 5] 3 ([(V.d (slD (encI .i64) true 1 x5 x6)), (V.so x7 2 x1.length), (V.d (.int .i64 x8))], [(Blk.flat 3 1 [] x2), (Blk.flat 3 1 (List.map (encI .i64) x0) x3), (Blk.flat 3 1 (List.map (encI .i64) x1) x4)]) = some ((.exit 0), ([(V.so x7 2 x1.length)], [(Blk.flat 3 1 [] x2), (Blk.flat 3 1 (List.map (encI .i64) x0) x3), (Blk.flat 3 1 (List.map (encI .i64) x1) x4)])) := by
  unfold ref02_Sort_o_S1_1_c0
  cases h1 : tb (decide (x8 < ((x6.length : Nat) : Int)))
  · intro g0
    exact seg_walk [.o 15 (fun _ => o_len_os (enc := (encI .i64)) (l := x6) (fl := true) (n := x5) (s := 1)), .b (tbE h1)] (by kernel_rfl)
  · intro g0
    exact absurd g0 tf

structure ref02_Sort_o_L2_1_s0 where
  c4 : Bool
  c5 : Bool
  c6 : Int
  c12 : List Int
  deriving Inhabited

def ref02_Sort_o_L2_1_enc (x0 : List Int) (x1 : List Int) (x2 : List Int) (x3 : Bool) (x4 : Bool) (x5 : Bool) (x6 : Bool) (x7 : Bool) (x8 : List Int) (x9 : Bool) (x10 : Int) (x11 : Bool) (x12 : Bool) (x13 : Int) (s0 : ref02_Sort_o_L2_1_s0) : List V × Mem := ([(V.d (slD (encI .i64) true 1 x7 x8)), (V.so x9 2 x1.length), (V.d (.int .i64 x10)), (V.so s0.c4 3 s0.c12.length), (V.d (.bool s0.c5)), (V.d (.int .i64 s0.c6))], [(Blk.flat 3 1 [] x3), (Blk.flat 3 1 (List.map (encI .i64) x0) x4), (Blk.flat 3 1 (List.map (encI .i64) x1) x5), (Blk.flat 3 1 (List.map (encI .i64) s0.c12) false)])

def ref02_Sort_o_L2_1_sel (x1 : List Int) (x8 : List Int) (x10 : Int) (s0 : ref02_Sort_o_L2_1_s0) : Bool := (bif tb (decide (s0.c6 < ((x1.length : Nat) : Int))) then (bif tb (s0.c5) then (bif tb (inb x1.length s0.c6) then (bif tb (decide ((s0.c12.length + [(gt x1 s0.c6)].length) * 8 ≤ 140737488355328)) then true else false) else false) else (bif tb (inb x1.length s0.c6) then (bif tb (inb x8.length x10) then (bif tb (decide ((gt x8 x10) < (gt x1 s0.c6))) then (bif tb (decide ((s0.c12.length + [(gt x8 x10)].length) * 8 ≤ 140737488355328)) then (bif tb (decide (((s0.c12 ++ [(gt x8 x10)]).length + [(gt x1 s0.c6)].length) * 8 ≤ 140737488355328)) then true else false) else false) else (bif tb (decide ((s0.c12.length + [(gt x1 s0.c6)].length) * 8 ≤ 140737488355328)) then true else false)) else false) else false)) else false)

def ref02_Sort_o_L2_1_nx (x1 : List Int) (x8 : List Int) (x10 : Int) (s0 : ref02_Sort_o_L2_1_s0) : ref02_Sort_o_L2_1_s0 := ⟨false, (bif tb (s0.c5) then s0.c5 else (bif tb (decide ((gt x8 x10) < (gt x1 s0.c6))) then true else s0.c5)), (wi (s0.c6 + 1)), (bif tb (s0.c5) then (s0.c12 ++ [(gt x1 s0.c6)]) else (bif tb (decide ((gt x8 x10) < (gt x1 s0.c6))) then ((s0.c12 ++ [(gt x8 x10)]) ++ [(gt x1 s0.c6)]) else (s0.c12 ++ [(gt x1 s0.c6)])))⟩

def ref02_Sort_o_L2_1_ok (x1 : List Int) (x8 : List Int) (x10 : Int) (s0 : ref02_Sort_o_L2_1_s0) : Bool := (itS (ref02_Sort_o_L2_1_sel x1 x8 x10) (ref02_Sort_o_L2_1_nx x1 x8 x10) bound s0).isSome
def ref02_Sort_o_L2_1_end (x1 : List Int) (x8 : List Int) (x10 : Int) (s0 : ref02_Sort_o_L2_1_s0) : ref02_Sort_o_L2_1_s0 := (itS (ref02_Sort_o_L2_1_sel x1 x8 x10) (ref02_Sort_o_L2_1_nx x1 x8 x10) bound s0).getD default

theorem ref02_Sort_o_L2_1_go (x0 : List Int) (x1 : List Int) (x2 : List Int) (x3 : Bool) (x4 : Bool) (x5 : Bool) (x6 : Bool) (x7 : Bool) (x8 : List Int) (x9 : Bool) (x10 : Int) (x11 : Bool) (x12 : Bool) (x13 : Int) (s0 : ref02_Sort_o_L2_1_s0) : ref02_Sort_o_L2_1_sel x1 x8 x10 s0 = true → (roundG (runC E0 (cl E0) L19_2) [0, 4, 5, 6, 7, 8] [0, 5, 6, 7] 4) (ref02_Sort_o_L2_1_enc x0 x1 x2 x3 x4 x5 x6 x7 x8 x9 x10 x11 x12 x13 s0) = some (.normal, ref02_Sort_o_L2_1_enc x0 x1 x2 x3 x4 x5 x6 x7 x8 x9 x10 x11 x12 x13 (ref02_Sort_o_L2_1_nx x1 x8 x10 s0)) := by
  unfold ref02_Sort_o_L2_1_sel ref02_Sort_o_L2_1_nx
  cases h1 : tb (decide (s0.c6 < ((x1.length : Nat) : Int)))
  · intro g0
    exact absurd g0 ft
  · cases h2 : tb (s0.c5)
    · cases h3 : tb (inb x1.length s0.c6)
      · intro g0
        exact absurd g0 ft
      · cases h4 : tb (inb x8.length x10)
        · intro g0
          exact absurd g0 ft
        · cases h5 : tb (decide ((gt x8 x10) < (gt x1 s0.c6)))
          · cases h6 : tb (decide ((s0.c12.length + [(gt x1 s0.c6)].length) * 8 ≤ 140737488355328))
            · intro g0
              exact absurd g0 ft
            · intro _
              exact round_walk [.b (tbE h1), .b (notF (tbE h2)), .m 30 (o_idx_so (m := [(Blk.flat 3 1 [] true), (Blk.flat 3 1 (List.map (encI .i64) x0) true), (Blk.flat 3 1 (List.map (encI .i64) x1) true), (Blk.flat 3 1 (List.map (encI .i64) s0.c12) true)]) (b := x9) (id := 2) (n := x1.length) (s := 1) (k := .i64) (by kernel_rfl) (tbE h3)), .m 31 (o_load_L (m := [(Blk.flat 3 1 [] true), (Blk.flat 3 1 (List.map (encI .i64) x0) true), (Blk.flat 3 1 (List.map (encI .i64) x1) true), (Blk.flat 3 1 (List.map (encI .i64) s0.c12) true)]) (enc := (encI .i64)) (l := x1) (id := 2) (e := 3) (s := 1) (off := 0) (size := 1) (p := true) (agg := false) (i := s0.c6) (v := (V.d (.int .i64 (gt x1 s0.c6)))) (n := x1.length) (Nat.beq_refl _) (by kernel_rfl) (tbE h3) (by kernel_rfl)), .o 34 (fun _ => o_idx_os (enc := (encI .i64)) (l := x8) (fl := true) (n := x7) (s := 1) (k := .i64) (tbE h4)), .b (tbE h5), .m 48 (o_idx_so (m := [(Blk.flat 3 1 [] x3), (Blk.flat 3 1 (List.map (encI .i64) x0) x4), (Blk.flat 3 1 (List.map (encI .i64) x1) x5), (Blk.flat 3 1 (List.map (encI .i64) s0.c12) false)]) (b := x9) (id := 2) (n := x1.length) (s := 1) (k := .i64) (by kernel_rfl) (tbE h3)), .m 49 (o_load_L (m := [(Blk.flat 3 1 [] x3), (Blk.flat 3 1 (List.map (encI .i64) x0) x4), (Blk.flat 3 1 (List.map (encI .i64) x1) x5), (Blk.flat 3 1 (List.map (encI .i64) s0.c12) false)]) (enc := (encI .i64)) (l := x1) (id := 2) (e := 3) (s := 1) (off := 0) (size := 1) (p := x5) (agg := false) (i := s0.c6) (v := (V.d (.int .i64 (gt x1 s0.c6)))) (n := x1.length) (Nat.beq_refl _) (by kernel_rfl) (tbE h3) (by kernel_rfl)), .m 51 (o_app_so (nl := s0.c4) (m := [(Blk.flat 3 1 [] x3), (Blk.flat 3 1 (List.map (encI .i64) x0) x4), (Blk.flat 3 1 (List.map (encI .i64) x1) x5), (Blk.flat 3 1 (List.map (encI .i64) s0.c12) false), (Blk.flat 3 1 [[(.int .i64 (gt x1 s0.c6))]] false)]) (enc := (encI .i64)) (l0 := s0.c12) (l1 := [(gt x1 s0.c6)]) (id := 3) (e := 3) (s := 1) (bytes := 8) (x := (V.so false 4 1)) (n := s0.c12.length) (Nat.beq_refl _) (by kernel_rfl) (by kernel_rfl) (by kernel_rfl) (tbE h6))] (by kernel_rfl)
          · cases h6 : tb (decide ((s0.c12.length + [(gt x8 x10)].length) * 8 ≤ 140737488355328))
            · intro g0
              exact absurd g0 ft
            · cases h7 : tb (decide (((s0.c12 ++ [(gt x8 x10)]).length + [(gt x1 s0.c6)].length) * 8 ≤ 140737488355328))
              · intro g0
                exact absurd g0 ft
              · intro _
                exact round_walk [.b (tbE h1), .b (notF (tbE h2)), .m 30 (o_idx_so (m := [(Blk.flat 3 1 [] true), (Blk.flat 3 1 (List.map (encI .i64) x0) true), (Blk.flat 3 1 (List.map (encI .i64) x1) true), (Blk.flat 3 1 (List.map (encI .i64) s0.c12) true)]) (b := x9) (id := 2) (n := x1.length) (s := 1) (k := .i64) (by kernel_rfl) (tbE h3)), .m 31 (o_load_L (m := [(Blk.flat 3 1 [] true), (Blk.flat 3 1 (List.map (encI .i64) x0) true), (Blk.flat 3 1 (List.map (encI .i64) x1) true), (Blk.flat 3 1 (List.map (encI .i64) s0.c12) true)]) (enc := (encI .i64)) (l := x1) (id := 2) (e := 3) (s := 1) (off := 0) (size := 1) (p := true) (agg := false) (i := s0.c6) (v := (V.d (.int .i64 (gt x1 s0.c6)))) (n := x1.length) (Nat.beq_refl _) (by kernel_rfl) (tbE h3) (by kernel_rfl)), .o 34 (fun _ => o_idx_os (enc := (encI .i64)) (l := x8) (fl := true) (n := x7) (s := 1) (k := .i64) (tbE h4)), .b (tbE h5), .o 41 (fun _ => o_idx_os (enc := (encI .i64)) (l := x8) (fl := true) (n := x7) (s := 1) (k := .i64) (tbE h4)), .m 44 (o_app_so (nl := s0.c4) (m := [(Blk.flat 3 1 [] x3), (Blk.flat 3 1 (List.map (encI .i64) x0) x4), (Blk.flat 3 1 (List.map (encI .i64) x1) x5), (Blk.flat 3 1 (List.map (encI .i64) s0.c12) false), (Blk.flat 3 1 [[(.int .i64 (gt x8 x10))]] false)]) (enc := (encI .i64)) (l0 := s0.c12) (l1 := [(gt x8 x10)]) (id := 3) (e := 3) (s := 1) (bytes := 8) (x := (V.so false 4 1)) (n := s0.c12.length) (Nat.beq_refl _) (by kernel_rfl) (by kernel_rfl) (by kernel_rfl) (tbE h6)), .m 48 (o_idx_so (m := [(Blk.flat 3 1 [] x3), (Blk.flat 3 1 (List.map (encI .i64) x0) x4), (Blk.flat 3 1 (List.map (encI .i64) x1) x5), (Blk.flat 3 1 (List.map (encI .i64) (s0.c12 ++ [(gt x8 x10)])) false), (Blk.flat 3 1 [[(.int .i64 (gt x8 x10))]] false)]) (b := x9) (id := 2) (n := x1.length) (s := 1) (k := .i64) (by kernel_rfl) (tbE h3)), .m 49 (o_load_L (m := [(Blk.flat 3 1 [] x3), (Blk.flat 3 1 (List.map (encI .i64) x0) x4), (Blk.flat 3 1 (List.map (encI .i64) x1) x5), (Blk.flat 3 1 (List.map (encI .i64) (s0.c12 ++ [(gt x8 x10)])) false), (Blk.flat 3 1 [[(.int .i64 (gt x8 x10))]] false)]) (enc := (encI .i64)) (l := x1) (id := 2) (e := 3) (s := 1) (off := 0) (size := 1) (p := x5) (agg := false) (i := s0.c6) (v := (V.d (.int .i64 (gt x1 s0.c6)))) (n := x1.length) (Nat.beq_refl _) (by kernel_rfl) (tbE h3) (by kernel_rfl)), .m 51 (o_app_sf (m := [(Blk.flat 3 1 [] x3), (Blk.flat 3 1 (List.map (encI .i64) x0) x4), (Blk.flat 3 1 (List.map (encI .i64) x1) x5), (Blk.flat 3 1 (List.map (encI .i64) (s0.c12 ++ [(gt x8 x10)])) false), (Blk.flat 3 1 [[(.int .i64 (gt x8 x10))]] false), (Blk.flat 3 1 [[(.int .i64 (gt x1 s0.c6))]] false)]) (enc := (encI .i64)) (l0 := (s0.c12 ++ [(gt x8 x10)])) (l1 := [(gt x1 s0.c6)]) (id := 3) (e := 3) (s := 1) (bytes := 8) (x := (V.so false 5 1)) (n := ((s0.c12 ++ [(gt x8 x10)]).length)) (Nat.beq_refl _) (by kernel_rfl) (by kernel_rfl) (by kernel_rfl) (tbE h7))] (by kernel_rfl)
    · cases h3 : tb (inb x1.length s0.c6)
      · intro g0
        exact absurd g0 ft
      · cases h4 : tb (decide ((s0.c12.length + [(gt x1 s0.c6)].length) * 8 ≤ 140737488355328))
        · intro g0
          exact absurd g0 ft
        · intro _
          exact round_walk [.b (tbE h1), .b (notT (tbE h2)), .m 48 (o_idx_so (m := [(Blk.flat 3 1 [] x3), (Blk.flat 3 1 (List.map (encI .i64) x0) x4), (Blk.flat 3 1 (List.map (encI .i64) x1) x5), (Blk.flat 3 1 (List.map (encI .i64) s0.c12) false)]) (b := x9) (id := 2) (n := x1.length) (s := 1) (k := .i64) (by kernel_rfl) (tbE h3)), .m 49 (o_load_L (m := [(Blk.flat 3 1 [] x3), (Blk.flat 3 1 (List.map (encI .i64) x0) x4), (Blk.flat 3 1 (List.map (encI .i64) x1) x5), (Blk.flat 3 1 (List.map (encI .i64) s0.c12) false)]) (enc := (encI .i64)) (l := x1) (id := 2) (e := 3) (s := 1) (off := 0) (size := 1) (p := x5) (agg := false) (i := s0.c6) (v := (V.d (.int .i64 (gt x1 s0.c6)))) (n := x1.length) (Nat.beq_refl _) (by kernel_rfl) (tbE h3) (by kernel_rfl)), .m 51 (o_app_so (nl := s0.c4) (m := [(Blk.flat 3 1 [] x3), (Blk.flat 3 1 (List.map (encI .i64) x0) x4), (Blk.flat 3 1 (List.map (encI .i64) x1) x5), (Blk.flat 3 1 (List.map (encI .i64) s0.c12) false), (Blk.flat 3 1 [[(.int .i64 (gt x1 s0.c6))]] false)]) (enc := (encI .i64)) (l0 := s0.c12) (l1 := [(gt x1 s0.c6)]) (id := 3) (e := 3) (s := 1) (bytes := 8) (x := (V.so false 4 1)) (n := s0.c12.length) (Nat.beq_refl _) (by kernel_rfl) (by kernel_rfl) (by kernel_rfl) (tbE h4))] (by kernel_rfl)

def ref02_Sort_o_L2_1_c0 (x1 : List Int) (s0 : ref02_Sort_o_L2_1_s0) : Bool := (bif tb (decide (s0.c6 < ((x1.length : Nat) : Int))) then false else true)

theorem ref02_Sort_o_L2_1_x0 (x0 : List Int) (x1 : List Int) (x2 : List Int) (x3 : Bool) (x4 : Bool) (x5 : Bool) (x6 : Bool) (x7 : Bool) (x8 : List Int) (x9 : Bool) (x10 : Int) (x11 : Bool) (x12 : Bool) (x13 : Int) (s0 : ref02_Sort_o_L2_1_s0) : ref02_Sort_o_L2_1_sel x1 x8 x10 s0 = false → ref02_Sort_o_L2_1_c0 x1 s0 = true → (roundG (runC E0 (cl E0) L19_2) [0, 4, 5, 6, 7, 8] [0, 5, 6, 7] 4) (ref02_Sort_o_L2_1_enc x0 x1 x2 x3 x4 x5 x6 x7 x8 x9 x10 x11 x12 x13 s0) = some ((.exit 2), ([(V.d (slD (encI .i64) true 1 x7 x8)), (V.d (.int .i64 x10)), (V.so s0.c4 3 s0.c12.length), (V.d (.bool s0.c5))], [(Blk.flat 3 1 [] x3), (Blk.flat 3 1 (List.map (encI .i64) x0) x4), (Blk.flat 3 1 (List.map (encI .i64) x1) x5), (Blk.flat 3 1 (List.map (encI .i64) s0.c12) false)])) := by
  unfold ref02_Sort_o_L2_1_sel ref02_Sort_o_L2_1_c0
  cases h1 : tb (decide (s0.c6 < ((x1.length : Nat) : Int)))
  · intro g0 g1
    exact round_walk [.b (tbE h1)] (by kernel_rfl)
  · cases h2 : tb (s0.c5)
    · cases h3 : tb (inb x1.length s0.c6)
      · intro g0 g1
        exact absurd g1 ft
      · cases h4 : tb (inb x8.length x10)
        · intro g0 g1
          exact absurd g1 ft
        · cases h5 : tb (decide ((gt x8 x10) < (gt x1 s0.c6)))
          · cases h6 : tb (decide ((s0.c12.length + [(gt x1 s0.c6)].length) * 8 ≤ 140737488355328))
            · intro g0 g1
              exact absurd g1 ft
            · intro g0 g1
              exact absurd g0 tf
          · cases h6 : tb (decide ((s0.c12.length + [(gt x8 x10)].length) * 8 ≤ 140737488355328))
            · intro g0 g1
              exact absurd g1 ft
            · cases h7 : tb (decide (((s0.c12 ++ [(gt x8 x10)]).length + [(gt x1 s0.c6)].length) * 8 ≤ 140737488355328))
              · intro g0 g1
                exact absurd g1 ft
              · intro g0 g1
                exact absurd g0 tf
    · cases h3 : tb (inb x1.length s0.c6)
      · intro g0 g1
        exact absurd g1 ft
      · cases h4 : tb (decide ((s0.c12.length + [(gt x1 s0.c6)].length) * 8 ≤ 140737488355328))
        · intro g0 g1
          exact absurd g1 ft
        · intro g0 g1
          exact absurd g0 tf

theorem ref02_Sort_o_L2_1_f0_0 (x0 : List Int) (x1 : List Int) (x2 : List Int) (x3 : Bool) (x4 : Bool) (x5 : Bool) (x6 : Bool) (x7 : Bool) (x8 : List Int) (x9 : Bool) (x10 : Int) (x11 : Bool) (x12 : Bool) (x13 : Int) (s : ref02_Sort_o_L2_1_s0) (hok : ref02_Sort_o_L2_1_ok x1 x8 x10 s = true) (c0 : ref02_Sort_o_L2_1_c0 x1 (ref02_Sort_o_L2_1_end x1 x8 x10 s) = true) : loopG (roundG (runC E0 (cl E0) L19_2) [0, 4, 5, 6, 7, 8] [0, 5, 6, 7] 4) bound (ref02_Sort_o_L2_1_enc x0 x1 x2 x3 x4 x5 x6 x7 x8 x9 x10 x11 x12 x13 s) = some ((.exit 2), ([(V.d (slD (encI .i64) true 1 x7 x8)), (V.d (.int .i64 x10)), (V.so ((ref02_Sort_o_L2_1_end x1 x8 x10 s).c4) 3 (((ref02_Sort_o_L2_1_end x1 x8 x10 s).c12).length)), (V.d (.bool ((ref02_Sort_o_L2_1_end x1 x8 x10 s).c5)))], [(Blk.flat 3 1 [] x3), (Blk.flat 3 1 (List.map (encI .i64) x0) x4), (Blk.flat 3 1 (List.map (encI .i64) x1) x5), (Blk.flat 3 1 (List.map (encI .i64) ((ref02_Sort_o_L2_1_end x1 x8 x10 s).c12)) false)])) := by
  have e : itS (ref02_Sort_o_L2_1_sel x1 x8 x10) (ref02_Sort_o_L2_1_nx x1 x8 x10) bound s = some (ref02_Sort_o_L2_1_end x1 x8 x10 s) := itS_get hok
  have f := itS_false e
  exact loop_it (ref02_Sort_o_L2_1_go x0 x1 x2 x3 x4 x5 x6 x7 x8 x9 x10 x11 x12 x13) bound s _ _ _ e (fun h => by cases h) (ref02_Sort_o_L2_1_x0 x0 x1 x2 x3 x4 x5 x6 x7 x8 x9 x10 x11 x12 x13 (ref02_Sort_o_L2_1_end x1 x8 x10 s) f c0)

structure ref02_Sort_o_L3_s0 where mk ::
  deriving Inhabited

structure ref02_Sort_o_L3_s1 where
  c2 : Bool
  c3 : Int
  c7 : List Int
  deriving Inhabited

inductive ref02_Sort_o_L3_S where
  | h0 (v : ref02_Sort_o_L3_s0)
  | h1 (v : ref02_Sort_o_L3_s1)
  deriving Inhabited

def ref02_Sort_o_L3_is0 : ref02_Sort_o_L3_S → Bool
  | .h0 _ => true
  | _ => false

def ref02_Sort_o_L3_get0 : ref02_Sort_o_L3_S → ref02_Sort_o_L3_s0
  | .h0 v => v
  | _ => default

theorem ref02_Sort_o_L3_at0 {s : ref02_Sort_o_L3_S} (h : ref02_Sort_o_L3_is0 s = true) : s = .h0 (ref02_Sort_o_L3_get0 s) := by cases s <;> first | rfl | cases h

def ref02_Sort_o_L3_is1 : ref02_Sort_o_L3_S → Bool
  | .h1 _ => true
  | _ => false

def ref02_Sort_o_L3_get1 : ref02_Sort_o_L3_S → ref02_Sort_o_L3_s1
  | .h1 v => v
  | _ => default

theorem ref02_Sort_o_L3_at1 {s : ref02_Sort_o_L3_S} (h : ref02_Sort_o_L3_is1 s = true) : s = .h1 (ref02_Sort_o_L3_get1 s) := by cases s <;> first | rfl | cases h

def ref02_Sort_o_L3_enc (x0 : List Int) (x1 : Bool) (x2 : Bool) (x3 : Bool) (x4 : List Int) (x5 : Bool) (x6 : Int) : ref02_Sort_o_L3_S → List V × Mem
  | .h0 s0 => ([(V.d (slD (encI .i64) true 1 x3 x4)), (V.so x5 1 x0.length), (V.d (.int .i64 x6))], [(Blk.flat 3 1 [] x1), (Blk.flat 3 1 (List.map (encI .i64) x0) x2)])
  | .h1 s0 => ([(V.d (slD (encI .i64) true 1 x3 x4)), (V.so s0.c2 2 s0.c7.length), (V.d (.int .i64 s0.c3))], [(Blk.flat 3 1 [] x1), (Blk.flat 3 1 (List.map (encI .i64) x0) x2), (Blk.flat 3 1 (List.map (encI .i64) s0.c7) false)])

def ref02_Sort_o_L3_h0_e0 (x0 : List Int) (x4 : List Int) (x6 : Int) : ref02_Sort_o_L2_s0 := ref02_Sort_o_L2_end x0 x4 x6 (⟨true, false, 0, ([] : List Int)⟩ : ref02_Sort_o_L2_s0)

def ref02_Sort_o_L3_h1_e0 (x4 : List Int) (s0 : ref02_Sort_o_L3_s1) : ref02_Sort_o_L2_1_s0 := ref02_Sort_o_L2_1_end s0.c7 x4 s0.c3 (⟨true, false, 0, ([] : List Int)⟩ : ref02_Sort_o_L2_1_s0)

def ref02_Sort_o_L3_h0_sel (x0 : List Int) (x4 : List Int) (x6 : Int) (s0 : ref02_Sort_o_L3_s0) : Bool := (bif tb (ref02_Sort_o_S1_c0 x4 x6) then (bif tb (ref02_Sort_o_L2_ok x0 x4 x6 (⟨true, false, 0, ([] : List Int)⟩ : ref02_Sort_o_L2_s0)) then (bif tb (ref02_Sort_o_L2_c0 x0 (ref02_Sort_o_L3_h0_e0 x0 x4 x6)) then (bif tb ((ref02_Sort_o_L3_h0_e0 x0 x4 x6).c5) then true else (bif tb (inb x4.length x6) then (bif tb (decide ((((ref02_Sort_o_L3_h0_e0 x0 x4 x6).c10).length + [(gt x4 x6)].length) * 8 ≤ 140737488355328)) then true else false) else false)) else false) else false) else false)

def ref02_Sort_o_L3_h0_nx (x0 : List Int) (x4 : List Int) (x6 : Int) (s0 : ref02_Sort_o_L3_s0) : ref02_Sort_o_L3_S := (bif tb ((ref02_Sort_o_L3_h0_e0 x0 x4 x6).c5) then .h1 ⟨((ref02_Sort_o_L3_h0_e0 x0 x4 x6).c4), (wi (x6 + 1)), ((ref02_Sort_o_L3_h0_e0 x0 x4 x6).c10)⟩ else .h1 ⟨false, (wi (x6 + 1)), (((ref02_Sort_o_L3_h0_e0 x0 x4 x6).c10) ++ [(gt x4 x6)])⟩)

def ref02_Sort_o_L3_h1_sel (x0 : List Int) (x4 : List Int) (x6 : Int) (s0 : ref02_Sort_o_L3_s1) : Bool := (bif tb (ref02_Sort_o_S1_1_c0 x4 s0.c3) then (bif tb (ref02_Sort_o_L2_1_ok s0.c7 x4 s0.c3 (⟨true, false, 0, ([] : List Int)⟩ : ref02_Sort_o_L2_1_s0)) then (bif tb (ref02_Sort_o_L2_1_c0 s0.c7 (ref02_Sort_o_L3_h1_e0 x4 s0)) then (bif tb ((ref02_Sort_o_L3_h1_e0 x4 s0).c5) then true else (bif tb (inb x4.length s0.c3) then (bif tb (decide ((((ref02_Sort_o_L3_h1_e0 x4 s0).c12).length + [(gt x4 s0.c3)].length) * 8 ≤ 140737488355328)) then true else false) else false)) else false) else false) else false)

def ref02_Sort_o_L3_h1_nx (x0 : List Int) (x4 : List Int) (x6 : Int) (s0 : ref02_Sort_o_L3_s1) : ref02_Sort_o_L3_S := (bif tb ((ref02_Sort_o_L3_h1_e0 x4 s0).c5) then .h1 ⟨((ref02_Sort_o_L3_h1_e0 x4 s0).c4), (wi (s0.c3 + 1)), ((ref02_Sort_o_L3_h1_e0 x4 s0).c12)⟩ else .h1 ⟨false, (wi (s0.c3 + 1)), (((ref02_Sort_o_L3_h1_e0 x4 s0).c12) ++ [(gt x4 s0.c3)])⟩)

def ref02_Sort_o_L3_sel (x0 : List Int) (x4 : List Int) (x6 : Int) : ref02_Sort_o_L3_S → Bool
  | .h0 v => ref02_Sort_o_L3_h0_sel x0 x4 x6 v
  | .h1 v => ref02_Sort_o_L3_h1_sel x0 x4 x6 v

def ref02_Sort_o_L3_nx (x0 : List Int) (x4 : List Int) (x6 : Int) : ref02_Sort_o_L3_S → ref02_Sort_o_L3_S
  | .h0 v => ref02_Sort_o_L3_h0_nx x0 x4 x6 v
  | .h1 v => ref02_Sort_o_L3_h1_nx x0 x4 x6 v

def ref02_Sort_o_L3_ok (x0 : List Int) (x4 : List Int) (x6 : Int) (s0 : ref02_Sort_o_L3_S) : Bool := (itS (ref02_Sort_o_L3_sel x0 x4 x6) (ref02_Sort_o_L3_nx x0 x4 x6) bound s0).isSome
def ref02_Sort_o_L3_end (x0 : List Int) (x4 : List Int) (x6 : Int) (s0 : ref02_Sort_o_L3_S) : ref02_Sort_o_L3_S := (itS (ref02_Sort_o_L3_sel x0 x4 x6) (ref02_Sort_o_L3_nx x0 x4 x6) bound s0).getD default

theorem ref02_Sort_o_L3_h0_go (x0 : List Int) (x1 : Bool) (x2 : Bool) (x3 : Bool) (x4 : List Int) (x5 : Bool) (x6 : Int) (s0 : ref02_Sort_o_L3_s0) : ref02_Sort_o_L3_h0_sel x0 x4 x6 s0 = true → (roundG (runC E0 (cl E0) L19_3) [0, 4, 5] [4] 2) (ref02_Sort_o_L3_enc x0 x1 x2 x3 x4 x5 x6 (.h0 s0)) = some (.normal, ref02_Sort_o_L3_enc x0 x1 x2 x3 x4 x5 x6 (ref02_Sort_o_L3_h0_nx x0 x4 x6 s0)) := by
  unfold ref02_Sort_o_L3_h0_sel ref02_Sort_o_L3_h0_nx
  cases h1 : tb (ref02_Sort_o_S1_c0 x4 x6)
  · intro g0
    exact absurd g0 ft
  · cases h2 : tb (ref02_Sort_o_L2_ok x0 x4 x6 (⟨true, false, 0, ([] : List Int)⟩ : ref02_Sort_o_L2_s0))
    · intro g0
      exact absurd g0 ft
    · cases h3 : tb (ref02_Sort_o_L2_c0 x0 (ref02_Sort_o_L3_h0_e0 x0 x4 x6))
      · intro g0
        exact absurd g0 ft
      · cases h4 : tb ((ref02_Sort_o_L3_h0_e0 x0 x4 x6).c5)
        · cases h5 : tb (inb x4.length x6)
          · intro g0
            exact absurd g0 ft
          · cases h6 : tb (decide ((((ref02_Sort_o_L3_h0_e0 x0 x4 x6).c10).length + [(gt x4 x6)].length) * 8 ≤ 140737488355328))
            · intro g0
              exact absurd g0 ft
            · intro _
              exact round_walk [.s (ref02_Sort_o_S1_t0 x0 x1 x2 x3 x4 x5 x6 (tbE h1)), .l (ref02_Sort_o_L2_f0_0 x0 ([] : List Int) x1 x2 false x3 x4 x5 x6 true false 0 (⟨true, false, 0, ([] : List Int)⟩ : ref02_Sort_o_L2_s0) (tbE h2) (tbE h3)), .b (notF (tbE h4)), .o 57 (fun _ => o_idx_os (enc := (encI .i64)) (l := x4) (fl := true) (n := x3) (s := 1) (k := .i64) (tbE h5)), .m 60 (o_app_so (nl := ((ref02_Sort_o_L3_h0_e0 x0 x4 x6).c4)) (m := [(Blk.flat 3 1 [] x1), (Blk.flat 3 1 (List.map (encI .i64) x0) x2), (Blk.flat 3 1 (List.map (encI .i64) ((ref02_Sort_o_L3_h0_e0 x0 x4 x6).c10)) false), (Blk.flat 3 1 [[(.int .i64 (gt x4 x6))]] false)]) (enc := (encI .i64)) (l0 := ((ref02_Sort_o_L3_h0_e0 x0 x4 x6).c10)) (l1 := [(gt x4 x6)]) (id := 2) (e := 3) (s := 1) (bytes := 8) (x := (V.so false 3 1)) (n := (((ref02_Sort_o_L3_h0_e0 x0 x4 x6).c10).length)) (Nat.beq_refl _) (by kernel_rfl) (by kernel_rfl) (by kernel_rfl) (tbE h6))] (by kernel_rfl)
        · intro _
          exact round_walk [.s (ref02_Sort_o_S1_t0 x0 x1 x2 x3 x4 x5 x6 (tbE h1)), .l (ref02_Sort_o_L2_f0_0 x0 ([] : List Int) x1 x2 false x3 x4 x5 x6 true false 0 (⟨true, false, 0, ([] : List Int)⟩ : ref02_Sort_o_L2_s0) (tbE h2) (tbE h3)), .b (notT (tbE h4))] (by kernel_rfl)

def ref02_Sort_o_L3_h0_c0 (x4 : List Int) (x6 : Int) : Bool := (bif tb (ref02_Sort_o_S1_c0 x4 x6) then false else true)

theorem ref02_Sort_o_L3_h0_x0 (x0 : List Int) (x1 : Bool) (x2 : Bool) (x3 : Bool) (x4 : List Int) (x5 : Bool) (x6 : Int) (s0 : ref02_Sort_o_L3_s0) : ref02_Sort_o_L3_h0_sel x0 x4 x6 s0 = false → ref02_Sort_o_L3_h0_c0 x4 x6 = true → (roundG (runC E0 (cl E0) L19_3) [0, 4, 5] [4] 2) (ref02_Sort_o_L3_enc x0 x1 x2 x3 x4 x5 x6 (.h0 s0)) = some ((.exit 0), ([(V.so x5 1 x0.length)], [(Blk.flat 3 1 [] x1), (Blk.flat 3 1 (List.map (encI .i64) x0) x2)])) := by
  unfold ref02_Sort_o_L3_h0_sel ref02_Sort_o_L3_h0_c0
  cases h1 : tb (ref02_Sort_o_S1_c0 x4 x6)
  · intro g0 g1
    exact round_walk [.s (ref02_Sort_o_S1_t1 x0 x1 x2 x3 x4 x5 x6 (tbE h1))] (by kernel_rfl)
  · cases h2 : tb (ref02_Sort_o_L2_ok x0 x4 x6 (⟨true, false, 0, ([] : List Int)⟩ : ref02_Sort_o_L2_s0))
    · intro g0 g1
      exact absurd g1 ft
    · cases h3 : tb (ref02_Sort_o_L2_c0 x0 (ref02_Sort_o_L3_h0_e0 x0 x4 x6))
      · intro g0 g1
        exact absurd g1 ft
      · cases h4 : tb ((ref02_Sort_o_L3_h0_e0 x0 x4 x6).c5)
        · cases h5 : tb (inb x4.length x6)
          · intro g0 g1
            exact absurd g1 ft
          · cases h6 : tb (decide ((((ref02_Sort_o_L3_h0_e0 x0 x4 x6).c10).length + [(gt x4 x6)].length) * 8 ≤ 140737488355328))
            · intro g0 g1
              exact absurd g1 ft
            · intro g0 g1
              exact absurd g0 tf
        · intro g0 g1
          exact absurd g0 tf

theorem ref02_Sort_o_L3_h1_go (x0 : List Int) (x1 : Bool) (x2 : Bool) (x3 : Bool) (x4 : List Int) (x5 : Bool) (x6 : Int) (s0 : ref02_Sort_o_L3_s1) : ref02_Sort_o_L3_h1_sel x0 x4 x6 s0 = true → (roundG (runC E0 (cl E0) L19_3) [0, 4, 5] [4] 2) (ref02_Sort_o_L3_enc x0 x1 x2 x3 x4 x5 x6 (.h1 s0)) = some (.normal, ref02_Sort_o_L3_enc x0 x1 x2 x3 x4 x5 x6 (ref02_Sort_o_L3_h1_nx x0 x4 x6 s0)) := by
  unfold ref02_Sort_o_L3_h1_sel ref02_Sort_o_L3_h1_nx
  cases h1 : tb (ref02_Sort_o_S1_1_c0 x4 s0.c3)
  · intro g0
    exact absurd g0 ft
  · cases h2 : tb (ref02_Sort_o_L2_1_ok s0.c7 x4 s0.c3 (⟨true, false, 0, ([] : List Int)⟩ : ref02_Sort_o_L2_1_s0))
    · intro g0
      exact absurd g0 ft
    · cases h3 : tb (ref02_Sort_o_L2_1_c0 s0.c7 (ref02_Sort_o_L3_h1_e0 x4 s0))
      · intro g0
        exact absurd g0 ft
      · cases h4 : tb ((ref02_Sort_o_L3_h1_e0 x4 s0).c5)
        · cases h5 : tb (inb x4.length s0.c3)
          · intro g0
            exact absurd g0 ft
          · cases h6 : tb (decide ((((ref02_Sort_o_L3_h1_e0 x4 s0).c12).length + [(gt x4 s0.c3)].length) * 8 ≤ 140737488355328))
            · intro g0
              exact absurd g0 ft
            · intro _
              exact round_walk [.s (ref02_Sort_o_S1_1_t0 x0 s0.c7 x1 x2 false x3 x4 s0.c2 s0.c3 (tbE h1)), .l (ref02_Sort_o_L2_1_f0_0 x0 s0.c7 ([] : List Int) x1 x2 false false x3 x4 s0.c2 s0.c3 true false 0 (⟨true, false, 0, ([] : List Int)⟩ : ref02_Sort_o_L2_1_s0) (tbE h2) (tbE h3)), .b (notF (tbE h4)), .o 57 (fun _ => o_idx_os (enc := (encI .i64)) (l := x4) (fl := true) (n := x3) (s := 1) (k := .i64) (tbE h5)), .m 60 (o_app_so (nl := ((ref02_Sort_o_L3_h1_e0 x4 s0).c4)) (m := [(Blk.flat 3 1 [] x1), (Blk.flat 3 1 (List.map (encI .i64) x0) x2), (Blk.flat 3 1 (List.map (encI .i64) s0.c7) false), (Blk.flat 3 1 (List.map (encI .i64) ((ref02_Sort_o_L3_h1_e0 x4 s0).c12)) false), (Blk.flat 3 1 [[(.int .i64 (gt x4 s0.c3))]] false)]) (enc := (encI .i64)) (l0 := ((ref02_Sort_o_L3_h1_e0 x4 s0).c12)) (l1 := [(gt x4 s0.c3)]) (id := 3) (e := 3) (s := 1) (bytes := 8) (x := (V.so false 4 1)) (n := (((ref02_Sort_o_L3_h1_e0 x4 s0).c12).length)) (Nat.beq_refl _) (by kernel_rfl) (by kernel_rfl) (by kernel_rfl) (tbE h6))] (by kernel_rfl)
        · intro _
          exact round_walk [.s (ref02_Sort_o_S1_1_t0 x0 s0.c7 x1 x2 false x3 x4 s0.c2 s0.c3 (tbE h1)), .l (ref02_Sort_o_L2_1_f0_0 x0 s0.c7 ([] : List Int) x1 x2 false false x3 x4 s0.c2 s0.c3 true false 0 (⟨true, false, 0, ([] : List Int)⟩ : ref02_Sort_o_L2_1_s0) (tbE h2) (tbE h3)), .b (notT (tbE h4))] (by kernel_rfl)

def ref02_Sort_o_L3_h1_c0 (x4 : List Int) (s0 : ref02_Sort_o_L3_s1) : Bool := (bif tb (ref02_Sort_o_S1_1_c0 x4 s0.c3) then false else true)

theorem ref02_Sort_o_L3_h1_x0 (x0 : List Int) (x1 : Bool) (x2 : Bool) (x3 : Bool) (x4 : List Int) (x5 : Bool) (x6 : Int) (s0 : ref02_Sort_o_L3_s1) : ref02_Sort_o_L3_h1_sel x0 x4 x6 s0 = false → ref02_Sort_o_L3_h1_c0 x4 s0 = true → (roundG (runC E0 (cl E0) L19_3) [0, 4, 5] [4] 2) (ref02_Sort_o_L3_enc x0 x1 x2 x3 x4 x5 x6 (.h1 s0)) = some ((.exit 0), ([(V.so s0.c2 2 s0.c7.length)], [(Blk.flat 3 1 [] x1), (Blk.flat 3 1 (List.map (encI .i64) x0) x2), (Blk.flat 3 1 (List.map (encI .i64) s0.c7) false)])) := by
  unfold ref02_Sort_o_L3_h1_sel ref02_Sort_o_L3_h1_c0
  cases h1 : tb (ref02_Sort_o_S1_1_c0 x4 s0.c3)
  · intro g0 g1
    exact round_walk [.s (ref02_Sort_o_S1_1_t1 x0 s0.c7 x1 x2 false x3 x4 s0.c2 s0.c3 (tbE h1))] (by kernel_rfl)
  · cases h2 : tb (ref02_Sort_o_L2_1_ok s0.c7 x4 s0.c3 (⟨true, false, 0, ([] : List Int)⟩ : ref02_Sort_o_L2_1_s0))
    · intro g0 g1
      exact absurd g1 ft
    · cases h3 : tb (ref02_Sort_o_L2_1_c0 s0.c7 (ref02_Sort_o_L3_h1_e0 x4 s0))
      · intro g0 g1
        exact absurd g1 ft
      · cases h4 : tb ((ref02_Sort_o_L3_h1_e0 x4 s0).c5)
        · cases h5 : tb (inb x4.length s0.c3)
          · intro g0 g1
            exact absurd g1 ft
          · cases h6 : tb (decide ((((ref02_Sort_o_L3_h1_e0 x4 s0).c12).length + [(gt x4 s0.c3)].length) * 8 ≤ 140737488355328))
            · intro g0 g1
              exact absurd g1 ft
            · intro g0 g1
              exact absurd g0 tf
        · intro g0 g1
          exact absurd g0 tf

theorem ref02_Sort_o_L3_go (x0 : List Int) (x1 : Bool) (x2 : Bool) (x3 : Bool) (x4 : List Int) (x5 : Bool) (x6 : Int) : ∀ s, ref02_Sort_o_L3_sel x0 x4 x6 s = true → (roundG (runC E0 (cl E0) L19_3) [0, 4, 5] [4] 2) (ref02_Sort_o_L3_enc x0 x1 x2 x3 x4 x5 x6 s) = some (.normal, ref02_Sort_o_L3_enc x0 x1 x2 x3 x4 x5 x6 (ref02_Sort_o_L3_nx x0 x4 x6 s))
  | .h0 s0, h => ref02_Sort_o_L3_h0_go x0 x1 x2 x3 x4 x5 x6 s0 h
  | .h1 s0, h => ref02_Sort_o_L3_h1_go x0 x1 x2 x3 x4 x5 x6 s0 h

theorem ref02_Sort_o_L3_f0_0 (x0 : List Int) (x1 : Bool) (x2 : Bool) (x3 : Bool) (x4 : List Int) (x5 : Bool) (x6 : Int) (s : ref02_Sort_o_L3_S) (hok : ref02_Sort_o_L3_ok x0 x4 x6 s = true) (k0 : ref02_Sort_o_L3_is0 (ref02_Sort_o_L3_end x0 x4 x6 s) = true) (c0 : ref02_Sort_o_L3_h0_c0 x4 x6 = true) : loopG (roundG (runC E0 (cl E0) L19_3) [0, 4, 5] [4] 2) bound (ref02_Sort_o_L3_enc x0 x1 x2 x3 x4 x5 x6 s) = some ((.exit 0), ([(V.so x5 1 x0.length)], [(Blk.flat 3 1 [] x1), (Blk.flat 3 1 (List.map (encI .i64) x0) x2)])) := by
  have e : itS (ref02_Sort_o_L3_sel x0 x4 x6) (ref02_Sort_o_L3_nx x0 x4 x6) bound s = some (ref02_Sort_o_L3_end x0 x4 x6 s) := itS_get hok
  have f := itS_false e
  have a := ref02_Sort_o_L3_at0 k0
  have g := ref02_Sort_o_L3_h0_x0 x0 x1 x2 x3 x4 x5 x6 (ref02_Sort_o_L3_get0 (ref02_Sort_o_L3_end x0 x4 x6 s)) (by rw [a] at f; exact f) c0
  exact loop_it (ref02_Sort_o_L3_go x0 x1 x2 x3 x4 x5 x6) bound s _ _ _ e (fun h => by cases h) (by rw [a]; exact g)

theorem ref02_Sort_o_L3_f1_0 (x0 : List Int) (x1 : Bool) (x2 : Bool) (x3 : Bool) (x4 : List Int) (x5 : Bool) (x6 : Int) (s : ref02_Sort_o_L3_S) (hok : ref02_Sort_o_L3_ok x0 x4 x6 s = true) (k0 : ref02_Sort_o_L3_is0 (ref02_Sort_o_L3_end x0 x4 x6 s) = false) (c0 : ref02_Sort_o_L3_h1_c0 x4 (ref02_Sort_o_L3_get1 (ref02_Sort_o_L3_end x0 x4 x6 s)) = true) : loopG (roundG (runC E0 (cl E0) L19_3) [0, 4, 5] [4] 2) bound (ref02_Sort_o_L3_enc x0 x1 x2 x3 x4 x5 x6 s) = some ((.exit 0), ([(V.so ((ref02_Sort_o_L3_get1 (ref02_Sort_o_L3_end x0 x4 x6 s)).c2) 2 (((ref02_Sort_o_L3_get1 (ref02_Sort_o_L3_end x0 x4 x6 s)).c7).length))], [(Blk.flat 3 1 [] x1), (Blk.flat 3 1 (List.map (encI .i64) x0) x2), (Blk.flat 3 1 (List.map (encI .i64) ((ref02_Sort_o_L3_get1 (ref02_Sort_o_L3_end x0 x4 x6 s)).c7)) false)])) := by
  have e : itS (ref02_Sort_o_L3_sel x0 x4 x6) (ref02_Sort_o_L3_nx x0 x4 x6) bound s = some (ref02_Sort_o_L3_end x0 x4 x6 s) := itS_get hok
  have f := itS_false e
  have a : (ref02_Sort_o_L3_end x0 x4 x6 s) = .h1 (ref02_Sort_o_L3_get1 (ref02_Sort_o_L3_end x0 x4 x6 s)) := by
    revert k0
    cases (ref02_Sort_o_L3_end x0 x4 x6 s) with
    | h0 w => intros; contradiction
    | h1 w => intros; rfl
  have g := ref02_Sort_o_L3_h1_x0 x0 x1 x2 x3 x4 x5 x6 (ref02_Sort_o_L3_get1 (ref02_Sort_o_L3_end x0 x4 x6 s)) (by rw [a] at f; exact f) c0
  exact loop_it (ref02_Sort_o_L3_go x0 x1 x2 x3 x4 x5 x6) bound s _ _ _ e (fun h => by cases h) (by rw [a]; exact g)

def ref02_Sort_o_e0 (x1 : List Int) : ref02_Sort_o_L3_S := ref02_Sort_o_L3_end ([] : List Int) x1 0 (.h0 ⟨⟩ : ref02_Sort_o_L3_S)

def ref02_Sort_o_c0 (x1 : List Int) : Bool := (bif tb (ref02_Right_o_c0 x1) then (bif tb (ref02_Sort_o_S0_c0 (ref02_Right_o_r0_0 x1)) then (bif tb (ref02_Sort_o_L3_ok ([] : List Int) x1 0 (.h0 ⟨⟩ : ref02_Sort_o_L3_S)) then (bif tb (ref02_Sort_o_L3_is0 (ref02_Sort_o_e0 x1)) then (bif tb (ref02_Sort_o_L3_h0_c0 x1 0) then true else false) else (bif tb (ref02_Sort_o_L3_h1_c0 x1 (ref02_Sort_o_L3_get1 (ref02_Sort_o_e0 x1))) then true else false)) else false) else true) else false)

def ref02_Sort_o_r0_0 (x1 : List Int) : Bool := (bif tb (ref02_Sort_o_S0_c0 (ref02_Right_o_r0_0 x1)) then (bif tb (ref02_Sort_o_L3_is0 (ref02_Sort_o_e0 x1)) then true else ((ref02_Sort_o_L3_get1 (ref02_Sort_o_e0 x1)).c2)) else true)

def ref02_Sort_o_r0_1 (x1 : List Int) : List Int := (bif tb (ref02_Sort_o_S0_c0 (ref02_Right_o_r0_0 x1)) then (bif tb (ref02_Sort_o_L3_is0 (ref02_Sort_o_e0 x1)) then ([] : List Int) else ((ref02_Sort_o_L3_get1 (ref02_Sort_o_e0 x1)).c7)) else ([] : List Int))

theorem ref02_Sort_o_t0 (x0 : Bool) (x1 : List Int) : ref02_Sort_o_c0 x1 = true → cl E0 19 [(V.d (slD (encI .i64) true 1 x0 x1))] [] = some ([(V.so (ref02_Sort_o_r0_0 x1) 0 ((ref02_Sort_o_r0_1 x1).length))], [(Blk.flat 3 1 (List.map (encI .i64) (ref02_Sort_o_r0_1 x1)) false)]) := by
  unfold ref02_Sort_o_c0 ref02_Sort_o_r0_0 ref02_Sort_o_r0_1
  cases h1 : tb (ref02_Right_o_c0 x1)
  · intro g0
    exact absurd g0 ft
  · cases h2 : tb (ref02_Sort_o_S0_c0 (ref02_Right_o_r0_0 x1))
    · intro g0
      exact w19 [.c (ref02_Right_o_t0 x0 x1 (tbE h1)), .s (ref02_Sort_o_S0_t1 false x0 x1 (ref02_Right_o_r0_0 x1) (tbE h2))] (by kernel_rfl)
    · cases h3 : tb (ref02_Sort_o_L3_ok ([] : List Int) x1 0 (.h0 ⟨⟩ : ref02_Sort_o_L3_S))
      · intro g0
        exact absurd g0 ft
      · cases h4 : tb (ref02_Sort_o_L3_is0 (ref02_Sort_o_e0 x1))
        · cases h5 : tb (ref02_Sort_o_L3_h1_c0 x1 (ref02_Sort_o_L3_get1 (ref02_Sort_o_e0 x1)))
          · intro g0
            exact absurd g0 ft
          · intro g0
            exact w19 [.c (ref02_Right_o_t0 x0 x1 (tbE h1)), .s (ref02_Sort_o_S0_t0 false x0 x1 (ref02_Right_o_r0_0 x1) (tbE h2)), .l (ref02_Sort_o_L3_f1_0 ([] : List Int) false false x0 x1 true 0 (.h0 ⟨⟩ : ref02_Sort_o_L3_S) (tbE h3) (tbE h4) (tbE h5))] (by kernel_rfl)
        · cases h5 : tb (ref02_Sort_o_L3_h0_c0 x1 0)
          · intro g0
            exact absurd g0 ft
          · intro g0
            exact w19 [.c (ref02_Right_o_t0 x0 x1 (tbE h1)), .s (ref02_Sort_o_S0_t0 false x0 x1 (ref02_Right_o_r0_0 x1) (tbE h2)), .l (ref02_Sort_o_L3_f0_0 ([] : List Int) false false x0 x1 true 0 (.h0 ⟨⟩ : ref02_Sort_o_L3_S) (tbE h3) (tbE h4) (tbE h5))] (by kernel_rfl)

def ref02_half_ii_r0_0 (x0 : Int) (x1 : Int) : Int := (bif tb (decide (0 ≤ (wi (x0 + x1)))) then (quoI .i64 (wi (x0 + x1)) 2) else (wi (0 - (quoI .i64 (wi (1 - (wi (x0 + x1)))) 2))))

theorem ref02_half_ii_t0 (x0 : Int) (x1 : Int) : cl E0 64 [(V.d (.int .i64 x0)), (V.d (.int .i64 x1))] [] = some ([(V.d (.int .i64 (ref02_half_ii_r0_0 x0 x1)))], []) := by
  unfold ref02_half_ii_r0_0
  cases h1 : tb (decide (0 ≤ (wi (x0 + x1))))
  · exact w64 [.b (tbE h1)] (by kernel_rfl)
  · exact w64 [.b (tbE h1)] (by kernel_rfl)

def ref02_Mid_o_S1_c0 (x1 : List Int) : Bool := (bif tb (ref02_Sort_o_c0 x1) then (bif tb (((((ref02_Sort_o_r0_1 x1).length : Nat) : Int) : Int) == 1) then (bif tb (inb ((ref02_Sort_o_r0_1 x1).length) 0) then true else false) else (bif tb (((((ref02_Sort_o_r0_1 x1).length : Nat) : Int) : Int) == 2) then (bif tb (inb ((ref02_Sort_o_r0_1 x1).length) 0) then (bif tb (inb ((ref02_Sort_o_r0_1 x1).length) 1) then true else false) else false) else (bif tb (((((ref02_Sort_o_r0_1 x1).length : Nat) : Int) : Int) == 3) then (bif tb (inb ((ref02_Sort_o_r0_1 x1).length) 1) then true else false) else false))) else false)

def ref02_Mid_o_S1_r0_0 (x1 : List Int) : Int := (bif tb (((((ref02_Sort_o_r0_1 x1).length : Nat) : Int) : Int) == 1) then (gt (ref02_Sort_o_r0_1 x1) 0) else (bif tb (((((ref02_Sort_o_r0_1 x1).length : Nat) : Int) : Int) == 2) then (ref02_half_ii_r0_0 (gt (ref02_Sort_o_r0_1 x1) 0) (gt (ref02_Sort_o_r0_1 x1) 1)) else (gt (ref02_Sort_o_r0_1 x1) 1)))

def ref02_Mid_o_S1_c1 (x1 : List Int) : Bool := (bif tb (ref02_Sort_o_c0 x1) then (bif tb (((((ref02_Sort_o_r0_1 x1).length : Nat) : Int) : Int) == 1) then false else (bif tb (((((ref02_Sort_o_r0_1 x1).length : Nat) : Int) : Int) == 2) then false else (bif tb (((((ref02_Sort_o_r0_1 x1).length : Nat) : Int) : Int) == 3) then false else (bif tb (inb ((ref02_Sort_o_r0_1 x1).length) 1) then (bif tb (inb ((ref02_Sort_o_r0_1 x1).length) 2) then true else false) else false)))) else false)

theorem ref02_Mid_o_S1_t0 (x0 : Bool) (x1 : List Int) : ref02_Mid_o_S1_c0 x1 = true → segG (runC E0 (cl E0) S16_1) [0] [2, 3] [2, 3] 0 ([(V.d (slD (encI .i64) true 1 x0 x1))], []) = some (.ret, ([(V.d (.int .i64 (ref02_Mid_o_S1_r0_0 x1))), (V.d (.bool true))], [])) := by
  unfold ref02_Mid_o_S1_c0 ref02_Mid_o_S1_r0_0
  cases h1 : tb (ref02_Sort_o_c0 x1)
  · intro g0
    exact absurd g0 ft
  · cases h2 : tb (((((ref02_Sort_o_r0_1 x1).length : Nat) : Int) : Int) == 1)
    · cases h3 : tb (((((ref02_Sort_o_r0_1 x1).length : Nat) : Int) : Int) == 2)
      · cases h4 : tb (((((ref02_Sort_o_r0_1 x1).length : Nat) : Int) : Int) == 3)
        · cases h5 : tb (inb ((ref02_Sort_o_r0_1 x1).length) 1)
          · intro g0
            exact absurd g0 ft
          · cases h6 : tb (inb ((ref02_Sort_o_r0_1 x1).length) 2)
            · intro g0
              exact absurd g0 ft
            · intro g0
              exact absurd g0 ft
        · cases h5 : tb (inb ((ref02_Sort_o_r0_1 x1).length) 1)
          · intro g0
            exact absurd g0 ft
          · intro g0
            exact seg_walk [.c (ref02_Sort_o_t0 x0 x1 (tbE h1)), .b (tbE h2), .b (tbE h3), .b (tbE h4), .m 41 (o_idx_so (m := [(Blk.flat 3 1 (List.map (encI .i64) (ref02_Sort_o_r0_1 x1)) false)]) (b := (ref02_Sort_o_r0_0 x1)) (id := 0) (n := ((ref02_Sort_o_r0_1 x1).length)) (s := 1) (k := .i64) (by kernel_rfl) (tbE h5)), .m 42 (o_load_L (m := [(Blk.flat 3 1 (List.map (encI .i64) (ref02_Sort_o_r0_1 x1)) false)]) (enc := (encI .i64)) (l := (ref02_Sort_o_r0_1 x1)) (id := 0) (e := 3) (s := 1) (off := 0) (size := 1) (p := false) (agg := false) (i := 1) (v := (V.d (.int .i64 (gt (ref02_Sort_o_r0_1 x1) 1)))) (n := ((ref02_Sort_o_r0_1 x1).length)) (Nat.beq_refl _) (by kernel_rfl) (tbE h5) (by kernel_rfl))] (by kernel_rfl)
      · cases h4 : tb (inb ((ref02_Sort_o_r0_1 x1).length) 0)
        · intro g0
          exact absurd g0 ft
        · cases h5 : tb (inb ((ref02_Sort_o_r0_1 x1).length) 1)
          · intro g0
            exact absurd g0 ft
          · intro g0
            exact seg_walk [.c (ref02_Sort_o_t0 x0 x1 (tbE h1)), .b (tbE h2), .b (tbE h3), .m 32 (o_idx_so (m := [(Blk.flat 3 1 (List.map (encI .i64) (ref02_Sort_o_r0_1 x1)) true)]) (b := (ref02_Sort_o_r0_0 x1)) (id := 0) (n := ((ref02_Sort_o_r0_1 x1).length)) (s := 1) (k := .i64) (by kernel_rfl) (tbE h4)), .m 33 (o_load_L (m := [(Blk.flat 3 1 (List.map (encI .i64) (ref02_Sort_o_r0_1 x1)) true)]) (enc := (encI .i64)) (l := (ref02_Sort_o_r0_1 x1)) (id := 0) (e := 3) (s := 1) (off := 0) (size := 1) (p := true) (agg := false) (i := 0) (v := (V.d (.int .i64 (gt (ref02_Sort_o_r0_1 x1) 0)))) (n := ((ref02_Sort_o_r0_1 x1).length)) (Nat.beq_refl _) (by kernel_rfl) (tbE h4) (by kernel_rfl)), .m 35 (o_idx_so (m := [(Blk.flat 3 1 (List.map (encI .i64) (ref02_Sort_o_r0_1 x1)) true)]) (b := (ref02_Sort_o_r0_0 x1)) (id := 0) (n := ((ref02_Sort_o_r0_1 x1).length)) (s := 1) (k := .i64) (by kernel_rfl) (tbE h5)), .m 36 (o_load_L (m := [(Blk.flat 3 1 (List.map (encI .i64) (ref02_Sort_o_r0_1 x1)) true)]) (enc := (encI .i64)) (l := (ref02_Sort_o_r0_1 x1)) (id := 0) (e := 3) (s := 1) (off := 0) (size := 1) (p := true) (agg := false) (i := 1) (v := (V.d (.int .i64 (gt (ref02_Sort_o_r0_1 x1) 1)))) (n := ((ref02_Sort_o_r0_1 x1).length)) (Nat.beq_refl _) (by kernel_rfl) (tbE h5) (by kernel_rfl)), .c (ref02_half_ii_t0 (gt (ref02_Sort_o_r0_1 x1) 0) (gt (ref02_Sort_o_r0_1 x1) 1))] (by kernel_rfl)
    · cases h3 : tb (inb ((ref02_Sort_o_r0_1 x1).length) 0)
      · intro g0
        exact absurd g0 ft
      · intro g0
        exact seg_walk [.c (ref02_Sort_o_t0 x0 x1 (tbE h1)), .b (tbE h2), .m 27 (o_idx_so (m := [(Blk.flat 3 1 (List.map (encI .i64) (ref02_Sort_o_r0_1 x1)) false)]) (b := (ref02_Sort_o_r0_0 x1)) (id := 0) (n := ((ref02_Sort_o_r0_1 x1).length)) (s := 1) (k := .i64) (by kernel_rfl) (tbE h3)), .m 28 (o_load_L (m := [(Blk.flat 3 1 (List.map (encI .i64) (ref02_Sort_o_r0_1 x1)) false)]) (enc := (encI .i64)) (l := (ref02_Sort_o_r0_1 x1)) (id := 0) (e := 3) (s := 1) (off := 0) (size := 1) (p := false) (agg := false) (i := 0) (v := (V.d (.int .i64 (gt (ref02_Sort_o_r0_1 x1) 0)))) (n := ((ref02_Sort_o_r0_1 x1).length)) (Nat.beq_refl _) (by kernel_rfl) (tbE h3) (by kernel_rfl))] (by kernel_rfl)

theorem ref02_Mid_o_S1_t1 (x0 : Bool) (x1 : List Int) : ref02_Mid_o_S1_c0 x1 = false → ref02_Mid_o_S1_c1 x1 = true → segG (runC E0 (cl E0) S16_1) [0] [2, 3] [2, 3] 0 ([(V.d (slD (encI .i64) true 1 x0 x1))], []) = some (.normal, ([(V.d (.int .i64 (ref02_half_ii_r0_0 (gt (ref02_Sort_o_r0_1 x1) 1) (gt (ref02_Sort_o_r0_1 x1) 2)))), (V.d (.bool true))], [])) := by
  unfold ref02_Mid_o_S1_c0 ref02_Mid_o_S1_c1
  cases h1 : tb (ref02_Sort_o_c0 x1)
  · intro g0 g1
    exact absurd g1 ft
  · cases h2 : tb (((((ref02_Sort_o_r0_1 x1).length : Nat) : Int) : Int) == 1)
    · cases h3 : tb (((((ref02_Sort_o_r0_1 x1).length : Nat) : Int) : Int) == 2)
      · cases h4 : tb (((((ref02_Sort_o_r0_1 x1).length : Nat) : Int) : Int) == 3)
        · cases h5 : tb (inb ((ref02_Sort_o_r0_1 x1).length) 1)
          · intro g0 g1
            exact absurd g1 ft
          · cases h6 : tb (inb ((ref02_Sort_o_r0_1 x1).length) 2)
            · intro g0 g1
              exact absurd g1 ft
            · intro g0 g1
              exact seg_walk [.c (ref02_Sort_o_t0 x0 x1 (tbE h1)), .b (tbE h2), .b (tbE h3), .b (tbE h4), .m 44 (o_idx_so (m := [(Blk.flat 3 1 (List.map (encI .i64) (ref02_Sort_o_r0_1 x1)) true)]) (b := (ref02_Sort_o_r0_0 x1)) (id := 0) (n := ((ref02_Sort_o_r0_1 x1).length)) (s := 1) (k := .i64) (by kernel_rfl) (tbE h5)), .m 45 (o_load_L (m := [(Blk.flat 3 1 (List.map (encI .i64) (ref02_Sort_o_r0_1 x1)) true)]) (enc := (encI .i64)) (l := (ref02_Sort_o_r0_1 x1)) (id := 0) (e := 3) (s := 1) (off := 0) (size := 1) (p := true) (agg := false) (i := 1) (v := (V.d (.int .i64 (gt (ref02_Sort_o_r0_1 x1) 1)))) (n := ((ref02_Sort_o_r0_1 x1).length)) (Nat.beq_refl _) (by kernel_rfl) (tbE h5) (by kernel_rfl)), .m 47 (o_idx_so (m := [(Blk.flat 3 1 (List.map (encI .i64) (ref02_Sort_o_r0_1 x1)) true)]) (b := (ref02_Sort_o_r0_0 x1)) (id := 0) (n := ((ref02_Sort_o_r0_1 x1).length)) (s := 1) (k := .i64) (by kernel_rfl) (tbE h6)), .m 48 (o_load_L (m := [(Blk.flat 3 1 (List.map (encI .i64) (ref02_Sort_o_r0_1 x1)) true)]) (enc := (encI .i64)) (l := (ref02_Sort_o_r0_1 x1)) (id := 0) (e := 3) (s := 1) (off := 0) (size := 1) (p := true) (agg := false) (i := 2) (v := (V.d (.int .i64 (gt (ref02_Sort_o_r0_1 x1) 2)))) (n := ((ref02_Sort_o_r0_1 x1).length)) (Nat.beq_refl _) (by kernel_rfl) (tbE h6) (by kernel_rfl)), .c (ref02_half_ii_t0 (gt (ref02_Sort_o_r0_1 x1) 1) (gt (ref02_Sort_o_r0_1 x1) 2))] (by kernel_rfl)
        · cases h5 : tb (inb ((ref02_Sort_o_r0_1 x1).length) 1)
          · intro g0 g1
            exact absurd g1 ft
          · intro g0 g1
            exact absurd g0 tf
      · cases h4 : tb (inb ((ref02_Sort_o_r0_1 x1).length) 0)
        · intro g0 g1
          exact absurd g1 ft
        · cases h5 : tb (inb ((ref02_Sort_o_r0_1 x1).length) 1)
          · intro g0 g1
            exact absurd g1 ft
          · intro g0 g1
            exact absurd g0 tf
    · cases h3 : tb (inb ((ref02_Sort_o_r0_1 x1).length) 0)
      · intro g0 g1
        exact absurd g1 ft
      · intro g0 g1
        exact absurd g0 tf

def ref02_Mid_o_c0 (x1 : List Int) : Bool := (bif tb (ref02_Right_o_c0 x1) then (bif tb (ref02_Mid_o_S0_c0 x1 (ref02_Right_o_r0_0 x1)) then true else (bif tb (ref02_Mid_o_S1_c0 x1) then true else (bif tb (ref02_Mid_o_S1_c1 x1) then true else false))) else false)

def ref02_Mid_o_r0_0 (x1 : List Int) : Int := (bif tb (ref02_Mid_o_S0_c0 x1 (ref02_Right_o_r0_0 x1)) then 0 else (bif tb (ref02_Mid_o_S1_c0 x1) then (ref02_Mid_o_S1_r0_0 x1) else (ref02_half_ii_r0_0 (gt (ref02_Sort_o_r0_1 x1) 1) (gt (ref02_Sort_o_r0_1 x1) 2))))

def ref02_Mid_o_r0_1 (x1 : List Int) : Bool := (bif tb (ref02_Mid_o_S0_c0 x1 (ref02_Right_o_r0_0 x1)) then false else true)

theorem ref02_Mid_o_t0 (x0 : Bool) (x1 : List Int) : ref02_Mid_o_c0 x1 = true → cl E0 16 [(V.d (slD (encI .i64) true 1 x0 x1))] [] = some ([(V.d (.int .i64 (ref02_Mid_o_r0_0 x1))), (V.d (.bool (ref02_Mid_o_r0_1 x1)))], []) := by
  unfold ref02_Mid_o_c0 ref02_Mid_o_r0_0 ref02_Mid_o_r0_1
  cases h1 : tb (ref02_Right_o_c0 x1)
  · intro g0
    exact absurd g0 ft
  · cases h2 : tb (ref02_Mid_o_S0_c0 x1 (ref02_Right_o_r0_0 x1))
    · cases h3 : tb (ref02_Mid_o_S1_c0 x1)
      · cases h4 : tb (ref02_Mid_o_S1_c1 x1)
        · intro g0
          exact absurd g0 ft
        · intro g0
          exact w16 [.c (ref02_Right_o_t0 x0 x1 (tbE h1)), .s (ref02_Mid_o_S0_t1 x0 x1 (ref02_Right_o_r0_0 x1) (tbE h2)), .s (ref02_Mid_o_S1_t1 x0 x1 (tbE h3) (tbE h4))] (by kernel_rfl)
      · intro g0
        exact w16 [.c (ref02_Right_o_t0 x0 x1 (tbE h1)), .s (ref02_Mid_o_S0_t1 x0 x1 (ref02_Right_o_r0_0 x1) (tbE h2)), .s (ref02_Mid_o_S1_t0 x0 x1 (tbE h3))] (by kernel_rfl)
    · intro g0
      exact w16 [.c (ref02_Right_o_t0 x0 x1 (tbE h1)), .s (ref02_Mid_o_S0_t0 x0 x1 (ref02_Right_o_r0_0 x1) (tbE h2))] (by kernel_rfl)

structure ref02_Ints_oo_L0_s0 where
  c4 : Int
  deriving Inhabited

def ref02_Ints_oo_L0_enc (x0 : Bool) (x1 : List Int) (x2 : Bool) (x3 : List Int) (x4 : Int) (s0 : ref02_Ints_oo_L0_s0) : List V × Mem := ([(V.d (slD (encI .i64) true 1 x0 x1)), (V.d (slD (encI .i64) true 1 x2 x3)), (V.d (.int .i64 s0.c4))], [])

def ref02_Ints_oo_L0_sel (x1 : List Int) (x3 : List Int) (s0 : ref02_Ints_oo_L0_s0) : Bool := (bif tb (decide (s0.c4 < ((x1.length : Nat) : Int))) then (bif tb (inb x1.length s0.c4) then (bif tb (inb x3.length s0.c4) then (bif tb (((gt x1 s0.c4) : Int) != (gt x3 s0.c4)) then false else true) else false) else false) else false)

def ref02_Ints_oo_L0_nx (x1 : List Int) (x3 : List Int) (s0 : ref02_Ints_oo_L0_s0) : ref02_Ints_oo_L0_s0 := ⟨(wi (s0.c4 + 1))⟩

def ref02_Ints_oo_L0_ok (x1 : List Int) (x3 : List Int) (s0 : ref02_Ints_oo_L0_s0) : Bool := (itS (ref02_Ints_oo_L0_sel x1 x3) (ref02_Ints_oo_L0_nx x1 x3) bound s0).isSome
def ref02_Ints_oo_L0_end (x1 : List Int) (x3 : List Int) (s0 : ref02_Ints_oo_L0_s0) : ref02_Ints_oo_L0_s0 := (itS (ref02_Ints_oo_L0_sel x1 x3) (ref02_Ints_oo_L0_nx x1 x3) bound s0).getD default

theorem ref02_Ints_oo_L0_go (x0 : Bool) (x1 : List Int) (x2 : Bool) (x3 : List Int) (x4 : Int) (s0 : ref02_Ints_oo_L0_s0) : ref02_Ints_oo_L0_sel x1 x3 s0 = true → (roundG (runC E0 (cl E0) L17_0) [0, 1, 5] [4] 0) (ref02_Ints_oo_L0_enc x0 x1 x2 x3 x4 s0) = some (.normal, ref02_Ints_oo_L0_enc x0 x1 x2 x3 x4 (ref02_Ints_oo_L0_nx x1 x3 s0)) := by
  unfold ref02_Ints_oo_L0_sel ref02_Ints_oo_L0_nx
  cases h1 : tb (decide (s0.c4 < ((x1.length : Nat) : Int)))
  · intro g0
    exact absurd g0 ft
  · cases h2 : tb (inb x1.length s0.c4)
    · intro g0
      exact absurd g0 ft
    · cases h3 : tb (inb x3.length s0.c4)
      · intro g0
        exact absurd g0 ft
      · cases h4 : tb (((gt x1 s0.c4) : Int) != (gt x3 s0.c4))
        · intro _
          exact round_walk [.o 13 (fun _ => o_len_os (enc := (encI .i64)) (l := x1) (fl := true) (n := x0) (s := 1)), .b (tbE h1), .o 19 (fun _ => o_idx_os (enc := (encI .i64)) (l := x1) (fl := true) (n := x0) (s := 1) (k := .i64) (tbE h2)), .o 23 (fun _ => o_idx_os (enc := (encI .i64)) (l := x3) (fl := true) (n := x2) (s := 1) (k := .i64) (tbE h3)), .b (tbE h4)] (by kernel_rfl)
        · intro g0
          exact absurd g0 ft

def ref02_Ints_oo_L0_c0 (x1 : List Int) (x3 : List Int) (s0 : ref02_Ints_oo_L0_s0) : Bool := (bif tb (decide (s0.c4 < ((x1.length : Nat) : Int))) then (bif tb (inb x1.length s0.c4) then (bif tb (inb x3.length s0.c4) then true else false) else false) else false)

def ref02_Ints_oo_L0_c1 (x1 : List Int) (s0 : ref02_Ints_oo_L0_s0) : Bool := (bif tb (decide (s0.c4 < ((x1.length : Nat) : Int))) then false else true)

theorem ref02_Ints_oo_L0_x0 (x0 : Bool) (x1 : List Int) (x2 : Bool) (x3 : List Int) (x4 : Int) (s0 : ref02_Ints_oo_L0_s0) : ref02_Ints_oo_L0_sel x1 x3 s0 = false → ref02_Ints_oo_L0_c0 x1 x3 s0 = true → (roundG (runC E0 (cl E0) L17_0) [0, 1, 5] [4] 0) (ref02_Ints_oo_L0_enc x0 x1 x2 x3 x4 s0) = some (.ret, ([(V.d (.bool false))], [])) := by
  unfold ref02_Ints_oo_L0_sel ref02_Ints_oo_L0_c0
  cases h1 : tb (decide (s0.c4 < ((x1.length : Nat) : Int)))
  · intro g0 g1
    exact absurd g1 ft
  · cases h2 : tb (inb x1.length s0.c4)
    · intro g0 g1
      exact absurd g1 ft
    · cases h3 : tb (inb x3.length s0.c4)
      · intro g0 g1
        exact absurd g1 ft
      · cases h4 : tb (((gt x1 s0.c4) : Int) != (gt x3 s0.c4))
        · intro g0 g1
          exact absurd g0 tf
        · intro g0 g1
          exact round_walk [.o 13 (fun _ => o_len_os (enc := (encI .i64)) (l := x1) (fl := true) (n := x0) (s := 1)), .b (tbE h1), .o 19 (fun _ => o_idx_os (enc := (encI .i64)) (l := x1) (fl := true) (n := x0) (s := 1) (k := .i64) (tbE h2)), .o 23 (fun _ => o_idx_os (enc := (encI .i64)) (l := x3) (fl := true) (n := x2) (s := 1) (k := .i64) (tbE h3)), .b (tbE h4)] (by kernel_rfl)

theorem ref02_Ints_oo_L0_x1 (x0 : Bool) (x1 : List Int) (x2 : Bool) (x3 : List Int) (x4 : Int) (s0 : ref02_Ints_oo_L0_s0) : ref02_Ints_oo_L0_sel x1 x3 s0 = false → ref02_Ints_oo_L0_c0 x1 x3 s0 = false → ref02_Ints_oo_L0_c1 x1 s0 = true → (roundG (runC E0 (cl E0) L17_0) [0, 1, 5] [4] 0) (ref02_Ints_oo_L0_enc x0 x1 x2 x3 x4 s0) = some ((.exit 0), ([V.un], [])) := by
  unfold ref02_Ints_oo_L0_sel ref02_Ints_oo_L0_c0 ref02_Ints_oo_L0_c1
  cases h1 : tb (decide (s0.c4 < ((x1.length : Nat) : Int)))
  · intro g0 g1 g2
    exact round_walk [.o 13 (fun _ => o_len_os (enc := (encI .i64)) (l := x1) (fl := true) (n := x0) (s := 1)), .b (tbE h1)] (by kernel_rfl)
  · cases h2 : tb (inb x1.length s0.c4)
    · intro g0 g1 g2
      exact absurd g2 ft
    · cases h3 : tb (inb x3.length s0.c4)
      · intro g0 g1 g2
        exact absurd g2 ft
      · cases h4 : tb (((gt x1 s0.c4) : Int) != (gt x3 s0.c4))
        · intro g0 g1 g2
          exact absurd g0 tf
        · intro g0 g1 g2
          exact absurd g1 tf

theorem ref02_Ints_oo_L0_f0_0 (x0 : Bool) (x1 : List Int) (x2 : Bool) (x3 : List Int) (x4 : Int) (s : ref02_Ints_oo_L0_s0) (hok : ref02_Ints_oo_L0_ok x1 x3 s = true) (c0 : ref02_Ints_oo_L0_c0 x1 x3 (ref02_Ints_oo_L0_end x1 x3 s) = true) : loopG (roundG (runC E0 (cl E0) L17_0) [0, 1, 5] [4] 0) bound (ref02_Ints_oo_L0_enc x0 x1 x2 x3 x4 s) = some (.ret, ([(V.d (.bool false))], [])) := by
  have e : itS (ref02_Ints_oo_L0_sel x1 x3) (ref02_Ints_oo_L0_nx x1 x3) bound s = some (ref02_Ints_oo_L0_end x1 x3 s) := itS_get hok
  have f := itS_false e
  exact loop_it (ref02_Ints_oo_L0_go x0 x1 x2 x3 x4) bound s _ _ _ e (fun h => by cases h) (ref02_Ints_oo_L0_x0 x0 x1 x2 x3 x4 (ref02_Ints_oo_L0_end x1 x3 s) f c0)

theorem ref02_Ints_oo_L0_f0_1 (x0 : Bool) (x1 : List Int) (x2 : Bool) (x3 : List Int) (x4 : Int) (s : ref02_Ints_oo_L0_s0) (hok : ref02_Ints_oo_L0_ok x1 x3 s = true) (c0 : ref02_Ints_oo_L0_c0 x1 x3 (ref02_Ints_oo_L0_end x1 x3 s) = false) (c1 : ref02_Ints_oo_L0_c1 x1 (ref02_Ints_oo_L0_end x1 x3 s) = true) : loopG (roundG (runC E0 (cl E0) L17_0) [0, 1, 5] [4] 0) bound (ref02_Ints_oo_L0_enc x0 x1 x2 x3 x4 s) = some ((.exit 0), ([V.un], [])) := by
  have e : itS (ref02_Ints_oo_L0_sel x1 x3) (ref02_Ints_oo_L0_nx x1 x3) bound s = some (ref02_Ints_oo_L0_end x1 x3 s) := itS_get hok
  have f := itS_false e
  exact loop_it (ref02_Ints_oo_L0_go x0 x1 x2 x3 x4) bound s _ _ _ e (fun h => by cases h) (ref02_Ints_oo_L0_x1 x0 x1 x2 x3 x4 (ref02_Ints_oo_L0_end x1 x3 s) f c0 c1)

def ref02_Ints_oo_c0 (x1 : List Int) (x3 : List Int) : Bool := (bif tb ((((x1.length : Nat) : Int) : Int) != ((x3.length : Nat) : Int)) then true else (bif tb (ref02_Ints_oo_L0_ok x1 x3 (⟨0⟩ : ref02_Ints_oo_L0_s0)) then (bif tb (ref02_Ints_oo_L0_c0 x1 x3 (ref02_Ints_oo_L0_end x1 x3 (⟨0⟩ : ref02_Ints_oo_L0_s0))) then true else (bif tb (ref02_Ints_oo_L0_c1 x1 (ref02_Ints_oo_L0_end x1 x3 (⟨0⟩ : ref02_Ints_oo_L0_s0))) then true else false)) else false))

def ref02_Ints_oo_r0_0 (x1 : List Int) (x3 : List Int) : Bool := (bif tb ((((x1.length : Nat) : Int) : Int) != ((x3.length : Nat) : Int)) then false else (bif tb (ref02_Ints_oo_L0_c0 x1 x3 (ref02_Ints_oo_L0_end x1 x3 (⟨0⟩ : ref02_Ints_oo_L0_s0))) then false else true))

theorem ref02_Ints_oo_t0 (x0 : Bool) (x1 : List Int) (x2 : Bool) (x3 : List Int) : ref02_Ints_oo_c0 x1 x3 = true → cl E0 17 [(V.d (slD (encI .i64) true 1 x0 x1)), (V.d (slD (encI .i64) true 1 x2 x3))] [] = some ([(V.d (.bool (ref02_Ints_oo_r0_0 x1 x3)))], []) := by
  unfold ref02_Ints_oo_c0 ref02_Ints_oo_r0_0
  cases h1 : tb ((((x1.length : Nat) : Int) : Int) != ((x3.length : Nat) : Int))
  · cases h2 : tb (ref02_Ints_oo_L0_ok x1 x3 (⟨0⟩ : ref02_Ints_oo_L0_s0))
    · intro g0
      exact absurd g0 ft
    · cases h3 : tb (ref02_Ints_oo_L0_c0 x1 x3 (ref02_Ints_oo_L0_end x1 x3 (⟨0⟩ : ref02_Ints_oo_L0_s0)))
      · cases h4 : tb (ref02_Ints_oo_L0_c1 x1 (ref02_Ints_oo_L0_end x1 x3 (⟨0⟩ : ref02_Ints_oo_L0_s0)))
        · intro g0
          exact absurd g0 ft
        · intro g0
          exact w17 [.o 7 (fun _ => o_len_os (enc := (encI .i64)) (l := x1) (fl := true) (n := x0) (s := 1)), .o 9 (fun _ => o_len_os (enc := (encI .i64)) (l := x3) (fl := true) (n := x2) (s := 1)), .b (tbE h1), .l (ref02_Ints_oo_L0_f0_1 x0 x1 x2 x3 0 (⟨0⟩ : ref02_Ints_oo_L0_s0) (tbE h2) (tbE h3) (tbE h4))] (by kernel_rfl)
      · intro g0
        exact w17 [.o 7 (fun _ => o_len_os (enc := (encI .i64)) (l := x1) (fl := true) (n := x0) (s := 1)), .o 9 (fun _ => o_len_os (enc := (encI .i64)) (l := x3) (fl := true) (n := x2) (s := 1)), .b (tbE h1), .l (ref02_Ints_oo_L0_f0_0 x0 x1 x2 x3 0 (⟨0⟩ : ref02_Ints_oo_L0_s0) (tbE h2) (tbE h3))] (by kernel_rfl)
  · intro g0
    exact w17 [.o 7 (fun _ => o_len_os (enc := (encI .i64)) (l := x1) (fl := true) (n := x0) (s := 1)), .o 9 (fun _ => o_len_os (enc := (encI .i64)) (l := x3) (fl := true) (n := x2) (s := 1)), .b (tbE h1)] (by kernel_rfl)

structure ref02_Without_oi_L0_s0 where
  c3 : Bool
  c4 : Int
  c6 : List Int
  deriving Inhabited

def ref02_Without_oi_L0_enc (x0 : List Int) (x1 : Bool) (x2 : Bool) (x3 : Bool) (x4 : List Int) (x5 : Int) (x6 : Bool) (x7 : Int) (s0 : ref02_Without_oi_L0_s0) : List V × Mem := ([(V.d (slD (encI .i64) true 1 x3 x4)), (V.d (.int .i64 x5)), (V.so s0.c3 1 s0.c6.length), (V.d (.int .i64 s0.c4))], [(Blk.flat 3 1 [] x1), (Blk.flat 3 1 (List.map (encI .i64) s0.c6) false)])

def ref02_Without_oi_L0_sel (x4 : List Int) (x5 : Int) (s0 : ref02_Without_oi_L0_s0) : Bool := (bif tb (decide (s0.c4 < ((x4.length : Nat) : Int))) then (bif tb ((s0.c4 : Int) != x5) then (bif tb (inb x4.length s0.c4) then (bif tb (decide ((s0.c6.length + [(gt x4 s0.c4)].length) * 8 ≤ 140737488355328)) then true else false) else false) else true) else false)

def ref02_Without_oi_L0_nx (x4 : List Int) (x5 : Int) (s0 : ref02_Without_oi_L0_s0) : ref02_Without_oi_L0_s0 := (bif tb ((s0.c4 : Int) != x5) then ⟨false, (wi (s0.c4 + 1)), (s0.c6 ++ [(gt x4 s0.c4)])⟩ else ⟨s0.c3, (wi (s0.c4 + 1)), s0.c6⟩)

def ref02_Without_oi_L0_ok (x4 : List Int) (x5 : Int) (s0 : ref02_Without_oi_L0_s0) : Bool := (itS (ref02_Without_oi_L0_sel x4 x5) (ref02_Without_oi_L0_nx x4 x5) bound s0).isSome
def ref02_Without_oi_L0_end (x4 : List Int) (x5 : Int) (s0 : ref02_Without_oi_L0_s0) : ref02_Without_oi_L0_s0 := (itS (ref02_Without_oi_L0_sel x4 x5) (ref02_Without_oi_L0_nx x4 x5) bound s0).getD default

theorem ref02_Without_oi_L0_go (x0 : List Int) (x1 : Bool) (x2 : Bool) (x3 : Bool) (x4 : List Int) (x5 : Int) (x6 : Bool) (x7 : Int) (s0 : ref02_Without_oi_L0_s0) : ref02_Without_oi_L0_sel x4 x5 s0 = true → (roundG (runC E0 (cl E0) L21_0) [0, 1, 6, 7] [6] 2) (ref02_Without_oi_L0_enc x0 x1 x2 x3 x4 x5 x6 x7 s0) = some (.normal, ref02_Without_oi_L0_enc x0 x1 x2 x3 x4 x5 x6 x7 (ref02_Without_oi_L0_nx x4 x5 s0)) := by
  unfold ref02_Without_oi_L0_sel ref02_Without_oi_L0_nx
  cases h1 : tb (decide (s0.c4 < ((x4.length : Nat) : Int)))
  · intro g0
    exact absurd g0 ft
  · cases h2 : tb ((s0.c4 : Int) != x5)
    · intro _
      exact round_walk [.o 14 (fun _ => o_len_os (enc := (encI .i64)) (l := x4) (fl := true) (n := x3) (s := 1)), .b (tbE h1), .b (tbE h2)] (by kernel_rfl)
    · cases h3 : tb (inb x4.length s0.c4)
      · intro g0
        exact absurd g0 ft
      · cases h4 : tb (decide ((s0.c6.length + [(gt x4 s0.c4)].length) * 8 ≤ 140737488355328))
        · intro g0
          exact absurd g0 ft
        · intro _
          exact round_walk [.o 14 (fun _ => o_len_os (enc := (encI .i64)) (l := x4) (fl := true) (n := x3) (s := 1)), .b (tbE h1), .b (tbE h2), .o 24 (fun _ => o_idx_os (enc := (encI .i64)) (l := x4) (fl := true) (n := x3) (s := 1) (k := .i64) (tbE h3)), .m 27 (o_app_so (nl := s0.c3) (m := [(Blk.flat 3 1 [] x1), (Blk.flat 3 1 (List.map (encI .i64) s0.c6) false), (Blk.flat 3 1 [[(.int .i64 (gt x4 s0.c4))]] false)]) (enc := (encI .i64)) (l0 := s0.c6) (l1 := [(gt x4 s0.c4)]) (id := 1) (e := 3) (s := 1) (bytes := 8) (x := (V.so false 2 1)) (n := s0.c6.length) (Nat.beq_refl _) (by kernel_rfl) (by kernel_rfl) (by kernel_rfl) (tbE h4))] (by kernel_rfl)

def ref02_Without_oi_L0_c0 (x4 : List Int) (s0 : ref02_Without_oi_L0_s0) : Bool := (bif tb (decide (s0.c4 < ((x4.length : Nat) : Int))) then false else true)

theorem ref02_Without_oi_L0_x0 (x0 : List Int) (x1 : Bool) (x2 : Bool) (x3 : Bool) (x4 : List Int) (x5 : Int) (x6 : Bool) (x7 : Int) (s0 : ref02_Without_oi_L0_s0) : ref02_Without_oi_L0_sel x4 x5 s0 = false → ref02_Without_oi_L0_c0 x4 s0 = true → (roundG (runC E0 (cl E0) L21_0) [0, 1, 6, 7] [6] 2) (ref02_Without_oi_L0_enc x0 x1 x2 x3 x4 x5 x6 x7 s0) = some ((.exit 0), ([(V.so s0.c3 1 s0.c6.length)], [(Blk.flat 3 1 [] x1), (Blk.flat 3 1 (List.map (encI .i64) s0.c6) false)])) := by
  unfold ref02_Without_oi_L0_sel ref02_Without_oi_L0_c0
  cases h1 : tb (decide (s0.c4 < ((x4.length : Nat) : Int)))
  · intro g0 g1
    exact round_walk [.o 14 (fun _ => o_len_os (enc := (encI .i64)) (l := x4) (fl := true) (n := x3) (s := 1)), .b (tbE h1)] (by kernel_rfl)
  · cases h2 : tb ((s0.c4 : Int) != x5)
    · intro g0 g1
      exact absurd g0 tf
    · cases h3 : tb (inb x4.length s0.c4)
      · intro g0 g1
        exact absurd g1 ft
      · cases h4 : tb (decide ((s0.c6.length + [(gt x4 s0.c4)].length) * 8 ≤ 140737488355328))
        · intro g0 g1
          exact absurd g1 ft
        · intro g0 g1
          exact absurd g0 tf

theorem ref02_Without_oi_L0_f0_0 (x0 : List Int) (x1 : Bool) (x2 : Bool) (x3 : Bool) (x4 : List Int) (x5 : Int) (x6 : Bool) (x7 : Int) (s : ref02_Without_oi_L0_s0) (hok : ref02_Without_oi_L0_ok x4 x5 s = true) (c0 : ref02_Without_oi_L0_c0 x4 (ref02_Without_oi_L0_end x4 x5 s) = true) : loopG (roundG (runC E0 (cl E0) L21_0) [0, 1, 6, 7] [6] 2) bound (ref02_Without_oi_L0_enc x0 x1 x2 x3 x4 x5 x6 x7 s) = some ((.exit 0), ([(V.so ((ref02_Without_oi_L0_end x4 x5 s).c3) 1 (((ref02_Without_oi_L0_end x4 x5 s).c6).length))], [(Blk.flat 3 1 [] x1), (Blk.flat 3 1 (List.map (encI .i64) ((ref02_Without_oi_L0_end x4 x5 s).c6)) false)])) := by
  have e : itS (ref02_Without_oi_L0_sel x4 x5) (ref02_Without_oi_L0_nx x4 x5) bound s = some (ref02_Without_oi_L0_end x4 x5 s) := itS_get hok
  have f := itS_false e
  exact loop_it (ref02_Without_oi_L0_go x0 x1 x2 x3 x4 x5 x6 x7) bound s _ _ _ e (fun h => by cases h) (ref02_Without_oi_L0_x0 x0 x1 x2 x3 x4 x5 x6 x7 (ref02_Without_oi_L0_end x4 x5 s) f c0)

def ref02_Without_oi_e0 (x1 : List Int) (x2 : Int) : ref02_Without_oi_L0_s0 := ref02_Without_oi_L0_end x1 x2 (⟨true, 0, ([] : List Int)⟩ : ref02_Without_oi_L0_s0)

def ref02_Without_oi_c0 (x1 : List Int) (x2 : Int) : Bool := (bif tb (ref02_Right_o_c0 x1) then (bif tb (ref02_Right_o_r0_0 x1) then (bif tb (ref02_Without_oi_L0_ok x1 x2 (⟨true, 0, ([] : List Int)⟩ : ref02_Without_oi_L0_s0)) then (bif tb (ref02_Without_oi_L0_c0 x1 (ref02_Without_oi_e0 x1 x2)) then true else false) else false) else true) else false)

def ref02_Without_oi_r0_0 (x1 : List Int) (x2 : Int) : Bool := (bif tb (ref02_Right_o_r0_0 x1) then ((ref02_Without_oi_e0 x1 x2).c3) else true)

def ref02_Without_oi_r0_1 (x1 : List Int) (x2 : Int) : List Int := (bif tb (ref02_Right_o_r0_0 x1) then ((ref02_Without_oi_e0 x1 x2).c6) else ([] : List Int))

theorem ref02_Without_oi_t0 (x0 : Bool) (x1 : List Int) (x2 : Int) : ref02_Without_oi_c0 x1 x2 = true → cl E0 21 [(V.d (slD (encI .i64) true 1 x0 x1)), (V.d (.int .i64 x2))] [] = some ([(V.so (ref02_Without_oi_r0_0 x1 x2) 0 ((ref02_Without_oi_r0_1 x1 x2).length))], [(Blk.flat 3 1 (List.map (encI .i64) (ref02_Without_oi_r0_1 x1 x2)) false)]) := by
  unfold ref02_Without_oi_c0 ref02_Without_oi_r0_0 ref02_Without_oi_r0_1
  cases h1 : tb (ref02_Right_o_c0 x1)
  · intro g0
    exact absurd g0 ft
  · cases h2 : tb (ref02_Right_o_r0_0 x1)
    · intro g0
      exact w21 [.c (ref02_Right_o_t0 x0 x1 (tbE h1)), .b (notF (tbE h2))] (by kernel_rfl)
    · cases h3 : tb (ref02_Without_oi_L0_ok x1 x2 (⟨true, 0, ([] : List Int)⟩ : ref02_Without_oi_L0_s0))
      · intro g0
        exact absurd g0 ft
      · cases h4 : tb (ref02_Without_oi_L0_c0 x1 (ref02_Without_oi_e0 x1 x2))
        · intro g0
          exact absurd g0 ft
        · intro g0
          exact w21 [.c (ref02_Right_o_t0 x0 x1 (tbE h1)), .b (notT (tbE h2)), .l (ref02_Without_oi_L0_f0_0 ([] : List Int) false false x0 x1 x2 true 0 (⟨true, 0, ([] : List Int)⟩ : ref02_Without_oi_L0_s0) (tbE h3) (tbE h4))] (by kernel_rfl)

def ref02_Spread_o_e0 (x1 : List Int) : Int := gt (ref02_Sort_o_r0_1 x1) (wi ((((ref02_Sort_o_r0_1 x1).length : Nat) : Int) - 1))

def ref02_Spread_o_c0 (x1 : List Int) : Bool := (bif tb (ref02_Sort_o_c0 x1) then (bif tb (((((ref02_Sort_o_r0_1 x1).length : Nat) : Int) : Int) == 0) then true else (bif tb (inb ((ref02_Sort_o_r0_1 x1).length) (wi ((((ref02_Sort_o_r0_1 x1).length : Nat) : Int) - 1))) then (bif tb (inb ((ref02_Sort_o_r0_1 x1).length) 0) then true else false) else false)) else false)

def ref02_Spread_o_r0_0 (x1 : List Int) : Int := (bif tb (((((ref02_Sort_o_r0_1 x1).length : Nat) : Int) : Int) == 0) then 0 else (wi ((ref02_Spread_o_e0 x1) - (gt (ref02_Sort_o_r0_1 x1) 0))))

theorem ref02_Spread_o_t0 (x0 : Bool) (x1 : List Int) : ref02_Spread_o_c0 x1 = true → cl E0 23 [(V.d (slD (encI .i64) true 1 x0 x1))] [] = some ([(V.d (.int .i64 (ref02_Spread_o_r0_0 x1)))], []) := by
  unfold ref02_Spread_o_c0 ref02_Spread_o_r0_0
  cases h1 : tb (ref02_Sort_o_c0 x1)
  · intro g0
    exact absurd g0 ft
  · cases h2 : tb (((((ref02_Sort_o_r0_1 x1).length : Nat) : Int) : Int) == 0)
    · cases h3 : tb (inb ((ref02_Sort_o_r0_1 x1).length) (wi ((((ref02_Sort_o_r0_1 x1).length : Nat) : Int) - 1)))
      · intro g0
        exact absurd g0 ft
      · cases h4 : tb (inb ((ref02_Sort_o_r0_1 x1).length) 0)
        · intro g0
          exact absurd g0 ft
        · intro g0
          exact w23 [.c (ref02_Sort_o_t0 x0 x1 (tbE h1)), .b (tbE h2), .m 13 (o_idx_so (m := [(Blk.flat 3 1 (List.map (encI .i64) (ref02_Sort_o_r0_1 x1)) true)]) (b := (ref02_Sort_o_r0_0 x1)) (id := 0) (n := ((ref02_Sort_o_r0_1 x1).length)) (s := 1) (k := .i64) (by kernel_rfl) (tbE h3)), .m 14 (o_load_L (m := [(Blk.flat 3 1 (List.map (encI .i64) (ref02_Sort_o_r0_1 x1)) true)]) (enc := (encI .i64)) (l := (ref02_Sort_o_r0_1 x1)) (id := 0) (e := 3) (s := 1) (off := 0) (size := 1) (p := true) (agg := false) (i := (wi ((((ref02_Sort_o_r0_1 x1).length : Nat) : Int) - 1))) (v := (V.d (.int .i64 (ref02_Spread_o_e0 x1)))) (n := ((ref02_Sort_o_r0_1 x1).length)) (Nat.beq_refl _) (by kernel_rfl) (tbE h3) (by kernel_rfl)), .m 16 (o_idx_so (m := [(Blk.flat 3 1 (List.map (encI .i64) (ref02_Sort_o_r0_1 x1)) true)]) (b := (ref02_Sort_o_r0_0 x1)) (id := 0) (n := ((ref02_Sort_o_r0_1 x1).length)) (s := 1) (k := .i64) (by kernel_rfl) (tbE h4)), .m 17 (o_load_L (m := [(Blk.flat 3 1 (List.map (encI .i64) (ref02_Sort_o_r0_1 x1)) true)]) (enc := (encI .i64)) (l := (ref02_Sort_o_r0_1 x1)) (id := 0) (e := 3) (s := 1) (off := 0) (size := 1) (p := true) (agg := false) (i := 0) (v := (V.d (.int .i64 (gt (ref02_Sort_o_r0_1 x1) 0)))) (n := ((ref02_Sort_o_r0_1 x1).length)) (Nat.beq_refl _) (by kernel_rfl) (tbE h4) (by kernel_rfl))] (by kernel_rfl)
    · intro g0
      exact w23 [.c (ref02_Sort_o_t0 x0 x1 (tbE h1)), .b (tbE h2)] (by kernel_rfl)

end Go.Proofs.Ytdlhhoejnhjbhaa.Den
