/- TripBackCard: part 5 of what its proof rests on: an evaluator of the program's code, proved sound; plain functions printed from the code by a program of this session, with proofs; plain laws. No condition. -/
import Derived.Test.YtlenjioebdmooaaDoorDentripBack4
import Derived.Handed
import Derived.Lay
import Derived.MakeChecks
import Derived.FnData
import Derived.Stop.Joined
import Derived.SevenTiedAt
import Derived.Shelf.Vars
import Derived.Test.YtlenjioebdmooaaDoorRows
import Derived.Test.YtlenjioebdmooaaDoorCards
import Derived.Test.YtlenjioebdmooaaDoorTie

namespace Go.Proofs.YtlenjioebdmooaaDoor.Den
open Go Go.Proofs
set_option maxRecDepth 100000
set_option maxHeartbeats 4000000
set_option linter.unusedVariables false
set_option linter.unusedSimpArgs false
def math_bits_OnesCount64_i_e0 (x0 : Int) : Int := IntKind.u64.wrap ((andI .u64 (shrI .u64 x0 1) 6148914691236517205) + (andI .u64 x0 6148914691236517205))
def math_bits_OnesCount64_i_e1 (x0 : Int) : Int := andI .u64 (shrI .u64 (math_bits_OnesCount64_i_e0 x0) 2) 3689348814741910323
def math_bits_OnesCount64_i_e2 (x0 : Int) : Int := andI .u64 (math_bits_OnesCount64_i_e0 x0) 3689348814741910323
def math_bits_OnesCount64_i_e3 (x0 : Int) : Int := IntKind.u64.wrap ((math_bits_OnesCount64_i_e1 x0) + (math_bits_OnesCount64_i_e2 x0))
def math_bits_OnesCount64_i_e4 (x0 : Int) : Int := IntKind.u64.wrap ((shrI .u64 (math_bits_OnesCount64_i_e3 x0) 4) + (math_bits_OnesCount64_i_e3 x0))
def math_bits_OnesCount64_i_e5 (x0 : Int) : Int := andI .u64 (math_bits_OnesCount64_i_e4 x0) 1085102592571150095
def math_bits_OnesCount64_i_e6 (x0 : Int) : Int := IntKind.u64.wrap ((math_bits_OnesCount64_i_e5 x0) + (shrI .u64 (math_bits_OnesCount64_i_e5 x0) 8))
def math_bits_OnesCount64_i_e7 (x0 : Int) : Int := IntKind.u64.wrap ((math_bits_OnesCount64_i_e6 x0) + (shrI .u64 (math_bits_OnesCount64_i_e6 x0) 16))
def math_bits_OnesCount64_i_e8 (x0 : Int) : Int := IntKind.u64.wrap ((math_bits_OnesCount64_i_e7 x0) + (shrI .u64 (math_bits_OnesCount64_i_e7 x0) 32))
theorem math_bits_OnesCount64_i_t0 (x0 : Int) : cl E0 34 [(V.d (.int .u64 x0))] [] = some ([(V.d (.int .i64 (andI .i64 (wi ((math_bits_OnesCount64_i_e8 x0))) 127)))], []) := by
  exact w34 [.o 4 (fun _ => o_shr (k := .u64) (k2 := .u64) (x := x0) (y := 1) rfl), .o 10 (fun _ => o_shr (k := .u64) (k2 := .u64) (x := (math_bits_OnesCount64_i_e0 x0)) (y := 2) rfl), .o 16 (fun _ => o_shr (k := .u64) (k2 := .u64) (x := (math_bits_OnesCount64_i_e3 x0)) (y := 4) rfl), .o 22 (fun _ => o_shr (k := .u64) (k2 := .u64) (x := (math_bits_OnesCount64_i_e5 x0)) (y := 8) rfl), .o 26 (fun _ => o_shr (k := .u64) (k2 := .u64) (x := (math_bits_OnesCount64_i_e6 x0)) (y := 16) rfl), .o 30 (fun _ => o_shr (k := .u64) (k2 := .u64) (x := (math_bits_OnesCount64_i_e7 x0)) (y := 32) rfl)] (by kernel_rfl)
theorem math_bits_OnesCount_i_t0 (x0 : Int) : cl E0 27 [(V.d (.int .u64 x0))] [] = some ([(V.d (.int .i64 (andI .i64 (wi ((math_bits_OnesCount64_i_e8 x0))) 127)))], []) := by
  exact w27 [.c (math_bits_OnesCount64_i_t0 x0)] (by kernel_rfl)
end Go.Proofs.YtlenjioebdmooaaDoor.Den

namespace Go.Proofs.YtlenjioebdmooaaDoor.Den
open Go Go.Proofs
set_option maxRecDepth 100000
set_option maxHeartbeats 4000000
set_option linter.unusedVariables false
set_option linter.unusedSimpArgs false
def fix_right_i_r0_0 (x0 : Int) : Bool := (bif tb (decide (0 ≤ x0)) then (decide (x0 < 65536)) else false)
theorem fix_right_i_t0 (x0 : Int) : cl E0 23 [(V.d (.int .i64 x0))] [] = some ([(V.d (.bool (fix_right_i_r0_0 x0)))], []) := by
  unfold fix_right_i_r0_0
  cases h1 : tb (decide (0 ≤ x0))
  · exact w23 [.b (tbE h1)] (by kernel_rfl)
  · exact w23 [.b (tbE h1)] (by kernel_rfl)
def fix_Has_ii_r0_0 (x0 : Int) (x1 : Int) : Bool := (bif tb (fix_right_i_r0_0 x0) then (bif tb (decide (0 ≤ x1)) then (bif tb (decide (x1 < 16)) then (((andI .i64 (shrI .i64 x0 x1) 1) : Int) == 1) else false) else false) else false)
theorem fix_Has_ii_t0 (x0 : Int) (x1 : Int) : cl E0 15 [(V.d (.int .i64 x0)), (V.d (.int .i64 x1))] [] = some ([(V.d (.bool (fix_Has_ii_r0_0 x0 x1)))], []) := by
  unfold fix_Has_ii_r0_0
  cases h1 : tb (fix_right_i_r0_0 x0)
  · exact w15 [.c (fix_right_i_t0 x0), .b (tbE h1)] (by kernel_rfl)
  · cases h2 : tb (decide (0 ≤ x1))
    · exact w15 [.c (fix_right_i_t0 x0), .b (tbE h1), .b (tbE h2)] (by kernel_rfl)
    · cases h3 : tb (decide (x1 < 16))
      · exact w15 [.c (fix_right_i_t0 x0), .b (tbE h1), .b (tbE h2), .b (tbE h3)] (by kernel_rfl)
      · exact w15 [.c (fix_right_i_t0 x0), .b (tbE h1), .b (tbE h2), .b (tbE h3), .o 18 (fun _ => o_shr (k := .i64) (k2 := .i64) (x := x0) (y := x1) (tbE h2))] (by kernel_rfl)
structure fix_Bits_o_L0_s0 where
  c2 : Int
  c4 : Int
  deriving Inhabited
def fix_Bits_o_L0_enc (x0 : Bool) (x1 : List Bool) (x2 : Int) (x3 : Int) (x4 : Int) (s0 : fix_Bits_o_L0_s0) : List V × Mem := ([(V.d (slD encB true 1 x0 x1)), (V.d (.int .i64 s0.c2)), (V.d (.int .i64 x3)), (V.d (.int .i64 s0.c4))], [])
def fix_Bits_o_L0_sel (x1 : List Bool) (x3 : Int) (s0 : fix_Bits_o_L0_s0) : Bool := (bif tb (decide (s0.c4 < x3)) then (bif tb (inb x1.length s0.c4) then (bif tb (gt x1 s0.c4) then (bif tb (decide (0 ≤ s0.c4)) then true else false) else true) else false) else false)
def fix_Bits_o_L0_nx (x1 : List Bool) (x3 : Int) (s0 : fix_Bits_o_L0_s0) : fix_Bits_o_L0_s0 := (bif tb (gt x1 s0.c4) then ⟨(orI .i64 s0.c2 (shlI .i64 1 s0.c4)), (wi (s0.c4 + 1))⟩ else ⟨s0.c2, (wi (s0.c4 + 1))⟩)
def fix_Bits_o_L0_ok (x1 : List Bool) (x3 : Int) (s0 : fix_Bits_o_L0_s0) : Bool := (itS (fix_Bits_o_L0_sel x1 x3) (fix_Bits_o_L0_nx x1 x3) bound s0).isSome
def fix_Bits_o_L0_end (x1 : List Bool) (x3 : Int) (s0 : fix_Bits_o_L0_s0) : fix_Bits_o_L0_s0 := (itS (fix_Bits_o_L0_sel x1 x3) (fix_Bits_o_L0_nx x1 x3) bound s0).getD default
theorem fix_Bits_o_L0_go (x0 : Bool) (x1 : List Bool) (x2 : Int) (x3 : Int) (x4 : Int) (s0 : fix_Bits_o_L0_s0) : fix_Bits_o_L0_sel x1 x3 s0 = true → (roundG (runC E0 (cl E0) L19_0) [0, 3, 9, 10] [3] 0) (fix_Bits_o_L0_enc x0 x1 x2 x3 x4 s0) = some (.normal, fix_Bits_o_L0_enc x0 x1 x2 x3 x4 (fix_Bits_o_L0_nx x1 x3 s0)) := by
  unfold fix_Bits_o_L0_sel fix_Bits_o_L0_nx
  cases h1 : tb (decide (s0.c4 < x3))
  · intro g0
    exact absurd g0 ft
  · cases h2 : tb (inb x1.length s0.c4)
    · intro g0
      exact absurd g0 ft
    · cases h3 : tb (gt x1 s0.c4)
      · intro _
        exact round_walk [.b (tbE h1), .o 15 (fun _ => o_idx_os (enc := encB) (l := x1) (fl := true) (n := x0) (s := 1) (k := .i64) (tbE h2)), .b (tbE h3)] (by kernel_rfl)
      · cases h4 : tb (decide (0 ≤ s0.c4))
        · intro g0
          exact absurd g0 ft
        · intro _
          exact round_walk [.b (tbE h1), .o 15 (fun _ => o_idx_os (enc := encB) (l := x1) (fl := true) (n := x0) (s := 1) (k := .i64) (tbE h2)), .b (tbE h3), .o 19 (fun _ => o_shl (k := .i64) (k2 := .i64) (x := 1) (y := s0.c4) (tbE h4))] (by kernel_rfl)
def fix_Bits_o_L0_c0 (x3 : Int) (s0 : fix_Bits_o_L0_s0) : Bool := (bif tb (decide (s0.c4 < x3)) then false else true)
theorem fix_Bits_o_L0_x0 (x0 : Bool) (x1 : List Bool) (x2 : Int) (x3 : Int) (x4 : Int) (s0 : fix_Bits_o_L0_s0) : fix_Bits_o_L0_sel x1 x3 s0 = false → fix_Bits_o_L0_c0 x3 s0 = true → (roundG (runC E0 (cl E0) L19_0) [0, 3, 9, 10] [3] 0) (fix_Bits_o_L0_enc x0 x1 x2 x3 x4 s0) = some ((.exit 0), ([(V.d (.int .i64 s0.c2))], [])) := by
  unfold fix_Bits_o_L0_sel fix_Bits_o_L0_c0
  cases h1 : tb (decide (s0.c4 < x3))
  · intro g0 g1
    exact round_walk [.b (tbE h1)] (by kernel_rfl)
  · cases h2 : tb (inb x1.length s0.c4)
    · intro g0 g1
      exact absurd g1 ft
    · cases h3 : tb (gt x1 s0.c4)
      · intro g0 g1
        exact absurd g0 tf
      · cases h4 : tb (decide (0 ≤ s0.c4))
        · intro g0 g1
          exact absurd g1 ft
        · intro g0 g1
          exact absurd g0 tf
theorem fix_Bits_o_L0_f0_0 (x0 : Bool) (x1 : List Bool) (x2 : Int) (x3 : Int) (x4 : Int) (s : fix_Bits_o_L0_s0) (hok : fix_Bits_o_L0_ok x1 x3 s = true) (c0 : fix_Bits_o_L0_c0 x3 (fix_Bits_o_L0_end x1 x3 s) = true) : loopG (roundG (runC E0 (cl E0) L19_0) [0, 3, 9, 10] [3] 0) bound (fix_Bits_o_L0_enc x0 x1 x2 x3 x4 s) = some ((.exit 0), ([(V.d (.int .i64 ((fix_Bits_o_L0_end x1 x3 s).c2)))], [])) := by
  have e : itS (fix_Bits_o_L0_sel x1 x3) (fix_Bits_o_L0_nx x1 x3) bound s = some (fix_Bits_o_L0_end x1 x3 s) := itS_get hok
  have f := itS_false e
  exact loop_it (fix_Bits_o_L0_go x0 x1 x2 x3 x4) bound s _ _ _ e (fun h => by cases h) (fix_Bits_o_L0_x0 x0 x1 x2 x3 x4 (fix_Bits_o_L0_end x1 x3 s) f c0)
def fix_Bits_o_e0 (x1 : List Bool) : fix_Bits_o_L0_s0 := fix_Bits_o_L0_end x1 ((x1.length : Nat) : Int) (⟨0, 0⟩ : fix_Bits_o_L0_s0)
def fix_Bits_o_c0 (x1 : List Bool) : Bool := (bif tb (decide (16 < ((x1.length : Nat) : Int))) then true else (bif tb (fix_Bits_o_L0_ok x1 ((x1.length : Nat) : Int) (⟨0, 0⟩ : fix_Bits_o_L0_s0)) then (bif tb (fix_Bits_o_L0_c0 ((x1.length : Nat) : Int) (fix_Bits_o_e0 x1)) then true else false) else false))
def fix_Bits_o_r0_0 (x1 : List Bool) : Int := (bif tb (decide (16 < ((x1.length : Nat) : Int))) then 0 else ((fix_Bits_o_e0 x1).c2))
theorem fix_Bits_o_t0 (x0 : Bool) (x1 : List Bool) : fix_Bits_o_c0 x1 = true → cl E0 19 [(V.d (slD encB true 1 x0 x1))] [] = some ([(V.d (.int .i64 (fix_Bits_o_r0_0 x1)))], []) := by
  unfold fix_Bits_o_c0 fix_Bits_o_r0_0
  cases h1 : tb (decide (16 < ((x1.length : Nat) : Int)))
  · cases h2 : tb (fix_Bits_o_L0_ok x1 ((x1.length : Nat) : Int) (⟨0, 0⟩ : fix_Bits_o_L0_s0))
    · intro g0
      exact absurd g0 ft
    · cases h3 : tb (fix_Bits_o_L0_c0 ((x1.length : Nat) : Int) (fix_Bits_o_e0 x1))
      · intro g0
        exact absurd g0 ft
      · intro g0
        exact w19 [.o 6 (fun _ => o_len_os (enc := encB) (l := x1) (fl := true) (n := x0) (s := 1)), .b (tbE h1), .o 9 (fun _ => o_len_os (enc := encB) (l := x1) (fl := true) (n := x0) (s := 1)), .l (fix_Bits_o_L0_f0_0 x0 x1 0 ((x1.length : Nat) : Int) 0 (⟨0, 0⟩ : fix_Bits_o_L0_s0) (tbE h2) (tbE h3))] (by kernel_rfl)
  · intro g0
    exact w19 [.o 6 (fun _ => o_len_os (enc := encB) (l := x1) (fl := true) (n := x0) (s := 1)), .b (tbE h1)] (by kernel_rfl)
def fix_Count_i_r0_0 (x0 : Int) : Int := (bif tb (fix_right_i_r0_0 x0) then (andI .i64 (wi ((math_bits_OnesCount64_i_e8 (IntKind.u64.wrap (x0))))) 127) else 0)
theorem fix_Count_i_t0 (x0 : Int) : cl E0 21 [(V.d (.int .i64 x0))] [] = some ([(V.d (.int .i64 (fix_Count_i_r0_0 x0)))], []) := by
  unfold fix_Count_i_r0_0
  cases h1 : tb (fix_right_i_r0_0 x0)
  · exact w21 [.c (fix_right_i_t0 x0), .b (notF (tbE h1))] (by kernel_rfl)
  · exact w21 [.c (fix_right_i_t0 x0), .b (notT (tbE h1)), .c (math_bits_OnesCount_i_t0 (IntKind.u64.wrap (x0)))] (by kernel_rfl)
end Go.Proofs.YtlenjioebdmooaaDoor.Den

namespace Go.Proofs.YtlenjioebdmooaaDoor.Den
open Go Go.Proofs
set_option maxRecDepth 100000
set_option maxHeartbeats 4000000
set_option linter.unusedVariables false
set_option linter.unusedSimpArgs false
structure trip_Parse_s_L0_s0 where
  c7 : Int
  deriving Inhabited
def trip_Parse_s_L0_h0_e0 (x8 : List ByteArray) (s0 : trip_Parse_s_L0_s0) : ByteArray := gt ([gt x8 0, gt x8 1, gt x8 2, gt x8 3, gt x8 4, gt x8 5] : List ByteArray) s0.c7
def trip_Parse_s_L0_enc (x0 : List ByteArray) (x1 : Bool) (x2 : ByteArray) (x3 : Int) (x4 : ByteArray) (x5 : Bool) (x6 : Int) (x7 : Int) (x8 : List ByteArray) (x9 : Int) (s0 : trip_Parse_s_L0_s0) : List V × Mem := ([(V.d (.str x2)), (V.d (.int .i64 x3)), (V.d (.str x4)), (V.so x5 0 x0.length), (V.d (.int .i64 x6)), (V.d (.int .i64 x7)), (V.agg [(V.d (.str (gt x8 0))), (V.d (.str (gt x8 1))), (V.d (.str (gt x8 2))), (V.d (.str (gt x8 3))), (V.d (.str (gt x8 4))), (V.d (.str (gt x8 5)))]), (V.d (.int .i64 s0.c7))], [(Blk.flat 9 1 (List.map encS x0) x1)])
def trip_Parse_s_L0_sel (x4 : ByteArray) (x8 : List ByteArray) (s0 : trip_Parse_s_L0_s0) : Bool := (bif tb (decide (s0.c7 < 6)) then (bif tb (inb 6 s0.c7) then (bif tb ((trip_Parse_s_L0_h0_e0 x8 s0).toList == x4.toList) then false else true) else false) else false)
def trip_Parse_s_L0_nx (x4 : ByteArray) (x8 : List ByteArray) (s0 : trip_Parse_s_L0_s0) : trip_Parse_s_L0_s0 := ⟨(wi (s0.c7 + 1))⟩
def trip_Parse_s_L0_ok (x4 : ByteArray) (x8 : List ByteArray) (s0 : trip_Parse_s_L0_s0) : Bool := (itS (trip_Parse_s_L0_sel x4 x8) (trip_Parse_s_L0_nx x4 x8) bound s0).isSome
def trip_Parse_s_L0_end (x4 : ByteArray) (x8 : List ByteArray) (s0 : trip_Parse_s_L0_s0) : trip_Parse_s_L0_s0 := (itS (trip_Parse_s_L0_sel x4 x8) (trip_Parse_s_L0_nx x4 x8) bound s0).getD default
theorem trip_Parse_s_L0_go (x0 : List ByteArray) (x1 : Bool) (x2 : ByteArray) (x3 : Int) (x4 : ByteArray) (x5 : Bool) (x6 : Int) (x7 : Int) (x8 : List ByteArray) (x9 : Int) (s0 : trip_Parse_s_L0_s0) : trip_Parse_s_L0_sel x4 x8 s0 = true → (roundG (runC E0 (cl E0) L6_0) [0, 4, 6, 10, 11, 12, 16, 17] [0, 4, 10, 11, 12] 1) (trip_Parse_s_L0_enc x0 x1 x2 x3 x4 x5 x6 x7 x8 x9 s0) = some (.normal, trip_Parse_s_L0_enc x0 x1 x2 x3 x4 x5 x6 x7 x8 x9 (trip_Parse_s_L0_nx x4 x8 s0)) := by
  unfold trip_Parse_s_L0_sel trip_Parse_s_L0_nx
  cases h1 : tb (decide (s0.c7 < 6))
  · intro g0
    exact absurd g0 ft
  · cases h2 : tb (inb 6 s0.c7)
    · intro g0
      exact absurd g0 ft
    · cases h3 : tb ((trip_Parse_s_L0_h0_e0 x8 s0).toList == x4.toList)
      · intro _
        exact round_walk [.b (tbE h1), .o 20 (fun _ => o_idx_arrs (ss := ([gt x8 0, gt x8 1, gt x8 2, gt x8 3, gt x8 4, gt x8 5] : List ByteArray)) (n := 6) (k := .i64) (i := s0.c7) rfl (tbE h2)), .b (tbE h3)] (by kernel_rfl)
      · cases h4 : tb (decide (0 ≤ s0.c7))
        · intro g0
          exact absurd g0 ft
        · intro g0
          exact absurd g0 ft
def trip_Parse_s_L0_c0 (s0 : trip_Parse_s_L0_s0) : Bool := (bif tb (decide (s0.c7 < 6)) then (bif tb (inb 6 s0.c7) then (bif tb (decide (0 ≤ s0.c7)) then true else false) else false) else false)
def trip_Parse_s_L0_c1 (s0 : trip_Parse_s_L0_s0) : Bool := (bif tb (decide (s0.c7 < 6)) then false else true)
theorem trip_Parse_s_L0_x0 (x0 : List ByteArray) (x1 : Bool) (x2 : ByteArray) (x3 : Int) (x4 : ByteArray) (x5 : Bool) (x6 : Int) (x7 : Int) (x8 : List ByteArray) (x9 : Int) (s0 : trip_Parse_s_L0_s0) : trip_Parse_s_L0_sel x4 x8 s0 = false → trip_Parse_s_L0_c0 s0 = true → (roundG (runC E0 (cl E0) L6_0) [0, 4, 6, 10, 11, 12, 16, 17] [0, 4, 10, 11, 12] 1) (trip_Parse_s_L0_enc x0 x1 x2 x3 x4 x5 x6 x7 x8 x9 s0) = some ((.exit 1), ([(V.d (.str x2)), (V.d (.int .i64 (orI .i64 x3 (shlI .i64 1 s0.c7)))), (V.so x5 0 x0.length), (V.d (.int .i64 x6)), (V.d (.int .i64 x7))], [(Blk.flat 9 1 (List.map encS x0) x1)])) := by
  unfold trip_Parse_s_L0_sel trip_Parse_s_L0_c0
  cases h1 : tb (decide (s0.c7 < 6))
  · intro g0 g1
    exact absurd g1 ft
  · cases h2 : tb (inb 6 s0.c7)
    · intro g0 g1
      exact absurd g1 ft
    · cases h3 : tb ((trip_Parse_s_L0_h0_e0 x8 s0).toList == x4.toList)
      · intro g0 g1
        exact absurd g0 tf
      · cases h4 : tb (decide (0 ≤ s0.c7))
        · intro g0 g1
          exact absurd g1 ft
        · intro g0 g1
          exact round_walk [.b (tbE h1), .o 20 (fun _ => o_idx_arrs (ss := ([gt x8 0, gt x8 1, gt x8 2, gt x8 3, gt x8 4, gt x8 5] : List ByteArray)) (n := 6) (k := .i64) (i := s0.c7) rfl (tbE h2)), .b (tbE h3), .o 26 (fun _ => o_shl (k := .i64) (k2 := .i64) (x := 1) (y := s0.c7) (tbE h4))] (by kernel_rfl)
theorem trip_Parse_s_L0_x1 (x0 : List ByteArray) (x1 : Bool) (x2 : ByteArray) (x3 : Int) (x4 : ByteArray) (x5 : Bool) (x6 : Int) (x7 : Int) (x8 : List ByteArray) (x9 : Int) (s0 : trip_Parse_s_L0_s0) : trip_Parse_s_L0_sel x4 x8 s0 = false → trip_Parse_s_L0_c0 s0 = false → trip_Parse_s_L0_c1 s0 = true → (roundG (runC E0 (cl E0) L6_0) [0, 4, 6, 10, 11, 12, 16, 17] [0, 4, 10, 11, 12] 1) (trip_Parse_s_L0_enc x0 x1 x2 x3 x4 x5 x6 x7 x8 x9 s0) = some ((.exit 2), ([(V.d (.str x2)), (V.d (.int .i64 x3)), (V.so x5 0 x0.length), (V.d (.int .i64 x6)), (V.d (.int .i64 x7))], [(Blk.flat 9 1 (List.map encS x0) x1)])) := by
  unfold trip_Parse_s_L0_sel trip_Parse_s_L0_c0 trip_Parse_s_L0_c1
  cases h1 : tb (decide (s0.c7 < 6))
  · intro g0 g1 g2
    exact round_walk [.b (tbE h1)] (by kernel_rfl)
  · cases h2 : tb (inb 6 s0.c7)
    · intro g0 g1 g2
      exact absurd g2 ft
    · cases h3 : tb ((trip_Parse_s_L0_h0_e0 x8 s0).toList == x4.toList)
      · intro g0 g1 g2
        exact absurd g0 tf
      · cases h4 : tb (decide (0 ≤ s0.c7))
        · intro g0 g1 g2
          exact absurd g2 ft
        · intro g0 g1 g2
          exact absurd g1 tf
theorem trip_Parse_s_L0_f0_0 (x0 : List ByteArray) (x1 : Bool) (x2 : ByteArray) (x3 : Int) (x4 : ByteArray) (x5 : Bool) (x6 : Int) (x7 : Int) (x8 : List ByteArray) (x9 : Int) (s : trip_Parse_s_L0_s0) (hok : trip_Parse_s_L0_ok x4 x8 s = true) (c0 : trip_Parse_s_L0_c0 (trip_Parse_s_L0_end x4 x8 s) = true) : loopG (roundG (runC E0 (cl E0) L6_0) [0, 4, 6, 10, 11, 12, 16, 17] [0, 4, 10, 11, 12] 1) bound (trip_Parse_s_L0_enc x0 x1 x2 x3 x4 x5 x6 x7 x8 x9 s) = some ((.exit 1), ([(V.d (.str x2)), (V.d (.int .i64 (orI .i64 x3 (shlI .i64 1 (trip_Parse_s_L0_end x4 x8 s).c7)))), (V.so x5 0 x0.length), (V.d (.int .i64 x6)), (V.d (.int .i64 x7))], [(Blk.flat 9 1 (List.map encS x0) x1)])) := by
  have e : itS (trip_Parse_s_L0_sel x4 x8) (trip_Parse_s_L0_nx x4 x8) bound s = some (trip_Parse_s_L0_end x4 x8 s) := itS_get hok
  have f := itS_false e
  exact loop_it (trip_Parse_s_L0_go x0 x1 x2 x3 x4 x5 x6 x7 x8 x9) bound s _ _ _ e (fun h => by cases h) (trip_Parse_s_L0_x0 x0 x1 x2 x3 x4 x5 x6 x7 x8 x9 (trip_Parse_s_L0_end x4 x8 s) f c0)
theorem trip_Parse_s_L0_f0_1 (x0 : List ByteArray) (x1 : Bool) (x2 : ByteArray) (x3 : Int) (x4 : ByteArray) (x5 : Bool) (x6 : Int) (x7 : Int) (x8 : List ByteArray) (x9 : Int) (s : trip_Parse_s_L0_s0) (hok : trip_Parse_s_L0_ok x4 x8 s = true) (c0 : trip_Parse_s_L0_c0 (trip_Parse_s_L0_end x4 x8 s) = false) (c1 : trip_Parse_s_L0_c1 (trip_Parse_s_L0_end x4 x8 s) = true) : loopG (roundG (runC E0 (cl E0) L6_0) [0, 4, 6, 10, 11, 12, 16, 17] [0, 4, 10, 11, 12] 1) bound (trip_Parse_s_L0_enc x0 x1 x2 x3 x4 x5 x6 x7 x8 x9 s) = some ((.exit 2), ([(V.d (.str x2)), (V.d (.int .i64 x3)), (V.so x5 0 x0.length), (V.d (.int .i64 x6)), (V.d (.int .i64 x7))], [(Blk.flat 9 1 (List.map encS x0) x1)])) := by
  have e : itS (trip_Parse_s_L0_sel x4 x8) (trip_Parse_s_L0_nx x4 x8) bound s = some (trip_Parse_s_L0_end x4 x8 s) := itS_get hok
  have f := itS_false e
  exact loop_it (trip_Parse_s_L0_go x0 x1 x2 x3 x4 x5 x6 x7 x8 x9) bound s _ _ _ e (fun h => by cases h) (trip_Parse_s_L0_x1 x0 x1 x2 x3 x4 x5 x6 x7 x8 x9 (trip_Parse_s_L0_end x4 x8 s) f c0 c1)
structure trip_Parse_s_L1_s0 where
  c1 : Int
  c4 : Int
  deriving Inhabited
def trip_Parse_s_L1_h0_e0 (x0 : List ByteArray) (s0 : trip_Parse_s_L1_s0) : trip_Parse_s_L0_s0 := trip_Parse_s_L0_end (gt x0 s0.c4) [gl0_0, gl0_1, gl0_2, gl0_3, gl0_4, gl0_5] (⟨0⟩ : trip_Parse_s_L0_s0)
def trip_Parse_s_L1_enc (x0 : List ByteArray) (x1 : Bool) (x2 : ByteArray) (x3 : Int) (x4 : Bool) (x5 : Int) (x6 : Int) (s0 : trip_Parse_s_L1_s0) : List V × Mem := ([(V.d (.str x2)), (V.d (.int .i64 s0.c1)), (V.so x4 0 x0.length), (V.d (.int .i64 x5)), (V.d (.int .i64 s0.c4))], [(Blk.flat 9 1 (List.map encS x0) x1)])
def trip_Parse_s_L1_sel (x0 : List ByteArray) (x5 : Int) (s0 : trip_Parse_s_L1_s0) : Bool := (bif tb (decide (s0.c4 < x5)) then (bif tb (inb x0.length s0.c4) then (bif tb (trip_Parse_s_L0_ok (gt x0 s0.c4) [gl0_0, gl0_1, gl0_2, gl0_3, gl0_4, gl0_5] (⟨0⟩ : trip_Parse_s_L0_s0)) then (bif tb (trip_Parse_s_L0_c0 (trip_Parse_s_L1_h0_e0 x0 s0)) then true else (bif tb (trip_Parse_s_L0_c1 (trip_Parse_s_L1_h0_e0 x0 s0)) then true else false)) else false) else false) else false)
def trip_Parse_s_L1_nx (x0 : List ByteArray) (x5 : Int) (s0 : trip_Parse_s_L1_s0) : trip_Parse_s_L1_s0 := (bif tb (trip_Parse_s_L0_c0 (trip_Parse_s_L1_h0_e0 x0 s0)) then ⟨(orI .i64 s0.c1 (shlI .i64 1 (trip_Parse_s_L1_h0_e0 x0 s0).c7)), (wi (s0.c4 + 1))⟩ else ⟨s0.c1, (wi (s0.c4 + 1))⟩)
def trip_Parse_s_L1_ok (x0 : List ByteArray) (x5 : Int) (s0 : trip_Parse_s_L1_s0) : Bool := (itS (trip_Parse_s_L1_sel x0 x5) (trip_Parse_s_L1_nx x0 x5) bound s0).isSome
def trip_Parse_s_L1_end (x0 : List ByteArray) (x5 : Int) (s0 : trip_Parse_s_L1_s0) : trip_Parse_s_L1_s0 := (itS (trip_Parse_s_L1_sel x0 x5) (trip_Parse_s_L1_nx x0 x5) bound s0).getD default
theorem trip_Parse_s_L1_go (x0 : List ByteArray) (x1 : Bool) (x2 : ByteArray) (x3 : Int) (x4 : Bool) (x5 : Int) (x6 : Int) (s0 : trip_Parse_s_L1_s0) : trip_Parse_s_L1_sel x0 x5 s0 = true → (roundG (runC E0 (cl E0) L6_1) [0, 4, 10, 11, 12] [0, 4] 1) (trip_Parse_s_L1_enc x0 x1 x2 x3 x4 x5 x6 s0) = some (.normal, trip_Parse_s_L1_enc x0 x1 x2 x3 x4 x5 x6 (trip_Parse_s_L1_nx x0 x5 s0)) := by
  unfold trip_Parse_s_L1_sel trip_Parse_s_L1_nx
  cases h1 : tb (decide (s0.c4 < x5))
  · intro g0
    exact absurd g0 ft
  · cases h2 : tb (inb x0.length s0.c4)
    · intro g0
      exact absurd g0 ft
    · cases h3 : tb (trip_Parse_s_L0_ok (gt x0 s0.c4) [gl0_0, gl0_1, gl0_2, gl0_3, gl0_4, gl0_5] (⟨0⟩ : trip_Parse_s_L0_s0))
      · intro g0
        exact absurd g0 ft
      · cases h4 : tb (trip_Parse_s_L0_c0 (trip_Parse_s_L1_h0_e0 x0 s0))
        · cases h5 : tb (trip_Parse_s_L0_c1 (trip_Parse_s_L1_h0_e0 x0 s0))
          · intro g0
            exact absurd g0 ft
          · intro _
            exact round_walk [.b (tbE h1), .m 14 (o_idx_so (m := [(Blk.flat 9 1 (List.map encS x0) x1)]) (b := x4) (id := 0) (n := x0.length) (s := 1) (k := .i64) (by kernel_rfl) (tbE h2)), .m 15 (o_load_L (m := [(Blk.flat 9 1 (List.map encS x0) x1)]) (enc := encS) (l := x0) (id := 0) (e := 9) (s := 1) (off := 0) (size := 1) (p := x1) (agg := false) (i := s0.c4) (v := (V.d (.str (gt x0 s0.c4)))) (n := x0.length) (Nat.beq_refl _) (by kernel_rfl) (tbE h2) (by kernel_rfl)), .l (trip_Parse_s_L0_f0_1 x0 x1 x2 s0.c1 (gt x0 s0.c4) x4 x5 s0.c4 [gl0_0, gl0_1, gl0_2, gl0_3, gl0_4, gl0_5] 0 (⟨0⟩ : trip_Parse_s_L0_s0) (tbE h3) (tbE h4) (tbE h5))] (by kernel_rfl)
        · intro _
          exact round_walk [.b (tbE h1), .m 14 (o_idx_so (m := [(Blk.flat 9 1 (List.map encS x0) x1)]) (b := x4) (id := 0) (n := x0.length) (s := 1) (k := .i64) (by kernel_rfl) (tbE h2)), .m 15 (o_load_L (m := [(Blk.flat 9 1 (List.map encS x0) x1)]) (enc := encS) (l := x0) (id := 0) (e := 9) (s := 1) (off := 0) (size := 1) (p := x1) (agg := false) (i := s0.c4) (v := (V.d (.str (gt x0 s0.c4)))) (n := x0.length) (Nat.beq_refl _) (by kernel_rfl) (tbE h2) (by kernel_rfl)), .l (trip_Parse_s_L0_f0_0 x0 x1 x2 s0.c1 (gt x0 s0.c4) x4 x5 s0.c4 [gl0_0, gl0_1, gl0_2, gl0_3, gl0_4, gl0_5] 0 (⟨0⟩ : trip_Parse_s_L0_s0) (tbE h3) (tbE h4))] (by kernel_rfl)
def trip_Parse_s_L1_c0 (x5 : Int) (s0 : trip_Parse_s_L1_s0) : Bool := (bif tb (decide (s0.c4 < x5)) then false else true)
theorem trip_Parse_s_L1_x0 (x0 : List ByteArray) (x1 : Bool) (x2 : ByteArray) (x3 : Int) (x4 : Bool) (x5 : Int) (x6 : Int) (s0 : trip_Parse_s_L1_s0) : trip_Parse_s_L1_sel x0 x5 s0 = false → trip_Parse_s_L1_c0 x5 s0 = true → (roundG (runC E0 (cl E0) L6_1) [0, 4, 10, 11, 12] [0, 4] 1) (trip_Parse_s_L1_enc x0 x1 x2 x3 x4 x5 x6 s0) = some ((.exit 0), ([(V.d (.str x2)), (V.d (.int .i64 s0.c1))], [(Blk.flat 9 1 (List.map encS x0) x1)])) := by
  unfold trip_Parse_s_L1_sel trip_Parse_s_L1_c0
  cases h1 : tb (decide (s0.c4 < x5))
  · intro g0 g1
    exact round_walk [.b (tbE h1)] (by kernel_rfl)
  · cases h2 : tb (inb x0.length s0.c4)
    · intro g0 g1
      exact absurd g1 ft
    · cases h3 : tb (trip_Parse_s_L0_ok (gt x0 s0.c4) [gl0_0, gl0_1, gl0_2, gl0_3, gl0_4, gl0_5] (⟨0⟩ : trip_Parse_s_L0_s0))
      · intro g0 g1
        exact absurd g1 ft
      · cases h4 : tb (trip_Parse_s_L0_c0 (trip_Parse_s_L1_h0_e0 x0 s0))
        · cases h5 : tb (trip_Parse_s_L0_c1 (trip_Parse_s_L1_h0_e0 x0 s0))
          · intro g0 g1
            exact absurd g1 ft
          · intro g0 g1
            exact absurd g0 tf
        · intro g0 g1
          exact absurd g0 tf
theorem trip_Parse_s_L1_f0_0 (x0 : List ByteArray) (x1 : Bool) (x2 : ByteArray) (x3 : Int) (x4 : Bool) (x5 : Int) (x6 : Int) (s : trip_Parse_s_L1_s0) (hok : trip_Parse_s_L1_ok x0 x5 s = true) (c0 : trip_Parse_s_L1_c0 x5 (trip_Parse_s_L1_end x0 x5 s) = true) : loopG (roundG (runC E0 (cl E0) L6_1) [0, 4, 10, 11, 12] [0, 4] 1) bound (trip_Parse_s_L1_enc x0 x1 x2 x3 x4 x5 x6 s) = some ((.exit 0), ([(V.d (.str x2)), (V.d (.int .i64 ((trip_Parse_s_L1_end x0 x5 s).c1)))], [(Blk.flat 9 1 (List.map encS x0) x1)])) := by
  have e : itS (trip_Parse_s_L1_sel x0 x5) (trip_Parse_s_L1_nx x0 x5) bound s = some (trip_Parse_s_L1_end x0 x5 s) := itS_get hok
  have f := itS_false e
  exact loop_it (trip_Parse_s_L1_go x0 x1 x2 x3 x4 x5 x6) bound s _ _ _ e (fun h => by cases h) (trip_Parse_s_L1_x0 x0 x1 x2 x3 x4 x5 x6 (trip_Parse_s_L1_end x0 x5 s) f c0)
def trip_Parse_s_S2_e0 (x0 : ByteArray) : trip_Parse_s_L1_s0 := trip_Parse_s_L1_end (splitT (headB ⟨#[43]⟩) x0) (((splitT (headB ⟨#[43]⟩) x0).length : Nat) : Int) (⟨0, 0⟩ : trip_Parse_s_L1_s0)
def trip_Parse_s_S2_c0 (x0 : ByteArray) : Bool := (bif tb (strings_Split_ss_c0 x0 ⟨#[43]⟩) then (bif tb (trip_Parse_s_L1_ok (splitT (headB ⟨#[43]⟩) x0) (((splitT (headB ⟨#[43]⟩) x0).length : Nat) : Int) (⟨0, 0⟩ : trip_Parse_s_L1_s0)) then (bif tb (trip_Parse_s_L1_c0 (((splitT (headB ⟨#[43]⟩) x0).length : Nat) : Int) (trip_Parse_s_S2_e0 x0)) then true else false) else false) else false)
theorem trip_Parse_s_S2_t0 (x0 : ByteArray) : trip_Parse_s_S2_c0 x0 = true → segG (runC E0 (cl E0) S6_2) [0, 4] [] [0, 4] 0 ([(V.d (.str x0)), (V.d (.int .i64 0))], []) = some (.normal, ([(V.d (.str x0)), (V.d (.int .i64 ((trip_Parse_s_S2_e0 x0).c1)))], [])) := by
  unfold trip_Parse_s_S2_c0
  cases h1 : tb (strings_Split_ss_c0 x0 ⟨#[43]⟩)
  · intro g0
    exact absurd g0 ft
  · cases h2 : tb (trip_Parse_s_L1_ok (splitT (headB ⟨#[43]⟩) x0) (((splitT (headB ⟨#[43]⟩) x0).length : Nat) : Int) (⟨0, 0⟩ : trip_Parse_s_L1_s0))
    · intro g0
      exact absurd g0 ft
    · cases h3 : tb (trip_Parse_s_L1_c0 (((splitT (headB ⟨#[43]⟩) x0).length : Nat) : Int) (trip_Parse_s_S2_e0 x0))
      · intro g0
        exact absurd g0 ft
      · intro g0
        exact seg_walk [.c (strings_Split_ss_t0 x0 ⟨#[43]⟩ (tbE h1)), .l (trip_Parse_s_L1_f0_0 (splitT (headB ⟨#[43]⟩) x0) false x0 0 false (((splitT (headB ⟨#[43]⟩) x0).length : Nat) : Int) 0 (⟨0, 0⟩ : trip_Parse_s_L1_s0) (tbE h2) (tbE h3))] (by kernel_rfl)
def trip_Text_i_S0_c0 (x0 : Int) : Bool := (bif tb (decide (x0 < 0)) then true else (bif tb (decide (63 < x0)) then true else (bif tb ((x0 : Int) == 0) then true else false)))
def trip_Text_i_S0_r0_0 (x0 : Int) : ByteArray := (bif tb (decide (x0 < 0)) then ⟨#[]⟩ else (bif tb (decide (63 < x0)) then ⟨#[]⟩ else ⟨#[45]⟩))
theorem trip_Text_i_S0_t0 (x0 : Int) : trip_Text_i_S0_c0 x0 = true → segG (runC E0 (cl E0) S8_0) [0] [2] [0] 0 ([(V.d (.int .i64 x0))], []) = some (.ret, ([(V.d (.str (trip_Text_i_S0_r0_0 x0)))], [])) := by
  unfold trip_Text_i_S0_c0 trip_Text_i_S0_r0_0
  cases h1 : tb (decide (x0 < 0))
  · cases h2 : tb (decide (63 < x0))
    · cases h3 : tb ((x0 : Int) == 0)
      · intro g0
        exact absurd g0 ft
      · intro g0
        exact seg_walk [.b (tbE h1), .b (tbE h2), .b (tbE h3)] (by kernel_rfl)
    · intro g0
      exact seg_walk [.b (tbE h1), .b (tbE h2)] (by kernel_rfl)
  · intro g0
    exact seg_walk [.b (tbE h1)] (by kernel_rfl)
theorem trip_Text_i_S0_t1 (x0 : Int) : trip_Text_i_S0_c0 x0 = false → segG (runC E0 (cl E0) S8_0) [0] [2] [0] 0 ([(V.d (.int .i64 x0))], []) = some (.normal, ([(V.d (.int .i64 x0))], [])) := by
  unfold trip_Text_i_S0_c0
  cases h1 : tb (decide (x0 < 0))
  · cases h2 : tb (decide (63 < x0))
    · cases h3 : tb ((x0 : Int) == 0)
      · intro g0
        exact seg_walk [.b (tbE h1), .b (tbE h2), .b (tbE h3)] (by kernel_rfl)
      · intro g0
        exact absurd g0 tf
    · intro g0
      exact absurd g0 tf
  · intro g0
    exact absurd g0 tf
structure trip_Text_i_L1_s0 where
  c1 : Bool
  c3 : Int
  c4 : List ByteArray
  deriving Inhabited
def trip_Text_i_L1_h0_e0 (x4 : List ByteArray) (s0 : trip_Text_i_L1_s0) : ByteArray := gt ([gt x4 0, gt x4 1, gt x4 2, gt x4 3, gt x4 4, gt x4 5] : List ByteArray) s0.c3
def trip_Text_i_L1_enc (x0 : List ByteArray) (x1 : Bool) (x2 : Int) (x3 : Bool) (x4 : List ByteArray) (x5 : Int) (s0 : trip_Text_i_L1_s0) : List V × Mem := ([(V.d (.int .i64 x2)), (V.so s0.c1 0 s0.c4.length), (V.agg [(V.d (.str (gt x4 0))), (V.d (.str (gt x4 1))), (V.d (.str (gt x4 2))), (V.d (.str (gt x4 3))), (V.d (.str (gt x4 4))), (V.d (.str (gt x4 5)))]), (V.d (.int .i64 s0.c3))], [(Blk.flat 9 1 (List.map encS s0.c4) false)])
def trip_Text_i_L1_sel (x2 : Int) (x4 : List ByteArray) (s0 : trip_Text_i_L1_s0) : Bool := (bif tb (decide (s0.c3 < 6)) then (bif tb (inb 6 s0.c3) then (bif tb (fix_Has_ii_r0_0 x2 s0.c3) then (bif tb (decide ((s0.c4.length + [(trip_Text_i_L1_h0_e0 x4 s0)].length) * 16 ≤ 140737488355328)) then true else false) else true) else false) else false)
def trip_Text_i_L1_nx (x2 : Int) (x4 : List ByteArray) (s0 : trip_Text_i_L1_s0) : trip_Text_i_L1_s0 := (bif tb (fix_Has_ii_r0_0 x2 s0.c3) then ⟨false, (wi (s0.c3 + 1)), (s0.c4 ++ [(trip_Text_i_L1_h0_e0 x4 s0)])⟩ else ⟨s0.c1, (wi (s0.c3 + 1)), s0.c4⟩)
def trip_Text_i_L1_ok (x2 : Int) (x4 : List ByteArray) (s0 : trip_Text_i_L1_s0) : Bool := (itS (trip_Text_i_L1_sel x2 x4) (trip_Text_i_L1_nx x2 x4) bound s0).isSome
def trip_Text_i_L1_end (x2 : Int) (x4 : List ByteArray) (s0 : trip_Text_i_L1_s0) : trip_Text_i_L1_s0 := (itS (trip_Text_i_L1_sel x2 x4) (trip_Text_i_L1_nx x2 x4) bound s0).getD default
theorem trip_Text_i_L1_go (x0 : List ByteArray) (x1 : Bool) (x2 : Int) (x3 : Bool) (x4 : List ByteArray) (x5 : Int) (s0 : trip_Text_i_L1_s0) : trip_Text_i_L1_sel x2 x4 s0 = true → (roundG (runC E0 (cl E0) L8_1) [0, 3, 16, 17] [3] 1) (trip_Text_i_L1_enc x0 x1 x2 x3 x4 x5 s0) = some (.normal, trip_Text_i_L1_enc x0 x1 x2 x3 x4 x5 (trip_Text_i_L1_nx x2 x4 s0)) := by
  unfold trip_Text_i_L1_sel trip_Text_i_L1_nx
  cases h1 : tb (decide (s0.c3 < 6))
  · intro g0
    exact absurd g0 ft
  · cases h2 : tb (inb 6 s0.c3)
    · intro g0
      exact absurd g0 ft
    · cases h3 : tb (fix_Has_ii_r0_0 x2 s0.c3)
      · intro _
        exact round_walk [.b (tbE h1), .o 20 (fun _ => o_idx_arrs (ss := ([gt x4 0, gt x4 1, gt x4 2, gt x4 3, gt x4 4, gt x4 5] : List ByteArray)) (n := 6) (k := .i64) (i := s0.c3) rfl (tbE h2)), .c (fix_Has_ii_t0 x2 s0.c3), .b (tbE h3)] (by kernel_rfl)
      · cases h4 : tb (decide ((s0.c4.length + [(trip_Text_i_L1_h0_e0 x4 s0)].length) * 16 ≤ 140737488355328))
        · intro g0
          exact absurd g0 ft
        · intro _
          exact round_walk [.b (tbE h1), .o 20 (fun _ => o_idx_arrs (ss := ([gt x4 0, gt x4 1, gt x4 2, gt x4 3, gt x4 4, gt x4 5] : List ByteArray)) (n := 6) (k := .i64) (i := s0.c3) rfl (tbE h2)), .c (fix_Has_ii_t0 x2 s0.c3), .b (tbE h3), .m 27 (o_app_so (nl := s0.c1) (m := [(Blk.flat 9 1 (List.map encS s0.c4) false), (Blk.flat 9 1 [[(.str (trip_Text_i_L1_h0_e0 x4 s0))]] false)]) (enc := encS) (l0 := s0.c4) (l1 := [(trip_Text_i_L1_h0_e0 x4 s0)]) (id := 0) (e := 9) (s := 1) (bytes := 16) (x := (V.so false 1 1)) (n := s0.c4.length) (Nat.beq_refl _) (by kernel_rfl) (by kernel_rfl) (by kernel_rfl) (tbE h4))] (by kernel_rfl)
def trip_Text_i_L1_c0 (s0 : trip_Text_i_L1_s0) : Bool := (bif tb (decide (s0.c3 < 6)) then false else true)
theorem trip_Text_i_L1_x0 (x0 : List ByteArray) (x1 : Bool) (x2 : Int) (x3 : Bool) (x4 : List ByteArray) (x5 : Int) (s0 : trip_Text_i_L1_s0) : trip_Text_i_L1_sel x2 x4 s0 = false → trip_Text_i_L1_c0 s0 = true → (roundG (runC E0 (cl E0) L8_1) [0, 3, 16, 17] [3] 1) (trip_Text_i_L1_enc x0 x1 x2 x3 x4 x5 s0) = some ((.exit 1), ([(V.so s0.c1 0 s0.c4.length)], [(Blk.flat 9 1 (List.map encS s0.c4) false)])) := by
  unfold trip_Text_i_L1_sel trip_Text_i_L1_c0
  cases h1 : tb (decide (s0.c3 < 6))
  · intro g0 g1
    exact round_walk [.b (tbE h1)] (by kernel_rfl)
  · cases h2 : tb (inb 6 s0.c3)
    · intro g0 g1
      exact absurd g1 ft
    · cases h3 : tb (fix_Has_ii_r0_0 x2 s0.c3)
      · intro g0 g1
        exact absurd g0 tf
      · cases h4 : tb (decide ((s0.c4.length + [(trip_Text_i_L1_h0_e0 x4 s0)].length) * 16 ≤ 140737488355328))
        · intro g0 g1
          exact absurd g1 ft
        · intro g0 g1
          exact absurd g0 tf
theorem trip_Text_i_L1_f0_0 (x0 : List ByteArray) (x1 : Bool) (x2 : Int) (x3 : Bool) (x4 : List ByteArray) (x5 : Int) (s : trip_Text_i_L1_s0) (hok : trip_Text_i_L1_ok x2 x4 s = true) (c0 : trip_Text_i_L1_c0 (trip_Text_i_L1_end x2 x4 s) = true) : loopG (roundG (runC E0 (cl E0) L8_1) [0, 3, 16, 17] [3] 1) bound (trip_Text_i_L1_enc x0 x1 x2 x3 x4 x5 s) = some ((.exit 1), ([(V.so ((trip_Text_i_L1_end x2 x4 s).c1) 0 (((trip_Text_i_L1_end x2 x4 s).c4).length))], [(Blk.flat 9 1 (List.map encS ((trip_Text_i_L1_end x2 x4 s).c4)) false)])) := by
  have e : itS (trip_Text_i_L1_sel x2 x4) (trip_Text_i_L1_nx x2 x4) bound s = some (trip_Text_i_L1_end x2 x4 s) := itS_get hok
  have f := itS_false e
  exact loop_it (trip_Text_i_L1_go x0 x1 x2 x3 x4 x5) bound s _ _ _ e (fun h => by cases h) (trip_Text_i_L1_x0 x0 x1 x2 x3 x4 x5 (trip_Text_i_L1_end x2 x4 s) f c0)
def trip_Text_i_S2_e0 (x1 : Int) : trip_Text_i_L1_s0 := trip_Text_i_L1_end x1 [gl0_0, gl0_1, gl0_2, gl0_3, gl0_4, gl0_5] (⟨true, 0, ([] : List ByteArray)⟩ : trip_Text_i_L1_s0)
def trip_Text_i_S2_c0 (x1 : Int) : Bool := (bif tb (trip_Text_i_L1_ok x1 [gl0_0, gl0_1, gl0_2, gl0_3, gl0_4, gl0_5] (⟨true, 0, ([] : List ByteArray)⟩ : trip_Text_i_L1_s0)) then (bif tb (trip_Text_i_L1_c0 (trip_Text_i_S2_e0 x1)) then (bif tb (strings_Join_os_c0 ((trip_Text_i_S2_e0 x1).c1) ((trip_Text_i_S2_e0 x1).c4) ⟨#[43]⟩) then true else false) else false) else false)
theorem trip_Text_i_S2_t0 (x1 : Int) : trip_Text_i_S2_c0 x1 = true → segG (runC E0 (cl E0) S8_2) [0, 3] [] [2] 1 ([(V.d (.int .i64 x1)), (V.so true 0 0)], [(Blk.flat 9 1 [] false)]) = some (.normal, ([(V.d (.str (joinB ((trip_Text_i_S2_e0 x1).c4) ⟨#[43]⟩)))], [(Blk.flat 9 1 (List.map encS ((trip_Text_i_S2_e0 x1).c4)) false)])) := by
  unfold trip_Text_i_S2_c0
  cases h1 : tb (trip_Text_i_L1_ok x1 [gl0_0, gl0_1, gl0_2, gl0_3, gl0_4, gl0_5] (⟨true, 0, ([] : List ByteArray)⟩ : trip_Text_i_L1_s0))
  · intro g0
    exact absurd g0 ft
  · cases h2 : tb (trip_Text_i_L1_c0 (trip_Text_i_S2_e0 x1))
    · intro g0
      exact absurd g0 ft
    · cases h3 : tb (strings_Join_os_c0 ((trip_Text_i_S2_e0 x1).c1) ((trip_Text_i_S2_e0 x1).c4) ⟨#[43]⟩)
      · intro g0
        exact absurd g0 ft
      · intro g0
        exact seg_walk [.l (trip_Text_i_L1_f0_0 ([] : List ByteArray) false x1 true [gl0_0, gl0_1, gl0_2, gl0_3, gl0_4, gl0_5] 0 (⟨true, 0, ([] : List ByteArray)⟩ : trip_Text_i_L1_s0) (tbE h1) (tbE h2)), .y (mm := [(Blk.flat 9 1 (List.map encS ((trip_Text_i_S2_e0 x1).c4)) false)]) (args := [(V.so ((trip_Text_i_S2_e0 x1).c1) 0 (((trip_Text_i_S2_e0 x1).c4).length)), (V.d (.str ⟨#[43]⟩))]) (args1 := [(V.d (slD encS true 1 ((trip_Text_i_S2_e0 x1).c1) ((trip_Text_i_S2_e0 x1).c4))), (V.d (.str ⟨#[43]⟩))]) (byvals_cons (byval_so (enc := encS) (l := ((trip_Text_i_S2_e0 x1).c4)) (b := ((trip_Text_i_S2_e0 x1).c1)) (e := 9) (s := 1) (p := false) (n := (((trip_Text_i_S2_e0 x1).c4).length)) (Nat.beq_refl _) (by kernel_rfl)) (by kernel_rfl)), .c (strings_Join_os_t0 ((trip_Text_i_S2_e0 x1).c1) ((trip_Text_i_S2_e0 x1).c4) ⟨#[43]⟩ (tbE h3))] (by kernel_rfl)
def trip_Text_i_c0 (x0 : Int) : Bool := (bif tb (trip_Text_i_S0_c0 x0) then true else (bif tb (trip_Text_i_S2_c0 x0) then true else false))
def trip_Text_i_r0_0 (x0 : Int) : ByteArray := (bif tb (trip_Text_i_S0_c0 x0) then (trip_Text_i_S0_r0_0 x0) else (joinB ((trip_Text_i_S2_e0 x0).c4) ⟨#[43]⟩))
theorem trip_Text_i_t0 (x0 : Int) : trip_Text_i_c0 x0 = true → cl E0 8 [(V.d (.int .i64 x0))] [] = some ([(V.d (.str (trip_Text_i_r0_0 x0)))], []) := by
  unfold trip_Text_i_c0 trip_Text_i_r0_0
  cases h1 : tb (trip_Text_i_S0_c0 x0)
  · cases h2 : tb (trip_Text_i_S2_c0 x0)
    · intro g0
      exact absurd g0 ft
    · intro g0
      exact w8 [.s (trip_Text_i_S0_t1 x0 (tbE h1)), .s (trip_Text_i_S2_t0 x0 (tbE h2))] (by kernel_rfl)
  · intro g0
    exact w8 [.s (trip_Text_i_S0_t0 x0 (tbE h1))] (by kernel_rfl)
def trip_Parse_s_c0 (x0 : ByteArray) : Bool := (bif tb (trip_Parse_s_S2_c0 x0) then (bif tb (trip_Text_i_c0 ((trip_Parse_s_S2_e0 x0).c1)) then true else false) else false)
def trip_Parse_s_r0_0 (x0 : ByteArray) : Int := (bif tb (!((trip_Text_i_r0_0 ((trip_Parse_s_S2_e0 x0).c1)).toList == x0.toList)) then 0 else ((trip_Parse_s_S2_e0 x0).c1))
def trip_Parse_s_r0_1 (x0 : ByteArray) : Int := (bif tb (!((trip_Text_i_r0_0 ((trip_Parse_s_S2_e0 x0).c1)).toList == x0.toList)) then 3 else 0)
theorem trip_Parse_s_t0 (x0 : ByteArray) : trip_Parse_s_c0 x0 = true → cl E0 6 [(V.d (.str x0))] [] = some ([(V.d (.int .i64 (trip_Parse_s_r0_0 x0))), (V.d (.int .i64 (trip_Parse_s_r0_1 x0)))], []) := by
  unfold trip_Parse_s_c0 trip_Parse_s_r0_0 trip_Parse_s_r0_1
  cases h1 : tb (trip_Parse_s_S2_c0 x0)
  · intro g0
    exact absurd g0 ft
  · cases h2 : tb (trip_Text_i_c0 ((trip_Parse_s_S2_e0 x0).c1))
    · intro g0
      exact absurd g0 ft
    · cases h3 : tb (!((trip_Text_i_r0_0 ((trip_Parse_s_S2_e0 x0).c1)).toList == x0.toList))
      · intro g0
        exact w6 [.s (trip_Parse_s_S2_t0 x0 (tbE h1)), .c (trip_Text_i_t0 ((trip_Parse_s_S2_e0 x0).c1) (tbE h2)), .b (tbE h3)] (by kernel_rfl)
      · intro g0
        exact w6 [.s (trip_Parse_s_S2_t0 x0 (tbE h1)), .c (trip_Text_i_t0 ((trip_Parse_s_S2_e0 x0).c1) (tbE h2)), .b (tbE h3)] (by kernel_rfl)
def trip_Mask_o_c0 (x1 : List Bool) : Bool := (bif tb (decide (6 < ((x1.length : Nat) : Int))) then true else (bif tb (fix_Bits_o_c0 x1) then true else false))
def trip_Mask_o_r0_0 (x1 : List Bool) : Int := (bif tb (decide (6 < ((x1.length : Nat) : Int))) then 0 else (fix_Bits_o_r0_0 x1))
theorem trip_Mask_o_t0 (x0 : Bool) (x1 : List Bool) : trip_Mask_o_c0 x1 = true → cl E0 10 [(V.d (slD encB true 1 x0 x1))] [] = some ([(V.d (.int .i64 (trip_Mask_o_r0_0 x1)))], []) := by
  unfold trip_Mask_o_c0 trip_Mask_o_r0_0
  cases h1 : tb (decide (6 < ((x1.length : Nat) : Int)))
  · cases h2 : tb (fix_Bits_o_c0 x1)
    · intro g0
      exact absurd g0 ft
    · intro g0
      exact w10 [.o 4 (fun _ => o_len_os (enc := encB) (l := x1) (fl := true) (n := x0) (s := 1)), .b (tbE h1), .c (fix_Bits_o_t0 x0 x1 (tbE h2))] (by kernel_rfl)
  · intro g0
    exact w10 [.o 4 (fun _ => o_len_os (enc := encB) (l := x1) (fl := true) (n := x0) (s := 1)), .b (tbE h1)] (by kernel_rfl)
def trip_In_ii_r0_0 (x0 : Int) (x1 : Int) : Bool := (bif tb (decide (0 ≤ x0)) then (bif tb (decide (x0 ≤ 63)) then (bif tb (decide (1 ≤ x1)) then (bif tb (decide (x1 ≤ 63)) then (bif tb (((fix_Count_i_r0_0 x1) : Int) == 1) then (((andI .i64 x0 x1) : Int) != 0) else false) else false) else false) else false) else false)
theorem trip_In_ii_t0 (x0 : Int) (x1 : Int) : cl E0 12 [(V.d (.int .i64 x0)), (V.d (.int .i64 x1))] [] = some ([(V.d (.bool (trip_In_ii_r0_0 x0 x1)))], []) := by
  unfold trip_In_ii_r0_0
  cases h1 : tb (decide (0 ≤ x0))
  · exact w12 [.b (tbE h1)] (by kernel_rfl)
  · cases h2 : tb (decide (x0 ≤ 63))
    · exact w12 [.b (tbE h1), .b (tbE h2)] (by kernel_rfl)
    · cases h3 : tb (decide (1 ≤ x1))
      · exact w12 [.b (tbE h1), .b (tbE h2), .b (tbE h3)] (by kernel_rfl)
      · cases h4 : tb (decide (x1 ≤ 63))
        · exact w12 [.b (tbE h1), .b (tbE h2), .b (tbE h3), .b (tbE h4)] (by kernel_rfl)
        · cases h5 : tb (((fix_Count_i_r0_0 x1) : Int) == 1)
          · exact w12 [.b (tbE h1), .b (tbE h2), .b (tbE h3), .b (tbE h4), .c (fix_Count_i_t0 x1), .b (tbE h5)] (by kernel_rfl)
          · exact w12 [.b (tbE h1), .b (tbE h2), .b (tbE h3), .b (tbE h4), .c (fix_Count_i_t0 x1), .b (tbE h5)] (by kernel_rfl)
end Go.Proofs.YtlenjioebdmooaaDoor.Den

namespace Go.Proofs.YtlenjioebdmooaaDoor.Den
open Go Go.Proofs
set_option maxRecDepth 100000
set_option maxHeartbeats 4000000
set_option linter.unusedVariables false
set_option linter.unusedSimpArgs false
def ref01_Has_ii_S0_c0 (x0 : Int) (x1 : Int) : Bool := (bif tb (decide (x0 < 0)) then true else (bif tb (decide (65535 < x0)) then true else (bif tb (decide (x1 < 0)) then true else (bif tb (decide (15 < x1)) then true else false))))
structure ref01_Has_ii_L1_s0 where
  c1 : Int
  c2 : Int
  deriving Inhabited
def ref01_Has_ii_L1_sel (x0 : Int) (s0 : ref01_Has_ii_L1_s0) : Bool := (bif tb (decide (s0.c2 < x0)) then true else false)
def ref01_Has_ii_L1_nx (x0 : Int) (s0 : ref01_Has_ii_L1_s0) : ref01_Has_ii_L1_s0 := ⟨(quoI .i64 s0.c1 2), (wi (s0.c2 + 1))⟩
def ref01_Has_ii_L1_ok (x0 : Int) (s0 : ref01_Has_ii_L1_s0) : Bool := (itS (ref01_Has_ii_L1_sel x0) (ref01_Has_ii_L1_nx x0) bound s0).isSome
def ref01_Has_ii_L1_end (x0 : Int) (s0 : ref01_Has_ii_L1_s0) : ref01_Has_ii_L1_s0 := (itS (ref01_Has_ii_L1_sel x0) (ref01_Has_ii_L1_nx x0) bound s0).getD default
def ref01_Has_ii_S2_c0 (x0 : Int) (x1 : Int) : Bool := (bif tb (ref01_Has_ii_L1_ok x0 (⟨x1, 0⟩ : ref01_Has_ii_L1_s0)) then true else false)
def ref01_Has_ii_e0 (x0 : Int) (x1 : Int) : Int := remI .i64 ((ref01_Has_ii_L1_end x1 (⟨x0, 0⟩ : ref01_Has_ii_L1_s0)).c1) 2
def ref01_Has_ii_c0 (x0 : Int) (x1 : Int) : Bool := (bif tb (ref01_Has_ii_S0_c0 x0 x1) then true else (bif tb (ref01_Has_ii_S2_c0 x1 x0) then true else false))
def ref01_Has_ii_r0_0 (x0 : Int) (x1 : Int) : Bool := (bif tb (ref01_Has_ii_S0_c0 x0 x1) then false else (((ref01_Has_ii_e0 x0 x1) : Int) == 1))
structure ref01_Bits_o_L0_s0 where
  c2 : Int
  c3 : Int
  c4 : Int
  deriving Inhabited
def ref01_Bits_o_L0_sel (x1 : List Bool) (s0 : ref01_Bits_o_L0_s0) : Bool := (bif tb (decide (s0.c4 < ((x1.length : Nat) : Int))) then (bif tb (inb x1.length s0.c4) then true else false) else false)
def ref01_Bits_o_L0_nx (x1 : List Bool) (s0 : ref01_Bits_o_L0_s0) : ref01_Bits_o_L0_s0 := (bif tb (gt x1 s0.c4) then ⟨(wi (s0.c2 + s0.c3)), (wi (2 * s0.c3)), (wi (s0.c4 + 1))⟩ else ⟨s0.c2, (wi (2 * s0.c3)), (wi (s0.c4 + 1))⟩)
def ref01_Bits_o_L0_ok (x1 : List Bool) (s0 : ref01_Bits_o_L0_s0) : Bool := (itS (ref01_Bits_o_L0_sel x1) (ref01_Bits_o_L0_nx x1) bound s0).isSome
def ref01_Bits_o_L0_end (x1 : List Bool) (s0 : ref01_Bits_o_L0_s0) : ref01_Bits_o_L0_s0 := (itS (ref01_Bits_o_L0_sel x1) (ref01_Bits_o_L0_nx x1) bound s0).getD default
def ref01_Bits_o_L0_c0 (x1 : List Bool) (s0 : ref01_Bits_o_L0_s0) : Bool := (bif tb (decide (s0.c4 < ((x1.length : Nat) : Int))) then false else true)
def ref01_Bits_o_c0 (x1 : List Bool) : Bool := (bif tb (decide (16 < ((x1.length : Nat) : Int))) then true else (bif tb (ref01_Bits_o_L0_ok x1 (⟨0, 1, 0⟩ : ref01_Bits_o_L0_s0)) then (bif tb (ref01_Bits_o_L0_c0 x1 (ref01_Bits_o_L0_end x1 (⟨0, 1, 0⟩ : ref01_Bits_o_L0_s0))) then true else false) else false))
def ref01_Bits_o_r0_0 (x1 : List Bool) : Int := (bif tb (decide (16 < ((x1.length : Nat) : Int))) then 0 else ((ref01_Bits_o_L0_end x1 (⟨0, 1, 0⟩ : ref01_Bits_o_L0_s0)).c2))
end Go.Proofs.YtlenjioebdmooaaDoor.Den

namespace Go.Proofs.YtlenjioebdmooaaDoor.Den
open Go Go.Proofs
set_option maxRecDepth 100000
set_option maxHeartbeats 4000000
set_option linter.unusedVariables false
set_option linter.unusedSimpArgs false
def ref14_Text_i_S0_c0 (x0 : Int) : Bool := (bif tb (decide (x0 < 0)) then true else (bif tb (decide (63 < x0)) then true else false))
structure ref14_Text_i_L1_s0 where
  c2 : ByteArray
  c3 : Int
  deriving Inhabited
def ref14_Text_i_L1_sel (x0 : List ByteArray) (x2 : Int) (s0 : ref14_Text_i_L1_s0) : Bool := (bif tb (decide (s0.c3 < 6)) then (bif tb (ref01_Has_ii_c0 x2 s0.c3) then (bif tb (ref01_Has_ii_r0_0 x2 s0.c3) then (bif tb (!(s0.c2.toList == (⟨#[]⟩ : ByteArray).toList)) then (bif tb (decide (s0.c2.size + (⟨#[43]⟩ : ByteArray).size ≤ 9223372036854775807)) then (bif tb (inb x0.length s0.c3) then (bif tb (decide ((s0.c2 ++ (⟨#[43]⟩ : ByteArray)).size + (gt x0 s0.c3).size ≤ 9223372036854775807)) then true else false) else false) else false) else (bif tb (inb x0.length s0.c3) then (bif tb (decide (s0.c2.size + (gt x0 s0.c3).size ≤ 9223372036854775807)) then true else false) else false)) else true) else false) else false)
def ref14_Text_i_L1_nx (x0 : List ByteArray) (x2 : Int) (s0 : ref14_Text_i_L1_s0) : ref14_Text_i_L1_s0 := (bif tb (ref01_Has_ii_r0_0 x2 s0.c3) then (bif tb (!(s0.c2.toList == (⟨#[]⟩ : ByteArray).toList)) then ⟨((s0.c2 ++ (⟨#[43]⟩ : ByteArray)) ++ (gt x0 s0.c3)), (wi (s0.c3 + 1))⟩ else ⟨(s0.c2 ++ (gt x0 s0.c3)), (wi (s0.c3 + 1))⟩) else ⟨s0.c2, (wi (s0.c3 + 1))⟩)
def ref14_Text_i_L1_ok (x0 : List ByteArray) (x2 : Int) (s0 : ref14_Text_i_L1_s0) : Bool := (itS (ref14_Text_i_L1_sel x0 x2) (ref14_Text_i_L1_nx x0 x2) bound s0).isSome
def ref14_Text_i_L1_end (x0 : List ByteArray) (x2 : Int) (s0 : ref14_Text_i_L1_s0) : ref14_Text_i_L1_s0 := (itS (ref14_Text_i_L1_sel x0 x2) (ref14_Text_i_L1_nx x0 x2) bound s0).getD default
def ref14_Text_i_L1_c0 (s0 : ref14_Text_i_L1_s0) : Bool := (bif tb (decide (s0.c3 < 6)) then false else true)
def ref14_Text_i_S2_e0  : List ByteArray := ([⟨#[102, 114, 97, 109, 101]⟩, ⟨#[114, 97, 110, 103, 101]⟩, ⟨#[115, 112, 105, 107, 101]⟩, ⟨#[115, 116, 117, 99, 107]⟩, ⟨#[100, 114, 105, 102, 116]⟩, ⟨#[109, 105, 115]⟩] : List ByteArray)
def ref14_Text_i_S2_e1 (x0 : Int) : ref14_Text_i_L1_s0 := ref14_Text_i_L1_end ref14_Text_i_S2_e0 x0 (⟨⟨#[]⟩, 0⟩ : ref14_Text_i_L1_s0)
def ref14_Text_i_S2_c0 (x0 : Int) : Bool := (bif tb (ref14_Text_i_L1_ok ref14_Text_i_S2_e0 x0 (⟨⟨#[]⟩, 0⟩ : ref14_Text_i_L1_s0)) then (bif tb (ref14_Text_i_L1_c0 (ref14_Text_i_S2_e1 x0)) then true else false) else false)
def ref14_Text_i_c0 (x0 : Int) : Bool := (bif tb (ref14_Text_i_S0_c0 x0) then true else (bif tb ((x0 : Int) == 0) then true else (bif tb (ref14_Text_i_S2_c0 x0) then true else false)))
def ref14_Text_i_r0_0 (x0 : Int) : ByteArray := (bif tb (ref14_Text_i_S0_c0 x0) then ⟨#[]⟩ else (bif tb ((x0 : Int) == 0) then ⟨#[45]⟩ else ((ref14_Text_i_S2_e1 x0).c2)))
structure ref14_Parse_s_L0_s0 where
  c1 : Int
  deriving Inhabited
def ref14_Mask_o_c0 (x1 : List Bool) : Bool := (bif tb (decide (6 < ((x1.length : Nat) : Int))) then true else (bif tb (ref01_Bits_o_c0 x1) then true else false))
def ref14_Mask_o_r0_0 (x1 : List Bool) : Int := (bif tb (decide (6 < ((x1.length : Nat) : Int))) then 0 else (ref01_Bits_o_r0_0 x1))
structure ref14_In_ii_L0_s0 where
  c2 : Int
  c3 : Int
  deriving Inhabited
end Go.Proofs.YtlenjioebdmooaaDoor.Den

namespace Go.Proofs.YtlenjioebdmooaaDoor.Den
open Go Go.Proofs
set_option linter.unusedVariables false
set_option linter.unusedSimpArgs false
set_option maxRecDepth 100000
def T14 (n : Nat) : ByteArray := trip_Text_i_r0_0 (n : Int)
def ckM (n : Nat) : Bool :=
  trip_Text_i_c0 (n : Int) && (ref14_Text_i_c0 (n : Int) && (((T14 n).data.toList == (ref14_Text_i_r0_0 (n : Int)).data.toList) && (Nat.ble (T14 n).data.toList.length 100 && (!((T14 n).data.toList == []) &&
  ((trip_Parse_s_S2_e0 (T14 n)).c1 == (n : Int))))))
theorem ckM_all : (List.range 64).all ckM = true := by kernel_rfl
def ckO (a i : Nat) : Bool := decide (0 ≤ orI .i64 (a : Int) (shlI .i64 1 (i : Int))) && decide (orI .i64 (a : Int) (shlI .i64 1 (i : Int)) ≤ 63)
theorem ckO_all : ((List.range 64).all fun a => (List.range 6).all fun i => ckO a i) = true := by kernel_rfl
def allB : Nat → List (List Bool)
  | 0 => [[]]
  | n + 1 => (allB n).map (true :: ·) ++ (allB n).map (false :: ·)
theorem allB_mem : ∀ l : List Bool, l ∈ allB l.length
  | [] => by simp [allB]
  | true :: l => by simp [allB, allB_mem l]
  | false :: l => by simp [allB, allB_mem l]
def ckB (l : List Bool) : Bool := trip_Mask_o_c0 l && (ref14_Mask_o_c0 l && (trip_Mask_o_r0_0 l == ref14_Mask_o_r0_0 l))
theorem ckB_all : ((List.range 7).all fun n => (allB n).all ckB) = true := by kernel_rfl
def ckS (l : List Bool) : Bool := decide (0 ≤ trip_Mask_o_r0_0 l) && (decide (trip_Mask_o_r0_0 l ≤ 63) && ((trip_In_ii_r0_0 (trip_Mask_o_r0_0 l) 1 == gt l 0) && ((trip_In_ii_r0_0 (trip_Mask_o_r0_0 l) 2 == gt l 1) && ((trip_In_ii_r0_0 (trip_Mask_o_r0_0 l) 4 == gt l 2) &&
  ((trip_In_ii_r0_0 (trip_Mask_o_r0_0 l) 8 == gt l 3) && ((trip_In_ii_r0_0 (trip_Mask_o_r0_0 l) 16 == gt l 4) && (trip_In_ii_r0_0 (trip_Mask_o_r0_0 l) 32 == gt l 5)))))))
theorem ckS_all : ((allB 6).all ckS) = true := by kernel_rfl
end Go.Proofs.YtlenjioebdmooaaDoor.Den

namespace Go.Proofs.YtlenjioebdmooaaDoor.Den
open Go Go.Proofs
set_option linter.unusedVariables false
set_option linter.unusedSimpArgs false
set_option maxRecDepth 100000
theorem bytes_eq {a b : ByteArray} (h : (a.toList == b.toList) = true) : a = b := by
  have h := eq_of_beq h
  rw [ByteArray.toList_eq, ByteArray.toList_eq] at h
  exact ByteArray.ext (Array.ext' h)
theorem bytes_self (a : ByteArray) : (a.toList == a.toList) = true := beq_self_eq_true _
theorem bytes_ne {a b : ByteArray} (h : a ≠ b) : (a.toList == b.toList) = false := by
  cases hh : (a.toList == b.toList) with
  | false => rfl
  | true => exact absurd (bytes_eq hh) h
theorem mask_in {e : Int} (h : 0 ≤ e ∧ e ≤ 63) : trip_Text_i_c0 e = true ∧ ref14_Text_i_c0 e = true ∧ ref14_Text_i_r0_0 e = trip_Text_i_r0_0 e ∧ (trip_Text_i_r0_0 e).size ≤ 100 ∧ trip_Text_i_r0_0 e ≠ ⟨#[]⟩ ∧ (trip_Parse_s_S2_e0 (trip_Text_i_r0_0 e)).c1 = e := by
  have := List.all_eq_true.1 ckM_all e.toNat (List.mem_range.2 (by omega))
  unfold ckM T14 at this
  rw [show ((e.toNat : Nat) : Int) = e by omega] at this
  simp only [Bool.and_eq_true, beq_iff_eq, Bool.not_eq_true'] at this
  obtain ⟨h0, h1, h2, h3, h4, h5⟩ := this
  refine ⟨h0, h1, ?_, by have := Nat.le_of_ble_eq_true h3; rw [Array.length_toList] at this; exact this, ?_, h5⟩
  · apply ByteArray.ext
    exact (Array.ext' h2).symm
  · intro hh
    rw [hh] at h4
    cases h4
theorem mask_out {e : Int} (h : ¬ (0 ≤ e ∧ e ≤ 63)) : trip_Text_i_c0 e = true ∧ ref14_Text_i_c0 e = true ∧ trip_Text_i_r0_0 e = ⟨#[]⟩ ∧ ref14_Text_i_r0_0 e = ⟨#[]⟩ := by
  by_cases h1 : e < 0
  · simp [trip_Text_i_c0, ref14_Text_i_c0, ref14_Text_i_r0_0, ref14_Text_i_S0_c0, trip_Text_i_r0_0, trip_Text_i_S0_c0, trip_Text_i_S0_r0_0, tb_eq, h1]
  · have h2 : 63 < e := by omega
    simp [trip_Text_i_c0, ref14_Text_i_c0, ref14_Text_i_r0_0, ref14_Text_i_S0_c0, trip_Text_i_r0_0, trip_Text_i_S0_c0, trip_Text_i_S0_r0_0, tb_eq, h1, h2]
theorem text_all (e : Int) : trip_Text_i_c0 e = true ∧ ref14_Text_i_c0 e = true ∧ ref14_Text_i_r0_0 e = trip_Text_i_r0_0 e := by
  by_cases h : 0 ≤ e ∧ e ≤ 63
  · obtain ⟨a, b, c, _⟩ := mask_in h; exact ⟨a, b, c⟩
  · obtain ⟨a, b, c, d⟩ := mask_out h; exact ⟨a, b, by rw [c, d]⟩
theorem or_in {a i : Int} (ha : 0 ≤ a ∧ a ≤ 63) (hi : 0 ≤ i ∧ i < 6) : 0 ≤ orI .i64 a (shlI .i64 1 i) ∧ orI .i64 a (shlI .i64 1 i) ≤ 63 := by
  have := List.all_eq_true.1 (List.all_eq_true.1 ckO_all a.toNat (List.mem_range.2 (by omega))) i.toNat (List.mem_range.2 (by omega))
  unfold ckO at this
  rw [show ((a.toNat : Nat) : Int) = a by omega, show ((i.toNat : Nat) : Int) = i by omega] at this
  simpa using this
theorem name_loop (x : ByteArray) (l : List ByteArray) : trip_Parse_s_L0_ok x l ⟨0⟩ = true ∧ 0 ≤ (trip_Parse_s_L0_end x l ⟨0⟩).c7 ∧ (trip_Parse_s_L0_end x l ⟨0⟩).c7 ≤ 6 := by
  obtain ⟨s1, e, ⟨a1, a2⟩, _⟩ := loop_inv (sel := trip_Parse_s_L0_sel x l) (nx := trip_Parse_s_L0_nx x l) (s0 := ⟨0⟩) (fun s => 0 ≤ s.c7 ∧ s.c7 ≤ 6) (fun s => (6 - s.c7).toNat) ⟨by decide, by decide⟩ (by decide) (fun s ⟨b1, b2⟩ hs => by
    have h6 : s.c7 < 6 := by
      by_cases h : s.c7 < 6
      · exact h
      · simp [trip_Parse_s_L0_sel, tb_eq, h] at hs
    have hw : wi (s.c7 + 1) = s.c7 + 1 := wi_eq (by omega) (by omega)
    refine ⟨⟨?_, ?_⟩, ?_⟩
    · show 0 ≤ wi (s.c7 + 1); omega
    · show wi (s.c7 + 1) ≤ 6; omega
    · show (6 - wi (s.c7 + 1)).toNat < (6 - s.c7).toNat; omega)
  have he : trip_Parse_s_L0_end x l ⟨0⟩ = s1 := by simp only [trip_Parse_s_L0_end, e, Option.getD_some]
  exact ⟨by simp only [trip_Parse_s_L0_ok, e]; rfl, by rw [he]; exact a1, by rw [he]; exact a2⟩
theorem name_c (s : trip_Parse_s_L0_s0) (h1 : 0 ≤ s.c7) : trip_Parse_s_L0_c0 s = decide (s.c7 < 6) ∧ trip_Parse_s_L0_c1 s = !(decide (s.c7 < 6)) := by
  by_cases h : s.c7 < 6
  · have i1 : inb 6 s.c7 = true := inb_of h1 h
    simp [trip_Parse_s_L0_c0, trip_Parse_s_L0_c1, tb_eq, h, i1, h1]
  · simp [trip_Parse_s_L0_c0, trip_Parse_s_L0_c1, tb_eq, h]
theorem parts_loop (l : List ByteArray) (hl : l.length < 1000000000) : trip_Parse_s_L1_ok l ((l.length : Nat) : Int) ⟨0, 0⟩ = true ∧ trip_Parse_s_L1_c0 ((l.length : Nat) : Int) (trip_Parse_s_L1_end l ((l.length : Nat) : Int) ⟨0, 0⟩) = true ∧
    0 ≤ (trip_Parse_s_L1_end l ((l.length : Nat) : Int) ⟨0, 0⟩).c1 ∧ (trip_Parse_s_L1_end l ((l.length : Nat) : Int) ⟨0, 0⟩).c1 ≤ 63 := by
  obtain ⟨s1, e, ⟨a1, a2⟩, a3⟩ := idx_loop (sel := trip_Parse_s_L1_sel l ((l.length : Nat) : Int)) (nx := trip_Parse_s_L1_nx l ((l.length : Nat) : Int)) (s0 := ⟨0, 0⟩) ((l.length : Nat) : Int) (fun s => s.c4) (fun s => 0 ≤ s.c1 ∧ s.c1 ≤ 63) (by omega) ⟨by decide, by decide⟩ (by decide) (by show (0 : Int) ≤ _; omega)
    (fun s ⟨b1, b2⟩ b3 b4 => by
      obtain ⟨n1, n2, n3⟩ := name_loop (gt l s.c4) [gl0_0, gl0_1, gl0_2, gl0_3, gl0_4, gl0_5]
      have i1 : inb l.length s.c4 = true := inb_of b3 b4
      have hE : trip_Parse_s_L1_h0_e0 l s = trip_Parse_s_L0_end (gt l s.c4) [gl0_0, gl0_1, gl0_2, gl0_3, gl0_4, gl0_5] ⟨0⟩ := rfl
      obtain ⟨c0, c1⟩ := name_c (trip_Parse_s_L1_h0_e0 l s) (by rw [hE]; exact n2)
      have hw : wi (s.c4 + 1) = s.c4 + 1 := wi_eq (by omega) (by omega)
      refine ⟨?_, ?_, ?_⟩
      · simp only [trip_Parse_s_L1_sel, i1, n1, c0, c1, tb_eq]
        rw [decide_eq_true b4]
        cases decide ((trip_Parse_s_L1_h0_e0 l s).c7 < 6) <;> rfl
      · simp only [trip_Parse_s_L1_nx, c0, tb_eq]
        by_cases h : (trip_Parse_s_L1_h0_e0 l s).c7 < 6
        · simp only [h, decide_true, cond_true]
          exact or_in ⟨b1, b2⟩ ⟨by rw [hE]; exact n2, h⟩
        · simp only [h, decide_false, cond_false]
          exact ⟨b1, b2⟩
      · simp only [trip_Parse_s_L1_nx, c0, tb_eq]
        cases decide ((trip_Parse_s_L1_h0_e0 l s).c7 < 6) <;> exact hw)
    (fun s _ b => by simp [trip_Parse_s_L1_sel, tb_eq, b])
  have he : trip_Parse_s_L1_end l ((l.length : Nat) : Int) ⟨0, 0⟩ = s1 := by simp only [trip_Parse_s_L1_end, e, Option.getD_some]
  rw [he]
  exact ⟨by simp only [trip_Parse_s_L1_ok, e]; rfl, by simp [trip_Parse_s_L1_c0, tb_eq, a3], a1, a2⟩
theorem splitC_len (b : UInt8) : ∀ l : List UInt8, (splitC b l).length ≤ l.length + 1
  | [] => by simp [splitC]
  | x :: r => by
    have := splitC_len b r
    unfold splitC
    split
    · simp only [List.length_cons]; omega
    · rename_i p q h
      rw [h] at this
      simp only [List.length_cons] at this ⊢; omega
    · simp
theorem parse_c {s : ByteArray} (hs : s.size ≤ 1000) : trip_Parse_s_c0 s = true ∧ 0 ≤ (trip_Parse_s_S2_e0 s).c1 ∧ (trip_Parse_s_S2_e0 s).c1 ≤ 63 := by
  have hl : (splitT (headB ⟨#[43]⟩) s).length < 1000000000 := by
    have h1 := splitC_len (headB ⟨#[43]⟩) s.data.toList
    have h2 : s.data.toList.length = s.size := by rw [Array.length_toList]; rfl
    unfold splitT
    rw [List.length_map]; omega
  obtain ⟨p1, p2, p3, p4⟩ := parts_loop _ hl
  have hc : strings_Split_ss_c0 s ⟨#[43]⟩ = true := by
    simp only [strings_Split_ss_c0, Bool.and_eq_true]
    exact ⟨rfl, by simp; omega⟩
  have hE : trip_Parse_s_S2_e0 s = trip_Parse_s_L1_end (splitT (headB ⟨#[43]⟩) s) (((splitT (headB ⟨#[43]⟩) s).length : Nat) : Int) ⟨0, 0⟩ := rfl
  refine ⟨?_, by rw [hE]; exact p3, by rw [hE]; exact p4⟩
  have h2 : trip_Parse_s_S2_c0 s = true := by simp only [trip_Parse_s_S2_c0, hc, p1, hE, p2, tb_eq]; rfl
  simp only [trip_Parse_s_c0, h2, (text_all _).1, tb_eq]; rfl
theorem parse_hit {m : Int} (hm : 0 ≤ m ∧ m ≤ 63) : trip_Parse_s_r0_0 (trip_Text_i_r0_0 m) = m ∧ trip_Parse_s_r0_1 (trip_Text_i_r0_0 m) = 0 := by
  have h := (mask_in hm).2.2.2.2.2
  simp only [trip_Parse_s_r0_0, trip_Parse_s_r0_1, h, bytes_self, Bool.not_true, tb_eq, cond_false, and_self]
end Go.Proofs.YtlenjioebdmooaaDoor.Den

namespace Go.Proofs.YtlenjioebdmooaaDoor.Den
open Go Go.Proofs
set_option maxRecDepth 100000
set_option maxHeartbeats 4000000
set_option linter.unusedVariables false
set_option linter.unusedSimpArgs false
theorem law14_alive_t0 : cl E0 5 [] [] = some ([(V.d (.bool true))], []) := cl_of (n := 60) (by kernel_rfl)
end Go.Proofs.YtlenjioebdmooaaDoor.Den

namespace Go.Proofs.YtlenjioebdmooaaDoor.Den
open Go Go.Proofs
set_option maxRecDepth 100000
set_option maxHeartbeats 4000000
set_option linter.unusedVariables false
set_option linter.unusedSimpArgs false
def law14_TripBack_S0_c0 (x4 : ByteArray) : Bool := (bif tb (trip_Parse_s_c0 x4) then true else false)
theorem law14_TripBack_S0_t0 (x0 : List Bool) (x1 : Bool) (x2 : Int) (x3 : ByteArray) (x4 : ByteArray) : law14_TripBack_S0_c0 x4 = true → segG (runC E0 (cl E0) S4_0) [0, 1, 5, 7] [] [0, 1, 5, 7, 8, 9] 1 ([(V.d (.int .i64 x2)), (V.d (.str x3)), (V.ptr 0 1 0 0), (V.d (.str x4))], [(Blk.flat 34 6 [[(.bool (gt x0 0)), (.bool (gt x0 1)), (.bool (gt x0 2)), (.bool (gt x0 3)), (.bool (gt x0 4)), (.bool (gt x0 5))]] x1)]) = some (.normal, ([(V.d (.int .i64 x2)), (V.d (.str x3)), (V.ptr 0 1 0 0), (V.d (.str x4)), (V.d (.int .i64 (trip_Parse_s_r0_0 x4))), (V.d (.int .i64 (trip_Parse_s_r0_1 x4)))], [(Blk.flat 34 6 [[(.bool (gt x0 0)), (.bool (gt x0 1)), (.bool (gt x0 2)), (.bool (gt x0 3)), (.bool (gt x0 4)), (.bool (gt x0 5))]] x1)])) := by
  unfold law14_TripBack_S0_c0
  cases h1 : tb (trip_Parse_s_c0 x4)
  · intro g0
    exact absurd g0 ft
  · intro g0
    exact seg_walk [.c (trip_Parse_s_t0 x4 (tbE h1))] (by kernel_rfl)
def law14_TripBack_S1_c0 (x2 : Int) (x4 : ByteArray) (x5 : Int) (x6 : Int) : Bool := (bif tb (decide (0 ≤ x2)) then (bif tb (true != ((!(x4.toList == (⟨#[]⟩ : ByteArray).toList)) == (decide (x2 ≤ 63)))) then true else (bif tb (!(x4.toList == (⟨#[]⟩ : ByteArray).toList)) then (bif tb ((x6 : Int) != 0) then true else (bif tb ((x5 : Int) != x2) then true else false)) else false)) else (bif tb (true != ((!(x4.toList == (⟨#[]⟩ : ByteArray).toList)) == false)) then true else (bif tb (!(x4.toList == (⟨#[]⟩ : ByteArray).toList)) then (bif tb ((x6 : Int) != 0) then true else (bif tb ((x5 : Int) != x2) then true else false)) else false)))
theorem law14_TripBack_S1_t0 (x0 : List Bool) (x1 : Bool) (x2 : Int) (x3 : ByteArray) (x4 : ByteArray) (x5 : Int) (x6 : Int) : law14_TripBack_S1_c0 x2 x4 x5 x6 = true → segG (runC E0 (cl E0) S4_1) [0, 1, 5, 7, 8, 9] [6] [1, 5] 1 ([(V.d (.int .i64 x2)), (V.d (.str x3)), (V.ptr 0 1 0 0), (V.d (.str x4)), (V.d (.int .i64 x5)), (V.d (.int .i64 x6))], [(Blk.flat 34 6 [[(.bool (gt x0 0)), (.bool (gt x0 1)), (.bool (gt x0 2)), (.bool (gt x0 3)), (.bool (gt x0 4)), (.bool (gt x0 5))]] x1)]) = some (.ret, ([(V.d (.bool false))], [(Blk.flat 34 6 [[(.bool (gt x0 0)), (.bool (gt x0 1)), (.bool (gt x0 2)), (.bool (gt x0 3)), (.bool (gt x0 4)), (.bool (gt x0 5))]] x1)])) := by
  unfold law14_TripBack_S1_c0
  cases h1 : tb (decide (0 ≤ x2))
  · cases h2 : tb (true != ((!(x4.toList == (⟨#[]⟩ : ByteArray).toList)) == false))
    · cases h3 : tb (!(x4.toList == (⟨#[]⟩ : ByteArray).toList))
      · intro g0
        exact absurd g0 ft
      · cases h4 : tb ((x6 : Int) != 0)
        · cases h5 : tb ((x5 : Int) != x2)
          · intro g0
            exact absurd g0 ft
          · intro g0
            exact seg_walk [.b (tbE h1), .b (tbE h2), .b (tbE h3), .b (tbE h4), .b (tbE h5)] (by kernel_rfl)
        · intro g0
          exact seg_walk [.b (tbE h1), .b (tbE h2), .b (tbE h3), .b (tbE h4)] (by kernel_rfl)
    · intro g0
      exact seg_walk [.b (tbE h1), .b (tbE h2)] (by kernel_rfl)
  · cases h2 : tb (true != ((!(x4.toList == (⟨#[]⟩ : ByteArray).toList)) == (decide (x2 ≤ 63))))
    · cases h3 : tb (!(x4.toList == (⟨#[]⟩ : ByteArray).toList))
      · intro g0
        exact absurd g0 ft
      · cases h4 : tb ((x6 : Int) != 0)
        · cases h5 : tb ((x5 : Int) != x2)
          · intro g0
            exact absurd g0 ft
          · intro g0
            exact seg_walk [.b (tbE h1), .b (tbE h2), .b (tbE h3), .b (tbE h4), .b (tbE h5)] (by kernel_rfl)
        · intro g0
          exact seg_walk [.b (tbE h1), .b (tbE h2), .b (tbE h3), .b (tbE h4)] (by kernel_rfl)
    · intro g0
      exact seg_walk [.b (tbE h1), .b (tbE h2)] (by kernel_rfl)
theorem law14_TripBack_S1_t1 (x0 : List Bool) (x1 : Bool) (x2 : Int) (x3 : ByteArray) (x4 : ByteArray) (x5 : Int) (x6 : Int) : law14_TripBack_S1_c0 x2 x4 x5 x6 = false → segG (runC E0 (cl E0) S4_1) [0, 1, 5, 7, 8, 9] [6] [1, 5] 1 ([(V.d (.int .i64 x2)), (V.d (.str x3)), (V.ptr 0 1 0 0), (V.d (.str x4)), (V.d (.int .i64 x5)), (V.d (.int .i64 x6))], [(Blk.flat 34 6 [[(.bool (gt x0 0)), (.bool (gt x0 1)), (.bool (gt x0 2)), (.bool (gt x0 3)), (.bool (gt x0 4)), (.bool (gt x0 5))]] x1)]) = some (.normal, ([(V.d (.str x3)), (V.ptr 0 1 0 0)], [(Blk.flat 34 6 [[(.bool (gt x0 0)), (.bool (gt x0 1)), (.bool (gt x0 2)), (.bool (gt x0 3)), (.bool (gt x0 4)), (.bool (gt x0 5))]] x1)])) := by
  unfold law14_TripBack_S1_c0
  cases h1 : tb (decide (0 ≤ x2))
  · cases h2 : tb (true != ((!(x4.toList == (⟨#[]⟩ : ByteArray).toList)) == false))
    · cases h3 : tb (!(x4.toList == (⟨#[]⟩ : ByteArray).toList))
      · intro g0
        exact seg_walk [.b (tbE h1), .b (tbE h2), .b (tbE h3)] (by kernel_rfl)
      · cases h4 : tb ((x6 : Int) != 0)
        · cases h5 : tb ((x5 : Int) != x2)
          · intro g0
            exact seg_walk [.b (tbE h1), .b (tbE h2), .b (tbE h3), .b (tbE h4), .b (tbE h5)] (by kernel_rfl)
          · intro g0
            exact absurd g0 tf
        · intro g0
          exact absurd g0 tf
    · intro g0
      exact absurd g0 tf
  · cases h2 : tb (true != ((!(x4.toList == (⟨#[]⟩ : ByteArray).toList)) == (decide (x2 ≤ 63))))
    · cases h3 : tb (!(x4.toList == (⟨#[]⟩ : ByteArray).toList))
      · intro g0
        exact seg_walk [.b (tbE h1), .b (tbE h2), .b (tbE h3)] (by kernel_rfl)
      · cases h4 : tb ((x6 : Int) != 0)
        · cases h5 : tb ((x5 : Int) != x2)
          · intro g0
            exact seg_walk [.b (tbE h1), .b (tbE h2), .b (tbE h3), .b (tbE h4), .b (tbE h5)] (by kernel_rfl)
          · intro g0
            exact absurd g0 tf
        · intro g0
          exact absurd g0 tf
    · intro g0
      exact absurd g0 tf
def law14_TripBack_S2_c0 (x2 : ByteArray) : Bool := (bif tb (trip_Parse_s_c0 x2) then true else false)
theorem law14_TripBack_S2_t0 (x0 : List Bool) (x1 : Bool) (x2 : ByteArray) : law14_TripBack_S2_c0 x2 = true → segG (runC E0 (cl E0) S4_2) [1, 5] [] [1, 5, 10, 11] 1 ([(V.d (.str x2)), (V.ptr 0 1 0 0)], [(Blk.flat 34 6 [[(.bool (gt x0 0)), (.bool (gt x0 1)), (.bool (gt x0 2)), (.bool (gt x0 3)), (.bool (gt x0 4)), (.bool (gt x0 5))]] x1)]) = some (.normal, ([(V.d (.str x2)), (V.ptr 0 1 0 0), (V.d (.int .i64 (trip_Parse_s_r0_0 x2))), (V.d (.int .i64 (trip_Parse_s_r0_1 x2)))], [(Blk.flat 34 6 [[(.bool (gt x0 0)), (.bool (gt x0 1)), (.bool (gt x0 2)), (.bool (gt x0 3)), (.bool (gt x0 4)), (.bool (gt x0 5))]] x1)])) := by
  unfold law14_TripBack_S2_c0
  cases h1 : tb (trip_Parse_s_c0 x2)
  · intro g0
    exact absurd g0 ft
  · intro g0
    exact seg_walk [.c (trip_Parse_s_t0 x2 (tbE h1))] (by kernel_rfl)
def law14_TripBack_S3_c0 (x2 : ByteArray) (x3 : Int) (x4 : Int) : Bool := (bif tb ((x4 : Int) == 0) then (bif tb (trip_Text_i_c0 x3) then (bif tb (!((trip_Text_i_r0_0 x3).toList == x2.toList)) then true else false) else false) else false)
def law14_TripBack_S3_c1 (x2 : ByteArray) (x3 : Int) (x4 : Int) : Bool := (bif tb ((x4 : Int) == 0) then (bif tb (trip_Text_i_c0 x3) then (bif tb (!((trip_Text_i_r0_0 x3).toList == x2.toList)) then false else true) else false) else true)
theorem law14_TripBack_S3_t0 (x0 : List Bool) (x1 : Bool) (x2 : ByteArray) (x3 : Int) (x4 : Int) : law14_TripBack_S3_c0 x2 x3 x4 = true → segG (runC E0 (cl E0) S4_3) [1, 5, 10, 11] [6] [5] 1 ([(V.d (.str x2)), (V.ptr 0 1 0 0), (V.d (.int .i64 x3)), (V.d (.int .i64 x4))], [(Blk.flat 34 6 [[(.bool (gt x0 0)), (.bool (gt x0 1)), (.bool (gt x0 2)), (.bool (gt x0 3)), (.bool (gt x0 4)), (.bool (gt x0 5))]] x1)]) = some (.ret, ([(V.d (.bool false))], [(Blk.flat 34 6 [[(.bool (gt x0 0)), (.bool (gt x0 1)), (.bool (gt x0 2)), (.bool (gt x0 3)), (.bool (gt x0 4)), (.bool (gt x0 5))]] x1)])) := by
  unfold law14_TripBack_S3_c0
  cases h1 : tb ((x4 : Int) == 0)
  · intro g0
    exact absurd g0 ft
  · cases h2 : tb (trip_Text_i_c0 x3)
    · intro g0
      exact absurd g0 ft
    · cases h3 : tb (!((trip_Text_i_r0_0 x3).toList == x2.toList))
      · intro g0
        exact absurd g0 ft
      · intro g0
        exact seg_walk [.b (tbE h1), .c (trip_Text_i_t0 x3 (tbE h2)), .b (tbE h3)] (by kernel_rfl)
theorem law14_TripBack_S3_t1 (x0 : List Bool) (x1 : Bool) (x2 : ByteArray) (x3 : Int) (x4 : Int) : law14_TripBack_S3_c0 x2 x3 x4 = false → law14_TripBack_S3_c1 x2 x3 x4 = true → segG (runC E0 (cl E0) S4_3) [1, 5, 10, 11] [6] [5] 1 ([(V.d (.str x2)), (V.ptr 0 1 0 0), (V.d (.int .i64 x3)), (V.d (.int .i64 x4))], [(Blk.flat 34 6 [[(.bool (gt x0 0)), (.bool (gt x0 1)), (.bool (gt x0 2)), (.bool (gt x0 3)), (.bool (gt x0 4)), (.bool (gt x0 5))]] x1)]) = some (.normal, ([(V.ptr 0 1 0 0)], [(Blk.flat 34 6 [[(.bool (gt x0 0)), (.bool (gt x0 1)), (.bool (gt x0 2)), (.bool (gt x0 3)), (.bool (gt x0 4)), (.bool (gt x0 5))]] x1)])) := by
  unfold law14_TripBack_S3_c0 law14_TripBack_S3_c1
  cases h1 : tb ((x4 : Int) == 0)
  · intro g0 g1
    exact seg_walk [.b (tbE h1)] (by kernel_rfl)
  · cases h2 : tb (trip_Text_i_c0 x3)
    · intro g0 g1
      exact absurd g1 ft
    · cases h3 : tb (!((trip_Text_i_r0_0 x3).toList == x2.toList))
      · intro g0 g1
        exact seg_walk [.b (tbE h1), .c (trip_Text_i_t0 x3 (tbE h2)), .b (tbE h3)] (by kernel_rfl)
      · intro g0 g1
        exact absurd g0 tf
structure law14_TripBack_L4_s0 where
  c1 : Int
  c2 : Int
  deriving Inhabited
def law14_TripBack_L4_enc (x0 : List Bool) (x1 : Bool) (x2 : Bool) (x3 : Bool) (x4 : Bool) (x5 : Bool) (x6 : Bool) (x7 : Bool) (x8 : Bool) (x9 : Int) (x10 : Int) (x11 : Int) (s0 : law14_TripBack_L4_s0) : List V × Mem := ([(V.ptr 0 1 0 0), (V.d (.int .i64 x9)), (V.d (.int .i64 s0.c1)), (V.d (.int .i64 s0.c2))], [(Blk.flat 34 6 [[(.bool (gt x0 0)), (.bool (gt x0 1)), (.bool (gt x0 2)), (.bool (gt x0 3)), (.bool (gt x0 4)), (.bool (gt x0 5))]] x7), (Blk.flat 4 1 [[(.bool x1)], [(.bool x2)], [(.bool x3)], [(.bool x4)], [(.bool x5)], [(.bool x6)]] x8)])
def law14_TripBack_L4_sel (x0 : List Bool) (x9 : Int) (s0 : law14_TripBack_L4_s0) : Bool := (bif tb (decide (s0.c2 < 6)) then (bif tb (inb 6 s0.c2) then (bif tb (true != ((trip_In_ii_r0_0 x9 s0.c1) == (gt x0 s0.c2))) then false else true) else false) else false)
def law14_TripBack_L4_nx (x0 : List Bool) (x9 : Int) (s0 : law14_TripBack_L4_s0) : law14_TripBack_L4_s0 := ⟨(wi (2 * s0.c1)), (wi (s0.c2 + 1))⟩
def law14_TripBack_L4_ok (x0 : List Bool) (x9 : Int) (s0 : law14_TripBack_L4_s0) : Bool := (itS (law14_TripBack_L4_sel x0 x9) (law14_TripBack_L4_nx x0 x9) bound s0).isSome
def law14_TripBack_L4_end (x0 : List Bool) (x9 : Int) (s0 : law14_TripBack_L4_s0) : law14_TripBack_L4_s0 := (itS (law14_TripBack_L4_sel x0 x9) (law14_TripBack_L4_nx x0 x9) bound s0).getD default
theorem law14_TripBack_L4_go (x0 : List Bool) (x1 : Bool) (x2 : Bool) (x3 : Bool) (x4 : Bool) (x5 : Bool) (x6 : Bool) (x7 : Bool) (x8 : Bool) (x9 : Int) (x10 : Int) (x11 : Int) (s0 : law14_TripBack_L4_s0) : law14_TripBack_L4_sel x0 x9 s0 = true → (roundG (runC E0 (cl E0) L4_4) [5, 12, 13, 14] [6, 12] 2) (law14_TripBack_L4_enc x0 x1 x2 x3 x4 x5 x6 x7 x8 x9 x10 x11 s0) = some (.normal, law14_TripBack_L4_enc x0 x1 x2 x3 x4 x5 x6 x7 x8 x9 x10 x11 (law14_TripBack_L4_nx x0 x9 s0)) := by
  unfold law14_TripBack_L4_sel law14_TripBack_L4_nx
  cases h1 : tb (decide (s0.c2 < 6))
  · intro g0
    exact absurd g0 ft
  · cases h2 : tb (inb 6 s0.c2)
    · intro g0
      exact absurd g0 ft
    · cases h3 : tb (true != ((trip_In_ii_r0_0 x9 s0.c1) == (gt x0 s0.c2)))
      · intro _
        exact round_walk [.b (tbE h1), .c (trip_In_ii_t0 x9 s0.c1), .o 83 (fun _ => o_idxAA (id := 0) (nn := 1) (row := 0) (off := 0) (n := 6) (s := 1) (k := .i64) (i := s0.c2) (tbE h2)), .m 84 (o_load_arrE (m := [(Blk.flat 34 6 [[(.bool (gt x0 0)), (.bool (gt x0 1)), (.bool (gt x0 2)), (.bool (gt x0 3)), (.bool (gt x0 4)), (.bool (gt x0 5))]] x7), (Blk.flat 4 1 [[(.bool x1)], [(.bool x2)], [(.bool x3)], [(.bool x4)], [(.bool x5)], [(.bool x6)]] x8)]) (enc := encB) (z := 1) (fun _ => rfl) (by decide) (id := 0) (nn := 1) (row := 0) (off := 0) (n := 6) (o := 0) (size := 1) (agg := false) (T := x0) (i := s0.c2) (v := (V.d (.bool (gt x0 s0.c2)))) (by kernel_rfl) (tbE h2) (by kernel_rfl)), .b (tbE h3)] (by kernel_rfl)
      · intro g0
        exact absurd g0 ft
def law14_TripBack_L4_c0 (s0 : law14_TripBack_L4_s0) : Bool := (bif tb (decide (s0.c2 < 6)) then (bif tb (inb 6 s0.c2) then true else false) else false)
def law14_TripBack_L4_c1 (s0 : law14_TripBack_L4_s0) : Bool := (bif tb (decide (s0.c2 < 6)) then false else true)
theorem law14_TripBack_L4_x0 (x0 : List Bool) (x1 : Bool) (x2 : Bool) (x3 : Bool) (x4 : Bool) (x5 : Bool) (x6 : Bool) (x7 : Bool) (x8 : Bool) (x9 : Int) (x10 : Int) (x11 : Int) (s0 : law14_TripBack_L4_s0) : law14_TripBack_L4_sel x0 x9 s0 = false → law14_TripBack_L4_c0 s0 = true → (roundG (runC E0 (cl E0) L4_4) [5, 12, 13, 14] [6, 12] 2) (law14_TripBack_L4_enc x0 x1 x2 x3 x4 x5 x6 x7 x8 x9 x10 x11 s0) = some (.ret, ([(V.d (.bool false)), (V.d (.int .i64 x9))], [(Blk.flat 34 6 [[(.bool (gt x0 0)), (.bool (gt x0 1)), (.bool (gt x0 2)), (.bool (gt x0 3)), (.bool (gt x0 4)), (.bool (gt x0 5))]] x7), (Blk.flat 4 1 [[(.bool x1)], [(.bool x2)], [(.bool x3)], [(.bool x4)], [(.bool x5)], [(.bool x6)]] x8)])) := by
  unfold law14_TripBack_L4_sel law14_TripBack_L4_c0
  cases h1 : tb (decide (s0.c2 < 6))
  · intro g0 g1
    exact absurd g1 ft
  · cases h2 : tb (inb 6 s0.c2)
    · intro g0 g1
      exact absurd g1 ft
    · cases h3 : tb (true != ((trip_In_ii_r0_0 x9 s0.c1) == (gt x0 s0.c2)))
      · intro g0 g1
        exact absurd g0 tf
      · intro g0 g1
        exact round_walk [.b (tbE h1), .c (trip_In_ii_t0 x9 s0.c1), .o 83 (fun _ => o_idxAA (id := 0) (nn := 1) (row := 0) (off := 0) (n := 6) (s := 1) (k := .i64) (i := s0.c2) (tbE h2)), .m 84 (o_load_arrE (m := [(Blk.flat 34 6 [[(.bool (gt x0 0)), (.bool (gt x0 1)), (.bool (gt x0 2)), (.bool (gt x0 3)), (.bool (gt x0 4)), (.bool (gt x0 5))]] x7), (Blk.flat 4 1 [[(.bool x1)], [(.bool x2)], [(.bool x3)], [(.bool x4)], [(.bool x5)], [(.bool x6)]] x8)]) (enc := encB) (z := 1) (fun _ => rfl) (by decide) (id := 0) (nn := 1) (row := 0) (off := 0) (n := 6) (o := 0) (size := 1) (agg := false) (T := x0) (i := s0.c2) (v := (V.d (.bool (gt x0 s0.c2)))) (by kernel_rfl) (tbE h2) (by kernel_rfl)), .b (tbE h3)] (by kernel_rfl)
theorem law14_TripBack_L4_x1 (x0 : List Bool) (x1 : Bool) (x2 : Bool) (x3 : Bool) (x4 : Bool) (x5 : Bool) (x6 : Bool) (x7 : Bool) (x8 : Bool) (x9 : Int) (x10 : Int) (x11 : Int) (s0 : law14_TripBack_L4_s0) : law14_TripBack_L4_sel x0 x9 s0 = false → law14_TripBack_L4_c0 s0 = false → law14_TripBack_L4_c1 s0 = true → (roundG (runC E0 (cl E0) L4_4) [5, 12, 13, 14] [6, 12] 2) (law14_TripBack_L4_enc x0 x1 x2 x3 x4 x5 x6 x7 x8 x9 x10 x11 s0) = some ((.exit 0), ([V.un, (V.d (.int .i64 x9))], [(Blk.flat 34 6 [[(.bool (gt x0 0)), (.bool (gt x0 1)), (.bool (gt x0 2)), (.bool (gt x0 3)), (.bool (gt x0 4)), (.bool (gt x0 5))]] x7), (Blk.flat 4 1 [[(.bool x1)], [(.bool x2)], [(.bool x3)], [(.bool x4)], [(.bool x5)], [(.bool x6)]] x8)])) := by
  unfold law14_TripBack_L4_sel law14_TripBack_L4_c0 law14_TripBack_L4_c1
  cases h1 : tb (decide (s0.c2 < 6))
  · intro g0 g1 g2
    exact round_walk [.b (tbE h1)] (by kernel_rfl)
  · cases h2 : tb (inb 6 s0.c2)
    · intro g0 g1 g2
      exact absurd g2 ft
    · cases h3 : tb (true != ((trip_In_ii_r0_0 x9 s0.c1) == (gt x0 s0.c2)))
      · intro g0 g1 g2
        exact absurd g0 tf
      · intro g0 g1 g2
        exact absurd g1 tf
theorem law14_TripBack_L4_f0_0 (x0 : List Bool) (x1 : Bool) (x2 : Bool) (x3 : Bool) (x4 : Bool) (x5 : Bool) (x6 : Bool) (x7 : Bool) (x8 : Bool) (x9 : Int) (x10 : Int) (x11 : Int) (s : law14_TripBack_L4_s0) (hok : law14_TripBack_L4_ok x0 x9 s = true) (c0 : law14_TripBack_L4_c0 (law14_TripBack_L4_end x0 x9 s) = true) : loopG (roundG (runC E0 (cl E0) L4_4) [5, 12, 13, 14] [6, 12] 2) bound (law14_TripBack_L4_enc x0 x1 x2 x3 x4 x5 x6 x7 x8 x9 x10 x11 s) = some (.ret, ([(V.d (.bool false)), (V.d (.int .i64 x9))], [(Blk.flat 34 6 [[(.bool (gt x0 0)), (.bool (gt x0 1)), (.bool (gt x0 2)), (.bool (gt x0 3)), (.bool (gt x0 4)), (.bool (gt x0 5))]] x7), (Blk.flat 4 1 [[(.bool x1)], [(.bool x2)], [(.bool x3)], [(.bool x4)], [(.bool x5)], [(.bool x6)]] x8)])) := by
  have e : itS (law14_TripBack_L4_sel x0 x9) (law14_TripBack_L4_nx x0 x9) bound s = some (law14_TripBack_L4_end x0 x9 s) := itS_get hok
  have f := itS_false e
  exact loop_it (law14_TripBack_L4_go x0 x1 x2 x3 x4 x5 x6 x7 x8 x9 x10 x11) bound s _ _ _ e (fun h => by cases h) (law14_TripBack_L4_x0 x0 x1 x2 x3 x4 x5 x6 x7 x8 x9 x10 x11 (law14_TripBack_L4_end x0 x9 s) f c0)
theorem law14_TripBack_L4_f0_1 (x0 : List Bool) (x1 : Bool) (x2 : Bool) (x3 : Bool) (x4 : Bool) (x5 : Bool) (x6 : Bool) (x7 : Bool) (x8 : Bool) (x9 : Int) (x10 : Int) (x11 : Int) (s : law14_TripBack_L4_s0) (hok : law14_TripBack_L4_ok x0 x9 s = true) (c0 : law14_TripBack_L4_c0 (law14_TripBack_L4_end x0 x9 s) = false) (c1 : law14_TripBack_L4_c1 (law14_TripBack_L4_end x0 x9 s) = true) : loopG (roundG (runC E0 (cl E0) L4_4) [5, 12, 13, 14] [6, 12] 2) bound (law14_TripBack_L4_enc x0 x1 x2 x3 x4 x5 x6 x7 x8 x9 x10 x11 s) = some ((.exit 0), ([V.un, (V.d (.int .i64 x9))], [(Blk.flat 34 6 [[(.bool (gt x0 0)), (.bool (gt x0 1)), (.bool (gt x0 2)), (.bool (gt x0 3)), (.bool (gt x0 4)), (.bool (gt x0 5))]] x7), (Blk.flat 4 1 [[(.bool x1)], [(.bool x2)], [(.bool x3)], [(.bool x4)], [(.bool x5)], [(.bool x6)]] x8)])) := by
  have e : itS (law14_TripBack_L4_sel x0 x9) (law14_TripBack_L4_nx x0 x9) bound s = some (law14_TripBack_L4_end x0 x9 s) := itS_get hok
  have f := itS_false e
  exact loop_it (law14_TripBack_L4_go x0 x1 x2 x3 x4 x5 x6 x7 x8 x9 x10 x11) bound s _ _ _ e (fun h => by cases h) (law14_TripBack_L4_x1 x0 x1 x2 x3 x4 x5 x6 x7 x8 x9 x10 x11 (law14_TripBack_L4_end x0 x9 s) f c0 c1)
def law14_TripBack_S5_c0 (x0 : List Bool) (x9 : Int) : Bool := (bif tb (law14_TripBack_L4_ok x0 x9 (⟨1, 0⟩ : law14_TripBack_L4_s0)) then (bif tb (law14_TripBack_L4_c0 (law14_TripBack_L4_end x0 x9 (⟨1, 0⟩ : law14_TripBack_L4_s0))) then true else false) else false)
def law14_TripBack_S5_c1 (x0 : List Bool) (x9 : Int) : Bool := (bif tb (law14_TripBack_L4_ok x0 x9 (⟨1, 0⟩ : law14_TripBack_L4_s0)) then (bif tb (law14_TripBack_L4_c0 (law14_TripBack_L4_end x0 x9 (⟨1, 0⟩ : law14_TripBack_L4_s0))) then false else (bif tb (law14_TripBack_L4_c1 (law14_TripBack_L4_end x0 x9 (⟨1, 0⟩ : law14_TripBack_L4_s0))) then true else false)) else false)
theorem law14_TripBack_S5_t0 (x0 : List Bool) (x1 : Bool) (x2 : Bool) (x3 : Bool) (x4 : Bool) (x5 : Bool) (x6 : Bool) (x7 : Bool) (x8 : Bool) (x9 : Int) : law14_TripBack_S5_c0 x0 x9 = true → segG (runC E0 (cl E0) S4_5) [5, 12, 13] [6] [12] 2 ([(V.ptr 0 1 0 0), (V.d (.int .i64 x9)), (V.d (.int .i64 1))], [(Blk.flat 34 6 [[(.bool (gt x0 0)), (.bool (gt x0 1)), (.bool (gt x0 2)), (.bool (gt x0 3)), (.bool (gt x0 4)), (.bool (gt x0 5))]] x7), (Blk.flat 4 1 [[(.bool x1)], [(.bool x2)], [(.bool x3)], [(.bool x4)], [(.bool x5)], [(.bool x6)]] x8)]) = some (.ret, ([(V.d (.bool false))], [(Blk.flat 34 6 [[(.bool (gt x0 0)), (.bool (gt x0 1)), (.bool (gt x0 2)), (.bool (gt x0 3)), (.bool (gt x0 4)), (.bool (gt x0 5))]] x7), (Blk.flat 4 1 [[(.bool x1)], [(.bool x2)], [(.bool x3)], [(.bool x4)], [(.bool x5)], [(.bool x6)]] x8)])) := by
  unfold law14_TripBack_S5_c0
  cases h1 : tb (law14_TripBack_L4_ok x0 x9 (⟨1, 0⟩ : law14_TripBack_L4_s0))
  · intro g0
    exact absurd g0 ft
  · cases h2 : tb (law14_TripBack_L4_c0 (law14_TripBack_L4_end x0 x9 (⟨1, 0⟩ : law14_TripBack_L4_s0)))
    · cases h3 : tb (law14_TripBack_L4_c1 (law14_TripBack_L4_end x0 x9 (⟨1, 0⟩ : law14_TripBack_L4_s0)))
      · intro g0
        exact absurd g0 ft
      · intro g0
        exact absurd g0 ft
    · intro g0
      exact seg_walk [.l (law14_TripBack_L4_f0_0 x0 x1 x2 x3 x4 x5 x6 x7 x8 x9 1 0 (⟨1, 0⟩ : law14_TripBack_L4_s0) (tbE h1) (tbE h2))] (by kernel_rfl)
theorem law14_TripBack_S5_t1 (x0 : List Bool) (x1 : Bool) (x2 : Bool) (x3 : Bool) (x4 : Bool) (x5 : Bool) (x6 : Bool) (x7 : Bool) (x8 : Bool) (x9 : Int) : law14_TripBack_S5_c0 x0 x9 = false → law14_TripBack_S5_c1 x0 x9 = true → segG (runC E0 (cl E0) S4_5) [5, 12, 13] [6] [12] 2 ([(V.ptr 0 1 0 0), (V.d (.int .i64 x9)), (V.d (.int .i64 1))], [(Blk.flat 34 6 [[(.bool (gt x0 0)), (.bool (gt x0 1)), (.bool (gt x0 2)), (.bool (gt x0 3)), (.bool (gt x0 4)), (.bool (gt x0 5))]] x7), (Blk.flat 4 1 [[(.bool x1)], [(.bool x2)], [(.bool x3)], [(.bool x4)], [(.bool x5)], [(.bool x6)]] x8)]) = some (.normal, ([(V.d (.int .i64 x9))], [(Blk.flat 34 6 [[(.bool (gt x0 0)), (.bool (gt x0 1)), (.bool (gt x0 2)), (.bool (gt x0 3)), (.bool (gt x0 4)), (.bool (gt x0 5))]] x7), (Blk.flat 4 1 [[(.bool x1)], [(.bool x2)], [(.bool x3)], [(.bool x4)], [(.bool x5)], [(.bool x6)]] x8)])) := by
  unfold law14_TripBack_S5_c0 law14_TripBack_S5_c1
  cases h1 : tb (law14_TripBack_L4_ok x0 x9 (⟨1, 0⟩ : law14_TripBack_L4_s0))
  · intro g0 g1
    exact absurd g1 ft
  · cases h2 : tb (law14_TripBack_L4_c0 (law14_TripBack_L4_end x0 x9 (⟨1, 0⟩ : law14_TripBack_L4_s0)))
    · cases h3 : tb (law14_TripBack_L4_c1 (law14_TripBack_L4_end x0 x9 (⟨1, 0⟩ : law14_TripBack_L4_s0)))
      · intro g0 g1
        exact absurd g1 ft
      · intro g0 g1
        exact seg_walk [.l (law14_TripBack_L4_f0_1 x0 x1 x2 x3 x4 x5 x6 x7 x8 x9 1 0 (⟨1, 0⟩ : law14_TripBack_L4_s0) (tbE h1) (tbE h2) (tbE h3))] (by kernel_rfl)
    · intro g0 g1
      exact absurd g0 tf
def law14_TripBack_S6_r0_0 (x9 : Int) : Bool := (bif tb (decide (0 ≤ x9)) then (decide (x9 ≤ 63)) else false)
theorem law14_TripBack_S6_t0 (x0 : List Bool) (x1 : Bool) (x2 : Bool) (x3 : Bool) (x4 : Bool) (x5 : Bool) (x6 : Bool) (x7 : Bool) (x8 : Bool) (x9 : Int) : segG (runC E0 (cl E0) S4_6) [12] [] [6] 2 ([(V.d (.int .i64 x9))], [(Blk.flat 34 6 [[(.bool (gt x0 0)), (.bool (gt x0 1)), (.bool (gt x0 2)), (.bool (gt x0 3)), (.bool (gt x0 4)), (.bool (gt x0 5))]] x7), (Blk.flat 4 1 [[(.bool x1)], [(.bool x2)], [(.bool x3)], [(.bool x4)], [(.bool x5)], [(.bool x6)]] x8)]) = some (.normal, ([(V.d (.bool (law14_TripBack_S6_r0_0 x9)))], [(Blk.flat 34 6 [[(.bool (gt x0 0)), (.bool (gt x0 1)), (.bool (gt x0 2)), (.bool (gt x0 3)), (.bool (gt x0 4)), (.bool (gt x0 5))]] x7), (Blk.flat 4 1 [[(.bool x1)], [(.bool x2)], [(.bool x3)], [(.bool x4)], [(.bool x5)], [(.bool x6)]] x8)])) := by
  unfold law14_TripBack_S6_r0_0
  cases h1 : tb (decide (0 ≤ x9))
  · exact seg_walk [.c (law14_alive_t0), .k true, .b (tbE h1)] (by kernel_rfl)
  · exact seg_walk [.c (law14_alive_t0), .k true, .b (tbE h1)] (by kernel_rfl)
def law14_TripBack_e0 (x2 : List Bool) : List Bool := [(gt x2 0), (gt x2 1), (gt x2 2), (gt x2 3), (gt x2 4), (gt x2 5)]
def law14_TripBack_c0 (x0 : Int) (x1 : ByteArray) (x2 : List Bool) : Bool := (bif tb (decide (200 < ((x1.size : Nat) : Int))) then true else (bif tb (trip_Text_i_c0 x0) then (bif tb (law14_TripBack_S0_c0 (trip_Text_i_r0_0 x0)) then (bif tb (law14_TripBack_S1_c0 x0 (trip_Text_i_r0_0 x0) (trip_Parse_s_r0_0 (trip_Text_i_r0_0 x0)) (trip_Parse_s_r0_1 (trip_Text_i_r0_0 x0))) then true else (bif tb (law14_TripBack_S2_c0 x1) then (bif tb (law14_TripBack_S3_c0 x1 (trip_Parse_s_r0_0 x1) (trip_Parse_s_r0_1 x1)) then true else (bif tb (law14_TripBack_S3_c1 x1 (trip_Parse_s_r0_0 x1) (trip_Parse_s_r0_1 x1)) then (bif tb (trip_Mask_o_c0 (law14_TripBack_e0 x2)) then (bif tb (law14_TripBack_S5_c0 x2 (trip_Mask_o_r0_0 (law14_TripBack_e0 x2))) then true else (bif tb (law14_TripBack_S5_c1 x2 (trip_Mask_o_r0_0 (law14_TripBack_e0 x2))) then true else false)) else false) else false)) else false)) else false) else false))
def law14_TripBack_r0_0 (x0 : Int) (x1 : ByteArray) (x2 : List Bool) : Bool := (bif tb (decide (200 < ((x1.size : Nat) : Int))) then true else (bif tb (law14_TripBack_S1_c0 x0 (trip_Text_i_r0_0 x0) (trip_Parse_s_r0_0 (trip_Text_i_r0_0 x0)) (trip_Parse_s_r0_1 (trip_Text_i_r0_0 x0))) then false else (bif tb (law14_TripBack_S3_c0 x1 (trip_Parse_s_r0_0 x1) (trip_Parse_s_r0_1 x1)) then false else (bif tb (law14_TripBack_S5_c0 x2 (trip_Mask_o_r0_0 (law14_TripBack_e0 x2))) then false else (law14_TripBack_S6_r0_0 (trip_Mask_o_r0_0 (law14_TripBack_e0 x2)))))))
theorem law14_TripBack_t0 (x0 : Int) (x1 : ByteArray) (x2 : List Bool) : law14_TripBack_c0 x0 x1 x2 = true → cl E0 4 [(V.d (.int .i64 x0)), (V.d (.str x1)), (V.agg [(V.d (.bool (gt x2 0))), (V.d (.bool (gt x2 1))), (V.d (.bool (gt x2 2))), (V.d (.bool (gt x2 3))), (V.d (.bool (gt x2 4))), (V.d (.bool (gt x2 5)))])] [] = some ([(V.d (.bool (law14_TripBack_r0_0 x0 x1 x2)))], []) := by
  unfold law14_TripBack_c0 law14_TripBack_r0_0
  cases h1 : tb (decide (200 < ((x1.size : Nat) : Int)))
  · cases h2 : tb (trip_Text_i_c0 x0)
    · intro g0
      exact absurd g0 ft
    · cases h3 : tb (law14_TripBack_S0_c0 (trip_Text_i_r0_0 x0))
      · intro g0
        exact absurd g0 ft
      · cases h4 : tb (law14_TripBack_S1_c0 x0 (trip_Text_i_r0_0 x0) (trip_Parse_s_r0_0 (trip_Text_i_r0_0 x0)) (trip_Parse_s_r0_1 (trip_Text_i_r0_0 x0)))
        · cases h5 : tb (law14_TripBack_S2_c0 x1)
          · intro g0
            exact absurd g0 ft
          · cases h6 : tb (law14_TripBack_S3_c0 x1 (trip_Parse_s_r0_0 x1) (trip_Parse_s_r0_1 x1))
            · cases h7 : tb (law14_TripBack_S3_c1 x1 (trip_Parse_s_r0_0 x1) (trip_Parse_s_r0_1 x1))
              · intro g0
                exact absurd g0 ft
              · cases h8 : tb (trip_Mask_o_c0 (law14_TripBack_e0 x2))
                · intro g0
                  exact absurd g0 ft
                · cases h9 : tb (law14_TripBack_S5_c0 x2 (trip_Mask_o_r0_0 (law14_TripBack_e0 x2)))
                  · cases h10 : tb (law14_TripBack_S5_c1 x2 (trip_Mask_o_r0_0 (law14_TripBack_e0 x2)))
                    · intro g0
                      exact absurd g0 ft
                    · intro g0
                      exact w4 [.b (tbE h1), .c (trip_Text_i_t0 x0 (tbE h2)), .s (law14_TripBack_S0_t0 x2 false x0 x1 (trip_Text_i_r0_0 x0) (tbE h3)), .s (law14_TripBack_S1_t1 x2 false x0 x1 (trip_Text_i_r0_0 x0) (trip_Parse_s_r0_0 (trip_Text_i_r0_0 x0)) (trip_Parse_s_r0_1 (trip_Text_i_r0_0 x0)) (tbE h4)), .s (law14_TripBack_S2_t0 x2 false x1 (tbE h5)), .s (law14_TripBack_S3_t1 x2 false x1 (trip_Parse_s_r0_0 x1) (trip_Parse_s_r0_1 x1) (tbE h6) (tbE h7)), .c (trip_Mask_o_t0 false (law14_TripBack_e0 x2) (tbE h8)), .s (law14_TripBack_S5_t1 x2 (gt x2 0) (gt x2 1) (gt x2 2) (gt x2 3) (gt x2 4) (gt x2 5) false false (trip_Mask_o_r0_0 (law14_TripBack_e0 x2)) (tbE h9) (tbE h10)), .s (law14_TripBack_S6_t0 x2 (gt x2 0) (gt x2 1) (gt x2 2) (gt x2 3) (gt x2 4) (gt x2 5) false false (trip_Mask_o_r0_0 (law14_TripBack_e0 x2)))] (by kernel_rfl)
                  · intro g0
                    exact w4 [.b (tbE h1), .c (trip_Text_i_t0 x0 (tbE h2)), .s (law14_TripBack_S0_t0 x2 false x0 x1 (trip_Text_i_r0_0 x0) (tbE h3)), .s (law14_TripBack_S1_t1 x2 false x0 x1 (trip_Text_i_r0_0 x0) (trip_Parse_s_r0_0 (trip_Text_i_r0_0 x0)) (trip_Parse_s_r0_1 (trip_Text_i_r0_0 x0)) (tbE h4)), .s (law14_TripBack_S2_t0 x2 false x1 (tbE h5)), .s (law14_TripBack_S3_t1 x2 false x1 (trip_Parse_s_r0_0 x1) (trip_Parse_s_r0_1 x1) (tbE h6) (tbE h7)), .c (trip_Mask_o_t0 false (law14_TripBack_e0 x2) (tbE h8)), .s (law14_TripBack_S5_t0 x2 (gt x2 0) (gt x2 1) (gt x2 2) (gt x2 3) (gt x2 4) (gt x2 5) false false (trip_Mask_o_r0_0 (law14_TripBack_e0 x2)) (tbE h9))] (by kernel_rfl)
            · intro g0
              exact w4 [.b (tbE h1), .c (trip_Text_i_t0 x0 (tbE h2)), .s (law14_TripBack_S0_t0 x2 false x0 x1 (trip_Text_i_r0_0 x0) (tbE h3)), .s (law14_TripBack_S1_t1 x2 false x0 x1 (trip_Text_i_r0_0 x0) (trip_Parse_s_r0_0 (trip_Text_i_r0_0 x0)) (trip_Parse_s_r0_1 (trip_Text_i_r0_0 x0)) (tbE h4)), .s (law14_TripBack_S2_t0 x2 false x1 (tbE h5)), .s (law14_TripBack_S3_t0 x2 false x1 (trip_Parse_s_r0_0 x1) (trip_Parse_s_r0_1 x1) (tbE h6))] (by kernel_rfl)
        · intro g0
          exact w4 [.b (tbE h1), .c (trip_Text_i_t0 x0 (tbE h2)), .s (law14_TripBack_S0_t0 x2 false x0 x1 (trip_Text_i_r0_0 x0) (tbE h3)), .s (law14_TripBack_S1_t0 x2 false x0 x1 (trip_Text_i_r0_0 x0) (trip_Parse_s_r0_0 (trip_Text_i_r0_0 x0)) (trip_Parse_s_r0_1 (trip_Text_i_r0_0 x0)) (tbE h4))] (by kernel_rfl)
  · intro g0
    exact w4 [.b (tbE h1), .c (law14_alive_t0)] (by kernel_rfl)
end Go.Proofs.YtlenjioebdmooaaDoor.Den

namespace Go.Proofs.YtlenjioebdmooaaDoor.Den
open Go Go.Proofs
set_option linter.unusedVariables false
set_option linter.unusedSimpArgs false
set_option maxRecDepth 100000
theorem arr6 {x : List Bool} (h : x.length = 6) : [(gt x 0), (gt x 1), (gt x 2), (gt x 3), (gt x 4), (gt x 5)] = x := by
  match x, h with
  | [a, b, c, d, e, f], _ => rfl
theorem pure_TripBack (x0 : Int) (x1 : ByteArray) (x2 : List Bool) (wx0 : WfI .i64 x0) (wx1 : x1.size ≤ 140737488351232) (wx2 : x2.length = 6 ∧ ∀ z ∈ x2, True) : law14_TripBack_c0 x0 x1 x2 = true ∧ (law14_TripBack_r0_0 x0 x1 x2) = true := by
  obtain ⟨h6, _⟩ := wx2
  by_cases hs : x1.size ≤ 200
  · have hd : decide (200 < ((x1.size : Nat) : Int)) = false := decide_eq_false (by omega)
    obtain ⟨t1, _⟩ := text_all x0
    have hsz : (trip_Text_i_r0_0 x0).size ≤ 1000 := by
      by_cases h : 0 ≤ x0 ∧ x0 ≤ 63
      · have := (mask_in h).2.2.2.1; omega
      · rw [(mask_out h).2.2.1]; decide
    have s0 : law14_TripBack_S0_c0 (trip_Text_i_r0_0 x0) = true := by simp only [law14_TripBack_S0_c0, (parse_c hsz).1, tb_eq]; rfl
    have s1 : law14_TripBack_S1_c0 x0 (trip_Text_i_r0_0 x0) (trip_Parse_s_r0_0 (trip_Text_i_r0_0 x0)) (trip_Parse_s_r0_1 (trip_Text_i_r0_0 x0)) = false := by
      by_cases h : 0 ≤ x0 ∧ x0 ≤ 63
      · obtain ⟨q1, q2⟩ := parse_hit h
        have hne := bytes_ne (mask_in h).2.2.2.2.1
        have z1 : (true != (true == true)) = false := rfl
        have z2 : ((0 : Int) != 0) = false := rfl
        have z3 : ((x0 : Int) != x0) = false := by simp
        simp only [law14_TripBack_S1_c0, q1, q2, hne, Bool.not_false, tb_eq]
        rw [decide_eq_true h.1, decide_eq_true h.2, z1, z2, z3]; rfl
      · have he := (mask_out h).2.2.1
        simp only [law14_TripBack_S1_c0, he, bytes_self, Bool.not_true, tb_eq]
        by_cases h1 : 0 ≤ x0
        · rw [decide_eq_true h1, decide_eq_false (show ¬ x0 ≤ 63 by omega)]; rfl
        · rw [decide_eq_false h1]; rfl
    obtain ⟨p1, p2, p3⟩ := parse_c (s := x1) (by omega)
    have s2 : law14_TripBack_S2_c0 x1 = true := by simp only [law14_TripBack_S2_c0, p1, tb_eq]; rfl
    have s3 : law14_TripBack_S3_c0 x1 (trip_Parse_s_r0_0 x1) (trip_Parse_s_r0_1 x1) = false ∧ law14_TripBack_S3_c1 x1 (trip_Parse_s_r0_0 x1) (trip_Parse_s_r0_1 x1) = true := by
      cases hc : (trip_Text_i_r0_0 ((trip_Parse_s_S2_e0 x1).c1)).toList == x1.toList with
      | true =>
        have q1 : trip_Parse_s_r0_0 x1 = (trip_Parse_s_S2_e0 x1).c1 := by simp only [trip_Parse_s_r0_0, hc, Bool.not_true, tb_eq, cond_false]
        have q2 : trip_Parse_s_r0_1 x1 = 0 := by simp only [trip_Parse_s_r0_1, hc, Bool.not_true, tb_eq, cond_false]
        simp only [law14_TripBack_S3_c0, law14_TripBack_S3_c1, q1, q2, hc, (text_all _).1, Bool.not_true, beq_self_eq_true, tb_eq, cond_true, cond_false, and_self]
      | false =>
        have q2 : trip_Parse_s_r0_1 x1 = 3 := by simp only [trip_Parse_s_r0_1, hc, Bool.not_false, tb_eq, cond_true]
        have z : ((3 : Int) == 0) = false := rfl
        simp only [law14_TripBack_S3_c0, law14_TripBack_S3_c1, q2, z, tb_eq, cond_false, and_self]
    have hb := List.all_eq_true.1 (List.all_eq_true.1 ckB_all 6 (List.mem_range.2 (by omega))) x2 (by rw [← h6]; exact allB_mem x2)
    unfold ckB at hb
    simp only [Bool.and_eq_true] at hb
    have hk := List.all_eq_true.1 ckS_all x2 (by rw [← h6]; exact allB_mem x2)
    unfold ckS at hk
    simp only [Bool.and_eq_true, beq_iff_eq, decide_eq_true_eq] at hk
    obtain ⟨k0, k1, g0, g1, g2, g3, g4, g5⟩ := hk
    have e0 : law14_TripBack_e0 x2 = x2 := arr6 h6
    generalize hM : trip_Mask_o_r0_0 x2 = M at *
    have hbit : ∀ k : Nat, k < 6 → trip_In_ii_r0_0 M ((2 ^ k : Nat) : Int) = gt x2 (k : Int) := fun k hk => by
      rcases (by omega : k = 0 ∨ k = 1 ∨ k = 2 ∨ k = 3 ∨ k = 4 ∨ k = 5) with rfl | rfl | rfl | rfl | rfl | rfl
      · exact g0
      · exact g1
      · exact g2
      · exact g3
      · exact g4
      · exact g5
    have run := loop_seq (sel := law14_TripBack_L4_sel x2 M) (nx := law14_TripBack_L4_nx x2 M) (fun k => (⟨((2 ^ k : Nat) : Int), (k : Int)⟩ : law14_TripBack_L4_s0)) 6 (by omega) (fun k hk => by
      have hp : (2 ^ k : Nat) ≤ 32 := Nat.pow_le_pow_right (n := 2) (by omega) (show k ≤ 5 by omega)
      have hp0 : 0 < (2 ^ k : Nat) := Nat.pow_pos (by omega)
      have i1 : inb 6 (k : Int) = true := inb_of (by omega) (by omega)
      have hw : wi ((k : Int) + 1) = ((k + 1 : Nat) : Int) := by rw [wi_eq (by omega) (by omega)]; omega
      have hw2 : wi (2 * ((2 ^ k : Nat) : Int)) = ((2 ^ (k + 1) : Nat) : Int) := by rw [wi_eq (by omega) (by omega), Nat.pow_succ]; omega
      constructor
      · simp only [law14_TripBack_L4_sel, i1, hbit k hk, beq_self_eq_true, tb_eq]
        rw [decide_eq_true (by omega)]; rfl
      · simp only [law14_TripBack_L4_nx, hw, hw2]) rfl
    have run : itS (law14_TripBack_L4_sel x2 M) (law14_TripBack_L4_nx x2 M) bound ⟨1, 0⟩ = some ⟨((2 ^ 6 : Nat) : Int), ((6 : Nat) : Int)⟩ := run
    have eE : law14_TripBack_L4_end x2 M ⟨1, 0⟩ = ⟨((2 ^ 6 : Nat) : Int), ((6 : Nat) : Int)⟩ := by simp only [law14_TripBack_L4_end, run, Option.getD_some]
    have c0 : law14_TripBack_L4_c0 ⟨((2 ^ 6 : Nat) : Int), ((6 : Nat) : Int)⟩ = false := rfl
    have c1 : law14_TripBack_L4_c1 ⟨((2 ^ 6 : Nat) : Int), ((6 : Nat) : Int)⟩ = true := rfl
    have s5 : law14_TripBack_S5_c0 x2 M = false ∧ law14_TripBack_S5_c1 x2 M = true := by
      simp only [law14_TripBack_S5_c0, law14_TripBack_S5_c1, law14_TripBack_L4_ok, run, eE, c0, c1, Option.isSome_some, tb_eq, cond_true, cond_false, and_self]
    have s6 : law14_TripBack_S6_r0_0 M = true := by
      simp only [law14_TripBack_S6_r0_0, tb_eq]
      rw [decide_eq_true k0, decide_eq_true k1]; rfl
    simp only [law14_TripBack_c0, law14_TripBack_r0_0, hd, t1, s0, s1, s2, s3.1, s3.2, e0, hb.1, hM, s5.1, s5.2, s6, tb_eq, cond_true, cond_false, and_self]
  · have hd : decide (200 < ((x1.size : Nat) : Int)) = true := decide_eq_true (by omega)
    simp only [law14_TripBack_c0, law14_TripBack_r0_0, hd, tb_eq, cond_true, and_self]
end Go.Proofs.YtlenjioebdmooaaDoor.Den

namespace Go.Proofs.YtlenjioebdmooaaDoor.Den
open Go Go.ChangeShapes Go.WideShapes Go.ChangeAt Go.RowKit
set_option linter.unusedVariables false
set_option linter.unusedSimpArgs false
theorem laid_call {C : Checked} (hm : C.prog.follows .mixedOrders = true) {E : Env} (hE : EnvOK C.prog E) {f : FuncId} {fn : Func} {s : ChangeSpec} {H : Type} {enc : TypeId × Value → H}
    (hfn : C.prog.funcs[f]? = some fn) (hl : laidOutB C.prog = true)
    (hgood : (fn.params.toList.all fun t => goodT C.prog 20 t && C.prog.readableRec t && decide (t < C.prog.types.size)) = true) {rt : TypeId} (hres : fn.resultTypes = #[rt]) (hrt : C.prog.underlying rt = some .bool)
    (hvars : s.vars = []) (hspec : ∀ ds : List (DataW H), ds.length = fn.params.toList.length → s.fn H ds = { results := [.lit (.bool true)], args := ds })
    (hlaw : ∀ rs, TyAll C.prog 20 fn.params.toList rs → ∃ k m', callD E k f (argsV C.prog fn.params.toList rs) [] = some ([.d (.bool true)], m'))
    {W : World} {base : Nat} {args : Array Value} {ds gs : List (DataW H)} {before : List MemPlace} (hgl : GlOK E (cx0 W)) (hval : ∀ (j : Nat) t v, fn.params[j]? = some t → args[j]? = some v → Value.okWide C.prog W .any base t v)
    (hW : DataW.Whole enc C.prog fn.params.toList s.vars false W args.toList ds gs before) (hsz : (DataW.weightsEach C.prog (fn.params.toList ++ s.plain.varTypes C.prog) (ds ++ gs)).all (· ≤ reachBytes) = true) :
    Calls C.prog f args W fun e W' => ∃ v, e = .returned v ∧ s.post enc C.prog fn false true false false W args v W' := by
  have hW' := hW
  obtain ⟨p, q, hA, hV, rfl, hfz, hnd⟩ := hW
  rw [hvars] at hV
  obtain ⟨rfl, rfl⟩ := trodVars_none hV
  have hgd : ∀ t, t ∈ fn.params.toList → goodT C.prog 20 t = true ∧ C.prog.readableRec t = true ∧ t < C.prog.types.size := fun t ht => by
    have := List.all_eq_true.1 hgood t ht
    simpa [Bool.and_eq_true, and_assoc] using this
  obtain ⟨rs, h1, h2⟩ := open_args (n := 20) fn.params.toList args.toList ds p (List.all_eq_true.2 fun t ht => (hgd t ht).1) (fun j t v ht hv => hval j t v (by simpa using ht) (by simpa using hv)) (fun m hm => of_decide_eq_true (List.all_eq_true.1 hsz m (weightsEach_app hm))) hA
  obtain ⟨k, m', hk⟩ := hlaw rs h1
  refine (calls_law hm hE hgl h2 hk).mono fun e W' ⟨he, bel⟩ => ?_
  subst he
  have hlen : ds.length = fn.params.toList.length := by
    have : ∀ (ts : List TypeId) (vs : List Value) (ds : List (DataW H)) (ps : List MemPlace), DataW.TrodAll enc C.prog W 0 (fun _ => true) true ts vs ds ps → ds.length = ts.length := by
      intro ts
      induction ts with
      | nil => intro vs ds ps h; obtain ⟨_, rfl, _⟩ := trodAll_nil h; rfl
      | cons t ts ih => intro vs ds ps h; obtain ⟨v, vs', d, ds', p, q, rfl, rfl, rfl, _, h2⟩ := trodAll_cons h; simp [ih _ _ _ h2]
    exact this _ _ _ _ hA
  have hs := hspec ds hlen
  refine ⟨_, rfl, ds, [], _, [], p, [], hW', ?_, ?_, ?_, bel.frame _, fun h => by cases h⟩
  · rw [List.append_nil, hs, hres]
    exact trodAll_mk1 (shut_bool hrt _)
  · rw [List.append_nil, hs]
    exact args_back hl bel _ _ _ _ (fun t ht => (hgd t ht).2) (fun x hx => by simpa using hW'.lt x (by simpa using hx)) hA
  · rw [hvars, List.append_nil, hs]; rfl
theorem law_laidS {C : Checked} (hm : C.prog.follows .mixedOrders = true) {E : Env} (hE : EnvOK C.prog E) {laid : List (String × DataW Unit)} (hgl : ∀ w, w.ShapedOpen C.prog → laidMetH C.prog laid w → GlOK E (cx0 w)) {os : Os} {f : FuncId} {fn : Func} {s : ChangeSpec} {H : Type} {enc : TypeId × Value → H}
    (own : ownKnob C.prog.godebug = none) (started : os.Started) (noInit : C.prog.inits.idxOf? f = none) (hfn : C.prog.funcs[f]? = some fn) (hl : laidOutB C.prog = true)
    (witness : ∃ (w : World) (tape : Tape) (i : Input), w.os = os ∧ (w.forCall tape i).Shaped C.prog ∧ i.vars = [] ∧ Input.okWide C.prog (w.forCall tape i) .any w.heap.size f i ∧
      ((s.pre enc C.prog fn [] false (w.forCall tape i).memory i.args ∧ laidMetH C.prog laid (w.forCall tape i).memory) ∧ sizedMet enc C.prog fn (OpenSpec.ofChange s) false (w.forCall tape i).memory i.args) ∧
        Assume.holds {} C.prog (lone (Frame.enter C.prog f i.args .normal) [] (w.forCall tape i)))
    (hgood : (fn.params.toList.all fun t => goodT C.prog 20 t && C.prog.readableRec t && decide (t < C.prog.types.size)) = true) {rt : TypeId} (hres : fn.resultTypes = #[rt]) (hrt : C.prog.underlying rt = some .bool)
    (hvars : s.vars = []) (hspec : ∀ ds : List (DataW H), ds.length = fn.params.toList.length → s.fn H ds = { results := [.lit (.bool true)], args := ds })
    (hlaw : ∀ rs, TyAll C.prog 20 fn.params.toList rs → ∃ k m', callD E k f (argsV C.prog fn.params.toList rs) [] = some ([.d (.bool true)], m')) :
    ReturnsInHanded {} C os f .any (fun w args => (s.pre enc C.prog fn [] false w args ∧ laidMetH C.prog laid w) ∧ sizedMet enc C.prog fn (OpenSpec.ofChange s) false w args) (s.post enc C.prog fn false true false false) := by
  refine returnsInHanded_of_calls own started noInit witness ?_
  intro w tape i _ hshape _ hok hpre hholds
  obtain ⟨_, _, _, fn', hfn', _, _, _, _, hval⟩ := hok
  have e : fn' = fn := Option.some.inj (hfn'.symm.trans hfn)
  subst e
  obtain ⟨⟨⟨ds, gs, before, hw, hc⟩, hx⟩, hz⟩ := hpre
  have hw' := DataW.Whole.of_heap (w' := w.forCall tape i) (by rfl) hw
  refine (laid_call hm hE hfn hl hgood hres hrt hvars hspec hlaw (hgl _ hshape (laidMetH.of_heap (by rfl) hx)) hval hw' (hz.weights hw)).mono fun e W' ⟨v, he, hp⟩ => ?_
  subst he
  exact ChangeSpec.post_blind hp
theorem held_texts {P : Program} {W : World} {name : String} {g t n e : Nat} {ss : List ByteArray} {rest : List (String × DataW Unit)} (hg : P.globalNamed name = some g) (ht : (P.globals[g]?).map (·.type) = some t) (hu : P.underlying t = some (.array n e))
    (he : P.underlying e = some .string) (hce : P.cellsOf e = 1) (hct : P.cellsOf t = n) (hn : ss.length = n) (h : laidMet P ((name, .agg (ss.map fun s => .lit (.string s.data.toList))) :: rest) W) : Held (immAll W) W g 0 (ss.map D.str) := by
  obtain ⟨ps, hlv, _, _⟩ := h
  obtain ⟨g', t', cs, fuel, p, q, hg', ht', hv, hd, _, _⟩ := hlv
  obtain rfl := Option.some.inj (hg.symm.trans hg')
  obtain rfl := Option.some.inj (ht.symm.trans ht')
  obtain ⟨xs, m, _, ex, hlen, hl, hel⟩ := DataW.trod_array hu hd
  have e1 := (DataW.agg.inj (Prod.mk.inj ex).1)
  have hsz : g < W.heap.size := by
    simp only [World.var?, hg, Option.bind_some] at hv
    rcases Nat.lt_or_ge g W.heap.size with h | h
    · exact h
    · have : W.heap[g]? = none := by simp [h]
      rw [this] at hv; simp at hv
  have hcell : ∀ i (hi : i < ss.length), W.cell? ⟨g, i, none⟩ = some (.string ss[i]) := fun i hi => by
    have hx := hel i (by omega)
    have hi' : i < xs.length := by omega
    rw [List.getElem?_eq_getElem hi', hce, Nat.mul_one] at hx
    obtain ⟨s, h1, h2, _⟩ := DataW.trod_string he hx
    have h3 : (xs.map (·.1))[i]? = (ss.map fun s => (DataW.lit (.string s.data.toList) : DataW Unit))[i]? := by rw [e1]
    rw [List.getElem?_map, List.getElem?_map, List.getElem?_eq_getElem hi', List.getElem?_eq_getElem hi, h2] at h3
    simp only [Option.map_some, Option.some.injEq, DataW.lit.injEq, Lit.string.injEq] at h3
    have hs : s = ss[i] := by
      have : s.data = ss[i].data := Array.ext' h3
      cases s; cases hh : ss[i]; rw [hh] at this; cases this; rfl
    rw [World.var?_cell hg hv i, ← hs]
    have h4 : (cs.toList.drop i)[0]? = some (.string s) := by
      have : ((cs.toList.drop i).take 1)[0]? = some (Value.string s) := by rw [h1]; rfl
      simpa [List.getElem?_take] using this
    simpa using h4
  have key : ∀ (l : List ByteArray) (o : Nat), (∀ i (hi : i < l.length), W.cell? ⟨g, o + i, none⟩ = some (.string l[i])) → Held (immAll W) W g o (l.map D.str) := by
    intro l
    induction l with
    | nil => intro o _; simp [Held]
    | cons s r ih =>
      intro o hc
      simp only [List.map_cons, Held]
      refine ⟨⟨.string s, hc 0 (by simp), hsz, trivial, by simp [RelD]⟩, ih (o + 1) fun i hi => ?_⟩
      have := hc (i + 1) (by simp; omega)
      rw [show o + 1 + i = o + (i + 1) by omega]; simpa using this
  exact key ss 0 fun i hi => by simpa using hcell i hi
theorem laidMet_tail {P : Program} {W : World} {x : String × DataW Unit} {rest : List (String × DataW Unit)} (h : laidMet P (x :: rest) W) : laidMet P rest W := by
  obtain ⟨ps, ⟨g, t, cs, fuel, p, q, _, _, _, _, hr, rfl⟩, hn, hh⟩ := h
  exact ⟨q, hr, (List.nodup_append.1 hn).2.1, fun b off hm => hh b off (List.mem_append_right _ hm)⟩
end Go.Proofs.YtlenjioebdmooaaDoor.Den

namespace Go.Proofs.YtlenjioebdmooaaDoor.Den
open Go Go.Proofs
open Go.Proofs.YtlenjioebdmooaaDoor (Rows.laid_unicode_utf8_acceptRanges Rows.laid_rudder_trip_names Rows.laid_unicode_utf8_first)
set_option maxRecDepth 100000
set_option linter.unusedVariables false
theorem own : ownKnob Tryd.prog.godebug = none := by kernel_rfl
theorem laidOut : laidOutB Tryd.prog = true := by kernel_rfl
theorem mixed : Tryd.prog.follows .mixedOrders = true := by kernel_rfl
theorem envOK : EnvOK Tryd.prog E0 := ⟨e0_cf, ext_ok rfl e0_x e0_w, e0_del⟩
theorem gl_only {g : Nat} {cs : List D} (h : E0.gl g = some cs) : g = 0 ∧ cs = gls0.map D.str := by
  have e : E0.gl g = (match Nat.beq g 0 with | true => some (gls0.map D.str) | false => none) := rfl
  rw [e] at h
  split at h
  · rename_i hb
    exact ⟨Nat.eq_of_beq_eq_true hb, (Option.some.inj h).symm⟩
  · cases h
theorem glOK (w : World) (hs : w.ShapedOpen Tryd.prog) (h : laidMetH Tryd.prog [("unicode/utf8.acceptRanges", Rows.laid_unicode_utf8_acceptRanges), ("rudder/trip.names", Rows.laid_rudder_trip_names), ("unicode/utf8.first", Rows.laid_unicode_utf8_first)] w) : GlOK E0 (cx0 w) := by
  rw [MakeChecks.laidMetH_plain _ _ _ (by kernel_rfl)] at h
  refine ⟨fun g cs hg => ?_, fun p hp => ?_⟩
  · obtain ⟨rfl, rfl⟩ := gl_only hg
    have h' : laidMet Tryd.prog (("rudder/trip.names", .agg (gls0.map fun s => .lit (.string s.data.toList))) :: [("unicode/utf8.first", Rows.laid_unicode_utf8_first)]) w := laidMet_tail h
    have hh := held_texts (g := 0) (t := 38) (n := 6) (e := 9) (by kernel_rfl) (by kernel_rfl) Tryd.underlying38 Tryd.underlying9 (by kernel_rfl) (by kernel_rfl) rfl h'
    simp only [RelD]
    exact ⟨0, 0, rfl, hh⟩
  · have hp' : p = (1, isInt) := by
      have : p ∈ [((1 : Nat), isInt)] := hp
      simpa using this
    subst hp'
    obtain ⟨m, hm⟩ := Go.Proofs.cell_of_shapedOpen_int (g := 1) (zero := #[.int .i64 0]) (t := 3) hs (of_decide_eq_true (by kernel_rfl)) (by kernel_rfl) rfl (by kernel_rfl) (by kernel_rfl) Tryd.underlying3
    have hm' : w.cell? ⟨1, 0, none⟩ = some (.int .i64 m) := hm
    refine ⟨?_, fun id h => by cases h⟩
    unfold World.cell? at hm'
    show ∃ vs e fr, w.heap[1]? = some (.cells vs e fr) ∧ isInt vs
    cases hh : w.heap[1]? with
    | none => rw [hh] at hm'; cases hm'
    | some o =>
      rw [hh] at hm'
      cases o with
      | cells vs e fr => exact ⟨vs, e, fr, rfl, m, hm'⟩
      | _ => cases hm'
end Go.Proofs.YtlenjioebdmooaaDoor.Den

namespace Go.Proofs.YtlenjioebdmooaaDoor.Den
open Go Go.Proofs Go.ChangeShapes Go.WideShapes Go.ChangeAt Go.RowKit
open Go.Proofs.YtlenjioebdmooaaDoor (Rows.tripBackSpec Rows.tripBackRow Rows.TripBackSaid Rows.TripBackCardSaid Rows.tripBackCard tripBack_row_tie Rows.laid_unicode_utf8_acceptRanges Rows.laid_rudder_trip_names Rows.laid_unicode_utf8_first)
set_option maxRecDepth 100000
set_option linter.unusedSimpArgs false
set_option linter.unusedVariables false
theorem row4 (rs : List (List D)) (h : TyAll Tryd.prog 20 Tryd.f4.params.toList rs) : ∃ k m', callD E0 k 4 (argsV Tryd.prog Tryd.f4.params.toList rs) [] = some ([.d (.bool true)], m') := by
  rw [Tryd.params4] at h ⊢
  simp only [TyAll] at h
  obtain ⟨_, _, rfl, q0, _, _, rfl, q1, _, _, rfl, q2, rfl⟩ := h
  have k0 := flatK_ok 20 _ _ _ (show flatK Tryd.prog 20 3 = some [.i .i64] by kernel_rfl) q0
  simp only [CellsK, CellK] at k0
  obtain ⟨_, _, rfl, ⟨a0_0, rfl, w0_0⟩, rfl⟩ := k0
  have k1 := flatK_ok 20 _ _ _ (show flatK Tryd.prog 20 9 = some [.s] by kernel_rfl) q1
  simp only [CellsK, CellK] at k1
  obtain ⟨_, _, rfl, ⟨a1_0, rfl, w1_0⟩, rfl⟩ := k1
  have k2 := flatK_ok 20 _ _ _ (show flatK Tryd.prog 20 34 = some [.b, .b, .b, .b, .b, .b] by kernel_rfl) q2
  simp only [CellsK, CellK] at k2
  obtain ⟨_, _, rfl, ⟨a2_0, rfl⟩, _, _, rfl, ⟨a2_1, rfl⟩, _, _, rfl, ⟨a2_2, rfl⟩, _, _, rfl, ⟨a2_3, rfl⟩, _, _, rfl, ⟨a2_4, rfl⟩, _, _, rfl, ⟨a2_5, rfl⟩, rfl⟩ := k2
  simp only [argsV, argV, Tryd.underlying3, Tryd.underlying9, Tryd.underlying34, List.map_cons, List.map_nil]
  obtain ⟨g1, g2⟩ := pure_TripBack a0_0 a1_0 [a2_0, a2_1, a2_2, a2_3, a2_4, a2_5] w0_0 w1_0 ⟨rfl, (List.forall_mem_cons.2 ⟨trivial, (List.forall_mem_cons.2 ⟨trivial, (List.forall_mem_cons.2 ⟨trivial, (List.forall_mem_cons.2 ⟨trivial, (List.forall_mem_cons.2 ⟨trivial, (List.forall_mem_cons.2 ⟨trivial, (fun z hz => by cases hz)⟩)⟩)⟩)⟩)⟩)⟩)⟩
  have hc := law14_TripBack_t0 a0_0 a1_0 [a2_0, a2_1, a2_2, a2_3, a2_4, a2_5] g1
  rw [g2] at hc
  obtain ⟨k, hk⟩ := of_cl hc
  exact ⟨k, _, hk⟩
theorem tripBack_lifted (os : Os) (started : os.Started) (H : Type) (enc : TypeId × Value → H) :
    ReturnsInHanded {} Tryd.checked os 4 .any (fun w args => (Rows.tripBackSpec.pre enc Tryd.prog Tryd.f4 [] false w args ∧ laidMetH Tryd.prog [("unicode/utf8.acceptRanges", Rows.laid_unicode_utf8_acceptRanges), ("rudder/trip.names", Rows.laid_rudder_trip_names), ("unicode/utf8.first", Rows.laid_unicode_utf8_first)] w) ∧ sizedMet enc Tryd.prog Tryd.f4 (OpenSpec.ofChange Rows.tripBackSpec) false w args) (Rows.tripBackSpec.post enc Tryd.prog Tryd.f4 false true false false) :=
  law_laidS (C := Tryd.checked) (fn := Tryd.f4) mixed envOK glOK own started (by kernel_rfl) Tryd.func4 laidOut
    (ChangeSpec.witness_at (enc := enc) (C := Tryd.checked) (os := os) (X := fun w _ => laidMetH Tryd.prog [("unicode/utf8.acceptRanges", Rows.laid_unicode_utf8_acceptRanges), ("rudder/trip.names", Rows.laid_rudder_trip_names), ("unicode/utf8.first", Rows.laid_unicode_utf8_first)] w) false (World.laidAll Tryd.prog os [("unicode/utf8.acceptRanges", Rows.laid_unicode_utf8_acceptRanges), ("rudder/trip.names", Rows.laid_rudder_trip_names), ("unicode/utf8.first", Rows.laid_unicode_utf8_first)]) #[.int .i64 0, .string ByteArray.empty, .agg #[.bool false, .bool false, .bool false, .bool false, .bool false, .bool false]] 8 (World.laidAll_os _ _ _) (by kernel_rfl) (by kernel_rfl) (by kernel_rfl) (by kernel_rfl) (by kernel_rfl)
      (by rw [MakeChecks.laidMetH_plain _ _ _ (by kernel_rfl)]; exact laidMet_laidAll _ (by kernel_rfl) (by kernel_rfl)))
    (by kernel_rfl) (rt := 4) rfl Tryd.underlying4 rfl
    (fun ds h => by
      match ds, h with
      | [_, _, _], _ => rfl)
    row4
theorem tripBack_row : Rows.TripBackSaid :=
  OpenClaim.holds_of_wide 4 Tryd.f4 rfl rfl rfl rfl rfl rfl rfl ⟨rfl, rfl, rfl, rfl, rfl⟩ rfl rfl rfl rfl rfl (by kernel_rfl) Tryd.func4 (by kernel_rfl)
    (of_decide_eq_true (by kernel_rfl)) (by unfold Func.isWrapper; first | (rw [if_pos (by decide +kernel)]; kernel_rfl) | (rw [if_neg (by decide +kernel)]; exact ⟨rfl, rfl⟩))
    (fun os started H enc _ => tripBack_lifted os started H enc)
theorem tripBack_holds : Rows.TripBackCardSaid :=
  Claim7.holds_tied_plain_at .later [] [.data, .data, .pinned] true (true, "8b26cfaa9571f3d94612a84753b6a27c2923ccd6203acbccf2d4b314deb806eb") false tripBack_row (fun _ h => by cases h) (by kernel_rfl) (fun _ h => by cases h) tripBack_row_tie rfl ⟨rfl, rfl⟩ (by kernel_rfl) rfl
    (fun f fn hf hfn => by
      obtain rfl : f = 4 := Option.some.inj ((show Tryd.prog.funcNamed "rudder/rudderlaw14.TripBack" = some 4 by kernel_rfl).symm.trans hf) |>.symm
      obtain rfl : fn = Tryd.f4 := (Option.some.inj (Tryd.func4.symm.trans hfn)).symm
      exact ⟨by kernel_rfl, fun j t ht => by
        rw [Tryd.params4] at ht
        have hm : t ∈ [3, 9, 34] := by simpa using Array.mem_of_getElem? ht
        have hall : ([3, 9, 34].all fun u => !Tryd.prog.wantsStandIn u) = true := by kernel_rfl
        exact (show Tryd.prog.wantsStandIn t = false by simpa using List.all_eq_true.1 hall t hm)⟩)
    (by kernel_rfl)
end Go.Proofs.YtlenjioebdmooaaDoor.Den
