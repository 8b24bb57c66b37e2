/- FrameRejectsCard: part 6 of what its proof rests on: an evaluator of the program's code, proved sound; plain functions printed from the code by a program of this session, with proofs; plain laws. No condition. -/
import Derived.Test.YtkipngagfiaddaaDoorDenframeRejects5
import Derived.Handed
import Derived.Lay
import Derived.MakeChecks
import Derived.FnData
import Derived.Stop.Joined
import Derived.SevenTiedAt
import Derived.Test.YtkipngagfiaddaaDoorRows
import Derived.Test.YtkipngagfiaddaaDoorCards
import Derived.Test.YtkipngagfiaddaaDoorTie

namespace Go.Proofs.YtkipngagfiaddaaDoor.Den
open Go Go.Proofs
set_option maxRecDepth 100000
set_option maxHeartbeats 4000000
set_option linter.unusedVariables false
set_option linter.unusedSimpArgs false
def frame_Right_c1_i_r0_0 (x0 : Int) : Bool := (bif tb (decide (x0 < (-2147483648))) then true else (decide (2147483647 < x0)))
theorem frame_Right_c1_i_t0 (x0 : Int) : cl E0 58 [(V.d (.int .i64 x0))] [] = some ([(V.d (.bool (frame_Right_c1_i_r0_0 x0)))], []) := by
  unfold frame_Right_c1_i_r0_0
  cases h1 : tb (decide (x0 < (-2147483648)))
  · exact w58 [.b (tbE h1)] (by kernel_rfl)
  · exact w58 [.b (tbE h1)] (by kernel_rfl)
structure slices_IndexFunc_int_o_frame_Right_c1_L0_s0 where
  c3 : Int
  deriving Inhabited
def slices_IndexFunc_int_o_frame_Right_c1_L0_enc (x0 : Bool) (x1 : List Int) (x2 : Int) (x3 : Int) (s0 : slices_IndexFunc_int_o_frame_Right_c1_L0_s0) : List V × Mem := ([(V.d (slD (encI .i64) true 1 x0 x1)), (V.fn (.func 58) [] []), (V.d (.int .i64 x2)), (V.d (.int .i64 s0.c3))], [])
def slices_IndexFunc_int_o_frame_Right_c1_L0_sel (x1 : List Int) (x2 : Int) (s0 : slices_IndexFunc_int_o_frame_Right_c1_L0_s0) : Bool := (bif tb (decide (s0.c3 < x2)) then (bif tb (inb x1.length s0.c3) then (bif tb (frame_Right_c1_i_r0_0 (gt x1 s0.c3)) then false else true) else false) else false)
def slices_IndexFunc_int_o_frame_Right_c1_L0_nx (x1 : List Int) (x2 : Int) (s0 : slices_IndexFunc_int_o_frame_Right_c1_L0_s0) : slices_IndexFunc_int_o_frame_Right_c1_L0_s0 := ⟨(wi (s0.c3 + 1))⟩
def slices_IndexFunc_int_o_frame_Right_c1_L0_ok (x1 : List Int) (x2 : Int) (s0 : slices_IndexFunc_int_o_frame_Right_c1_L0_s0) : Bool := (itS (slices_IndexFunc_int_o_frame_Right_c1_L0_sel x1 x2) (slices_IndexFunc_int_o_frame_Right_c1_L0_nx x1 x2) bound s0).isSome
def slices_IndexFunc_int_o_frame_Right_c1_L0_end (x1 : List Int) (x2 : Int) (s0 : slices_IndexFunc_int_o_frame_Right_c1_L0_s0) : slices_IndexFunc_int_o_frame_Right_c1_L0_s0 := (itS (slices_IndexFunc_int_o_frame_Right_c1_L0_sel x1 x2) (slices_IndexFunc_int_o_frame_Right_c1_L0_nx x1 x2) bound s0).getD default
theorem slices_IndexFunc_int_o_frame_Right_c1_L0_go (x0 : Bool) (x1 : List Int) (x2 : Int) (x3 : Int) (s0 : slices_IndexFunc_int_o_frame_Right_c1_L0_s0) : slices_IndexFunc_int_o_frame_Right_c1_L0_sel x1 x2 s0 = true → (roundG (runC E0 (cl E0) L82_0) [0, 1, 7, 8] [4] 0) (slices_IndexFunc_int_o_frame_Right_c1_L0_enc x0 x1 x2 x3 s0) = some (.normal, slices_IndexFunc_int_o_frame_Right_c1_L0_enc x0 x1 x2 x3 (slices_IndexFunc_int_o_frame_Right_c1_L0_nx x1 x2 s0)) := by
  unfold slices_IndexFunc_int_o_frame_Right_c1_L0_sel slices_IndexFunc_int_o_frame_Right_c1_L0_nx
  cases h1 : tb (decide (s0.c3 < x2))
  · intro g0
    exact absurd g0 ft
  · cases h2 : tb (inb x1.length s0.c3)
    · intro g0
      exact absurd g0 ft
    · cases h3 : tb (frame_Right_c1_i_r0_0 (gt x1 s0.c3))
      · intro _
        exact round_walk [.b (tbE h1), .o 14 (fun _ => o_idx_os (enc := (encI .i64)) (l := x1) (fl := true) (n := x0) (s := 1) (k := .i64) (tbE h2)), .c (frame_Right_c1_i_t0 (gt x1 s0.c3)), .b (tbE h3)] (by kernel_rfl)
      · intro g0
        exact absurd g0 ft
def slices_IndexFunc_int_o_frame_Right_c1_L0_c0 (x1 : List Int) (x2 : Int) (s0 : slices_IndexFunc_int_o_frame_Right_c1_L0_s0) : Bool := (bif tb (decide (s0.c3 < x2)) then (bif tb (inb x1.length s0.c3) then true else false) else false)
def slices_IndexFunc_int_o_frame_Right_c1_L0_c1 (x2 : Int) (s0 : slices_IndexFunc_int_o_frame_Right_c1_L0_s0) : Bool := (bif tb (decide (s0.c3 < x2)) then false else true)
theorem slices_IndexFunc_int_o_frame_Right_c1_L0_x0 (x0 : Bool) (x1 : List Int) (x2 : Int) (x3 : Int) (s0 : slices_IndexFunc_int_o_frame_Right_c1_L0_s0) : slices_IndexFunc_int_o_frame_Right_c1_L0_sel x1 x2 s0 = false → slices_IndexFunc_int_o_frame_Right_c1_L0_c0 x1 x2 s0 = true → (roundG (runC E0 (cl E0) L82_0) [0, 1, 7, 8] [4] 0) (slices_IndexFunc_int_o_frame_Right_c1_L0_enc x0 x1 x2 x3 s0) = some (.ret, ([(V.d (.int .i64 s0.c3))], [])) := by
  unfold slices_IndexFunc_int_o_frame_Right_c1_L0_sel slices_IndexFunc_int_o_frame_Right_c1_L0_c0
  cases h1 : tb (decide (s0.c3 < x2))
  · intro g0 g1
    exact absurd g1 ft
  · cases h2 : tb (inb x1.length s0.c3)
    · intro g0 g1
      exact absurd g1 ft
    · cases h3 : tb (frame_Right_c1_i_r0_0 (gt x1 s0.c3))
      · intro g0 g1
        exact absurd g0 tf
      · intro g0 g1
        exact round_walk [.b (tbE h1), .o 14 (fun _ => o_idx_os (enc := (encI .i64)) (l := x1) (fl := true) (n := x0) (s := 1) (k := .i64) (tbE h2)), .c (frame_Right_c1_i_t0 (gt x1 s0.c3)), .b (tbE h3)] (by kernel_rfl)
theorem slices_IndexFunc_int_o_frame_Right_c1_L0_x1 (x0 : Bool) (x1 : List Int) (x2 : Int) (x3 : Int) (s0 : slices_IndexFunc_int_o_frame_Right_c1_L0_s0) : slices_IndexFunc_int_o_frame_Right_c1_L0_sel x1 x2 s0 = false → slices_IndexFunc_int_o_frame_Right_c1_L0_c0 x1 x2 s0 = false → slices_IndexFunc_int_o_frame_Right_c1_L0_c1 x2 s0 = true → (roundG (runC E0 (cl E0) L82_0) [0, 1, 7, 8] [4] 0) (slices_IndexFunc_int_o_frame_Right_c1_L0_enc x0 x1 x2 x3 s0) = some ((.exit 0), ([V.un], [])) := by
  unfold slices_IndexFunc_int_o_frame_Right_c1_L0_sel slices_IndexFunc_int_o_frame_Right_c1_L0_c0 slices_IndexFunc_int_o_frame_Right_c1_L0_c1
  cases h1 : tb (decide (s0.c3 < x2))
  · intro g0 g1 g2
    exact round_walk [.b (tbE h1)] (by kernel_rfl)
  · cases h2 : tb (inb x1.length s0.c3)
    · intro g0 g1 g2
      exact absurd g2 ft
    · cases h3 : tb (frame_Right_c1_i_r0_0 (gt x1 s0.c3))
      · intro g0 g1 g2
        exact absurd g0 tf
      · intro g0 g1 g2
        exact absurd g1 tf
theorem slices_IndexFunc_int_o_frame_Right_c1_L0_f0_0 (x0 : Bool) (x1 : List Int) (x2 : Int) (x3 : Int) (s : slices_IndexFunc_int_o_frame_Right_c1_L0_s0) (hok : slices_IndexFunc_int_o_frame_Right_c1_L0_ok x1 x2 s = true) (c0 : slices_IndexFunc_int_o_frame_Right_c1_L0_c0 x1 x2 (slices_IndexFunc_int_o_frame_Right_c1_L0_end x1 x2 s) = true) : loopG (roundG (runC E0 (cl E0) L82_0) [0, 1, 7, 8] [4] 0) bound (slices_IndexFunc_int_o_frame_Right_c1_L0_enc x0 x1 x2 x3 s) = some (.ret, ([(V.d (.int .i64 ((slices_IndexFunc_int_o_frame_Right_c1_L0_end x1 x2 s).c3)))], [])) := by
  have e : itS (slices_IndexFunc_int_o_frame_Right_c1_L0_sel x1 x2) (slices_IndexFunc_int_o_frame_Right_c1_L0_nx x1 x2) bound s = some (slices_IndexFunc_int_o_frame_Right_c1_L0_end x1 x2 s) := itS_get hok
  have f := itS_false e
  exact loop_it (slices_IndexFunc_int_o_frame_Right_c1_L0_go x0 x1 x2 x3) bound s _ _ _ e (fun h => by cases h) (slices_IndexFunc_int_o_frame_Right_c1_L0_x0 x0 x1 x2 x3 (slices_IndexFunc_int_o_frame_Right_c1_L0_end x1 x2 s) f c0)
theorem slices_IndexFunc_int_o_frame_Right_c1_L0_f0_1 (x0 : Bool) (x1 : List Int) (x2 : Int) (x3 : Int) (s : slices_IndexFunc_int_o_frame_Right_c1_L0_s0) (hok : slices_IndexFunc_int_o_frame_Right_c1_L0_ok x1 x2 s = true) (c0 : slices_IndexFunc_int_o_frame_Right_c1_L0_c0 x1 x2 (slices_IndexFunc_int_o_frame_Right_c1_L0_end x1 x2 s) = false) (c1 : slices_IndexFunc_int_o_frame_Right_c1_L0_c1 x2 (slices_IndexFunc_int_o_frame_Right_c1_L0_end x1 x2 s) = true) : loopG (roundG (runC E0 (cl E0) L82_0) [0, 1, 7, 8] [4] 0) bound (slices_IndexFunc_int_o_frame_Right_c1_L0_enc x0 x1 x2 x3 s) = some ((.exit 0), ([V.un], [])) := by
  have e : itS (slices_IndexFunc_int_o_frame_Right_c1_L0_sel x1 x2) (slices_IndexFunc_int_o_frame_Right_c1_L0_nx x1 x2) bound s = some (slices_IndexFunc_int_o_frame_Right_c1_L0_end x1 x2 s) := itS_get hok
  have f := itS_false e
  exact loop_it (slices_IndexFunc_int_o_frame_Right_c1_L0_go x0 x1 x2 x3) bound s _ _ _ e (fun h => by cases h) (slices_IndexFunc_int_o_frame_Right_c1_L0_x1 x0 x1 x2 x3 (slices_IndexFunc_int_o_frame_Right_c1_L0_end x1 x2 s) f c0 c1)
def slices_IndexFunc_int_o_frame_Right_c1_e0 (x1 : List Int) : slices_IndexFunc_int_o_frame_Right_c1_L0_s0 := slices_IndexFunc_int_o_frame_Right_c1_L0_end x1 ((x1.length : Nat) : Int) (⟨0⟩ : slices_IndexFunc_int_o_frame_Right_c1_L0_s0)
def slices_IndexFunc_int_o_frame_Right_c1_c0 (x1 : List Int) : Bool := (bif tb (slices_IndexFunc_int_o_frame_Right_c1_L0_ok x1 ((x1.length : Nat) : Int) (⟨0⟩ : slices_IndexFunc_int_o_frame_Right_c1_L0_s0)) then (bif tb (slices_IndexFunc_int_o_frame_Right_c1_L0_c0 x1 ((x1.length : Nat) : Int) (slices_IndexFunc_int_o_frame_Right_c1_e0 x1)) then true else (bif tb (slices_IndexFunc_int_o_frame_Right_c1_L0_c1 ((x1.length : Nat) : Int) (slices_IndexFunc_int_o_frame_Right_c1_e0 x1)) then true else false)) else false)
def slices_IndexFunc_int_o_frame_Right_c1_r0_0 (x1 : List Int) : Int := (bif tb (slices_IndexFunc_int_o_frame_Right_c1_L0_c0 x1 ((x1.length : Nat) : Int) (slices_IndexFunc_int_o_frame_Right_c1_e0 x1)) then ((slices_IndexFunc_int_o_frame_Right_c1_e0 x1).c3) else (-1))
theorem slices_IndexFunc_int_o_frame_Right_c1_t0 (x0 : Bool) (x1 : List Int) : slices_IndexFunc_int_o_frame_Right_c1_c0 x1 = true → cl E0 82 [(V.d (slD (encI .i64) true 1 x0 x1)), (V.fn (.func 58) [] [])] [] = some ([(V.d (.int .i64 (slices_IndexFunc_int_o_frame_Right_c1_r0_0 x1)))], []) := by
  unfold slices_IndexFunc_int_o_frame_Right_c1_c0 slices_IndexFunc_int_o_frame_Right_c1_r0_0
  cases h1 : tb (slices_IndexFunc_int_o_frame_Right_c1_L0_ok x1 ((x1.length : Nat) : Int) (⟨0⟩ : slices_IndexFunc_int_o_frame_Right_c1_L0_s0))
  · intro g0
    exact absurd g0 ft
  · cases h2 : tb (slices_IndexFunc_int_o_frame_Right_c1_L0_c0 x1 ((x1.length : Nat) : Int) (slices_IndexFunc_int_o_frame_Right_c1_e0 x1))
    · cases h3 : tb (slices_IndexFunc_int_o_frame_Right_c1_L0_c1 ((x1.length : Nat) : Int) (slices_IndexFunc_int_o_frame_Right_c1_e0 x1))
      · intro g0
        exact absurd g0 ft
      · intro g0
        exact w82 [.o 7 (fun _ => o_len_os (enc := (encI .i64)) (l := x1) (fl := true) (n := x0) (s := 1)), .l (slices_IndexFunc_int_o_frame_Right_c1_L0_f0_1 x0 x1 ((x1.length : Nat) : Int) 0 (⟨0⟩ : slices_IndexFunc_int_o_frame_Right_c1_L0_s0) (tbE h1) (tbE h2) (tbE h3))] (by kernel_rfl)
    · intro g0
      exact w82 [.o 7 (fun _ => o_len_os (enc := (encI .i64)) (l := x1) (fl := true) (n := x0) (s := 1)), .l (slices_IndexFunc_int_o_frame_Right_c1_L0_f0_0 x0 x1 ((x1.length : Nat) : Int) 0 (⟨0⟩ : slices_IndexFunc_int_o_frame_Right_c1_L0_s0) (tbE h1) (tbE h2))] (by kernel_rfl)
def slices_ContainsFunc_int_o_frame_Right_c1_c0 (x1 : List Int) : Bool := (bif tb (slices_IndexFunc_int_o_frame_Right_c1_c0 x1) then true else false)
theorem slices_ContainsFunc_int_o_frame_Right_c1_t0 (x0 : Bool) (x1 : List Int) : slices_ContainsFunc_int_o_frame_Right_c1_c0 x1 = true → cl E0 59 [(V.d (slD (encI .i64) true 1 x0 x1)), (V.fn (.func 58) [] [])] [] = some ([(V.d (.bool (decide (0 ≤ (slices_IndexFunc_int_o_frame_Right_c1_r0_0 x1)))))], []) := by
  unfold slices_ContainsFunc_int_o_frame_Right_c1_c0
  cases h1 : tb (slices_IndexFunc_int_o_frame_Right_c1_c0 x1)
  · intro g0
    exact absurd g0 ft
  · intro g0
    exact w59 [.c (slices_IndexFunc_int_o_frame_Right_c1_t0 x0 x1 (tbE h1))] (by kernel_rfl)
def frame_Right_ai9_e0 (x1 : List Int) : List Int := [(gt x1 0), (gt x1 1), (gt x1 2), (gt x1 3), (gt x1 4), (gt x1 5), (gt x1 6), (gt x1 7)]
def frame_Right_ai9_c0 (x0 : Int) (x1 : List Int) : Bool := (bif tb (decide (0 ≤ x0)) then (bif tb (decide (x0 < 65536)) then (bif tb (slices_ContainsFunc_int_o_frame_Right_c1_c0 (frame_Right_ai9_e0 x1)) then true else false) else true) else true)
def frame_Right_ai9_r0_0 (x0 : Int) (x1 : List Int) : Bool := (bif tb (decide (0 ≤ x0)) then (bif tb (decide (x0 < 65536)) then (!(decide (0 ≤ (slices_IndexFunc_int_o_frame_Right_c1_r0_0 (frame_Right_ai9_e0 x1))))) else false) else false)
theorem frame_Right_ai9_t0 (x0 : Int) (x1 : List Int) : frame_Right_ai9_c0 x0 x1 = true → cl E0 16 [(V.agg [(V.d (.int .i64 x0)), (V.d (.int .i64 (gt x1 0))), (V.d (.int .i64 (gt x1 1))), (V.d (.int .i64 (gt x1 2))), (V.d (.int .i64 (gt x1 3))), (V.d (.int .i64 (gt x1 4))), (V.d (.int .i64 (gt x1 5))), (V.d (.int .i64 (gt x1 6))), (V.d (.int .i64 (gt x1 7)))])] [] = some ([(V.d (.bool (frame_Right_ai9_r0_0 x0 x1)))], []) := by
  unfold frame_Right_ai9_c0 frame_Right_ai9_r0_0
  cases h1 : tb (decide (0 ≤ x0))
  · intro g0
    exact w16 [.b (tbE h1)] (by kernel_rfl)
  · cases h2 : tb (decide (x0 < 65536))
    · intro g0
      exact w16 [.b (tbE h1), .b (tbE h2)] (by kernel_rfl)
    · cases h3 : tb (slices_ContainsFunc_int_o_frame_Right_c1_c0 (frame_Right_ai9_e0 x1))
      · intro g0
        exact absurd g0 ft
      · intro g0
        exact w16 [.b (tbE h1), .b (tbE h2), .c (slices_ContainsFunc_int_o_frame_Right_c1_t0 false (frame_Right_ai9_e0 x1) (tbE h3))] (by kernel_rfl)
def frame_Encode_iai9_S0_c0 (x0 : Int) (x1 : List Int) (x4 : Int) : Bool := (bif tb (decide (x4 < 0)) then true else (bif tb (decide (4 ≤ x4)) then true else (bif tb (frame_Right_ai9_c0 x0 x1) then (bif tb (frame_Right_ai9_r0_0 x0 x1) then false else true) else false)))
def frame_Encode_iai9_S0_c1 (x0 : Int) (x1 : List Int) (x4 : Int) : Bool := (bif tb (decide (x4 < 0)) then false else (bif tb (decide (4 ≤ x4)) then false else (bif tb (frame_Right_ai9_c0 x0 x1) then (bif tb (frame_Right_ai9_r0_0 x0 x1) then true else false) else false)))
theorem frame_Encode_iai9_S0_t0 (x0 : Int) (x1 : List Int) (x2 : Bool) (x3 : Bool) (x4 : Int) : frame_Encode_iai9_S0_c0 x0 x1 x4 = true → segG (runC E0 (cl E0) S11_0) [0, 3] [4, 5] [0, 3] 2 ([(V.d (.int .i64 x4)), (V.ptr 0 1 0 0)], [(Blk.flat 24 9 [([(.int .i64 x0)] ++ arrD .i64 x1 8)] x2), (Blk.flat 5 1 [] x3)]) = some (.ret, ([(V.so true 2 0), (V.d (.int .i64 1))], [(Blk.flat 24 9 [([(.int .i64 x0)] ++ arrD .i64 x1 8)] x2), (Blk.flat 5 1 [] x3), (Blk.flat 5 1 [] false)])) := by
  unfold frame_Encode_iai9_S0_c0
  cases h1 : tb (decide (x4 < 0))
  · cases h2 : tb (decide (4 ≤ x4))
    · cases h3 : tb (frame_Right_ai9_c0 x0 x1)
      · intro g0
        exact absurd g0 ft
      · cases h4 : tb (frame_Right_ai9_r0_0 x0 x1)
        · intro g0
          exact seg_walk [.b (tbE h1), .b (tbE h2), .c (frame_Right_ai9_t0 x0 x1 (tbE h3)), .b (notF (tbE h4))] (by kernel_rfl)
        · intro g0
          exact absurd g0 ft
    · intro g0
      exact seg_walk [.b (tbE h1), .b (tbE h2)] (by kernel_rfl)
  · intro g0
    exact seg_walk [.b (tbE h1)] (by kernel_rfl)
theorem frame_Encode_iai9_S0_t1 (x0 : Int) (x1 : List Int) (x2 : Bool) (x3 : Bool) (x4 : Int) : frame_Encode_iai9_S0_c0 x0 x1 x4 = false → frame_Encode_iai9_S0_c1 x0 x1 x4 = true → segG (runC E0 (cl E0) S11_0) [0, 3] [4, 5] [0, 3] 2 ([(V.d (.int .i64 x4)), (V.ptr 0 1 0 0)], [(Blk.flat 24 9 [([(.int .i64 x0)] ++ arrD .i64 x1 8)] x2), (Blk.flat 5 1 [] x3)]) = some (.normal, ([(V.d (.int .i64 x4)), (V.ptr 0 1 0 0)], [(Blk.flat 24 9 [([(.int .i64 x0)] ++ arrD .i64 x1 8)] x2), (Blk.flat 5 1 [] x3)])) := by
  unfold frame_Encode_iai9_S0_c0 frame_Encode_iai9_S0_c1
  cases h1 : tb (decide (x4 < 0))
  · cases h2 : tb (decide (4 ≤ x4))
    · cases h3 : tb (frame_Right_ai9_c0 x0 x1)
      · intro g0 g1
        exact absurd g1 ft
      · cases h4 : tb (frame_Right_ai9_r0_0 x0 x1)
        · intro g0 g1
          exact absurd g0 tf
        · intro g0 g1
          exact seg_walk [.b (tbE h1), .b (tbE h2), .c (frame_Right_ai9_t0 x0 x1 (tbE h3)), .b (notT (tbE h4))] (by kernel_rfl)
    · intro g0 g1
      exact absurd g0 tf
  · intro g0 g1
    exact absurd g0 tf
def frame_Encode_iai9_e0 (x2 : List Int) : List Int := [(gt x2 0), (gt x2 1), (gt x2 2), (gt x2 3), (gt x2 4), (gt x2 5), (gt x2 6), (gt x2 7)]
def frame_Encode_iai9_e1 (x0 : Int) (x1 : Int) (x2 : List Int) : Bool := ((word_PutAll_o_r0_1 (frame_Encode_iai9_e0 x2)).isEmpty && ((word_Put2_i_r0_1 x1).isEmpty && ([165, (IntKind.u8.wrap (x0))].isEmpty && (slices_Concat_byte_v_GvvvLLL_e0 [165, (IntKind.u8.wrap (x0))] (word_Put2_i_r0_1 x1) (word_PutAll_o_r0_1 (frame_Encode_iai9_e0 x2))))))
def frame_Encode_iai9_e2 (x0 : Int) (x1 : Int) (x2 : List Int) : List Int := (([165, (IntKind.u8.wrap (x0))] ++ (word_Put2_i_r0_1 x1)) ++ (word_PutAll_o_r0_1 (frame_Encode_iai9_e0 x2)))
def frame_Encode_iai9_c0 (x0 : Int) (x1 : Int) (x2 : List Int) : Bool := (bif tb (frame_Encode_iai9_S0_c0 x1 x2 x0) then true else (bif tb (frame_Encode_iai9_S0_c1 x1 x2 x0) then (bif tb (word_PutAll_o_c0 (frame_Encode_iai9_e0 x2)) then (bif tb (slices_Concat_byte_v_GvvvLLL_c0 [165, (IntKind.u8.wrap (x0))] (word_Put2_i_r0_1 x1) (word_PutAll_o_r0_1 (frame_Encode_iai9_e0 x2))) then (bif tb (crc_Seal_o_c0 (frame_Encode_iai9_e1 x0 x1 x2) (frame_Encode_iai9_e2 x0 x1 x2)) then true else false) else false) else false) else false))
def frame_Encode_iai9_r0_0 (x0 : Int) (x1 : Int) (x2 : List Int) : Bool := (bif tb (frame_Encode_iai9_S0_c0 x1 x2 x0) then true else false)
def frame_Encode_iai9_r0_1 (x0 : Int) (x1 : Int) (x2 : List Int) : Int := (bif tb (frame_Encode_iai9_S0_c0 x1 x2 x0) then 1 else 0)
def frame_Encode_iai9_r0_2 (x0 : Int) (x1 : Int) (x2 : List Int) : List Int := (bif tb (frame_Encode_iai9_S0_c0 x1 x2 x0) then ([] : List Int) else (crc_Seal_o_e0 (frame_Encode_iai9_e1 x0 x1 x2) (frame_Encode_iai9_e2 x0 x1 x2)))
theorem frame_Encode_iai9_t0 (x0 : Int) (x1 : Int) (x2 : List Int) : frame_Encode_iai9_c0 x0 x1 x2 = true → cl E0 11 [(V.d (.int .i64 x0)), (V.agg [(V.d (.int .i64 x1)), (V.d (.int .i64 (gt x2 0))), (V.d (.int .i64 (gt x2 1))), (V.d (.int .i64 (gt x2 2))), (V.d (.int .i64 (gt x2 3))), (V.d (.int .i64 (gt x2 4))), (V.d (.int .i64 (gt x2 5))), (V.d (.int .i64 (gt x2 6))), (V.d (.int .i64 (gt x2 7)))])] [] = some ([(V.so (frame_Encode_iai9_r0_0 x0 x1 x2) 0 ((frame_Encode_iai9_r0_2 x0 x1 x2).length)), (V.d (.int .i64 (frame_Encode_iai9_r0_1 x0 x1 x2)))], [(Blk.flat 5 1 (List.map (encI .u8) (frame_Encode_iai9_r0_2 x0 x1 x2)) false)]) := by
  unfold frame_Encode_iai9_c0 frame_Encode_iai9_r0_0 frame_Encode_iai9_r0_1 frame_Encode_iai9_r0_2
  cases h1 : tb (frame_Encode_iai9_S0_c0 x1 x2 x0)
  · cases h2 : tb (frame_Encode_iai9_S0_c1 x1 x2 x0)
    · intro g0
      exact absurd g0 ft
    · cases h3 : tb (word_PutAll_o_c0 (frame_Encode_iai9_e0 x2))
      · intro g0
        exact absurd g0 ft
      · cases h4 : tb (slices_Concat_byte_v_GvvvLLL_c0 [165, (IntKind.u8.wrap (x0))] (word_Put2_i_r0_1 x1) (word_PutAll_o_r0_1 (frame_Encode_iai9_e0 x2)))
        · intro g0
          exact absurd g0 ft
        · cases h5 : tb (crc_Seal_o_c0 (frame_Encode_iai9_e1 x0 x1 x2) (frame_Encode_iai9_e2 x0 x1 x2))
          · intro g0
            exact absurd g0 ft
          · intro g0
            exact w11 [.s (frame_Encode_iai9_S0_t1 x1 x2 false false x0 (tbE h1) (tbE h2)), .c (word_Put2_i_t0 x1), .c (word_PutAll_o_t0 false (frame_Encode_iai9_e0 x2) (tbE h3)), .c (slices_Concat_byte_v_GvvvLLL_t0 [165, (IntKind.u8.wrap (x0))] (word_Put2_i_r0_1 x1) (word_PutAll_o_r0_1 (frame_Encode_iai9_e0 x2)) false (word_Put2_i_r0_0 x1) (word_PutAll_o_r0_0 (frame_Encode_iai9_e0 x2)) false false false false false (tbE h4)), .y (mm := [(Blk.flat 24 9 [([(.int .i64 x1)] ++ arrD .i64 x2 8)] false), (Blk.flat 5 1 [] false), (Blk.flat 5 1 (List.map (encI .u8) [165, (IntKind.u8.wrap (x0))]) false), (Blk.flat 5 1 (List.map (encI .u8) (word_Put2_i_r0_1 x1)) false), (Blk.flat 5 1 (List.map (encI .u8) (word_PutAll_o_r0_1 (frame_Encode_iai9_e0 x2))) false), (Blk.gen 25 1 [[(V.so false 2 ([165, (IntKind.u8.wrap (x0))].length))], [(V.so (word_Put2_i_r0_0 x1) 3 ((word_Put2_i_r0_1 x1).length))], [(V.so (word_PutAll_o_r0_0 (frame_Encode_iai9_e0 x2)) 4 ((word_PutAll_o_r0_1 (frame_Encode_iai9_e0 x2)).length))]] false), (Blk.flat 5 1 (List.map (encI .u8) (([165, (IntKind.u8.wrap (x0))] ++ (word_Put2_i_r0_1 x1)) ++ (word_PutAll_o_r0_1 (frame_Encode_iai9_e0 x2)))) false)]) (args := [(V.so ((word_PutAll_o_r0_1 (frame_Encode_iai9_e0 x2)).isEmpty && ((word_Put2_i_r0_1 x1).isEmpty && ([165, (IntKind.u8.wrap (x0))].isEmpty && (slices_Concat_byte_v_GvvvLLL_e0 [165, (IntKind.u8.wrap (x0))] (word_Put2_i_r0_1 x1) (word_PutAll_o_r0_1 (frame_Encode_iai9_e0 x2)))))) 6 ((([165, (IntKind.u8.wrap (x0))] ++ (word_Put2_i_r0_1 x1)) ++ (word_PutAll_o_r0_1 (frame_Encode_iai9_e0 x2))).length))]) (args1 := [(V.d (slD (encI .u8) true 1 ((word_PutAll_o_r0_1 (frame_Encode_iai9_e0 x2)).isEmpty && ((word_Put2_i_r0_1 x1).isEmpty && ([165, (IntKind.u8.wrap (x0))].isEmpty && (slices_Concat_byte_v_GvvvLLL_e0 [165, (IntKind.u8.wrap (x0))] (word_Put2_i_r0_1 x1) (word_PutAll_o_r0_1 (frame_Encode_iai9_e0 x2)))))) (([165, (IntKind.u8.wrap (x0))] ++ (word_Put2_i_r0_1 x1)) ++ (word_PutAll_o_r0_1 (frame_Encode_iai9_e0 x2)))))]) (byvals_cons (byval_so (enc := (encI .u8)) (l := (([165, (IntKind.u8.wrap (x0))] ++ (word_Put2_i_r0_1 x1)) ++ (word_PutAll_o_r0_1 (frame_Encode_iai9_e0 x2)))) (b := ((word_PutAll_o_r0_1 (frame_Encode_iai9_e0 x2)).isEmpty && ((word_Put2_i_r0_1 x1).isEmpty && ([165, (IntKind.u8.wrap (x0))].isEmpty && (slices_Concat_byte_v_GvvvLLL_e0 [165, (IntKind.u8.wrap (x0))] (word_Put2_i_r0_1 x1) (word_PutAll_o_r0_1 (frame_Encode_iai9_e0 x2))))))) (e := 5) (s := 1) (p := false) (n := ((([165, (IntKind.u8.wrap (x0))] ++ (word_Put2_i_r0_1 x1)) ++ (word_PutAll_o_r0_1 (frame_Encode_iai9_e0 x2))).length)) (Nat.beq_refl _) (by kernel_rfl)) (by kernel_rfl)), .c (crc_Seal_o_t0 (frame_Encode_iai9_e1 x0 x1 x2) (frame_Encode_iai9_e2 x0 x1 x2) (tbE h5))] (by kernel_rfl)
  · intro g0
    exact w11 [.s (frame_Encode_iai9_S0_t0 x1 x2 false false x0 (tbE h1))] (by kernel_rfl)
def frame_Decode_iabo_S0_c0 (x1 : Bool) (x3 : List Int) (x6 : Int) : Bool := (bif tb (x1) then (bif tb ((((x3.length : Nat) : Int) : Int) != 38) then true else (bif tb (inb x3.length 0) then (bif tb (((gt x3 0) : Int) != 165) then true else (bif tb (inb x3.length 1) then (bif tb (((wi (gt x3 1)) : Int) != x6) then true else false) else false)) else false)) else true)
def frame_Decode_iabo_S0_r0_0 (x1 : Bool) (x3 : List Int) : Int := (bif tb (x1) then (bif tb ((((x3.length : Nat) : Int) : Int) != 38) then 2 else (bif tb (((gt x3 0) : Int) != 165) then 3 else 4)) else 1)
def frame_Decode_iabo_S0_c1 (x1 : Bool) (x3 : List Int) (x6 : Int) : Bool := (bif tb (x1) then (bif tb ((((x3.length : Nat) : Int) : Int) != 38) then false else (bif tb (inb x3.length 0) then (bif tb (((gt x3 0) : Int) != 165) then false else (bif tb (inb x3.length 1) then (bif tb (((wi (gt x3 1)) : Int) != x6) then false else true) else false)) else false)) else false)
def frame_Decode_iabo_S1_e0 (x2 : Bool) (x3 : List Int) : List Int := (sub (crc_Open_o_r0_2 x2 x3) 4 ((((crc_Open_o_r0_2 x2 x3).length) : Nat) : Int))
def frame_Decode_iabo_S1_c0 (x2 : Bool) (x3 : List Int) : Bool := (bif tb (crc_Open_o_c0 x2 x3) then (bif tb (crc_Open_o_r0_1 x2 x3) then (bif tb (ins ((crc_Open_o_r0_2 x2 x3).length) 2 4) then (bif tb (decide (2 < 4)) then (bif tb (word_Get2_o_c0 (sub (crc_Open_o_r0_2 x2 x3) 2 4)) then (bif tb (ins ((crc_Open_o_r0_2 x2 x3).length) 4 ((((crc_Open_o_r0_2 x2 x3).length) : Nat) : Int)) then (bif tb (decide (4 < ((((crc_Open_o_r0_2 x2 x3).length) : Nat) : Int))) then (bif tb (word_GetAll_o_c0 false (frame_Decode_iabo_S1_e0 x2 x3)) then (bif tb (word_GetAll_o_r0_0 false (frame_Decode_iabo_S1_e0 x2 x3)) then false else (bif tb (Nat.ble 8 ((word_GetAll_o_r0_2 false (frame_Decode_iabo_S1_e0 x2 x3)).length)) then true else false)) else false) else false) else false) else false) else (bif tb (crc_Open_o_r0_0 x2 x3) then false else (bif tb (ins ((crc_Open_o_r0_2 x2 x3).length) 4 ((((crc_Open_o_r0_2 x2 x3).length) : Nat) : Int)) then (bif tb (decide (4 < ((((crc_Open_o_r0_2 x2 x3).length) : Nat) : Int))) then (bif tb (word_GetAll_o_c0 false (frame_Decode_iabo_S1_e0 x2 x3)) then (bif tb (word_GetAll_o_r0_0 false (frame_Decode_iabo_S1_e0 x2 x3)) then false else (bif tb (Nat.ble 8 ((word_GetAll_o_r0_2 false (frame_Decode_iabo_S1_e0 x2 x3)).length)) then true else false)) else false) else false) else false))) else false) else false) else false)
def frame_Decode_iabo_S1_r0_5 (x2 : Bool) (x3 : List Int) : Int := (bif tb (decide (2 < 4)) then (word_Get2_o_r0_0 (sub (crc_Open_o_r0_2 x2 x3) 2 4)) else 0)
def frame_Decode_iabo_S1_c1 (x2 : Bool) (x3 : List Int) : Bool := (bif tb (crc_Open_o_c0 x2 x3) then (bif tb (crc_Open_o_r0_1 x2 x3) then false else true) else false)
def frame_Decode_iabo_c0 (x0 : Int) (x1 : Bool) (x2 : Bool) (x3 : List Int) : Bool := (bif tb (frame_Decode_iabo_S0_c0 x1 x3 x0) then true else (bif tb (frame_Decode_iabo_S0_c1 x1 x3 x0) then (bif tb (frame_Decode_iabo_S1_c0 x2 x3) then true else (bif tb (frame_Decode_iabo_S1_c1 x2 x3) then true else false)) else false))
def frame_Decode_iabo_r0_0 (x0 : Int) (x1 : Bool) (x2 : Bool) (x3 : List Int) : Int := (bif tb (frame_Decode_iabo_S0_c0 x1 x3 x0) then 0 else (bif tb (frame_Decode_iabo_S1_c0 x2 x3) then (frame_Decode_iabo_S1_r0_5 x2 x3) else 0))
def frame_Decode_iabo_r0_1 (x0 : Int) (x1 : Bool) (x2 : Bool) (x3 : List Int) : List Int := (bif tb (frame_Decode_iabo_S0_c0 x1 x3 x0) then [0, 0, 0, 0, 0, 0, 0, 0] else (bif tb (frame_Decode_iabo_S1_c0 x2 x3) then (word_GetAll_o_r0_2 false (frame_Decode_iabo_S1_e0 x2 x3)) else [0, 0, 0, 0, 0, 0, 0, 0]))
def frame_Decode_iabo_r0_2 (x0 : Int) (x1 : Bool) (x2 : Bool) (x3 : List Int) : Int := (bif tb (frame_Decode_iabo_S0_c0 x1 x3 x0) then (frame_Decode_iabo_S0_r0_0 x1 x3) else (bif tb (frame_Decode_iabo_S1_c0 x2 x3) then 0 else 5))
def frame_Decode_iabl_S0_c0 (x1 : Bool) (x2 : List Int) (x5 : Int) : Bool := (bif tb (x1) then (bif tb ((((x2.length : Nat) : Int) : Int) != 38) then true else (bif tb (inb x2.length 0) then (bif tb (((gt x2 0) : Int) != 165) then true else (bif tb (inb x2.length 1) then (bif tb (((wi (gt x2 1)) : Int) != x5) then true else false) else false)) else false)) else true)
def frame_Decode_iabl_S0_r0_0 (x1 : Bool) (x2 : List Int) : Int := (bif tb (x1) then (bif tb ((((x2.length : Nat) : Int) : Int) != 38) then 2 else (bif tb (((gt x2 0) : Int) != 165) then 3 else 4)) else 1)
def frame_Decode_iabl_S0_c1 (x1 : Bool) (x2 : List Int) (x5 : Int) : Bool := (bif tb (x1) then (bif tb ((((x2.length : Nat) : Int) : Int) != 38) then false else (bif tb (inb x2.length 0) then (bif tb (((gt x2 0) : Int) != 165) then false else (bif tb (inb x2.length 1) then (bif tb (((wi (gt x2 1)) : Int) != x5) then false else true) else false)) else false)) else false)
theorem frame_Decode_iabl_S0_t0 (x0 : List Int) (x1 : Bool) (x2 : List Int) (x3 : Bool) (x5 : Int) : frame_Decode_iabl_S0_c0 x1 x2 x5 = true → segG (runC E0 (cl E0) S13_0) [0, 3, 4] [4, 5] [3, 4] 2 ([(V.d (.int .i64 x5)), (V.ptr 0 1 0 0), (V.ptr 1 1 0 0)], [(Blk.gen 27 2 [[(V.d (.bool x1)), (V.d (.rs true 1 (List.map (encI .u8) x2) false))]] x3), (Blk.flat 24 9 [([(.int .i64 0)] ++ arrD .i64 x0 8)] false)]) = some (.ret, ([(V.ptr 1 1 0 0), (V.d (.int .i64 (frame_Decode_iabl_S0_r0_0 x1 x2)))], [(Blk.gen 27 2 [[(V.d (.bool x1)), (V.d (.rs true 1 (List.map (encI .u8) x2) false))]] x3), (Blk.flat 24 9 [([(.int .i64 0)] ++ arrD .i64 [0, 0, 0, 0, 0, 0, 0, 0] 8)] false)])) := by
  unfold frame_Decode_iabl_S0_c0 frame_Decode_iabl_S0_r0_0
  cases h1 : tb (x1)
  · intro g0
    exact seg_walk [.b (notF (tbE h1))] (by kernel_rfl)
  · cases h2 : tb ((((x2.length : Nat) : Int) : Int) != 38)
    · cases h3 : tb (inb x2.length 0)
      · intro g0
        exact absurd g0 ft
      · cases h4 : tb (((gt x2 0) : Int) != 165)
        · cases h5 : tb (inb x2.length 1)
          · intro g0
            exact absurd g0 ft
          · cases h6 : tb (((wi (gt x2 1)) : Int) != x5)
            · intro g0
              exact absurd g0 ft
            · intro g0
              exact seg_walk [.b (notT (tbE h1)), .o 19 (fun _ => o_len_rs (enc := (encI .u8)) (l := x2) (fl := true) (tg := false) (s := 1)), .b (tbE h2), .o 25 (fun _ => o_idx_rs (enc := (encI .u8)) (l := x2) (fl := true) (tg := false) (s := 1) (k := .i64) (tbE h3)), .b (tbE h4), .o 32 (fun _ => o_idx_rs (enc := (encI .u8)) (l := x2) (fl := true) (tg := false) (s := 1) (k := .i64) (tbE h5)), .b (tbE h6)] (by kernel_rfl)
        · intro g0
          exact seg_walk [.b (notT (tbE h1)), .o 19 (fun _ => o_len_rs (enc := (encI .u8)) (l := x2) (fl := true) (tg := false) (s := 1)), .b (tbE h2), .o 25 (fun _ => o_idx_rs (enc := (encI .u8)) (l := x2) (fl := true) (tg := false) (s := 1) (k := .i64) (tbE h3)), .b (tbE h4)] (by kernel_rfl)
    · intro g0
      exact seg_walk [.b (notT (tbE h1)), .o 19 (fun _ => o_len_rs (enc := (encI .u8)) (l := x2) (fl := true) (tg := false) (s := 1)), .b (tbE h2)] (by kernel_rfl)
theorem frame_Decode_iabl_S0_t1 (x0 : List Int) (x1 : Bool) (x2 : List Int) (x3 : Bool) (x5 : Int) : frame_Decode_iabl_S0_c0 x1 x2 x5 = false → frame_Decode_iabl_S0_c1 x1 x2 x5 = true → segG (runC E0 (cl E0) S13_0) [0, 3, 4] [4, 5] [3, 4] 2 ([(V.d (.int .i64 x5)), (V.ptr 0 1 0 0), (V.ptr 1 1 0 0)], [(Blk.gen 27 2 [[(V.d (.bool x1)), (V.d (.rs true 1 (List.map (encI .u8) x2) false))]] x3), (Blk.flat 24 9 [([(.int .i64 0)] ++ arrD .i64 x0 8)] false)]) = some (.normal, ([(V.ptr 0 1 0 0), (V.ptr 1 1 0 0)], [(Blk.gen 27 2 [[(V.d (.bool x1)), (V.d (.rs true 1 (List.map (encI .u8) x2) false))]] x3), (Blk.flat 24 9 [([(.int .i64 0)] ++ arrD .i64 x0 8)] false)])) := by
  unfold frame_Decode_iabl_S0_c0 frame_Decode_iabl_S0_c1
  cases h1 : tb (x1)
  · intro g0 g1
    exact absurd g0 tf
  · cases h2 : tb ((((x2.length : Nat) : Int) : Int) != 38)
    · cases h3 : tb (inb x2.length 0)
      · intro g0 g1
        exact absurd g1 ft
      · cases h4 : tb (((gt x2 0) : Int) != 165)
        · cases h5 : tb (inb x2.length 1)
          · intro g0 g1
            exact absurd g1 ft
          · cases h6 : tb (((wi (gt x2 1)) : Int) != x5)
            · intro g0 g1
              exact seg_walk [.b (notT (tbE h1)), .o 19 (fun _ => o_len_rs (enc := (encI .u8)) (l := x2) (fl := true) (tg := false) (s := 1)), .b (tbE h2), .o 25 (fun _ => o_idx_rs (enc := (encI .u8)) (l := x2) (fl := true) (tg := false) (s := 1) (k := .i64) (tbE h3)), .b (tbE h4), .o 32 (fun _ => o_idx_rs (enc := (encI .u8)) (l := x2) (fl := true) (tg := false) (s := 1) (k := .i64) (tbE h5)), .b (tbE h6)] (by kernel_rfl)
            · intro g0 g1
              exact absurd g0 tf
        · intro g0 g1
          exact absurd g0 tf
    · intro g0 g1
      exact absurd g0 tf
def frame_Decode_iabl_S1_e0 (x2 : List Int) : List Int := (sub (crc_Open_o_r0_2 false x2) 4 ((((crc_Open_o_r0_2 false x2).length) : Nat) : Int))
def frame_Decode_iabl_S1_c0 (x2 : List Int) : Bool := (bif tb (crc_Open_o_c0 false x2) then (bif tb (crc_Open_o_r0_1 false x2) then (bif tb (ins ((crc_Open_o_r0_2 false x2).length) 2 4) then (bif tb (decide (2 < 4)) then (bif tb (word_Get2_o_c0 (sub (crc_Open_o_r0_2 false x2) 2 4)) then (bif tb (ins ((crc_Open_o_r0_2 false x2).length) 4 ((((crc_Open_o_r0_2 false x2).length) : Nat) : Int)) then (bif tb (decide (4 < ((((crc_Open_o_r0_2 false x2).length) : Nat) : Int))) then (bif tb (word_GetAll_o_c0 false (frame_Decode_iabl_S1_e0 x2)) then (bif tb (word_GetAll_o_r0_0 false (frame_Decode_iabl_S1_e0 x2)) then false else (bif tb (Nat.ble 8 ((word_GetAll_o_r0_2 false (frame_Decode_iabl_S1_e0 x2)).length)) then true else false)) else false) else false) else false) else false) else (bif tb (crc_Open_o_r0_0 false x2) then false else (bif tb (ins ((crc_Open_o_r0_2 false x2).length) 4 ((((crc_Open_o_r0_2 false x2).length) : Nat) : Int)) then (bif tb (decide (4 < ((((crc_Open_o_r0_2 false x2).length) : Nat) : Int))) then (bif tb (word_GetAll_o_c0 false (frame_Decode_iabl_S1_e0 x2)) then (bif tb (word_GetAll_o_r0_0 false (frame_Decode_iabl_S1_e0 x2)) then false else (bif tb (Nat.ble 8 ((word_GetAll_o_r0_2 false (frame_Decode_iabl_S1_e0 x2)).length)) then true else false)) else false) else false) else false))) else false) else false) else false)
def frame_Decode_iabl_S1_r0_4 (x2 : List Int) : Int := (bif tb (decide (2 < 4)) then (word_Get2_o_r0_0 (sub (crc_Open_o_r0_2 false x2) 2 4)) else 0)
def frame_Decode_iabl_S1_c1 (x2 : List Int) : Bool := (bif tb (crc_Open_o_c0 false x2) then (bif tb (crc_Open_o_r0_1 false x2) then false else true) else false)
theorem frame_Decode_iabl_S1_t0 (x0 : List Int) (x1 : Bool) (x2 : List Int) (x3 : Bool) : frame_Decode_iabl_S1_c0 x2 = true → segG (runC E0 (cl E0) S13_1) [3, 4] [4, 5] [4, 5] 2 ([(V.ptr 0 1 0 0), (V.ptr 1 1 0 0)], [(Blk.gen 27 2 [[(V.d (.bool x1)), (V.d (.rs true 1 (List.map (encI .u8) x2) false))]] x3), (Blk.flat 24 9 [([(.int .i64 0)] ++ arrD .i64 x0 8)] false)]) = some (.normal, ([(V.ptr 1 1 0 0), (V.d (.int .i64 0))], [(Blk.gen 27 2 [[(V.d (.bool x1)), (V.d (.rs true 1 (List.map (encI .u8) x2) false))]] x3), (Blk.flat 24 9 [([(.int .i64 (frame_Decode_iabl_S1_r0_4 x2))] ++ arrD .i64 (word_GetAll_o_r0_2 false (frame_Decode_iabl_S1_e0 x2)) 8)] false)])) := by
  unfold frame_Decode_iabl_S1_c0 frame_Decode_iabl_S1_r0_4
  cases h1 : tb (crc_Open_o_c0 false x2)
  · intro g0
    exact absurd g0 ft
  · cases h2 : tb (crc_Open_o_r0_1 false x2)
    · intro g0
      exact absurd g0 ft
    · cases h3 : tb (ins ((crc_Open_o_r0_2 false x2).length) 2 4)
      · intro g0
        exact absurd g0 ft
      · cases h4 : tb (decide (2 < 4))
        · cases h5 : tb (crc_Open_o_r0_0 false x2)
          · cases h6 : tb (ins ((crc_Open_o_r0_2 false x2).length) 4 ((((crc_Open_o_r0_2 false x2).length) : Nat) : Int))
            · intro g0
              exact absurd g0 ft
            · cases h7 : tb (decide (4 < ((((crc_Open_o_r0_2 false x2).length) : Nat) : Int)))
              · cases h8 : tb (word_GetAll_z_c0)
                · intro g0
                  exact absurd g0 ft
                · intro g0
                  exact absurd g0 ft
              · cases h8 : tb (word_GetAll_o_c0 false (frame_Decode_iabl_S1_e0 x2))
                · intro g0
                  exact absurd g0 ft
                · cases h9 : tb (word_GetAll_o_r0_0 false (frame_Decode_iabl_S1_e0 x2))
                  · cases h10 : tb (Nat.ble 8 ((word_GetAll_o_r0_2 false (frame_Decode_iabl_S1_e0 x2)).length))
                    · intro g0
                      exact absurd g0 ft
                    · intro g0
                      exact seg_walk [.c (crc_Open_o_t0 false x2 (tbE h1)), .b (notT (tbE h2)), .m 49 (o_slice_sp0 (m := [(Blk.gen 27 2 [[(V.d (.bool x1)), (V.d (.rs true 1 (List.map (encI .u8) x2) false))]] x3), (Blk.flat 24 9 [([(.int .i64 0)] ++ arrD .i64 x0 8)] false), (Blk.flat 5 1 (List.map (encI .u8) (crc_Open_o_r0_2 false x2)) false), (Blk.flat 24 9 [[(.int .i64 0), (.int .i64 0), (.int .i64 0), (.int .i64 0), (.int .i64 0), (.int .i64 0), (.int .i64 0), (.int .i64 0), (.int .i64 0)]] false)]) (enc := (encI .u8)) (l := (crc_Open_o_r0_2 false x2)) (id := 2) (e := 5) (s := 1) (n := ((crc_Open_o_r0_2 false x2).length)) (p := false) (some (.i64, 2)) (some (.i64, 4)) (deSo_f (tbE h5)) (Nat.beq_refl _) (by kernel_rfl) (tbE h3) (tbE h4)), .c (word_Get2_z_t0), .m 56 (o_slice_spo (nl := (crc_Open_o_r0_0 false x2)) (m := [(Blk.gen 27 2 [[(V.d (.bool x1)), (V.d (.rs true 1 (List.map (encI .u8) x2) false))]] x3), (Blk.flat 24 9 [([(.int .i64 0)] ++ arrD .i64 x0 8)] false), (Blk.flat 5 1 (List.map (encI .u8) (crc_Open_o_r0_2 false x2)) false), (Blk.flat 24 9 [[(.int .i64 0), (.int .i64 0), (.int .i64 0), (.int .i64 0), (.int .i64 0), (.int .i64 0), (.int .i64 0), (.int .i64 0), (.int .i64 0)]] false)]) (enc := (encI .u8)) (l := (crc_Open_o_r0_2 false x2)) (id := 2) (e := 5) (s := 1) (n := ((crc_Open_o_r0_2 false x2).length)) (p := false) (some (.i64, 4)) none (by kernel_rfl) (tbE h6) (tbE h7)), .y (mm := [(Blk.gen 27 2 [[(V.d (.bool x1)), (V.d (.rs true 1 (List.map (encI .u8) x2) false))]] x3), (Blk.flat 24 9 [([(.int .i64 0)] ++ arrD .i64 x0 8)] false), (Blk.flat 5 1 (List.map (encI .u8) (crc_Open_o_r0_2 false x2)) false), (Blk.flat 24 9 [[(.int .i64 0), (.int .i64 0), (.int .i64 0), (.int .i64 0), (.int .i64 0), (.int .i64 0), (.int .i64 0), (.int .i64 0), (.int .i64 0)]] false)]) (args := [(V.sl 2 ((crc_Open_o_r0_2 false x2).length) (4 : Int).toNat ((((((crc_Open_o_r0_2 false x2).length) : Nat) : Int) : Int).toNat - (4 : Int).toNat))]) (args1 := [(V.d (.rs true 1 (List.map (encI .u8) (sub (crc_Open_o_r0_2 false x2) 4 ((((crc_Open_o_r0_2 false x2).length) : Nat) : Int))) false))]) (byvals_cons (byval_sp (enc := (encI .u8)) (l := (crc_Open_o_r0_2 false x2)) (e := 5) (s := 1) (p := false) (n := ((crc_Open_o_r0_2 false x2).length)) (lo := 4) (hi := ((((crc_Open_o_r0_2 false x2).length) : Nat) : Int)) (Nat.beq_refl _) (by kernel_rfl) (tbE h6)) (by kernel_rfl)), .c (word_GetAll_o_t0 false (frame_Decode_iabl_S1_e0 x2) (tbE h8)), .m 61 (o_arrP (m := [(Blk.gen 27 2 [[(V.d (.bool x1)), (V.d (.rs true 1 (List.map (encI .u8) x2) false))]] x3), (Blk.flat 24 9 [([(.int .i64 0)] ++ arrD .i64 x0 8)] false), (Blk.flat 5 1 (List.map (encI .u8) (crc_Open_o_r0_2 false x2)) false), (Blk.flat 24 9 [[(.int .i64 0), (.int .i64 0), (.int .i64 0), (.int .i64 0), (.int .i64 0), (.int .i64 0), (.int .i64 0), (.int .i64 0), (.int .i64 0)]] false), (Blk.flat 3 1 (List.map (encI .i64) (word_GetAll_o_r0_2 false (frame_Decode_iabl_S1_e0 x2))) false)]) (nl := (word_GetAll_o_r0_0 false (frame_Decode_iabl_S1_e0 x2))) (id := 4) (n := ((word_GetAll_o_r0_2 false (frame_Decode_iabl_S1_e0 x2)).length)) (k := 8) (s := 1) (tbE h9) (by kernel_rfl) (tbE h10)), .m 62 (o_load_pa (m := [(Blk.gen 27 2 [[(V.d (.bool x1)), (V.d (.rs true 1 (List.map (encI .u8) x2) false))]] x3), (Blk.flat 24 9 [([(.int .i64 0)] ++ arrD .i64 x0 8)] false), (Blk.flat 5 1 (List.map (encI .u8) (crc_Open_o_r0_2 false x2)) false), (Blk.flat 24 9 [[(.int .i64 0), (.int .i64 0), (.int .i64 0), (.int .i64 0), (.int .i64 0), (.int .i64 0), (.int .i64 0), (.int .i64 0), (.int .i64 0)]] false), (Blk.flat 3 1 (List.map (encI .i64) (word_GetAll_o_r0_2 false (frame_Decode_iabl_S1_e0 x2))) false)]) (kd := .i64) (l := (word_GetAll_o_r0_2 false (frame_Decode_iabl_S1_e0 x2))) (id := 4) (n := ((word_GetAll_o_r0_2 false (frame_Decode_iabl_S1_e0 x2)).length)) (k := 8) (e := 3) (p := false) (Nat.beq_refl _) (by kernel_rfl) (tbE h10))] (by kernel_rfl)
                  · intro g0
                    exact absurd g0 ft
          · intro g0
            exact absurd g0 ft
        · cases h5 : tb (word_Get2_o_c0 (sub (crc_Open_o_r0_2 false x2) 2 4))
          · intro g0
            exact absurd g0 ft
          · cases h6 : tb (ins ((crc_Open_o_r0_2 false x2).length) 4 ((((crc_Open_o_r0_2 false x2).length) : Nat) : Int))
            · intro g0
              exact absurd g0 ft
            · cases h7 : tb (decide (4 < ((((crc_Open_o_r0_2 false x2).length) : Nat) : Int)))
              · cases h8 : tb (crc_Open_o_r0_0 false x2)
                · cases h9 : tb (word_GetAll_z_c0)
                  · intro g0
                    exact absurd g0 ft
                  · intro g0
                    exact absurd g0 ft
                · intro g0
                  exact absurd g0 ft
              · cases h8 : tb (word_GetAll_o_c0 false (frame_Decode_iabl_S1_e0 x2))
                · intro g0
                  exact absurd g0 ft
                · cases h9 : tb (word_GetAll_o_r0_0 false (frame_Decode_iabl_S1_e0 x2))
                  · cases h10 : tb (Nat.ble 8 ((word_GetAll_o_r0_2 false (frame_Decode_iabl_S1_e0 x2)).length))
                    · intro g0
                      exact absurd g0 ft
                    · intro g0
                      exact seg_walk [.c (crc_Open_o_t0 false x2 (tbE h1)), .b (notT (tbE h2)), .m 49 (o_slice_spo (nl := (crc_Open_o_r0_0 false x2)) (m := [(Blk.gen 27 2 [[(V.d (.bool x1)), (V.d (.rs true 1 (List.map (encI .u8) x2) false))]] x3), (Blk.flat 24 9 [([(.int .i64 0)] ++ arrD .i64 x0 8)] false), (Blk.flat 5 1 (List.map (encI .u8) (crc_Open_o_r0_2 false x2)) false), (Blk.flat 24 9 [[(.int .i64 0), (.int .i64 0), (.int .i64 0), (.int .i64 0), (.int .i64 0), (.int .i64 0), (.int .i64 0), (.int .i64 0), (.int .i64 0)]] false)]) (enc := (encI .u8)) (l := (crc_Open_o_r0_2 false x2)) (id := 2) (e := 5) (s := 1) (n := ((crc_Open_o_r0_2 false x2).length)) (p := false) (some (.i64, 2)) (some (.i64, 4)) (by kernel_rfl) (tbE h3) (tbE h4)), .y (mm := [(Blk.gen 27 2 [[(V.d (.bool x1)), (V.d (.rs true 1 (List.map (encI .u8) x2) false))]] x3), (Blk.flat 24 9 [([(.int .i64 0)] ++ arrD .i64 x0 8)] false), (Blk.flat 5 1 (List.map (encI .u8) (crc_Open_o_r0_2 false x2)) false), (Blk.flat 24 9 [[(.int .i64 0), (.int .i64 0), (.int .i64 0), (.int .i64 0), (.int .i64 0), (.int .i64 0), (.int .i64 0), (.int .i64 0), (.int .i64 0)]] false)]) (args := [(V.sl 2 ((crc_Open_o_r0_2 false x2).length) (2 : Int).toNat ((4 : Int).toNat - (2 : Int).toNat))]) (args1 := [(V.d (.rs true 1 (List.map (encI .u8) (sub (crc_Open_o_r0_2 false x2) 2 4)) false))]) (byvals_cons (byval_sp (enc := (encI .u8)) (l := (crc_Open_o_r0_2 false x2)) (e := 5) (s := 1) (p := false) (n := ((crc_Open_o_r0_2 false x2).length)) (lo := 2) (hi := 4) (Nat.beq_refl _) (by kernel_rfl) (tbE h3)) (by kernel_rfl)), .c (word_Get2_o_t0 false (sub (crc_Open_o_r0_2 false x2) 2 4) (tbE h5)), .m 56 (o_slice_spo (nl := (crc_Open_o_r0_0 false x2)) (m := [(Blk.gen 27 2 [[(V.d (.bool x1)), (V.d (.rs true 1 (List.map (encI .u8) x2) false))]] x3), (Blk.flat 24 9 [([(.int .i64 0)] ++ arrD .i64 x0 8)] false), (Blk.flat 5 1 (List.map (encI .u8) (crc_Open_o_r0_2 false x2)) false), (Blk.flat 24 9 [[(.int .i64 (word_Get2_o_r0_0 (sub (crc_Open_o_r0_2 false x2) 2 4))), (.int .i64 0), (.int .i64 0), (.int .i64 0), (.int .i64 0), (.int .i64 0), (.int .i64 0), (.int .i64 0), (.int .i64 0)]] false)]) (enc := (encI .u8)) (l := (crc_Open_o_r0_2 false x2)) (id := 2) (e := 5) (s := 1) (n := ((crc_Open_o_r0_2 false x2).length)) (p := false) (some (.i64, 4)) none (by kernel_rfl) (tbE h6) (tbE h7)), .y (mm := [(Blk.gen 27 2 [[(V.d (.bool x1)), (V.d (.rs true 1 (List.map (encI .u8) x2) false))]] x3), (Blk.flat 24 9 [([(.int .i64 0)] ++ arrD .i64 x0 8)] false), (Blk.flat 5 1 (List.map (encI .u8) (crc_Open_o_r0_2 false x2)) false), (Blk.flat 24 9 [[(.int .i64 (word_Get2_o_r0_0 (sub (crc_Open_o_r0_2 false x2) 2 4))), (.int .i64 0), (.int .i64 0), (.int .i64 0), (.int .i64 0), (.int .i64 0), (.int .i64 0), (.int .i64 0), (.int .i64 0)]] false)]) (args := [(V.sl 2 ((crc_Open_o_r0_2 false x2).length) (4 : Int).toNat ((((((crc_Open_o_r0_2 false x2).length) : Nat) : Int) : Int).toNat - (4 : Int).toNat))]) (args1 := [(V.d (.rs true 1 (List.map (encI .u8) (sub (crc_Open_o_r0_2 false x2) 4 ((((crc_Open_o_r0_2 false x2).length) : Nat) : Int))) false))]) (byvals_cons (byval_sp (enc := (encI .u8)) (l := (crc_Open_o_r0_2 false x2)) (e := 5) (s := 1) (p := false) (n := ((crc_Open_o_r0_2 false x2).length)) (lo := 4) (hi := ((((crc_Open_o_r0_2 false x2).length) : Nat) : Int)) (Nat.beq_refl _) (by kernel_rfl) (tbE h6)) (by kernel_rfl)), .c (word_GetAll_o_t0 false (frame_Decode_iabl_S1_e0 x2) (tbE h8)), .m 61 (o_arrP (m := [(Blk.gen 27 2 [[(V.d (.bool x1)), (V.d (.rs true 1 (List.map (encI .u8) x2) false))]] x3), (Blk.flat 24 9 [([(.int .i64 0)] ++ arrD .i64 x0 8)] false), (Blk.flat 5 1 (List.map (encI .u8) (crc_Open_o_r0_2 false x2)) false), (Blk.flat 24 9 [[(.int .i64 (word_Get2_o_r0_0 (sub (crc_Open_o_r0_2 false x2) 2 4))), (.int .i64 0), (.int .i64 0), (.int .i64 0), (.int .i64 0), (.int .i64 0), (.int .i64 0), (.int .i64 0), (.int .i64 0)]] false), (Blk.flat 3 1 (List.map (encI .i64) (word_GetAll_o_r0_2 false (frame_Decode_iabl_S1_e0 x2))) false)]) (nl := (word_GetAll_o_r0_0 false (frame_Decode_iabl_S1_e0 x2))) (id := 4) (n := ((word_GetAll_o_r0_2 false (frame_Decode_iabl_S1_e0 x2)).length)) (k := 8) (s := 1) (tbE h9) (by kernel_rfl) (tbE h10)), .m 62 (o_load_pa (m := [(Blk.gen 27 2 [[(V.d (.bool x1)), (V.d (.rs true 1 (List.map (encI .u8) x2) false))]] x3), (Blk.flat 24 9 [([(.int .i64 0)] ++ arrD .i64 x0 8)] false), (Blk.flat 5 1 (List.map (encI .u8) (crc_Open_o_r0_2 false x2)) false), (Blk.flat 24 9 [[(.int .i64 (word_Get2_o_r0_0 (sub (crc_Open_o_r0_2 false x2) 2 4))), (.int .i64 0), (.int .i64 0), (.int .i64 0), (.int .i64 0), (.int .i64 0), (.int .i64 0), (.int .i64 0), (.int .i64 0)]] false), (Blk.flat 3 1 (List.map (encI .i64) (word_GetAll_o_r0_2 false (frame_Decode_iabl_S1_e0 x2))) false)]) (kd := .i64) (l := (word_GetAll_o_r0_2 false (frame_Decode_iabl_S1_e0 x2))) (id := 4) (n := ((word_GetAll_o_r0_2 false (frame_Decode_iabl_S1_e0 x2)).length)) (k := 8) (e := 3) (p := false) (Nat.beq_refl _) (by kernel_rfl) (tbE h10))] (by kernel_rfl)
                  · intro g0
                    exact absurd g0 ft
theorem frame_Decode_iabl_S1_t1 (x0 : List Int) (x1 : Bool) (x2 : List Int) (x3 : Bool) : frame_Decode_iabl_S1_c0 x2 = false → frame_Decode_iabl_S1_c1 x2 = true → segG (runC E0 (cl E0) S13_1) [3, 4] [4, 5] [4, 5] 2 ([(V.ptr 0 1 0 0), (V.ptr 1 1 0 0)], [(Blk.gen 27 2 [[(V.d (.bool x1)), (V.d (.rs true 1 (List.map (encI .u8) x2) false))]] x3), (Blk.flat 24 9 [([(.int .i64 0)] ++ arrD .i64 x0 8)] false)]) = some (.ret, ([(V.ptr 1 1 0 0), (V.d (.int .i64 5))], [(Blk.gen 27 2 [[(V.d (.bool x1)), (V.d (.rs true 1 (List.map (encI .u8) x2) false))]] x3), (Blk.flat 24 9 [([(.int .i64 0)] ++ arrD .i64 [0, 0, 0, 0, 0, 0, 0, 0] 8)] false)])) := by
  unfold frame_Decode_iabl_S1_c0 frame_Decode_iabl_S1_c1
  cases h1 : tb (crc_Open_o_c0 false x2)
  · intro g0 g1
    exact absurd g1 ft
  · cases h2 : tb (crc_Open_o_r0_1 false x2)
    · intro g0 g1
      exact seg_walk [.c (crc_Open_o_t0 false x2 (tbE h1)), .b (notF (tbE h2))] (by kernel_rfl)
    · cases h3 : tb (ins ((crc_Open_o_r0_2 false x2).length) 2 4)
      · intro g0 g1
        exact absurd g1 ft
      · cases h4 : tb (decide (2 < 4))
        · cases h5 : tb (crc_Open_o_r0_0 false x2)
          · cases h6 : tb (ins ((crc_Open_o_r0_2 false x2).length) 4 ((((crc_Open_o_r0_2 false x2).length) : Nat) : Int))
            · intro g0 g1
              exact absurd g1 ft
            · cases h7 : tb (decide (4 < ((((crc_Open_o_r0_2 false x2).length) : Nat) : Int)))
              · cases h8 : tb (word_GetAll_z_c0)
                · intro g0 g1
                  exact absurd g1 ft
                · intro g0 g1
                  exact absurd g1 ft
              · cases h8 : tb (word_GetAll_o_c0 false (frame_Decode_iabl_S1_e0 x2))
                · intro g0 g1
                  exact absurd g1 ft
                · cases h9 : tb (word_GetAll_o_r0_0 false (frame_Decode_iabl_S1_e0 x2))
                  · cases h10 : tb (Nat.ble 8 ((word_GetAll_o_r0_2 false (frame_Decode_iabl_S1_e0 x2)).length))
                    · intro g0 g1
                      exact absurd g1 ft
                    · intro g0 g1
                      exact absurd g0 tf
                  · intro g0 g1
                    exact absurd g1 ft
          · intro g0 g1
            exact absurd g1 ft
        · cases h5 : tb (word_Get2_o_c0 (sub (crc_Open_o_r0_2 false x2) 2 4))
          · intro g0 g1
            exact absurd g1 ft
          · cases h6 : tb (ins ((crc_Open_o_r0_2 false x2).length) 4 ((((crc_Open_o_r0_2 false x2).length) : Nat) : Int))
            · intro g0 g1
              exact absurd g1 ft
            · cases h7 : tb (decide (4 < ((((crc_Open_o_r0_2 false x2).length) : Nat) : Int)))
              · cases h8 : tb (crc_Open_o_r0_0 false x2)
                · cases h9 : tb (word_GetAll_z_c0)
                  · intro g0 g1
                    exact absurd g1 ft
                  · intro g0 g1
                    exact absurd g1 ft
                · intro g0 g1
                  exact absurd g1 ft
              · cases h8 : tb (word_GetAll_o_c0 false (frame_Decode_iabl_S1_e0 x2))
                · intro g0 g1
                  exact absurd g1 ft
                · cases h9 : tb (word_GetAll_o_r0_0 false (frame_Decode_iabl_S1_e0 x2))
                  · cases h10 : tb (Nat.ble 8 ((word_GetAll_o_r0_2 false (frame_Decode_iabl_S1_e0 x2)).length))
                    · intro g0 g1
                      exact absurd g1 ft
                    · intro g0 g1
                      exact absurd g0 tf
                  · intro g0 g1
                    exact absurd g1 ft
def frame_Decode_iabl_c0 (x0 : Int) (x1 : Bool) (x2 : List Int) : Bool := (bif tb (frame_Decode_iabl_S0_c0 x1 x2 x0) then true else (bif tb (frame_Decode_iabl_S0_c1 x1 x2 x0) then (bif tb (frame_Decode_iabl_S1_c0 x2) then true else (bif tb (frame_Decode_iabl_S1_c1 x2) then true else false)) else false))
def frame_Decode_iabl_r0_0 (x0 : Int) (x1 : Bool) (x2 : List Int) : Int := (bif tb (frame_Decode_iabl_S0_c0 x1 x2 x0) then 0 else (bif tb (frame_Decode_iabl_S1_c0 x2) then (frame_Decode_iabl_S1_r0_4 x2) else 0))
def frame_Decode_iabl_r0_1 (x0 : Int) (x1 : Bool) (x2 : List Int) : List Int := (bif tb (frame_Decode_iabl_S0_c0 x1 x2 x0) then [0, 0, 0, 0, 0, 0, 0, 0] else (bif tb (frame_Decode_iabl_S1_c0 x2) then (word_GetAll_o_r0_2 false (frame_Decode_iabl_S1_e0 x2)) else [0, 0, 0, 0, 0, 0, 0, 0]))
def frame_Decode_iabl_r0_2 (x0 : Int) (x1 : Bool) (x2 : List Int) : Int := (bif tb (frame_Decode_iabl_S0_c0 x1 x2 x0) then (frame_Decode_iabl_S0_r0_0 x1 x2) else (bif tb (frame_Decode_iabl_S1_c0 x2) then 0 else 5))
theorem frame_Decode_iabl_t0 (x0 : Int) (x1 : Bool) (x2 : List Int) : frame_Decode_iabl_c0 x0 x1 x2 = true → cl E0 13 [(V.d (.int .i64 x0)), (V.agg [(V.d (.bool x1)), (V.d (.rs true 1 (List.map (encI .u8) x2) false))])] [] = some ([(V.agg [(V.d (.int .i64 (frame_Decode_iabl_r0_0 x0 x1 x2))), (V.d (.int .i64 (gt (frame_Decode_iabl_r0_1 x0 x1 x2) 0))), (V.d (.int .i64 (gt (frame_Decode_iabl_r0_1 x0 x1 x2) 1))), (V.d (.int .i64 (gt (frame_Decode_iabl_r0_1 x0 x1 x2) 2))), (V.d (.int .i64 (gt (frame_Decode_iabl_r0_1 x0 x1 x2) 3))), (V.d (.int .i64 (gt (frame_Decode_iabl_r0_1 x0 x1 x2) 4))), (V.d (.int .i64 (gt (frame_Decode_iabl_r0_1 x0 x1 x2) 5))), (V.d (.int .i64 (gt (frame_Decode_iabl_r0_1 x0 x1 x2) 6))), (V.d (.int .i64 (gt (frame_Decode_iabl_r0_1 x0 x1 x2) 7)))]), (V.d (.int .i64 (frame_Decode_iabl_r0_2 x0 x1 x2)))], []) := by
  unfold frame_Decode_iabl_c0 frame_Decode_iabl_r0_0 frame_Decode_iabl_r0_1 frame_Decode_iabl_r0_2
  cases h1 : tb (frame_Decode_iabl_S0_c0 x1 x2 x0)
  · cases h2 : tb (frame_Decode_iabl_S0_c1 x1 x2 x0)
    · intro g0
      exact absurd g0 ft
    · cases h3 : tb (frame_Decode_iabl_S1_c0 x2)
      · cases h4 : tb (frame_Decode_iabl_S1_c1 x2)
        · intro g0
          exact absurd g0 ft
        · intro g0
          exact w13 [.s (frame_Decode_iabl_S0_t1 [0, 0, 0, 0, 0, 0, 0, 0] x1 x2 false x0 (tbE h1) (tbE h2)), .s (frame_Decode_iabl_S1_t1 [0, 0, 0, 0, 0, 0, 0, 0] x1 x2 false (tbE h3) (tbE h4))] (by kernel_rfl)
      · intro g0
        exact w13 [.s (frame_Decode_iabl_S0_t1 [0, 0, 0, 0, 0, 0, 0, 0] x1 x2 false x0 (tbE h1) (tbE h2)), .s (frame_Decode_iabl_S1_t0 [0, 0, 0, 0, 0, 0, 0, 0] x1 x2 false (tbE h3))] (by kernel_rfl)
  · intro g0
    exact w13 [.s (frame_Decode_iabl_S0_t0 [0, 0, 0, 0, 0, 0, 0, 0] x1 x2 false x0 (tbE h1))] (by kernel_rfl)
def frame_Decode_iabz_S0_r0_0 (x1 : Bool) : Int := (bif tb (x1) then 2 else 1)
theorem frame_Decode_iabz_S0_t0 (x0 : List Int) (x1 : Bool) (x2 : Bool) (x4 : Int) : segG (runC E0 (cl E0) S13_0) [0, 3, 4] [4, 5] [3, 4] 2 ([(V.d (.int .i64 x4)), (V.ptr 0 1 0 0), (V.ptr 1 1 0 0)], [(Blk.gen 27 2 [[(V.d (.bool x1)), (V.d (.rs false 1 [] false))]] x2), (Blk.flat 24 9 [([(.int .i64 0)] ++ arrD .i64 x0 8)] false)]) = some (.ret, ([(V.ptr 1 1 0 0), (V.d (.int .i64 (frame_Decode_iabz_S0_r0_0 x1)))], [(Blk.gen 27 2 [[(V.d (.bool x1)), (V.d (.rs false 1 [] false))]] x2), (Blk.flat 24 9 [([(.int .i64 0)] ++ arrD .i64 [0, 0, 0, 0, 0, 0, 0, 0] 8)] false)])) := by
  unfold frame_Decode_iabz_S0_r0_0
  cases h1 : tb (x1)
  · exact seg_walk [.b (notF (tbE h1))] (by kernel_rfl)
  · exact seg_walk [.b (notT (tbE h1)), .k true] (by kernel_rfl)
theorem frame_Decode_iabz_t0 (x0 : Int) (x1 : Bool) : cl E0 13 [(V.d (.int .i64 x0)), (V.agg [(V.d (.bool x1)), (V.d (.rs false 1 [] false))])] [] = some ([(V.agg [(V.d (.int .i64 0)), (V.d (.int .i64 (gt [0, 0, 0, 0, 0, 0, 0, 0] 0))), (V.d (.int .i64 (gt [0, 0, 0, 0, 0, 0, 0, 0] 1))), (V.d (.int .i64 (gt [0, 0, 0, 0, 0, 0, 0, 0] 2))), (V.d (.int .i64 (gt [0, 0, 0, 0, 0, 0, 0, 0] 3))), (V.d (.int .i64 (gt [0, 0, 0, 0, 0, 0, 0, 0] 4))), (V.d (.int .i64 (gt [0, 0, 0, 0, 0, 0, 0, 0] 5))), (V.d (.int .i64 (gt [0, 0, 0, 0, 0, 0, 0, 0] 6))), (V.d (.int .i64 (gt [0, 0, 0, 0, 0, 0, 0, 0] 7)))]), (V.d (.int .i64 (frame_Decode_iabz_S0_r0_0 x1)))], []) := by
  exact w13 [.s (frame_Decode_iabz_S0_t0 [0, 0, 0, 0, 0, 0, 0, 0] x1 false x0)] (by kernel_rfl)
end Go.Proofs.YtkipngagfiaddaaDoor.Den

namespace Go.Proofs.YtkipngagfiaddaaDoor.Den
open Go Go.Proofs
set_option maxRecDepth 100000
set_option maxHeartbeats 4000000
set_option linter.unusedVariables false
set_option linter.unusedSimpArgs false
structure ref05_Right_ai9_L0_s0 where
  c0 : Int
  deriving Inhabited
structure ref05_Encode_iai9_L1_s0 where
  c0 : Bool
  c1 : Int
  c6 : List Int
  deriving Inhabited
structure ref05_Decode_iabo_L4_s0 where
  c1 : Int
  c10 : List Int
  deriving Inhabited
end Go.Proofs.YtkipngagfiaddaaDoor.Den

namespace Go.Proofs.YtkipngagfiaddaaDoor.Den
open Go Go.Proofs
set_option linter.unusedVariables false
set_option linter.unusedSimpArgs false
theorem GetAll_n {b : List Int} (hb : Byts b) (hl : b.length ≤ 1000000) (x : Bool) : word_GetAll_o_r0_0 x b = (if b.length % 4 = 0 then b.length / 4 == 0 else true) := by
  have hrun := fours_run hb hl x
  have he : word_fours_c1_yp_Y54_1pGvLGo_e0 [] true x b = ⟨b.length / 4 == 0, fours b (b.length / 4), (b.length / 4 == 0) && x, b.drop (4 * (b.length / 4))⟩ := by
    simp only [word_fours_c1_yp_Y54_1pGvLGo_e0, word_fours_c1_yp_Y54_1pGvLGo_L0_end, hrun]; rfl
  simp only [word_GetAll_o_r0_0, rem4, he, tb_eq]
  by_cases h : b.length % 4 = 0
  · simp [h]
  · have : (((b.length % 4 : Nat) : Int) != 0) = true := by simp; omega
    simp only [this, cond_true, h, if_false]
def z8 : List Int := [0, 0, 0, 0, 0, 0, 0, 0]
def rejOf (ch : Int) (is : Bool) (l : List Int) : Int := if is = true then (if l.length = 38 then (if gt l 0 = 165 then (if gt l 1 = ch then (if okS l = true then 0 else 5) else 4) else 3) else 2) else 1
def seqOf (l : List Int) : Int := g2 (((l.take 36).drop 2).take 2)
def valsOf (l : List Int) : List Int := fours ((l.take 36).drop 4) 8
theorem byt_byts {l : List Int} (h : Byt l) : Byts l := byts_of h
theorem decode_S0 {ch : Int} {is : Bool} {l : List Int} (h : Byt l) :
    frame_Decode_iabo_S0_c0 is l ch = !(is && decide (l.length = 38) && decide (gt l 0 = 165) && decide (gt l 1 = ch)) ∧
    frame_Decode_iabo_S0_c1 is l ch = (is && decide (l.length = 38) && decide (gt l 0 = 165) && decide (gt l 1 = ch)) ∧
    frame_Decode_iabo_S0_r0_0 is l = (if is = true then (if l.length = 38 then (if gt l 0 = 165 then 4 else 3) else 2) else 1) := by
  cases is with
  | false => simp [frame_Decode_iabo_S0_c0, frame_Decode_iabo_S0_c1, frame_Decode_iabo_S0_r0_0]
  | true =>
    by_cases h1 : l.length = 38
    · have e1 : ((((l.length : Nat) : Int) : Int) != 38) = false := by simp [h1]
      have i0 : inb l.length 0 = true := inb_of (by omega) (by omega)
      have i1 : inb l.length 1 = true := inb_of (by omega) (by omega)
      have i0' : inb 38 0 = true := rfl
      have i1' : inb 38 1 = true := rfl
      have b1 := wfI_u8 (h _ (gt_mem (l := l) (i := 1) (by omega) (by omega)))
      have w1 : wi (gt l 1) = gt l 1 := wi_eq (by omega) (by omega)
      by_cases h2 : gt l 0 = 165
      · have e2 : ((gt l 0 : Int) != 165) = false := by simp [h2]
        by_cases h3 : gt l 1 = ch
        · have w1' : wi ch = ch := by rw [← h3]; exact w1
          have e3 : ((gt l 1 : Int) != ch) = false := by simp [h3]
          simp [frame_Decode_iabo_S0_c0, frame_Decode_iabo_S0_c1, frame_Decode_iabo_S0_r0_0, e1, e2, e3, i0, i1, i0', i1', w1, w1', h1, h2, h3]
        · have e3 : ((gt l 1 : Int) != ch) = true := by simp [h3]
          simp [frame_Decode_iabo_S0_c0, frame_Decode_iabo_S0_c1, frame_Decode_iabo_S0_r0_0, e1, e2, e3, i0, i1, i0', i1', w1, h1, h2, h3]
      · have e2 : ((gt l 0 : Int) != 165) = true := by simp [h2]
        simp [frame_Decode_iabo_S0_c0, frame_Decode_iabo_S0_c1, frame_Decode_iabo_S0_r0_0, e1, e2, i0, i0', h1, h2]
    · have e1 : ((((l.length : Nat) : Int) : Int) != 38) = true := by simp; omega
      simp [frame_Decode_iabo_S0_c0, frame_Decode_iabo_S0_c1, frame_Decode_iabo_S0_r0_0, e1, h1]
theorem sub_24 {b : List Int} : sub b 2 4 = (b.drop 2).take 2 := by unfold sub; rfl
theorem sub_4e {b : List Int} (h : b.length = 36) : sub b 4 ((b.length : Nat) : Int) = b.drop 4 := by
  unfold sub; rw [h]
  show (b.drop 4).take 32 = _
  rw [List.take_of_length_le (by simp; omega)]
theorem decode_eq (ch : Int) (is nl : Bool) {l : List Int} (h : Sm l) : frame_Decode_iabo_c0 ch is nl l = true ∧ frame_Decode_iabo_r0_2 ch is nl l = rejOf ch is l ∧
    frame_Decode_iabo_r0_0 ch is nl l = (if rejOf ch is l = 0 then seqOf l else 0) ∧ frame_Decode_iabo_r0_1 ch is nl l = (if rejOf ch is l = 0 then valsOf l else z8) := by
  obtain ⟨s1, s2, s3⟩ := decode_S0 (ch := ch) (is := is) h.b
  by_cases hok : (is && decide (l.length = 38) && decide (gt l 0 = 165) && decide (gt l 1 = ch)) = true
  · rw [hok] at s1 s2
    simp only [Bool.and_eq_true, decide_eq_true_eq] at hok
    obtain ⟨⟨⟨hi, h1⟩, h2⟩, h3⟩ := hok
    have hr : rejOf ch is l = if okS l = true then 0 else 5 := by simp [rejOf, hi, h1, h2, h3]
    obtain ⟨o1, o2, o3, o4⟩ := open_r h nl
    cases ho : okS l with
    | true =>
      rw [ho] at o2 o3 o4 hr
      rw [if_pos rfl, h1] at o4
      have o4 : crc_Open_o_r0_2 nl l = l.take 36 := o4
      simp only [if_true] at hr
      have hl : (l.take 36).length = 36 := by simp [h1]
      have hby : Byts (l.take 36) := byt_byts (h.b.take 36)
      have i1 : ins (l.take 36).length 2 4 = true := by rw [hl]; rfl
      have i2 : ins (l.take 36).length 4 (((l.take 36).length : Nat) : Int) = true := by rw [hl]; rfl
      have i3 : decide ((4 : Int) < (((l.take 36).length : Nat) : Int)) = true := by rw [hl]; rfl
      obtain ⟨q1, _, q3, _⟩ := Get2_eq (l := sub (l.take 36) 2 4) (by rw [sub_24]; exact byts_take (byts_drop hby 2) 2)
      have e0 : frame_Decode_iabo_S1_e0 nl l = (l.take 36).drop 4 := by unfold frame_Decode_iabo_S1_e0; rw [o4]; exact sub_4e hl
      have hl4 : ((l.take 36).drop 4).length = 32 := by simp [h1]
      obtain ⟨g1, g2', g3⟩ := GetAll_r (byts_drop hby 4) (by omega) false
      have g4 := GetAll_n (byts_drop hby 4) (by omega) false
      rw [hl4] at g4
      have ga : getAll ((l.take 36).drop 4) = valsOf l := by unfold getAll; rw [hl4]; rfl
      have g5 : Nat.ble 8 (getAll ((l.take 36).drop 4)).length = true := by rw [ga]; simp [valsOf, fours_len]
      have c1 : frame_Decode_iabo_S1_c0 nl l = true := by
        simp only [frame_Decode_iabo_S1_c0, o1, o2, o3, o4, i1, i2, i3, q1, e0, g1, g3, g4, g5, tb_eq, cond_true, show decide (2 < 4) = true from rfl]
        rfl
      have r5 : frame_Decode_iabo_S1_r0_5 nl l = seqOf l := by
        simp only [frame_Decode_iabo_S1_r0_5, o4, tb_eq, show decide (2 < 4) = true from rfl, cond_true]; rw [q3, sub_24]; rfl
      simp only [frame_Decode_iabo_c0, frame_Decode_iabo_r0_0, frame_Decode_iabo_r0_1, frame_Decode_iabo_r0_2, s1, s2, c1, r5, e0, g3, ga, hr, tb_eq, Bool.not_true, cond_true, cond_false, if_true, and_self]
    | false =>
      rw [ho] at o2 o3 o4 hr
      simp only [Bool.false_eq_true, if_false] at hr
      have c0 : frame_Decode_iabo_S1_c0 nl l = false := by
        simp only [frame_Decode_iabo_S1_c0, o1, o2, o3, tb_eq, cond_true]
        cases tb (ins (crc_Open_o_r0_2 nl l).length 2 4) <;> simp
      have c1 : frame_Decode_iabo_S1_c1 nl l = true := by simp only [frame_Decode_iabo_S1_c1, o1, o3, tb_eq]; rfl
      have hz : (if (5 : Int) = 0 then valsOf l else z8) = z8 := by simp
      have hz2 : (if (5 : Int) = 0 then seqOf l else 0) = 0 := by simp
      simp only [frame_Decode_iabo_c0, frame_Decode_iabo_r0_0, frame_Decode_iabo_r0_1, frame_Decode_iabo_r0_2, s1, s2, c0, c1, hr, hz, hz2, tb_eq, Bool.not_true, cond_true, cond_false, true_and]
      trivial
  · have hf : (is && decide (l.length = 38) && decide (gt l 0 = 165) && decide (gt l 1 = ch)) = false := by simpa using hok
    rw [hf] at s1 s2
    have hr : rejOf ch is l = frame_Decode_iabo_S0_r0_0 is l ∧ rejOf ch is l ≠ 0 := by
      rw [s3]
      unfold rejOf
      cases is with
      | false => simp
      | true =>
        by_cases h1 : l.length = 38
        · by_cases h2 : gt l 0 = 165
          · have h3 : ¬ gt l 1 = ch := by intro h3; simp [h1, h2, h3] at hf
            simp [h1, h2, h3]
          · simp [h1, h2]
        · simp [h1]
    simp only [frame_Decode_iabo_c0, frame_Decode_iabo_r0_0, frame_Decode_iabo_r0_1, frame_Decode_iabo_r0_2, s1, tb_eq, Bool.not_false, cond_true, hr.2, if_false, hr.1, true_and]
    rw [if_neg (by rw [← hr.1]; exact hr.2), if_neg (by rw [← hr.1]; exact hr.2)]
    exact ⟨rfl, rfl⟩
end Go.Proofs.YtkipngagfiaddaaDoor.Den

namespace Go.Proofs.YtkipngagfiaddaaDoor.Den
open Go Go.Proofs
set_option linter.unusedVariables false
set_option linter.unusedSimpArgs false
theorem arr8 {x : List Int} (h : x.length = 8) : [(gt x 0), (gt x 1), (gt x 2), (gt x 3), (gt x 4), (gt x 5), (gt x 6), (gt x 7)] = x := by
  match x, h with
  | [a, b, c, d, e, f, g, i], _ => rfl
theorem bad_eq (n : Int) : frame_Right_c1_i_r0_0 n = !(n32 n) := by
  simp only [frame_Right_c1_i_r0_0, n32, tb_eq]
  by_cases h1 : n < -2147483648
  · have : ¬ (-2147483648 ≤ n) := by omega
    simp [h1, this]
  · have h2 : -2147483648 ≤ n := by omega
    by_cases h3 : 2147483647 < n
    · have : ¬ (n ≤ 2147483647) := by omega
      simp [h1, h2, h3, this]
    · have : n ≤ 2147483647 := by omega
      simp [h1, h2, h3, this]
theorem index_bad {l : List Int} (hl : l.length < 1152921504606846976) : slices_IndexFunc_int_o_frame_Right_c1_c0 l = true ∧ decide (0 ≤ slices_IndexFunc_int_o_frame_Right_c1_r0_0 l) = !(all32 l) := by
  obtain ⟨s1, e, _, a1, a2⟩ := all_loop (sel := slices_IndexFunc_int_o_frame_Right_c1_L0_sel l l.length) (nx := slices_IndexFunc_int_o_frame_Right_c1_L0_nx l l.length) (s0 := ⟨0⟩) l (fun s => s.c3) n32 (fun _ => True) hl rfl trivial
    (fun s _ b1 b2 _ => ⟨by show wi _ = _; exact wi_eq (by omega) (by omega), trivial⟩)
    (fun s _ b1 b2 => by
      by_cases hi : s.c3 < l.length
      · have i1 := inb_of b1 hi
        simp only [slices_IndexFunc_int_o_frame_Right_c1_L0_sel, i1, hi, bad_eq, tb_eq, decide_true, cond_true, Bool.true_and]
        cases n32 (gt l s.c3) <;> rfl
      · simp [slices_IndexFunc_int_o_frame_Right_c1_L0_sel, hi])
  have he : slices_IndexFunc_int_o_frame_Right_c1_e0 l = s1 := by simp only [slices_IndexFunc_int_o_frame_Right_c1_e0, slices_IndexFunc_int_o_frame_Right_c1_L0_end, e, Option.getD_some]
  simp only [slices_IndexFunc_int_o_frame_Right_c1_c0, slices_IndexFunc_int_o_frame_Right_c1_r0_0, slices_IndexFunc_int_o_frame_Right_c1_L0_ok, e, he, tb_eq, Option.isSome_some, cond_true]
  rcases a2 with ⟨b1, b2⟩ | ⟨b1, b2, b3⟩
  · have h0 : slices_IndexFunc_int_o_frame_Right_c1_L0_c0 l l.length s1 = false := by simp [slices_IndexFunc_int_o_frame_Right_c1_L0_c0, b1]
    have h1 : slices_IndexFunc_int_o_frame_Right_c1_L0_c1 l.length s1 = true := by simp [slices_IndexFunc_int_o_frame_Right_c1_L0_c1, b1]
    have : all32 l = true := b2
    rw [h0, h1, this]; simp
  · have i1 := inb_of a1 b1
    have h0 : slices_IndexFunc_int_o_frame_Right_c1_L0_c0 l l.length s1 = true := by simp [slices_IndexFunc_int_o_frame_Right_c1_L0_c0, b1, i1]
    have : all32 l = false := b3
    rw [h0, this]; simp [a1]
theorem right_eq (s : Int) {x : List Int} (h : x.length = 8) : frame_Right_ai9_c0 s x = true ∧ frame_Right_ai9_r0_0 s x = (n16 s && all32 x) := by
  obtain ⟨i1, i2⟩ := index_bad (l := x) (by omega)
  simp only [frame_Right_ai9_c0, frame_Right_ai9_r0_0, frame_Right_ai9_e0, arr8 h, slices_ContainsFunc_int_o_frame_Right_c1_c0, i1, i2, n16, tb_eq]
  by_cases h1 : 0 ≤ s
  · by_cases h2 : s < 65536 <;> simp [h1, h2]
  · simp [h1]
def c3st0 : Nat → slices_Concat_byte_v_GvvvLLL_L0_1_S
  | 0 => .h0 ⟨⟩
  | 1 => .h1 ⟨⟩
  | 2 => .h2 ⟨⟩
  | _ => .h3 ⟨⟩
def c3st2 : Nat → slices_Concat_byte_v_GvvvLLL_L2_1_S
  | 0 => .h0 ⟨⟩
  | 1 => .h1 ⟨⟩
  | 2 => .h2 ⟨⟩
  | _ => .h3 ⟨⟩
theorem concat_c {a b c : List Int} (ha : a.length ≤ 1000) (hb : b.length ≤ 1000) (hc : c.length ≤ 1000) : slices_Concat_byte_v_GvvvLLL_c0 a b c = true := by
  have w0 : wi (0 + ((a.length : Nat) : Int)) = ((a.length : Nat) : Int) := by rw [wi_eq (by omega) (by omega)]; omega
  have w1 : slices_Concat_byte_v_GvvvLLL_L0_1_h1_e0 a b = ((a.length + b.length : Nat) : Int) := by unfold slices_Concat_byte_v_GvvvLLL_L0_1_h1_e0; rw [w0, wi_eq (by omega) (by omega)]; omega
  have w2 : slices_Concat_byte_v_GvvvLLL_L0_1_h2_e0 a b c = ((a.length + b.length + c.length : Nat) : Int) := by unfold slices_Concat_byte_v_GvvvLLL_L0_1_h2_e0; rw [w1, wi_eq (by omega) (by omega)]; omega
  have r0 : itS (slices_Concat_byte_v_GvvvLLL_L0_1_sel a b c) (slices_Concat_byte_v_GvvvLLL_L0_1_nx a b c) bound (c3st0 0) = some (c3st0 3) := by
    refine loop_seq c3st0 3 (by omega) (fun k hk => ?_) rfl
    rcases (by omega : k = 0 ∨ k = 1 ∨ k = 2) with rfl | rfl | rfl
    · refine ⟨?_, rfl⟩
      simp only [c3st0, slices_Concat_byte_v_GvvvLLL_L0_1_sel, slices_Concat_byte_v_GvvvLLL_L0_1_h0_sel, w0, tb_eq]
      rw [decide_eq_false (by omega)]; rfl
    · refine ⟨?_, rfl⟩
      simp only [c3st0, slices_Concat_byte_v_GvvvLLL_L0_1_sel, slices_Concat_byte_v_GvvvLLL_L0_1_h1_sel, w1, tb_eq]
      rw [decide_eq_false (by omega)]; rfl
    · refine ⟨?_, rfl⟩
      simp only [c3st0, slices_Concat_byte_v_GvvvLLL_L0_1_sel, slices_Concat_byte_v_GvvvLLL_L0_1_h2_sel, w2, tb_eq]
      rw [decide_eq_false (by omega)]; rfl
  have r2 : itS (slices_Concat_byte_v_GvvvLLL_L2_1_sel a b c) (slices_Concat_byte_v_GvvvLLL_L2_1_nx a b c) bound (c3st2 0) = some (c3st2 3) := by
    refine loop_seq c3st2 3 (by omega) (fun k hk => ?_) rfl
    rcases (by omega : k = 0 ∨ k = 1 ∨ k = 2) with rfl | rfl | rfl
    · refine ⟨?_, rfl⟩
      simp only [c3st2, slices_Concat_byte_v_GvvvLLL_L2_1_sel, slices_Concat_byte_v_GvvvLLL_L2_1_h0_sel, tb_eq]
      rw [decide_eq_true (by simp; omega)]; rfl
    · refine ⟨?_, rfl⟩
      simp only [c3st2, slices_Concat_byte_v_GvvvLLL_L2_1_sel, slices_Concat_byte_v_GvvvLLL_L2_1_h1_sel, tb_eq]
      rw [decide_eq_true (by omega)]; rfl
    · refine ⟨?_, rfl⟩
      simp only [c3st2, slices_Concat_byte_v_GvvvLLL_L2_1_sel, slices_Concat_byte_v_GvvvLLL_L2_1_h2_sel, tb_eq]
      rw [decide_eq_true (by simp; omega)]; rfl
  have z0 : c3st0 0 = .h0 ⟨⟩ := rfl
  have z2 : c3st2 0 = .h0 ⟨⟩ := rfl
  rw [z0] at r0
  rw [z2] at r2
  have e0 : slices_Concat_byte_v_GvvvLLL_S1_e0 a b c = .h3 ⟨⟩ := by simp only [slices_Concat_byte_v_GvvvLLL_S1_e0, slices_Concat_byte_v_GvvvLLL_L0_1_end, r0]; rfl
  have e1 : slices_Concat_byte_v_GvvvLLL_e1 a b c = .h3 ⟨⟩ := by simp only [slices_Concat_byte_v_GvvvLLL_e1, slices_Concat_byte_v_GvvvLLL_L2_1_end, r2]; rfl
  have s1 : slices_Concat_byte_v_GvvvLLL_S1_c0 a b c = true := by
    simp only [slices_Concat_byte_v_GvvvLLL_S1_c0, slices_Concat_byte_v_GvvvLLL_L0_1_ok, r0, e0, tb_eq]; rfl
  have gr : slices_Grow_byte_ni_c0 ((a.length + b.length + c.length : Nat) : Int) = true := by
    simp only [slices_Grow_byte_ni_c0, Bool.and_eq_true, decide_eq_true_eq]; omega
  simp only [slices_Concat_byte_v_GvvvLLL_c0, s1, w2, gr, slices_Concat_byte_v_GvvvLLL_L2_1_ok, r2, e1, tb_eq]; rfl
def bodyF (ch s : Int) (x : List Int) : List Int := [165, ch] ++ p2 s ++ x.flatMap p4
theorem wf_u8 {z : Int} (h : 0 ≤ z ∧ z ≤ 255) : WfI .u8 z := by
  simp [WfI, Lit.wf, IntKind.min, IntKind.max, IntKind.signed, IntKind.bits]; omega
theorem bodyF_len {ch s : Int} {x : List Int} (h : x.length = 8) : (bodyF ch s x).length = 36 := by
  simp only [bodyF, List.length_append, flat_len, h]; rfl
theorem bodyF_sm {ch s : Int} {x : List Int} (hc : 0 ≤ ch ∧ ch ≤ 3) (h : x.length = 8) : Sm (bodyF ch s x) := by
  refine ⟨fun z hz => wf_u8 ?_, by rw [bodyF_len h]; omega⟩
  simp only [bodyF, List.mem_append] at hz
  rcases hz with (hz | hz) | hz
  · simp at hz; omega
  · exact p2_byts s z hz
  · exact flat_byts x z hz
def okF (ch s : Int) (x : List Int) : Bool := decide (0 ≤ ch) && decide (ch ≤ 3) && n16 s && all32 x
theorem encode_eq (ch s : Int) {x : List Int} (h : x.length = 8) : frame_Encode_iai9_c0 ch s x = true ∧ frame_Encode_iai9_r0_0 ch s x = !(okF ch s x) ∧ frame_Encode_iai9_r0_1 ch s x = (if okF ch s x = true then 0 else 1) ∧
    frame_Encode_iai9_r0_2 ch s x = (if okF ch s x = true then sealed (bodyF ch s x) else []) := by
  obtain ⟨r1, r2⟩ := right_eq s h
  have s0 : frame_Encode_iai9_S0_c0 s x ch = !(okF ch s x) ∧ frame_Encode_iai9_S0_c1 s x ch = okF ch s x := by
    simp only [frame_Encode_iai9_S0_c0, frame_Encode_iai9_S0_c1, r1, r2, okF, tb_eq]
    by_cases h1 : ch < 0
    · have : ¬ 0 ≤ ch := by omega
      simp [h1, this]
    · have h1' : 0 ≤ ch := by omega
      by_cases h2 : 4 ≤ ch
      · have : ¬ ch ≤ 3 := by omega
        simp [h1, h1', h2, this]
      · have h2' : ch ≤ 3 := by omega
        cases n16 s <;> cases all32 x <;> simp [h1, h1', h2, h2']
  cases hk : okF ch s x with
  | false =>
    rw [hk] at s0
    simp only [frame_Encode_iai9_c0, frame_Encode_iai9_r0_0, frame_Encode_iai9_r0_1, frame_Encode_iai9_r0_2, s0.1, tb_eq, Bool.not_false, cond_true]
    simp
  | true =>
    rw [hk] at s0
    have hk' := hk
    simp only [okF, Bool.and_eq_true, decide_eq_true_eq] at hk'
    obtain ⟨⟨⟨k1, k2⟩, k3⟩, k4⟩ := hk'
    obtain ⟨p1, p2'⟩ := PutAll_r (l := x) (by omega)
    have hw : IntKind.u8.wrap ch = ch := by rw [u8w]; omega
    have hpa : putAll x = x.flatMap p4 := by simp [putAll, k4]
    have hq : q2 s = p2 s := by simp [q2, k3]
    have e2 : frame_Encode_iai9_e2 ch s x = bodyF ch s x := by simp only [frame_Encode_iai9_e2, frame_Encode_iai9_e0, arr8 h, hw, Put2_r, p2', hpa, hq]; rfl
    have cc : slices_Concat_byte_v_GvvvLLL_c0 [165, ch] (p2 s) (x.flatMap p4) = true := concat_c (by simp) (by simp [p2]) (by rw [flat_len]; omega)
    obtain ⟨t1, t2⟩ := seal_r (frame_Encode_iai9_e1 ch s x) (bodyF_sm (s := s) ⟨k1, k2⟩ h)
    simp only [frame_Encode_iai9_c0, frame_Encode_iai9_r0_0, frame_Encode_iai9_r0_1, frame_Encode_iai9_r0_2, s0.1, s0.2, frame_Encode_iai9_e0, arr8 h, p1, p2', hpa, hw, Put2_r, hq, cc, e2, t1, t2, tb_eq, Bool.not_true, cond_true, cond_false]
    simp
theorem back_F {ch s : Int} {x : List Int} (h : x.length = 8) (hk : okF ch s x = true) : Sm (sealed (bodyF ch s x)) ∧ rejOf ch true (sealed (bodyF ch s x)) = 0 ∧ seqOf (sealed (bodyF ch s x)) = s ∧ valsOf (sealed (bodyF ch s x)) = x := by
  have hk' := hk
  simp only [okF, Bool.and_eq_true, decide_eq_true_eq] at hk'
  obtain ⟨⟨⟨k1, k2⟩, k3⟩, k4⟩ := hk'
  have hb := bodyF_sm (ch := ch) (s := s) ⟨k1, k2⟩ h
  have hbl := bodyF_len (ch := ch) (s := s) h
  have hsl : (sealed (bodyF ch s x)).length = 38 := by simp [sealed, tail2, hbl]
  have ht : (sealed (bodyF ch s x)).take 36 = bodyF ch s x := by unfold sealed; rw [List.take_append_of_le_length (by omega), List.take_of_length_le (by omega)]
  have hok : okS (sealed (bodyF ch s x)) = true := by
    simp only [okS, hsl, Bool.and_eq_true, decide_eq_true_eq]
    exact ⟨by omega, by rw [show 38 - 2 = 36 from rfl, ht]⟩
  have hcrc := hb.crc
  refine ⟨⟨fun z hz => ?_, by omega⟩, ?_, ?_, ?_⟩
  · rcases List.mem_append.1 hz with hz | hz
    · exact hb.b z hz
    · simp only [tail2, List.mem_cons, List.not_mem_nil, or_false] at hz
      exact wf_u8 (by rcases hz with rfl | rfl <;> omega)
  · have g0 : gt (sealed (bodyF ch s x)) 0 = 165 := rfl
    have g1 : gt (sealed (bodyF ch s x)) 1 = ch := rfl
    simp [rejOf, hsl, g0, g1, hok]
  · unfold seqOf
    rw [ht]
    have : ((bodyF ch s x).drop 2).take 2 = p2 s := rfl
    rw [this, g2_p2 k3]
  · unfold valsOf
    rw [ht]
    have : (bodyF ch s x).drop 4 = x.flatMap p4 := rfl
    rw [this, ← h]; exact fours_flat x k4
end Go.Proofs.YtkipngagfiaddaaDoor.Den

namespace Go.Proofs.YtkipngagfiaddaaDoor.Den
open Go Go.Proofs
set_option linter.unusedVariables false
set_option linter.unusedSimpArgs false
theorem rej_fine {ch : Int} {is : Bool} {l : List Int} (h : rejOf ch is l = 0) : is = true ∧ l.length = 38 ∧ gt l 0 = 165 ∧ gt l 1 = ch ∧ okS l = true := by
  unfold rejOf at h
  repeat' split at h
  all_goals first | omega | skip
  refine ⟨?_, ?_, ?_, ?_, ?_⟩ <;> assumption
end Go.Proofs.YtkipngagfiaddaaDoor.Den

namespace Go.Proofs.YtkipngagfiaddaaDoor.Den
open Go Go.Proofs
set_option linter.unusedVariables false
set_option linter.unusedSimpArgs false
theorem u8_wrap_int (z : Int) : IntKind.u8.wrap z = z % 256 := by
  unfold IntKind.wrap; simp [IntKind.bits, IntKind.signed]
theorem nats_app (l k : List Int) : nats (l ++ k) = nats l ++ nats k := by simp [nats]
theorem crc_sealed {l : List Int} (h : Sm l) : crcI 65535 (sealed l) = 0 := by
  have hc := h.crc
  unfold sealed
  have e : nats (tail2 l) = [crcI 65535 l / 256, crcI 65535 l % 256] := rfl
  show crcN 65535 (nats (l ++ tail2 l)) = 0
  rw [nats_app, e, crcN_app]
  exact (two_zero hc (by omega) (by omega)).2 (by show crcI 65535 l = _; omega)
theorem okS_crc {l : List Int} (h : Sm l) (ok : okS l = true) : crcI 65535 l = 0 := by
  simp only [okS, Bool.and_eq_true, decide_eq_true_eq] at ok
  have := crc_sealed (h.take (l.length - 2))
  rwa [ok.2] at this
theorem crc_two (p q : List Int) (u v : Int) : crcI 65535 (p ++ u :: v :: q) = crcN 65535 (nats p ++ u.toNat :: v.toNat :: nats q) := by
  unfold crcI; rw [nats_app]; rfl
theorem set_bad {s : List Int} (hs : Sm s) (h2 : 2 ≤ s.length) (hk : okS s = true) {i : Nat} (hi : i < s.length) {v : Int} (hv : 0 ≤ v ∧ v ≤ 255) (hne : v ≠ s[i]) : Sm (s.set i v) ∧ okS (s.set i v) = false := by
  have h0 := okS_crc hs hk
  have hn := hs.n
  have hsm : Sm (s.set i v) := by
    refine ⟨fun z hz => ?_, by simpa using hn⟩
    rcases List.mem_or_eq_of_mem_set hz with h | rfl
    · exact hs.b z h
    · exact wf_u8 hv
  refine ⟨hsm, ?_⟩
  cases hk' : okS (s.set i v)
  · rfl
  exfalso
  have hz := okS_crc hsm hk'
  have bi := wfI_u8 (hs.b _ (List.getElem_mem hi))
  by_cases hl : i + 1 < s.length
  · have b1 := wfI_u8 (hs.b _ (List.getElem_mem hl))
    have e1 : s = s.take i ++ s[i] :: s[i + 1] :: s.drop (i + 2) := by
      conv => lhs; rw [← List.take_append_drop i s, List.drop_eq_getElem_cons (by omega), List.drop_eq_getElem_cons (by omega)]
    have e2 : s.set i v = s.take i ++ v :: s[i + 1] :: s.drop (i + 2) := by
      rw [List.set_eq_take_append_cons_drop, if_pos hi, List.drop_eq_getElem_cons (by omega)]
    rw [e1, crc_two] at h0
    rw [e2, crc_two] at hz
    obtain ⟨q1, _⟩ := crcN_seen (by omega) (nats_lt (hs.b.take i)) (nats_lt (hs.b.drop (i + 2))) (by omega) (by omega) (by omega) (by omega) (h0.trans hz.symm)
    omega
  · obtain ⟨j, rfl⟩ : ∃ j, i = j + 1 := ⟨i - 1, by omega⟩
    have b1 := wfI_u8 (hs.b _ (List.getElem_mem (show j < s.length by omega)))
    have e1 : s = s.take j ++ s[j] :: s[j + 1] :: s.drop (j + 2) := by
      conv => lhs; rw [← List.take_append_drop j s, List.drop_eq_getElem_cons (by omega), List.drop_eq_getElem_cons (by omega)]
    have e2 : s.set (j + 1) v = s.take j ++ s[j] :: v :: s.drop (j + 2) := by
      have e3 : s.take (j + 1) = s.take j ++ [s[j]] := by rw [List.take_add_one, List.getElem?_eq_getElem (by omega)]; rfl
      rw [List.set_eq_take_append_cons_drop, if_pos hi, e3, List.append_assoc]; rfl
    rw [e1, crc_two] at h0
    rw [e2, crc_two] at hz
    obtain ⟨_, q1⟩ := crcN_seen (by omega) (nats_lt (hs.b.take j)) (nats_lt (hs.b.drop (j + 2))) (by omega) (by omega) (by omega) (by omega) (h0.trans hz.symm)
    omega
end Go.Proofs.YtkipngagfiaddaaDoor.Den

namespace Go.Proofs.YtkipngagfiaddaaDoor.Den
open Go Go.Proofs
set_option maxRecDepth 100000
set_option maxHeartbeats 4000000
set_option linter.unusedVariables false
set_option linter.unusedSimpArgs false
theorem law05_alive_t0 : cl E0 10 [] [] = some ([(V.d (.bool true))], []) := cl_of (n := 60) (by kernel_rfl)
end Go.Proofs.YtkipngagfiaddaaDoor.Den

namespace Go.Proofs.YtkipngagfiaddaaDoor.Den
open Go Go.Proofs
set_option maxRecDepth 100000
set_option maxHeartbeats 4000000
set_option linter.unusedVariables false
set_option linter.unusedSimpArgs false
def law05_FrameRejects_S0_e0 (x2 : List Int) (x5 : Int) (x7 : Int) : List Int := (frame_Decode_iabl_r0_1 1 true (st x2 x7 (IntKind.u8.wrap ((gt x2 x7) + x5))))
def law05_FrameRejects_S0_e1 (x2 : List Int) (x5 : Int) (x7 : Int) : Bool := (true != ((((frame_Decode_iabl_r0_0 1 true (st x2 x7 (IntKind.u8.wrap ((gt x2 x7) + x5)))) : Int) == 0) && ((((gt (law05_FrameRejects_S0_e0 x2 x5 x7) 0) : Int) == 0) && ((((gt (law05_FrameRejects_S0_e0 x2 x5 x7) 1) : Int) == 0) && ((((gt (law05_FrameRejects_S0_e0 x2 x5 x7) 2) : Int) == 0) && ((((gt (law05_FrameRejects_S0_e0 x2 x5 x7) 3) : Int) == 0) && ((((gt (law05_FrameRejects_S0_e0 x2 x5 x7) 4) : Int) == 0) && ((((gt (law05_FrameRejects_S0_e0 x2 x5 x7) 5) : Int) == 0) && ((((gt (law05_FrameRejects_S0_e0 x2 x5 x7) 6) : Int) == 0) && ((((gt (law05_FrameRejects_S0_e0 x2 x5 x7) 7) : Int) == 0) && true))))))))))
def law05_FrameRejects_S0_c0 (x2 : List Int) (x5 : Int) (x7 : Int) : Bool := (bif tb (decide ((([] : List Int).length + x2.length) * 1 ≤ 140737488355328)) then (bif tb (inb x2.length x7) then (bif tb (frame_Decode_iabl_c0 1 true (st x2 x7 (IntKind.u8.wrap ((gt x2 x7) + x5)))) then true else false) else false) else false)
def law05_FrameRejects_S0_r0_3 (x2 : List Int) (x5 : Int) (x7 : Int) : Bool := (bif tb ((x7 : Int) == 0) then (bif tb ((x7 : Int) == 1) then (bif tb (((frame_Decode_iabl_r0_2 1 true (st x2 x7 (IntKind.u8.wrap ((gt x2 x7) + x5)))) : Int) != 4) then true else (law05_FrameRejects_S0_e1 x2 x5 x7)) else (bif tb (((frame_Decode_iabl_r0_2 1 true (st x2 x7 (IntKind.u8.wrap ((gt x2 x7) + x5)))) : Int) != 3) then true else (law05_FrameRejects_S0_e1 x2 x5 x7))) else (bif tb ((x7 : Int) == 1) then (bif tb (((frame_Decode_iabl_r0_2 1 true (st x2 x7 (IntKind.u8.wrap ((gt x2 x7) + x5)))) : Int) != 4) then true else (law05_FrameRejects_S0_e1 x2 x5 x7)) else (bif tb (((frame_Decode_iabl_r0_2 1 true (st x2 x7 (IntKind.u8.wrap ((gt x2 x7) + x5)))) : Int) != 5) then true else (law05_FrameRejects_S0_e1 x2 x5 x7))))
theorem law05_FrameRejects_S0_t0 (x0 : Int) (x1 : List Int) (x2 : List Int) (x3 : Bool) (x4 : Bool) (x5 : Int) (x6 : Bool) (x7 : Int) : law05_FrameRejects_S0_c0 x2 x5 x7 = true → segG (runC E0 (cl E0) S5_0) [2, 7, 9] [] [2, 7, 9, 68] 2 ([(V.d (.int .u8 x5)), (V.so x6 1 x2.length), (V.d (.int .i64 x7))], [(Blk.flat 24 9 [([(.int .i64 x0)] ++ arrD .i64 x1 8)] x3), (Blk.flat 5 1 (List.map (encI .u8) x2) x4)]) = some (.normal, ([(V.d (.int .u8 x5)), (V.so x6 1 x2.length), (V.d (.int .i64 x7)), (V.d (.bool (law05_FrameRejects_S0_r0_3 x2 x5 x7)))], [(Blk.flat 24 9 [([(.int .i64 x0)] ++ arrD .i64 x1 8)] x3), (Blk.flat 5 1 (List.map (encI .u8) x2) x4)])) := by
  unfold law05_FrameRejects_S0_c0 law05_FrameRejects_S0_r0_3
  cases h1 : tb (decide ((([] : List Int).length + x2.length) * 1 ≤ 140737488355328))
  · intro g0
    exact absurd g0 ft
  · cases h2 : tb (inb x2.length x7)
    · intro g0
      exact absurd g0 ft
    · cases h3 : tb (frame_Decode_iabl_c0 1 true (st x2 x7 (IntKind.u8.wrap ((gt x2 x7) + x5))))
      · intro g0
        exact absurd g0 ft
      · cases h4 : tb ((x7 : Int) == 0)
        · cases h5 : tb ((x7 : Int) == 1)
          · cases h6 : tb (((frame_Decode_iabl_r0_2 1 true (st x2 x7 (IntKind.u8.wrap ((gt x2 x7) + x5)))) : Int) != 5)
            · intro g0
              exact seg_walk [.m 41 (o_app_sf (m := [(Blk.flat 24 9 [([(.int .i64 x0)] ++ arrD .i64 x1 8)] x3), (Blk.flat 5 1 (List.map (encI .u8) x2) x4), (Blk.flat 5 1 [] false)]) (enc := (encI .u8)) (l0 := ([] : List Int)) (l1 := x2) (id := 2) (e := 5) (s := 1) (bytes := 1) (x := (V.so x6 1 x2.length)) (n := 0) (by kernel_rfl) (by kernel_rfl) (flatRowsOf_so' (b := x6) (e := 5) (s := 1) (p := x4) (Nat.beq_refl _) (by kernel_rfl)) (by kernel_rfl) (tbE h1)), .m 46 (o_idx_so (m := [(Blk.flat 24 9 [([(.int .i64 x0)] ++ arrD .i64 x1 8)] x3), (Blk.flat 5 1 (List.map (encI .u8) x2) x4), (Blk.flat 5 1 (List.map (encI .u8) x2) false)]) (b := false) (id := 2) (n := x2.length) (s := 1) (k := .i64) (by kernel_rfl) (tbE h2)), .m 47 (o_load_L (m := [(Blk.flat 24 9 [([(.int .i64 x0)] ++ arrD .i64 x1 8)] x3), (Blk.flat 5 1 (List.map (encI .u8) x2) x4), (Blk.flat 5 1 (List.map (encI .u8) x2) false)]) (enc := (encI .u8)) (l := x2) (id := 2) (e := 5) (s := 1) (off := 0) (size := 1) (p := false) (agg := false) (i := x7) (v := (V.d (.int .u8 (gt x2 x7)))) (n := x2.length) (Nat.beq_refl _) (by kernel_rfl) (tbE h2) (by kernel_rfl)), .m 50 (o_idx_so (m := [(Blk.flat 24 9 [([(.int .i64 x0)] ++ arrD .i64 x1 8)] x3), (Blk.flat 5 1 (List.map (encI .u8) x2) x4), (Blk.flat 5 1 (List.map (encI .u8) x2) false)]) (b := false) (id := 2) (n := x2.length) (s := 1) (k := .i64) (by kernel_rfl) (tbE h2)), .m 100050 (o_store_L (m := [(Blk.flat 24 9 [([(.int .i64 x0)] ++ arrD .i64 x1 8)] x3), (Blk.flat 5 1 (List.map (encI .u8) x2) x4), (Blk.flat 5 1 (List.map (encI .u8) x2) false)]) (enc := (encI .u8)) (l := x2) (id := 2) (e := 5) (s := 1) (size := 1) (off := 0) (i := x7) (v := (V.d (.int .u8 (IntKind.u8.wrap ((gt x2 x7) + x5))))) (x := (IntKind.u8.wrap ((gt x2 x7) + x5))) (ys := [(.int .u8 (IntKind.u8.wrap ((gt x2 x7) + x5)))]) (n := x2.length) (Nat.beq_refl _) (by kernel_rfl) (tbE h2) ⟨by kernel_rfl, by kernel_rfl⟩ (by kernel_rfl) (by kernel_rfl)), .y (mm := [(Blk.flat 24 9 [([(.int .i64 x0)] ++ arrD .i64 x1 8)] x3), (Blk.flat 5 1 (List.map (encI .u8) x2) x4), (Blk.flat 5 1 (List.map (encI .u8) (st x2 x7 (IntKind.u8.wrap ((gt x2 x7) + x5)))) false)]) (args := [(V.d (.int .i64 1)), (V.agg [(V.d (.bool true)), (V.so false 2 x2.length)])]) (args1 := [(V.d (.int .i64 1)), (V.agg [(V.d (.bool true)), (V.d (.rs true 1 (List.map (encI .u8) (st x2 x7 (IntKind.u8.wrap ((gt x2 x7) + x5)))) false))])]) (byvals_cons (by kernel_rfl) (byvals_cons (byval_agg (byvals_cons (by kernel_rfl) (byvals_cons (byval_so (enc := (encI .u8)) (l := (st x2 x7 (IntKind.u8.wrap ((gt x2 x7) + x5)))) (b := false) (e := 5) (s := 1) (p := false) (n := x2.length) (st_len (Nat.beq_refl _)) (by kernel_rfl)) (by kernel_rfl)))) (by kernel_rfl))), .c (frame_Decode_iabl_t0 1 true (st x2 x7 (IntKind.u8.wrap ((gt x2 x7) + x5))) (tbE h3)), .b (tbE h4), .b (tbE h5), .b (tbE h6)] (by kernel_rfl)
            · intro g0
              exact seg_walk [.m 41 (o_app_sf (m := [(Blk.flat 24 9 [([(.int .i64 x0)] ++ arrD .i64 x1 8)] x3), (Blk.flat 5 1 (List.map (encI .u8) x2) x4), (Blk.flat 5 1 [] false)]) (enc := (encI .u8)) (l0 := ([] : List Int)) (l1 := x2) (id := 2) (e := 5) (s := 1) (bytes := 1) (x := (V.so x6 1 x2.length)) (n := 0) (by kernel_rfl) (by kernel_rfl) (flatRowsOf_so' (b := x6) (e := 5) (s := 1) (p := x4) (Nat.beq_refl _) (by kernel_rfl)) (by kernel_rfl) (tbE h1)), .m 46 (o_idx_so (m := [(Blk.flat 24 9 [([(.int .i64 x0)] ++ arrD .i64 x1 8)] x3), (Blk.flat 5 1 (List.map (encI .u8) x2) x4), (Blk.flat 5 1 (List.map (encI .u8) x2) false)]) (b := false) (id := 2) (n := x2.length) (s := 1) (k := .i64) (by kernel_rfl) (tbE h2)), .m 47 (o_load_L (m := [(Blk.flat 24 9 [([(.int .i64 x0)] ++ arrD .i64 x1 8)] x3), (Blk.flat 5 1 (List.map (encI .u8) x2) x4), (Blk.flat 5 1 (List.map (encI .u8) x2) false)]) (enc := (encI .u8)) (l := x2) (id := 2) (e := 5) (s := 1) (off := 0) (size := 1) (p := false) (agg := false) (i := x7) (v := (V.d (.int .u8 (gt x2 x7)))) (n := x2.length) (Nat.beq_refl _) (by kernel_rfl) (tbE h2) (by kernel_rfl)), .m 50 (o_idx_so (m := [(Blk.flat 24 9 [([(.int .i64 x0)] ++ arrD .i64 x1 8)] x3), (Blk.flat 5 1 (List.map (encI .u8) x2) x4), (Blk.flat 5 1 (List.map (encI .u8) x2) false)]) (b := false) (id := 2) (n := x2.length) (s := 1) (k := .i64) (by kernel_rfl) (tbE h2)), .m 100050 (o_store_L (m := [(Blk.flat 24 9 [([(.int .i64 x0)] ++ arrD .i64 x1 8)] x3), (Blk.flat 5 1 (List.map (encI .u8) x2) x4), (Blk.flat 5 1 (List.map (encI .u8) x2) false)]) (enc := (encI .u8)) (l := x2) (id := 2) (e := 5) (s := 1) (size := 1) (off := 0) (i := x7) (v := (V.d (.int .u8 (IntKind.u8.wrap ((gt x2 x7) + x5))))) (x := (IntKind.u8.wrap ((gt x2 x7) + x5))) (ys := [(.int .u8 (IntKind.u8.wrap ((gt x2 x7) + x5)))]) (n := x2.length) (Nat.beq_refl _) (by kernel_rfl) (tbE h2) ⟨by kernel_rfl, by kernel_rfl⟩ (by kernel_rfl) (by kernel_rfl)), .y (mm := [(Blk.flat 24 9 [([(.int .i64 x0)] ++ arrD .i64 x1 8)] x3), (Blk.flat 5 1 (List.map (encI .u8) x2) x4), (Blk.flat 5 1 (List.map (encI .u8) (st x2 x7 (IntKind.u8.wrap ((gt x2 x7) + x5)))) false)]) (args := [(V.d (.int .i64 1)), (V.agg [(V.d (.bool true)), (V.so false 2 x2.length)])]) (args1 := [(V.d (.int .i64 1)), (V.agg [(V.d (.bool true)), (V.d (.rs true 1 (List.map (encI .u8) (st x2 x7 (IntKind.u8.wrap ((gt x2 x7) + x5)))) false))])]) (byvals_cons (by kernel_rfl) (byvals_cons (byval_agg (byvals_cons (by kernel_rfl) (byvals_cons (byval_so (enc := (encI .u8)) (l := (st x2 x7 (IntKind.u8.wrap ((gt x2 x7) + x5)))) (b := false) (e := 5) (s := 1) (p := false) (n := x2.length) (st_len (Nat.beq_refl _)) (by kernel_rfl)) (by kernel_rfl)))) (by kernel_rfl))), .c (frame_Decode_iabl_t0 1 true (st x2 x7 (IntKind.u8.wrap ((gt x2 x7) + x5))) (tbE h3)), .b (tbE h4), .b (tbE h5), .b (tbE h6)] (by kernel_rfl)
          · cases h6 : tb (((frame_Decode_iabl_r0_2 1 true (st x2 x7 (IntKind.u8.wrap ((gt x2 x7) + x5)))) : Int) != 4)
            · intro g0
              exact seg_walk [.m 41 (o_app_sf (m := [(Blk.flat 24 9 [([(.int .i64 x0)] ++ arrD .i64 x1 8)] x3), (Blk.flat 5 1 (List.map (encI .u8) x2) x4), (Blk.flat 5 1 [] false)]) (enc := (encI .u8)) (l0 := ([] : List Int)) (l1 := x2) (id := 2) (e := 5) (s := 1) (bytes := 1) (x := (V.so x6 1 x2.length)) (n := 0) (by kernel_rfl) (by kernel_rfl) (flatRowsOf_so' (b := x6) (e := 5) (s := 1) (p := x4) (Nat.beq_refl _) (by kernel_rfl)) (by kernel_rfl) (tbE h1)), .m 46 (o_idx_so (m := [(Blk.flat 24 9 [([(.int .i64 x0)] ++ arrD .i64 x1 8)] x3), (Blk.flat 5 1 (List.map (encI .u8) x2) x4), (Blk.flat 5 1 (List.map (encI .u8) x2) false)]) (b := false) (id := 2) (n := x2.length) (s := 1) (k := .i64) (by kernel_rfl) (tbE h2)), .m 47 (o_load_L (m := [(Blk.flat 24 9 [([(.int .i64 x0)] ++ arrD .i64 x1 8)] x3), (Blk.flat 5 1 (List.map (encI .u8) x2) x4), (Blk.flat 5 1 (List.map (encI .u8) x2) false)]) (enc := (encI .u8)) (l := x2) (id := 2) (e := 5) (s := 1) (off := 0) (size := 1) (p := false) (agg := false) (i := x7) (v := (V.d (.int .u8 (gt x2 x7)))) (n := x2.length) (Nat.beq_refl _) (by kernel_rfl) (tbE h2) (by kernel_rfl)), .m 50 (o_idx_so (m := [(Blk.flat 24 9 [([(.int .i64 x0)] ++ arrD .i64 x1 8)] x3), (Blk.flat 5 1 (List.map (encI .u8) x2) x4), (Blk.flat 5 1 (List.map (encI .u8) x2) false)]) (b := false) (id := 2) (n := x2.length) (s := 1) (k := .i64) (by kernel_rfl) (tbE h2)), .m 100050 (o_store_L (m := [(Blk.flat 24 9 [([(.int .i64 x0)] ++ arrD .i64 x1 8)] x3), (Blk.flat 5 1 (List.map (encI .u8) x2) x4), (Blk.flat 5 1 (List.map (encI .u8) x2) false)]) (enc := (encI .u8)) (l := x2) (id := 2) (e := 5) (s := 1) (size := 1) (off := 0) (i := x7) (v := (V.d (.int .u8 (IntKind.u8.wrap ((gt x2 x7) + x5))))) (x := (IntKind.u8.wrap ((gt x2 x7) + x5))) (ys := [(.int .u8 (IntKind.u8.wrap ((gt x2 x7) + x5)))]) (n := x2.length) (Nat.beq_refl _) (by kernel_rfl) (tbE h2) ⟨by kernel_rfl, by kernel_rfl⟩ (by kernel_rfl) (by kernel_rfl)), .y (mm := [(Blk.flat 24 9 [([(.int .i64 x0)] ++ arrD .i64 x1 8)] x3), (Blk.flat 5 1 (List.map (encI .u8) x2) x4), (Blk.flat 5 1 (List.map (encI .u8) (st x2 x7 (IntKind.u8.wrap ((gt x2 x7) + x5)))) false)]) (args := [(V.d (.int .i64 1)), (V.agg [(V.d (.bool true)), (V.so false 2 x2.length)])]) (args1 := [(V.d (.int .i64 1)), (V.agg [(V.d (.bool true)), (V.d (.rs true 1 (List.map (encI .u8) (st x2 x7 (IntKind.u8.wrap ((gt x2 x7) + x5)))) false))])]) (byvals_cons (by kernel_rfl) (byvals_cons (byval_agg (byvals_cons (by kernel_rfl) (byvals_cons (byval_so (enc := (encI .u8)) (l := (st x2 x7 (IntKind.u8.wrap ((gt x2 x7) + x5)))) (b := false) (e := 5) (s := 1) (p := false) (n := x2.length) (st_len (Nat.beq_refl _)) (by kernel_rfl)) (by kernel_rfl)))) (by kernel_rfl))), .c (frame_Decode_iabl_t0 1 true (st x2 x7 (IntKind.u8.wrap ((gt x2 x7) + x5))) (tbE h3)), .b (tbE h4), .b (tbE h5), .b (tbE h6)] (by kernel_rfl)
            · intro g0
              exact seg_walk [.m 41 (o_app_sf (m := [(Blk.flat 24 9 [([(.int .i64 x0)] ++ arrD .i64 x1 8)] x3), (Blk.flat 5 1 (List.map (encI .u8) x2) x4), (Blk.flat 5 1 [] false)]) (enc := (encI .u8)) (l0 := ([] : List Int)) (l1 := x2) (id := 2) (e := 5) (s := 1) (bytes := 1) (x := (V.so x6 1 x2.length)) (n := 0) (by kernel_rfl) (by kernel_rfl) (flatRowsOf_so' (b := x6) (e := 5) (s := 1) (p := x4) (Nat.beq_refl _) (by kernel_rfl)) (by kernel_rfl) (tbE h1)), .m 46 (o_idx_so (m := [(Blk.flat 24 9 [([(.int .i64 x0)] ++ arrD .i64 x1 8)] x3), (Blk.flat 5 1 (List.map (encI .u8) x2) x4), (Blk.flat 5 1 (List.map (encI .u8) x2) false)]) (b := false) (id := 2) (n := x2.length) (s := 1) (k := .i64) (by kernel_rfl) (tbE h2)), .m 47 (o_load_L (m := [(Blk.flat 24 9 [([(.int .i64 x0)] ++ arrD .i64 x1 8)] x3), (Blk.flat 5 1 (List.map (encI .u8) x2) x4), (Blk.flat 5 1 (List.map (encI .u8) x2) false)]) (enc := (encI .u8)) (l := x2) (id := 2) (e := 5) (s := 1) (off := 0) (size := 1) (p := false) (agg := false) (i := x7) (v := (V.d (.int .u8 (gt x2 x7)))) (n := x2.length) (Nat.beq_refl _) (by kernel_rfl) (tbE h2) (by kernel_rfl)), .m 50 (o_idx_so (m := [(Blk.flat 24 9 [([(.int .i64 x0)] ++ arrD .i64 x1 8)] x3), (Blk.flat 5 1 (List.map (encI .u8) x2) x4), (Blk.flat 5 1 (List.map (encI .u8) x2) false)]) (b := false) (id := 2) (n := x2.length) (s := 1) (k := .i64) (by kernel_rfl) (tbE h2)), .m 100050 (o_store_L (m := [(Blk.flat 24 9 [([(.int .i64 x0)] ++ arrD .i64 x1 8)] x3), (Blk.flat 5 1 (List.map (encI .u8) x2) x4), (Blk.flat 5 1 (List.map (encI .u8) x2) false)]) (enc := (encI .u8)) (l := x2) (id := 2) (e := 5) (s := 1) (size := 1) (off := 0) (i := x7) (v := (V.d (.int .u8 (IntKind.u8.wrap ((gt x2 x7) + x5))))) (x := (IntKind.u8.wrap ((gt x2 x7) + x5))) (ys := [(.int .u8 (IntKind.u8.wrap ((gt x2 x7) + x5)))]) (n := x2.length) (Nat.beq_refl _) (by kernel_rfl) (tbE h2) ⟨by kernel_rfl, by kernel_rfl⟩ (by kernel_rfl) (by kernel_rfl)), .y (mm := [(Blk.flat 24 9 [([(.int .i64 x0)] ++ arrD .i64 x1 8)] x3), (Blk.flat 5 1 (List.map (encI .u8) x2) x4), (Blk.flat 5 1 (List.map (encI .u8) (st x2 x7 (IntKind.u8.wrap ((gt x2 x7) + x5)))) false)]) (args := [(V.d (.int .i64 1)), (V.agg [(V.d (.bool true)), (V.so false 2 x2.length)])]) (args1 := [(V.d (.int .i64 1)), (V.agg [(V.d (.bool true)), (V.d (.rs true 1 (List.map (encI .u8) (st x2 x7 (IntKind.u8.wrap ((gt x2 x7) + x5)))) false))])]) (byvals_cons (by kernel_rfl) (byvals_cons (byval_agg (byvals_cons (by kernel_rfl) (byvals_cons (byval_so (enc := (encI .u8)) (l := (st x2 x7 (IntKind.u8.wrap ((gt x2 x7) + x5)))) (b := false) (e := 5) (s := 1) (p := false) (n := x2.length) (st_len (Nat.beq_refl _)) (by kernel_rfl)) (by kernel_rfl)))) (by kernel_rfl))), .c (frame_Decode_iabl_t0 1 true (st x2 x7 (IntKind.u8.wrap ((gt x2 x7) + x5))) (tbE h3)), .b (tbE h4), .b (tbE h5), .b (tbE h6)] (by kernel_rfl)
        · cases h5 : tb ((x7 : Int) == 1)
          · cases h6 : tb (((frame_Decode_iabl_r0_2 1 true (st x2 x7 (IntKind.u8.wrap ((gt x2 x7) + x5)))) : Int) != 3)
            · intro g0
              exact seg_walk [.m 41 (o_app_sf (m := [(Blk.flat 24 9 [([(.int .i64 x0)] ++ arrD .i64 x1 8)] x3), (Blk.flat 5 1 (List.map (encI .u8) x2) x4), (Blk.flat 5 1 [] false)]) (enc := (encI .u8)) (l0 := ([] : List Int)) (l1 := x2) (id := 2) (e := 5) (s := 1) (bytes := 1) (x := (V.so x6 1 x2.length)) (n := 0) (by kernel_rfl) (by kernel_rfl) (flatRowsOf_so' (b := x6) (e := 5) (s := 1) (p := x4) (Nat.beq_refl _) (by kernel_rfl)) (by kernel_rfl) (tbE h1)), .m 46 (o_idx_so (m := [(Blk.flat 24 9 [([(.int .i64 x0)] ++ arrD .i64 x1 8)] x3), (Blk.flat 5 1 (List.map (encI .u8) x2) x4), (Blk.flat 5 1 (List.map (encI .u8) x2) false)]) (b := false) (id := 2) (n := x2.length) (s := 1) (k := .i64) (by kernel_rfl) (tbE h2)), .m 47 (o_load_L (m := [(Blk.flat 24 9 [([(.int .i64 x0)] ++ arrD .i64 x1 8)] x3), (Blk.flat 5 1 (List.map (encI .u8) x2) x4), (Blk.flat 5 1 (List.map (encI .u8) x2) false)]) (enc := (encI .u8)) (l := x2) (id := 2) (e := 5) (s := 1) (off := 0) (size := 1) (p := false) (agg := false) (i := x7) (v := (V.d (.int .u8 (gt x2 x7)))) (n := x2.length) (Nat.beq_refl _) (by kernel_rfl) (tbE h2) (by kernel_rfl)), .m 50 (o_idx_so (m := [(Blk.flat 24 9 [([(.int .i64 x0)] ++ arrD .i64 x1 8)] x3), (Blk.flat 5 1 (List.map (encI .u8) x2) x4), (Blk.flat 5 1 (List.map (encI .u8) x2) false)]) (b := false) (id := 2) (n := x2.length) (s := 1) (k := .i64) (by kernel_rfl) (tbE h2)), .m 100050 (o_store_L (m := [(Blk.flat 24 9 [([(.int .i64 x0)] ++ arrD .i64 x1 8)] x3), (Blk.flat 5 1 (List.map (encI .u8) x2) x4), (Blk.flat 5 1 (List.map (encI .u8) x2) false)]) (enc := (encI .u8)) (l := x2) (id := 2) (e := 5) (s := 1) (size := 1) (off := 0) (i := x7) (v := (V.d (.int .u8 (IntKind.u8.wrap ((gt x2 x7) + x5))))) (x := (IntKind.u8.wrap ((gt x2 x7) + x5))) (ys := [(.int .u8 (IntKind.u8.wrap ((gt x2 x7) + x5)))]) (n := x2.length) (Nat.beq_refl _) (by kernel_rfl) (tbE h2) ⟨by kernel_rfl, by kernel_rfl⟩ (by kernel_rfl) (by kernel_rfl)), .y (mm := [(Blk.flat 24 9 [([(.int .i64 x0)] ++ arrD .i64 x1 8)] x3), (Blk.flat 5 1 (List.map (encI .u8) x2) x4), (Blk.flat 5 1 (List.map (encI .u8) (st x2 x7 (IntKind.u8.wrap ((gt x2 x7) + x5)))) false)]) (args := [(V.d (.int .i64 1)), (V.agg [(V.d (.bool true)), (V.so false 2 x2.length)])]) (args1 := [(V.d (.int .i64 1)), (V.agg [(V.d (.bool true)), (V.d (.rs true 1 (List.map (encI .u8) (st x2 x7 (IntKind.u8.wrap ((gt x2 x7) + x5)))) false))])]) (byvals_cons (by kernel_rfl) (byvals_cons (byval_agg (byvals_cons (by kernel_rfl) (byvals_cons (byval_so (enc := (encI .u8)) (l := (st x2 x7 (IntKind.u8.wrap ((gt x2 x7) + x5)))) (b := false) (e := 5) (s := 1) (p := false) (n := x2.length) (st_len (Nat.beq_refl _)) (by kernel_rfl)) (by kernel_rfl)))) (by kernel_rfl))), .c (frame_Decode_iabl_t0 1 true (st x2 x7 (IntKind.u8.wrap ((gt x2 x7) + x5))) (tbE h3)), .b (tbE h4), .b (tbE h5), .b (tbE h6)] (by kernel_rfl)
            · intro g0
              exact seg_walk [.m 41 (o_app_sf (m := [(Blk.flat 24 9 [([(.int .i64 x0)] ++ arrD .i64 x1 8)] x3), (Blk.flat 5 1 (List.map (encI .u8) x2) x4), (Blk.flat 5 1 [] false)]) (enc := (encI .u8)) (l0 := ([] : List Int)) (l1 := x2) (id := 2) (e := 5) (s := 1) (bytes := 1) (x := (V.so x6 1 x2.length)) (n := 0) (by kernel_rfl) (by kernel_rfl) (flatRowsOf_so' (b := x6) (e := 5) (s := 1) (p := x4) (Nat.beq_refl _) (by kernel_rfl)) (by kernel_rfl) (tbE h1)), .m 46 (o_idx_so (m := [(Blk.flat 24 9 [([(.int .i64 x0)] ++ arrD .i64 x1 8)] x3), (Blk.flat 5 1 (List.map (encI .u8) x2) x4), (Blk.flat 5 1 (List.map (encI .u8) x2) false)]) (b := false) (id := 2) (n := x2.length) (s := 1) (k := .i64) (by kernel_rfl) (tbE h2)), .m 47 (o_load_L (m := [(Blk.flat 24 9 [([(.int .i64 x0)] ++ arrD .i64 x1 8)] x3), (Blk.flat 5 1 (List.map (encI .u8) x2) x4), (Blk.flat 5 1 (List.map (encI .u8) x2) false)]) (enc := (encI .u8)) (l := x2) (id := 2) (e := 5) (s := 1) (off := 0) (size := 1) (p := false) (agg := false) (i := x7) (v := (V.d (.int .u8 (gt x2 x7)))) (n := x2.length) (Nat.beq_refl _) (by kernel_rfl) (tbE h2) (by kernel_rfl)), .m 50 (o_idx_so (m := [(Blk.flat 24 9 [([(.int .i64 x0)] ++ arrD .i64 x1 8)] x3), (Blk.flat 5 1 (List.map (encI .u8) x2) x4), (Blk.flat 5 1 (List.map (encI .u8) x2) false)]) (b := false) (id := 2) (n := x2.length) (s := 1) (k := .i64) (by kernel_rfl) (tbE h2)), .m 100050 (o_store_L (m := [(Blk.flat 24 9 [([(.int .i64 x0)] ++ arrD .i64 x1 8)] x3), (Blk.flat 5 1 (List.map (encI .u8) x2) x4), (Blk.flat 5 1 (List.map (encI .u8) x2) false)]) (enc := (encI .u8)) (l := x2) (id := 2) (e := 5) (s := 1) (size := 1) (off := 0) (i := x7) (v := (V.d (.int .u8 (IntKind.u8.wrap ((gt x2 x7) + x5))))) (x := (IntKind.u8.wrap ((gt x2 x7) + x5))) (ys := [(.int .u8 (IntKind.u8.wrap ((gt x2 x7) + x5)))]) (n := x2.length) (Nat.beq_refl _) (by kernel_rfl) (tbE h2) ⟨by kernel_rfl, by kernel_rfl⟩ (by kernel_rfl) (by kernel_rfl)), .y (mm := [(Blk.flat 24 9 [([(.int .i64 x0)] ++ arrD .i64 x1 8)] x3), (Blk.flat 5 1 (List.map (encI .u8) x2) x4), (Blk.flat 5 1 (List.map (encI .u8) (st x2 x7 (IntKind.u8.wrap ((gt x2 x7) + x5)))) false)]) (args := [(V.d (.int .i64 1)), (V.agg [(V.d (.bool true)), (V.so false 2 x2.length)])]) (args1 := [(V.d (.int .i64 1)), (V.agg [(V.d (.bool true)), (V.d (.rs true 1 (List.map (encI .u8) (st x2 x7 (IntKind.u8.wrap ((gt x2 x7) + x5)))) false))])]) (byvals_cons (by kernel_rfl) (byvals_cons (byval_agg (byvals_cons (by kernel_rfl) (byvals_cons (byval_so (enc := (encI .u8)) (l := (st x2 x7 (IntKind.u8.wrap ((gt x2 x7) + x5)))) (b := false) (e := 5) (s := 1) (p := false) (n := x2.length) (st_len (Nat.beq_refl _)) (by kernel_rfl)) (by kernel_rfl)))) (by kernel_rfl))), .c (frame_Decode_iabl_t0 1 true (st x2 x7 (IntKind.u8.wrap ((gt x2 x7) + x5))) (tbE h3)), .b (tbE h4), .b (tbE h5), .b (tbE h6)] (by kernel_rfl)
          · cases h6 : tb (((frame_Decode_iabl_r0_2 1 true (st x2 x7 (IntKind.u8.wrap ((gt x2 x7) + x5)))) : Int) != 4)
            · intro g0
              exact seg_walk [.m 41 (o_app_sf (m := [(Blk.flat 24 9 [([(.int .i64 x0)] ++ arrD .i64 x1 8)] x3), (Blk.flat 5 1 (List.map (encI .u8) x2) x4), (Blk.flat 5 1 [] false)]) (enc := (encI .u8)) (l0 := ([] : List Int)) (l1 := x2) (id := 2) (e := 5) (s := 1) (bytes := 1) (x := (V.so x6 1 x2.length)) (n := 0) (by kernel_rfl) (by kernel_rfl) (flatRowsOf_so' (b := x6) (e := 5) (s := 1) (p := x4) (Nat.beq_refl _) (by kernel_rfl)) (by kernel_rfl) (tbE h1)), .m 46 (o_idx_so (m := [(Blk.flat 24 9 [([(.int .i64 x0)] ++ arrD .i64 x1 8)] x3), (Blk.flat 5 1 (List.map (encI .u8) x2) x4), (Blk.flat 5 1 (List.map (encI .u8) x2) false)]) (b := false) (id := 2) (n := x2.length) (s := 1) (k := .i64) (by kernel_rfl) (tbE h2)), .m 47 (o_load_L (m := [(Blk.flat 24 9 [([(.int .i64 x0)] ++ arrD .i64 x1 8)] x3), (Blk.flat 5 1 (List.map (encI .u8) x2) x4), (Blk.flat 5 1 (List.map (encI .u8) x2) false)]) (enc := (encI .u8)) (l := x2) (id := 2) (e := 5) (s := 1) (off := 0) (size := 1) (p := false) (agg := false) (i := x7) (v := (V.d (.int .u8 (gt x2 x7)))) (n := x2.length) (Nat.beq_refl _) (by kernel_rfl) (tbE h2) (by kernel_rfl)), .m 50 (o_idx_so (m := [(Blk.flat 24 9 [([(.int .i64 x0)] ++ arrD .i64 x1 8)] x3), (Blk.flat 5 1 (List.map (encI .u8) x2) x4), (Blk.flat 5 1 (List.map (encI .u8) x2) false)]) (b := false) (id := 2) (n := x2.length) (s := 1) (k := .i64) (by kernel_rfl) (tbE h2)), .m 100050 (o_store_L (m := [(Blk.flat 24 9 [([(.int .i64 x0)] ++ arrD .i64 x1 8)] x3), (Blk.flat 5 1 (List.map (encI .u8) x2) x4), (Blk.flat 5 1 (List.map (encI .u8) x2) false)]) (enc := (encI .u8)) (l := x2) (id := 2) (e := 5) (s := 1) (size := 1) (off := 0) (i := x7) (v := (V.d (.int .u8 (IntKind.u8.wrap ((gt x2 x7) + x5))))) (x := (IntKind.u8.wrap ((gt x2 x7) + x5))) (ys := [(.int .u8 (IntKind.u8.wrap ((gt x2 x7) + x5)))]) (n := x2.length) (Nat.beq_refl _) (by kernel_rfl) (tbE h2) ⟨by kernel_rfl, by kernel_rfl⟩ (by kernel_rfl) (by kernel_rfl)), .y (mm := [(Blk.flat 24 9 [([(.int .i64 x0)] ++ arrD .i64 x1 8)] x3), (Blk.flat 5 1 (List.map (encI .u8) x2) x4), (Blk.flat 5 1 (List.map (encI .u8) (st x2 x7 (IntKind.u8.wrap ((gt x2 x7) + x5)))) false)]) (args := [(V.d (.int .i64 1)), (V.agg [(V.d (.bool true)), (V.so false 2 x2.length)])]) (args1 := [(V.d (.int .i64 1)), (V.agg [(V.d (.bool true)), (V.d (.rs true 1 (List.map (encI .u8) (st x2 x7 (IntKind.u8.wrap ((gt x2 x7) + x5)))) false))])]) (byvals_cons (by kernel_rfl) (byvals_cons (byval_agg (byvals_cons (by kernel_rfl) (byvals_cons (byval_so (enc := (encI .u8)) (l := (st x2 x7 (IntKind.u8.wrap ((gt x2 x7) + x5)))) (b := false) (e := 5) (s := 1) (p := false) (n := x2.length) (st_len (Nat.beq_refl _)) (by kernel_rfl)) (by kernel_rfl)))) (by kernel_rfl))), .c (frame_Decode_iabl_t0 1 true (st x2 x7 (IntKind.u8.wrap ((gt x2 x7) + x5))) (tbE h3)), .b (tbE h4), .b (tbE h5), .b (tbE h6)] (by kernel_rfl)
            · intro g0
              exact seg_walk [.m 41 (o_app_sf (m := [(Blk.flat 24 9 [([(.int .i64 x0)] ++ arrD .i64 x1 8)] x3), (Blk.flat 5 1 (List.map (encI .u8) x2) x4), (Blk.flat 5 1 [] false)]) (enc := (encI .u8)) (l0 := ([] : List Int)) (l1 := x2) (id := 2) (e := 5) (s := 1) (bytes := 1) (x := (V.so x6 1 x2.length)) (n := 0) (by kernel_rfl) (by kernel_rfl) (flatRowsOf_so' (b := x6) (e := 5) (s := 1) (p := x4) (Nat.beq_refl _) (by kernel_rfl)) (by kernel_rfl) (tbE h1)), .m 46 (o_idx_so (m := [(Blk.flat 24 9 [([(.int .i64 x0)] ++ arrD .i64 x1 8)] x3), (Blk.flat 5 1 (List.map (encI .u8) x2) x4), (Blk.flat 5 1 (List.map (encI .u8) x2) false)]) (b := false) (id := 2) (n := x2.length) (s := 1) (k := .i64) (by kernel_rfl) (tbE h2)), .m 47 (o_load_L (m := [(Blk.flat 24 9 [([(.int .i64 x0)] ++ arrD .i64 x1 8)] x3), (Blk.flat 5 1 (List.map (encI .u8) x2) x4), (Blk.flat 5 1 (List.map (encI .u8) x2) false)]) (enc := (encI .u8)) (l := x2) (id := 2) (e := 5) (s := 1) (off := 0) (size := 1) (p := false) (agg := false) (i := x7) (v := (V.d (.int .u8 (gt x2 x7)))) (n := x2.length) (Nat.beq_refl _) (by kernel_rfl) (tbE h2) (by kernel_rfl)), .m 50 (o_idx_so (m := [(Blk.flat 24 9 [([(.int .i64 x0)] ++ arrD .i64 x1 8)] x3), (Blk.flat 5 1 (List.map (encI .u8) x2) x4), (Blk.flat 5 1 (List.map (encI .u8) x2) false)]) (b := false) (id := 2) (n := x2.length) (s := 1) (k := .i64) (by kernel_rfl) (tbE h2)), .m 100050 (o_store_L (m := [(Blk.flat 24 9 [([(.int .i64 x0)] ++ arrD .i64 x1 8)] x3), (Blk.flat 5 1 (List.map (encI .u8) x2) x4), (Blk.flat 5 1 (List.map (encI .u8) x2) false)]) (enc := (encI .u8)) (l := x2) (id := 2) (e := 5) (s := 1) (size := 1) (off := 0) (i := x7) (v := (V.d (.int .u8 (IntKind.u8.wrap ((gt x2 x7) + x5))))) (x := (IntKind.u8.wrap ((gt x2 x7) + x5))) (ys := [(.int .u8 (IntKind.u8.wrap ((gt x2 x7) + x5)))]) (n := x2.length) (Nat.beq_refl _) (by kernel_rfl) (tbE h2) ⟨by kernel_rfl, by kernel_rfl⟩ (by kernel_rfl) (by kernel_rfl)), .y (mm := [(Blk.flat 24 9 [([(.int .i64 x0)] ++ arrD .i64 x1 8)] x3), (Blk.flat 5 1 (List.map (encI .u8) x2) x4), (Blk.flat 5 1 (List.map (encI .u8) (st x2 x7 (IntKind.u8.wrap ((gt x2 x7) + x5)))) false)]) (args := [(V.d (.int .i64 1)), (V.agg [(V.d (.bool true)), (V.so false 2 x2.length)])]) (args1 := [(V.d (.int .i64 1)), (V.agg [(V.d (.bool true)), (V.d (.rs true 1 (List.map (encI .u8) (st x2 x7 (IntKind.u8.wrap ((gt x2 x7) + x5)))) false))])]) (byvals_cons (by kernel_rfl) (byvals_cons (byval_agg (byvals_cons (by kernel_rfl) (byvals_cons (byval_so (enc := (encI .u8)) (l := (st x2 x7 (IntKind.u8.wrap ((gt x2 x7) + x5)))) (b := false) (e := 5) (s := 1) (p := false) (n := x2.length) (st_len (Nat.beq_refl _)) (by kernel_rfl)) (by kernel_rfl)))) (by kernel_rfl))), .c (frame_Decode_iabl_t0 1 true (st x2 x7 (IntKind.u8.wrap ((gt x2 x7) + x5))) (tbE h3)), .b (tbE h4), .b (tbE h5), .b (tbE h6)] (by kernel_rfl)
def law05_FrameRejects_S1_e0 (x0 : Int) (x1 : List Int) (x3 : Int) : List Int := (sub (frame_Encode_iai9_r0_2 1 x0 x1) 0 (remI .i64 (wi (x3)) 38))
def law05_FrameRejects_S1_e1 (x0 : Int) (x1 : List Int) (x3 : Int) : List Int := (frame_Decode_iabl_r0_1 1 true (law05_FrameRejects_S1_e0 x0 x1 x3))
def law05_FrameRejects_S1_c0 (x0 : Int) (x1 : List Int) (x3 : Int) (x4 : Int) : Bool := (bif tb (frame_Encode_iai9_c0 1 x0 x1) then (bif tb (((frame_Encode_iai9_r0_1 1 x0 x1) : Int) != 0) then true else (bif tb (((((frame_Encode_iai9_r0_2 1 x0 x1).length : Nat) : Int) : Int) != 38) then true else (bif tb ((x4 : Int) != 0) then (bif tb (law05_FrameRejects_S0_c0 (frame_Encode_iai9_r0_2 1 x0 x1) x4 (remI .i64 (wi (x3)) 38)) then (bif tb (law05_FrameRejects_S0_r0_3 (frame_Encode_iai9_r0_2 1 x0 x1) x4 (remI .i64 (wi (x3)) 38)) then true else false) else false) else false))) else false)
def law05_FrameRejects_S1_r0_0 (x0 : Int) (x1 : List Int) : Bool := (bif tb (((frame_Encode_iai9_r0_1 1 x0 x1) : Int) != 0) then (((((frame_Encode_iai9_r0_2 1 x0 x1).length : Nat) : Int) : Int) == 0) else false)
def law05_FrameRejects_S1_c1 (x0 : Int) (x1 : List Int) (x3 : Int) (x4 : Int) : Bool := (bif tb (frame_Encode_iai9_c0 1 x0 x1) then (bif tb (((frame_Encode_iai9_r0_1 1 x0 x1) : Int) != 0) then false else (bif tb (((((frame_Encode_iai9_r0_2 1 x0 x1).length : Nat) : Int) : Int) != 38) then false else (bif tb ((x4 : Int) != 0) then (bif tb (law05_FrameRejects_S0_c0 (frame_Encode_iai9_r0_2 1 x0 x1) x4 (remI .i64 (wi (x3)) 38)) then (bif tb (law05_FrameRejects_S0_r0_3 (frame_Encode_iai9_r0_2 1 x0 x1) x4 (remI .i64 (wi (x3)) 38)) then false else (bif tb (ins ((frame_Encode_iai9_r0_2 1 x0 x1).length) 0 (remI .i64 (wi (x3)) 38)) then (bif tb (decide (0 < (remI .i64 (wi (x3)) 38))) then (bif tb (frame_Decode_iabl_c0 1 true (law05_FrameRejects_S1_e0 x0 x1 x3)) then (bif tb (decide ((([] : List Int).length + (frame_Encode_iai9_r0_2 1 x0 x1).length) * 1 ≤ 140737488355328)) then (bif tb (decide (((frame_Encode_iai9_r0_2 1 x0 x1).length + [x4].length) * 1 ≤ 140737488355328)) then (bif tb (frame_Decode_iabl_c0 1 true ((frame_Encode_iai9_r0_2 1 x0 x1) ++ [x4])) then true else false) else false) else false) else false) else (bif tb (frame_Encode_iai9_r0_0 1 x0 x1) then false else (bif tb (decide ((([] : List Int).length + (frame_Encode_iai9_r0_2 1 x0 x1).length) * 1 ≤ 140737488355328)) then (bif tb (decide (((frame_Encode_iai9_r0_2 1 x0 x1).length + [x4].length) * 1 ≤ 140737488355328)) then (bif tb (frame_Decode_iabl_c0 1 true ((frame_Encode_iai9_r0_2 1 x0 x1) ++ [x4])) then true else false) else false) else false))) else false)) else false) else (bif tb (ins ((frame_Encode_iai9_r0_2 1 x0 x1).length) 0 (remI .i64 (wi (x3)) 38)) then (bif tb (decide (0 < (remI .i64 (wi (x3)) 38))) then (bif tb (frame_Decode_iabl_c0 1 true (law05_FrameRejects_S1_e0 x0 x1 x3)) then (bif tb (decide ((([] : List Int).length + (frame_Encode_iai9_r0_2 1 x0 x1).length) * 1 ≤ 140737488355328)) then (bif tb (decide (((frame_Encode_iai9_r0_2 1 x0 x1).length + [x4].length) * 1 ≤ 140737488355328)) then (bif tb (frame_Decode_iabl_c0 1 true ((frame_Encode_iai9_r0_2 1 x0 x1) ++ [x4])) then true else false) else false) else false) else false) else (bif tb (frame_Encode_iai9_r0_0 1 x0 x1) then false else (bif tb (decide ((([] : List Int).length + (frame_Encode_iai9_r0_2 1 x0 x1).length) * 1 ≤ 140737488355328)) then (bif tb (decide (((frame_Encode_iai9_r0_2 1 x0 x1).length + [x4].length) * 1 ≤ 140737488355328)) then (bif tb (frame_Decode_iabl_c0 1 true ((frame_Encode_iai9_r0_2 1 x0 x1) ++ [x4])) then true else false) else false) else false))) else false)))) else false)
def law05_FrameRejects_S1_r1_0 (x0 : Int) (x1 : List Int) (x3 : Int) (x4 : Int) : Int := (bif tb ((x4 : Int) != 0) then (bif tb (decide (0 < (remI .i64 (wi (x3)) 38))) then (frame_Decode_iabl_r0_2 1 true (law05_FrameRejects_S1_e0 x0 x1 x3)) else (frame_Decode_iabz_S0_r0_0 true)) else (bif tb (decide (0 < (remI .i64 (wi (x3)) 38))) then (frame_Decode_iabl_r0_2 1 true (law05_FrameRejects_S1_e0 x0 x1 x3)) else (frame_Decode_iabz_S0_r0_0 true)))
theorem law05_FrameRejects_S1_t0 (x0 : Int) (x1 : List Int) (x2 : Bool) (x3 : Int) (x4 : Int) : law05_FrameRejects_S1_c0 x0 x1 x3 x4 = true → segG (runC E0 (cl E0) S5_1) [1, 2, 3] [6] [15, 17] 1 ([(V.d (.int .u8 x3)), (V.d (.int .u8 x4)), (V.ptr 0 1 0 0)], [(Blk.flat 24 9 [([(.int .i64 x0)] ++ arrD .i64 x1 8)] x2)]) = some (.ret, ([(V.d (.bool (law05_FrameRejects_S1_r0_0 x0 x1)))], [(Blk.flat 24 9 [([(.int .i64 x0)] ++ arrD .i64 x1 8)] x2)])) := by
  unfold law05_FrameRejects_S1_c0 law05_FrameRejects_S1_r0_0
  cases h1 : tb (frame_Encode_iai9_c0 1 x0 x1)
  · intro g0
    exact absurd g0 ft
  · cases h2 : tb (((frame_Encode_iai9_r0_1 1 x0 x1) : Int) != 0)
    · cases h3 : tb (((((frame_Encode_iai9_r0_2 1 x0 x1).length : Nat) : Int) : Int) != 38)
      · cases h4 : tb ((x4 : Int) != 0)
        · cases h5 : tb (ins ((frame_Encode_iai9_r0_2 1 x0 x1).length) 0 (remI .i64 (wi (x3)) 38))
          · intro g0
            exact absurd g0 ft
          · cases h6 : tb (decide (0 < (remI .i64 (wi (x3)) 38)))
            · cases h7 : tb (frame_Encode_iai9_r0_0 1 x0 x1)
              · cases h8 : tb (decide ((([] : List Int).length + (frame_Encode_iai9_r0_2 1 x0 x1).length) * 1 ≤ 140737488355328))
                · intro g0
                  exact absurd g0 ft
                · cases h9 : tb (decide (((frame_Encode_iai9_r0_2 1 x0 x1).length + [x4].length) * 1 ≤ 140737488355328))
                  · intro g0
                    exact absurd g0 ft
                  · cases h10 : tb (frame_Decode_iabl_c0 1 true ((frame_Encode_iai9_r0_2 1 x0 x1) ++ [x4]))
                    · intro g0
                      exact absurd g0 ft
                    · intro g0
                      exact absurd g0 ft
              · intro g0
                exact absurd g0 ft
            · cases h7 : tb (frame_Decode_iabl_c0 1 true (law05_FrameRejects_S1_e0 x0 x1 x3))
              · intro g0
                exact absurd g0 ft
              · cases h8 : tb (decide ((([] : List Int).length + (frame_Encode_iai9_r0_2 1 x0 x1).length) * 1 ≤ 140737488355328))
                · intro g0
                  exact absurd g0 ft
                · cases h9 : tb (decide (((frame_Encode_iai9_r0_2 1 x0 x1).length + [x4].length) * 1 ≤ 140737488355328))
                  · intro g0
                    exact absurd g0 ft
                  · cases h10 : tb (frame_Decode_iabl_c0 1 true ((frame_Encode_iai9_r0_2 1 x0 x1) ++ [x4]))
                    · intro g0
                      exact absurd g0 ft
                    · intro g0
                      exact absurd g0 ft
        · cases h5 : tb (law05_FrameRejects_S0_c0 (frame_Encode_iai9_r0_2 1 x0 x1) x4 (remI .i64 (wi (x3)) 38))
          · intro g0
            exact absurd g0 ft
          · cases h6 : tb (law05_FrameRejects_S0_r0_3 (frame_Encode_iai9_r0_2 1 x0 x1) x4 (remI .i64 (wi (x3)) 38))
            · cases h7 : tb (ins ((frame_Encode_iai9_r0_2 1 x0 x1).length) 0 (remI .i64 (wi (x3)) 38))
              · intro g0
                exact absurd g0 ft
              · cases h8 : tb (decide (0 < (remI .i64 (wi (x3)) 38)))
                · cases h9 : tb (frame_Encode_iai9_r0_0 1 x0 x1)
                  · cases h10 : tb (decide ((([] : List Int).length + (frame_Encode_iai9_r0_2 1 x0 x1).length) * 1 ≤ 140737488355328))
                    · intro g0
                      exact absurd g0 ft
                    · cases h11 : tb (decide (((frame_Encode_iai9_r0_2 1 x0 x1).length + [x4].length) * 1 ≤ 140737488355328))
                      · intro g0
                        exact absurd g0 ft
                      · cases h12 : tb (frame_Decode_iabl_c0 1 true ((frame_Encode_iai9_r0_2 1 x0 x1) ++ [x4]))
                        · intro g0
                          exact absurd g0 ft
                        · intro g0
                          exact absurd g0 ft
                  · intro g0
                    exact absurd g0 ft
                · cases h9 : tb (frame_Decode_iabl_c0 1 true (law05_FrameRejects_S1_e0 x0 x1 x3))
                  · intro g0
                    exact absurd g0 ft
                  · cases h10 : tb (decide ((([] : List Int).length + (frame_Encode_iai9_r0_2 1 x0 x1).length) * 1 ≤ 140737488355328))
                    · intro g0
                      exact absurd g0 ft
                    · cases h11 : tb (decide (((frame_Encode_iai9_r0_2 1 x0 x1).length + [x4].length) * 1 ≤ 140737488355328))
                      · intro g0
                        exact absurd g0 ft
                      · cases h12 : tb (frame_Decode_iabl_c0 1 true ((frame_Encode_iai9_r0_2 1 x0 x1) ++ [x4]))
                        · intro g0
                          exact absurd g0 ft
                        · intro g0
                          exact absurd g0 ft
            · intro g0
              exact seg_walk [.c (frame_Encode_iai9_t0 1 x0 x1 (tbE h1)), .b (tbE h2), .b (tbE h3), .b (tbE h4), .s (law05_FrameRejects_S0_t0 x0 x1 (frame_Encode_iai9_r0_2 1 x0 x1) x2 false x4 (frame_Encode_iai9_r0_0 1 x0 x1) (remI .i64 (wi (x3)) 38) (tbE h5)), .b (tbE h6)] (by kernel_rfl)
      · intro g0
        exact seg_walk [.c (frame_Encode_iai9_t0 1 x0 x1 (tbE h1)), .b (tbE h2), .b (tbE h3)] (by kernel_rfl)
    · intro g0
      exact seg_walk [.c (frame_Encode_iai9_t0 1 x0 x1 (tbE h1)), .b (tbE h2), .c (law05_alive_t0), .k true] (by kernel_rfl)
theorem law05_FrameRejects_S1_t1 (x0 : Int) (x1 : List Int) (x2 : Bool) (x3 : Int) (x4 : Int) : law05_FrameRejects_S1_c0 x0 x1 x3 x4 = false → law05_FrameRejects_S1_c1 x0 x1 x3 x4 = true → segG (runC E0 (cl E0) S5_1) [1, 2, 3] [6] [15, 17] 1 ([(V.d (.int .u8 x3)), (V.d (.int .u8 x4)), (V.ptr 0 1 0 0)], [(Blk.flat 24 9 [([(.int .i64 x0)] ++ arrD .i64 x1 8)] x2)]) = some (.normal, ([(V.d (.int .i64 (law05_FrameRejects_S1_r1_0 x0 x1 x3 x4))), (V.d (.int .i64 (frame_Decode_iabl_r0_2 1 true ((frame_Encode_iai9_r0_2 1 x0 x1) ++ [x4]))))], [(Blk.flat 24 9 [([(.int .i64 x0)] ++ arrD .i64 x1 8)] x2)])) := by
  unfold law05_FrameRejects_S1_c0 law05_FrameRejects_S1_c1 law05_FrameRejects_S1_r1_0
  cases h1 : tb (frame_Encode_iai9_c0 1 x0 x1)
  · intro g0 g1
    exact absurd g1 ft
  · cases h2 : tb (((frame_Encode_iai9_r0_1 1 x0 x1) : Int) != 0)
    · cases h3 : tb (((((frame_Encode_iai9_r0_2 1 x0 x1).length : Nat) : Int) : Int) != 38)
      · cases h4 : tb ((x4 : Int) != 0)
        · cases h5 : tb (ins ((frame_Encode_iai9_r0_2 1 x0 x1).length) 0 (remI .i64 (wi (x3)) 38))
          · intro g0 g1
            exact absurd g1 ft
          · cases h6 : tb (decide (0 < (remI .i64 (wi (x3)) 38)))
            · cases h7 : tb (frame_Encode_iai9_r0_0 1 x0 x1)
              · cases h8 : tb (decide ((([] : List Int).length + (frame_Encode_iai9_r0_2 1 x0 x1).length) * 1 ≤ 140737488355328))
                · intro g0 g1
                  exact absurd g1 ft
                · cases h9 : tb (decide (((frame_Encode_iai9_r0_2 1 x0 x1).length + [x4].length) * 1 ≤ 140737488355328))
                  · intro g0 g1
                    exact absurd g1 ft
                  · cases h10 : tb (frame_Decode_iabl_c0 1 true ((frame_Encode_iai9_r0_2 1 x0 x1) ++ [x4]))
                    · intro g0 g1
                      exact absurd g1 ft
                    · intro g0 g1
                      exact seg_walk [.c (frame_Encode_iai9_t0 1 x0 x1 (tbE h1)), .b (tbE h2), .b (tbE h3), .b (tbE h4), .m 72 (o_slice_sp0 (m := [(Blk.flat 24 9 [([(.int .i64 x0)] ++ arrD .i64 x1 8)] x2), (Blk.flat 5 1 (List.map (encI .u8) (frame_Encode_iai9_r0_2 1 x0 x1)) false)]) (enc := (encI .u8)) (l := (frame_Encode_iai9_r0_2 1 x0 x1)) (id := 1) (e := 5) (s := 1) (n := ((frame_Encode_iai9_r0_2 1 x0 x1).length)) (p := false) none (some (.i64, (remI .i64 (wi (x3)) 38))) (deSo_f (tbE h7)) (Nat.beq_refl _) (by kernel_rfl) (tbE h5) (tbE h6)), .c (frame_Decode_iabz_t0 1 true), .m 80 (o_app_sf (m := [(Blk.flat 24 9 [([(.int .i64 x0)] ++ arrD .i64 x1 8)] x2), (Blk.flat 5 1 (List.map (encI .u8) (frame_Encode_iai9_r0_2 1 x0 x1)) false), (Blk.flat 24 9 [([(.int .i64 0)] ++ arrD .i64 [0, 0, 0, 0, 0, 0, 0, 0] 8)] false), (Blk.flat 5 1 [] false)]) (enc := (encI .u8)) (l0 := ([] : List Int)) (l1 := (frame_Encode_iai9_r0_2 1 x0 x1)) (id := 3) (e := 5) (s := 1) (bytes := 1) (x := (V.so (frame_Encode_iai9_r0_0 1 x0 x1) 1 ((frame_Encode_iai9_r0_2 1 x0 x1).length))) (n := 0) (by kernel_rfl) (by kernel_rfl) (flatRowsOf_so' (b := (frame_Encode_iai9_r0_0 1 x0 x1)) (e := 5) (s := 1) (p := false) (Nat.beq_refl _) (by kernel_rfl)) (by kernel_rfl) (tbE h8)), .m 83 (o_app_sf (m := [(Blk.flat 24 9 [([(.int .i64 x0)] ++ arrD .i64 x1 8)] x2), (Blk.flat 5 1 (List.map (encI .u8) (frame_Encode_iai9_r0_2 1 x0 x1)) false), (Blk.flat 24 9 [([(.int .i64 0)] ++ arrD .i64 [0, 0, 0, 0, 0, 0, 0, 0] 8)] false), (Blk.flat 5 1 (List.map (encI .u8) (frame_Encode_iai9_r0_2 1 x0 x1)) false), (Blk.flat 5 1 [[(.int .u8 x4)]] false)]) (enc := (encI .u8)) (l0 := (frame_Encode_iai9_r0_2 1 x0 x1)) (l1 := [x4]) (id := 3) (e := 5) (s := 1) (bytes := 1) (x := (V.so false 4 1)) (n := ((frame_Encode_iai9_r0_2 1 x0 x1).length)) (Nat.beq_refl _) (by kernel_rfl) (by kernel_rfl) (by kernel_rfl) (tbE h9)), .y (mm := [(Blk.flat 24 9 [([(.int .i64 x0)] ++ arrD .i64 x1 8)] x2), (Blk.flat 5 1 (List.map (encI .u8) (frame_Encode_iai9_r0_2 1 x0 x1)) false), (Blk.flat 24 9 [([(.int .i64 0)] ++ arrD .i64 [0, 0, 0, 0, 0, 0, 0, 0] 8)] false), (Blk.flat 5 1 (List.map (encI .u8) ((frame_Encode_iai9_r0_2 1 x0 x1) ++ [x4])) false), (Blk.flat 5 1 [[(.int .u8 x4)]] false)]) (args := [(V.d (.int .i64 1)), (V.agg [(V.d (.bool true)), (V.so false 3 (((frame_Encode_iai9_r0_2 1 x0 x1) ++ [x4]).length))])]) (args1 := [(V.d (.int .i64 1)), (V.agg [(V.d (.bool true)), (V.d (.rs true 1 (List.map (encI .u8) ((frame_Encode_iai9_r0_2 1 x0 x1) ++ [x4])) false))])]) (byvals_cons (by kernel_rfl) (byvals_cons (byval_agg (byvals_cons (by kernel_rfl) (byvals_cons (byval_so (enc := (encI .u8)) (l := ((frame_Encode_iai9_r0_2 1 x0 x1) ++ [x4])) (b := false) (e := 5) (s := 1) (p := false) (n := (((frame_Encode_iai9_r0_2 1 x0 x1) ++ [x4]).length)) (Nat.beq_refl _) (by kernel_rfl)) (by kernel_rfl)))) (by kernel_rfl))), .c (frame_Decode_iabl_t0 1 true ((frame_Encode_iai9_r0_2 1 x0 x1) ++ [x4]) (tbE h10))] (by kernel_rfl)
              · intro g0 g1
                exact absurd g1 ft
            · cases h7 : tb (frame_Decode_iabl_c0 1 true (law05_FrameRejects_S1_e0 x0 x1 x3))
              · intro g0 g1
                exact absurd g1 ft
              · cases h8 : tb (decide ((([] : List Int).length + (frame_Encode_iai9_r0_2 1 x0 x1).length) * 1 ≤ 140737488355328))
                · intro g0 g1
                  exact absurd g1 ft
                · cases h9 : tb (decide (((frame_Encode_iai9_r0_2 1 x0 x1).length + [x4].length) * 1 ≤ 140737488355328))
                  · intro g0 g1
                    exact absurd g1 ft
                  · cases h10 : tb (frame_Decode_iabl_c0 1 true ((frame_Encode_iai9_r0_2 1 x0 x1) ++ [x4]))
                    · intro g0 g1
                      exact absurd g1 ft
                    · intro g0 g1
                      exact seg_walk [.c (frame_Encode_iai9_t0 1 x0 x1 (tbE h1)), .b (tbE h2), .b (tbE h3), .b (tbE h4), .m 72 (o_slice_spo (nl := (frame_Encode_iai9_r0_0 1 x0 x1)) (m := [(Blk.flat 24 9 [([(.int .i64 x0)] ++ arrD .i64 x1 8)] x2), (Blk.flat 5 1 (List.map (encI .u8) (frame_Encode_iai9_r0_2 1 x0 x1)) false)]) (enc := (encI .u8)) (l := (frame_Encode_iai9_r0_2 1 x0 x1)) (id := 1) (e := 5) (s := 1) (n := ((frame_Encode_iai9_r0_2 1 x0 x1).length)) (p := false) none (some (.i64, (remI .i64 (wi (x3)) 38))) (by kernel_rfl) (tbE h5) (tbE h6)), .y (mm := [(Blk.flat 24 9 [([(.int .i64 x0)] ++ arrD .i64 x1 8)] x2), (Blk.flat 5 1 (List.map (encI .u8) (frame_Encode_iai9_r0_2 1 x0 x1)) false)]) (args := [(V.d (.int .i64 1)), (V.agg [(V.d (.bool true)), (V.sl 1 ((frame_Encode_iai9_r0_2 1 x0 x1).length) (0 : Int).toNat (((remI .i64 (wi (x3)) 38) : Int).toNat - (0 : Int).toNat))])]) (args1 := [(V.d (.int .i64 1)), (V.agg [(V.d (.bool true)), (V.d (.rs true 1 (List.map (encI .u8) (sub (frame_Encode_iai9_r0_2 1 x0 x1) 0 (remI .i64 (wi (x3)) 38))) false))])]) (byvals_cons (by kernel_rfl) (byvals_cons (byval_agg (byvals_cons (by kernel_rfl) (byvals_cons (byval_sp (enc := (encI .u8)) (l := (frame_Encode_iai9_r0_2 1 x0 x1)) (e := 5) (s := 1) (p := false) (n := ((frame_Encode_iai9_r0_2 1 x0 x1).length)) (lo := 0) (hi := (remI .i64 (wi (x3)) 38)) (Nat.beq_refl _) (by kernel_rfl) (tbE h5)) (by kernel_rfl)))) (by kernel_rfl))), .c (frame_Decode_iabl_t0 1 true (law05_FrameRejects_S1_e0 x0 x1 x3) (tbE h7)), .m 80 (o_app_sf (m := [(Blk.flat 24 9 [([(.int .i64 x0)] ++ arrD .i64 x1 8)] x2), (Blk.flat 5 1 (List.map (encI .u8) (frame_Encode_iai9_r0_2 1 x0 x1)) false), (Blk.flat 24 9 [([(.int .i64 (frame_Decode_iabl_r0_0 1 true (law05_FrameRejects_S1_e0 x0 x1 x3)))] ++ arrD .i64 (law05_FrameRejects_S1_e1 x0 x1 x3) 8)] false), (Blk.flat 5 1 [] false)]) (enc := (encI .u8)) (l0 := ([] : List Int)) (l1 := (frame_Encode_iai9_r0_2 1 x0 x1)) (id := 3) (e := 5) (s := 1) (bytes := 1) (x := (V.so (frame_Encode_iai9_r0_0 1 x0 x1) 1 ((frame_Encode_iai9_r0_2 1 x0 x1).length))) (n := 0) (by kernel_rfl) (by kernel_rfl) (flatRowsOf_so' (b := (frame_Encode_iai9_r0_0 1 x0 x1)) (e := 5) (s := 1) (p := false) (Nat.beq_refl _) (by kernel_rfl)) (by kernel_rfl) (tbE h8)), .m 83 (o_app_sf (m := [(Blk.flat 24 9 [([(.int .i64 x0)] ++ arrD .i64 x1 8)] x2), (Blk.flat 5 1 (List.map (encI .u8) (frame_Encode_iai9_r0_2 1 x0 x1)) false), (Blk.flat 24 9 [([(.int .i64 (frame_Decode_iabl_r0_0 1 true (law05_FrameRejects_S1_e0 x0 x1 x3)))] ++ arrD .i64 (law05_FrameRejects_S1_e1 x0 x1 x3) 8)] false), (Blk.flat 5 1 (List.map (encI .u8) (frame_Encode_iai9_r0_2 1 x0 x1)) false), (Blk.flat 5 1 [[(.int .u8 x4)]] false)]) (enc := (encI .u8)) (l0 := (frame_Encode_iai9_r0_2 1 x0 x1)) (l1 := [x4]) (id := 3) (e := 5) (s := 1) (bytes := 1) (x := (V.so false 4 1)) (n := ((frame_Encode_iai9_r0_2 1 x0 x1).length)) (Nat.beq_refl _) (by kernel_rfl) (by kernel_rfl) (by kernel_rfl) (tbE h9)), .y (mm := [(Blk.flat 24 9 [([(.int .i64 x0)] ++ arrD .i64 x1 8)] x2), (Blk.flat 5 1 (List.map (encI .u8) (frame_Encode_iai9_r0_2 1 x0 x1)) false), (Blk.flat 24 9 [([(.int .i64 (frame_Decode_iabl_r0_0 1 true (law05_FrameRejects_S1_e0 x0 x1 x3)))] ++ arrD .i64 (law05_FrameRejects_S1_e1 x0 x1 x3) 8)] false), (Blk.flat 5 1 (List.map (encI .u8) ((frame_Encode_iai9_r0_2 1 x0 x1) ++ [x4])) false), (Blk.flat 5 1 [[(.int .u8 x4)]] false)]) (args := [(V.d (.int .i64 1)), (V.agg [(V.d (.bool true)), (V.so false 3 (((frame_Encode_iai9_r0_2 1 x0 x1) ++ [x4]).length))])]) (args1 := [(V.d (.int .i64 1)), (V.agg [(V.d (.bool true)), (V.d (.rs true 1 (List.map (encI .u8) ((frame_Encode_iai9_r0_2 1 x0 x1) ++ [x4])) false))])]) (byvals_cons (by kernel_rfl) (byvals_cons (byval_agg (byvals_cons (by kernel_rfl) (byvals_cons (byval_so (enc := (encI .u8)) (l := ((frame_Encode_iai9_r0_2 1 x0 x1) ++ [x4])) (b := false) (e := 5) (s := 1) (p := false) (n := (((frame_Encode_iai9_r0_2 1 x0 x1) ++ [x4]).length)) (Nat.beq_refl _) (by kernel_rfl)) (by kernel_rfl)))) (by kernel_rfl))), .c (frame_Decode_iabl_t0 1 true ((frame_Encode_iai9_r0_2 1 x0 x1) ++ [x4]) (tbE h10))] (by kernel_rfl)
        · cases h5 : tb (law05_FrameRejects_S0_c0 (frame_Encode_iai9_r0_2 1 x0 x1) x4 (remI .i64 (wi (x3)) 38))
          · intro g0 g1
            exact absurd g1 ft
          · cases h6 : tb (law05_FrameRejects_S0_r0_3 (frame_Encode_iai9_r0_2 1 x0 x1) x4 (remI .i64 (wi (x3)) 38))
            · cases h7 : tb (ins ((frame_Encode_iai9_r0_2 1 x0 x1).length) 0 (remI .i64 (wi (x3)) 38))
              · intro g0 g1
                exact absurd g1 ft
              · cases h8 : tb (decide (0 < (remI .i64 (wi (x3)) 38)))
                · cases h9 : tb (frame_Encode_iai9_r0_0 1 x0 x1)
                  · cases h10 : tb (decide ((([] : List Int).length + (frame_Encode_iai9_r0_2 1 x0 x1).length) * 1 ≤ 140737488355328))
                    · intro g0 g1
                      exact absurd g1 ft
                    · cases h11 : tb (decide (((frame_Encode_iai9_r0_2 1 x0 x1).length + [x4].length) * 1 ≤ 140737488355328))
                      · intro g0 g1
                        exact absurd g1 ft
                      · cases h12 : tb (frame_Decode_iabl_c0 1 true ((frame_Encode_iai9_r0_2 1 x0 x1) ++ [x4]))
                        · intro g0 g1
                          exact absurd g1 ft
                        · intro g0 g1
                          exact seg_walk [.c (frame_Encode_iai9_t0 1 x0 x1 (tbE h1)), .b (tbE h2), .b (tbE h3), .b (tbE h4), .s (law05_FrameRejects_S0_t0 x0 x1 (frame_Encode_iai9_r0_2 1 x0 x1) x2 false x4 (frame_Encode_iai9_r0_0 1 x0 x1) (remI .i64 (wi (x3)) 38) (tbE h5)), .b (tbE h6), .m 72 (o_slice_sp0 (m := [(Blk.flat 24 9 [([(.int .i64 x0)] ++ arrD .i64 x1 8)] x2), (Blk.flat 5 1 (List.map (encI .u8) (frame_Encode_iai9_r0_2 1 x0 x1)) false)]) (enc := (encI .u8)) (l := (frame_Encode_iai9_r0_2 1 x0 x1)) (id := 1) (e := 5) (s := 1) (n := ((frame_Encode_iai9_r0_2 1 x0 x1).length)) (p := false) none (some (.i64, (remI .i64 (wi (x3)) 38))) (deSo_f (tbE h9)) (Nat.beq_refl _) (by kernel_rfl) (tbE h7) (tbE h8)), .c (frame_Decode_iabz_t0 1 true), .m 80 (o_app_sf (m := [(Blk.flat 24 9 [([(.int .i64 x0)] ++ arrD .i64 x1 8)] x2), (Blk.flat 5 1 (List.map (encI .u8) (frame_Encode_iai9_r0_2 1 x0 x1)) false), (Blk.flat 24 9 [([(.int .i64 0)] ++ arrD .i64 [0, 0, 0, 0, 0, 0, 0, 0] 8)] false), (Blk.flat 5 1 [] false)]) (enc := (encI .u8)) (l0 := ([] : List Int)) (l1 := (frame_Encode_iai9_r0_2 1 x0 x1)) (id := 3) (e := 5) (s := 1) (bytes := 1) (x := (V.so (frame_Encode_iai9_r0_0 1 x0 x1) 1 ((frame_Encode_iai9_r0_2 1 x0 x1).length))) (n := 0) (by kernel_rfl) (by kernel_rfl) (flatRowsOf_so' (b := (frame_Encode_iai9_r0_0 1 x0 x1)) (e := 5) (s := 1) (p := false) (Nat.beq_refl _) (by kernel_rfl)) (by kernel_rfl) (tbE h10)), .m 83 (o_app_sf (m := [(Blk.flat 24 9 [([(.int .i64 x0)] ++ arrD .i64 x1 8)] x2), (Blk.flat 5 1 (List.map (encI .u8) (frame_Encode_iai9_r0_2 1 x0 x1)) false), (Blk.flat 24 9 [([(.int .i64 0)] ++ arrD .i64 [0, 0, 0, 0, 0, 0, 0, 0] 8)] false), (Blk.flat 5 1 (List.map (encI .u8) (frame_Encode_iai9_r0_2 1 x0 x1)) false), (Blk.flat 5 1 [[(.int .u8 x4)]] false)]) (enc := (encI .u8)) (l0 := (frame_Encode_iai9_r0_2 1 x0 x1)) (l1 := [x4]) (id := 3) (e := 5) (s := 1) (bytes := 1) (x := (V.so false 4 1)) (n := ((frame_Encode_iai9_r0_2 1 x0 x1).length)) (Nat.beq_refl _) (by kernel_rfl) (by kernel_rfl) (by kernel_rfl) (tbE h11)), .y (mm := [(Blk.flat 24 9 [([(.int .i64 x0)] ++ arrD .i64 x1 8)] x2), (Blk.flat 5 1 (List.map (encI .u8) (frame_Encode_iai9_r0_2 1 x0 x1)) false), (Blk.flat 24 9 [([(.int .i64 0)] ++ arrD .i64 [0, 0, 0, 0, 0, 0, 0, 0] 8)] false), (Blk.flat 5 1 (List.map (encI .u8) ((frame_Encode_iai9_r0_2 1 x0 x1) ++ [x4])) false), (Blk.flat 5 1 [[(.int .u8 x4)]] false)]) (args := [(V.d (.int .i64 1)), (V.agg [(V.d (.bool true)), (V.so false 3 (((frame_Encode_iai9_r0_2 1 x0 x1) ++ [x4]).length))])]) (args1 := [(V.d (.int .i64 1)), (V.agg [(V.d (.bool true)), (V.d (.rs true 1 (List.map (encI .u8) ((frame_Encode_iai9_r0_2 1 x0 x1) ++ [x4])) false))])]) (byvals_cons (by kernel_rfl) (byvals_cons (byval_agg (byvals_cons (by kernel_rfl) (byvals_cons (byval_so (enc := (encI .u8)) (l := ((frame_Encode_iai9_r0_2 1 x0 x1) ++ [x4])) (b := false) (e := 5) (s := 1) (p := false) (n := (((frame_Encode_iai9_r0_2 1 x0 x1) ++ [x4]).length)) (Nat.beq_refl _) (by kernel_rfl)) (by kernel_rfl)))) (by kernel_rfl))), .c (frame_Decode_iabl_t0 1 true ((frame_Encode_iai9_r0_2 1 x0 x1) ++ [x4]) (tbE h12))] (by kernel_rfl)
                  · intro g0 g1
                    exact absurd g1 ft
                · cases h9 : tb (frame_Decode_iabl_c0 1 true (law05_FrameRejects_S1_e0 x0 x1 x3))
                  · intro g0 g1
                    exact absurd g1 ft
                  · cases h10 : tb (decide ((([] : List Int).length + (frame_Encode_iai9_r0_2 1 x0 x1).length) * 1 ≤ 140737488355328))
                    · intro g0 g1
                      exact absurd g1 ft
                    · cases h11 : tb (decide (((frame_Encode_iai9_r0_2 1 x0 x1).length + [x4].length) * 1 ≤ 140737488355328))
                      · intro g0 g1
                        exact absurd g1 ft
                      · cases h12 : tb (frame_Decode_iabl_c0 1 true ((frame_Encode_iai9_r0_2 1 x0 x1) ++ [x4]))
                        · intro g0 g1
                          exact absurd g1 ft
                        · intro g0 g1
                          exact seg_walk [.c (frame_Encode_iai9_t0 1 x0 x1 (tbE h1)), .b (tbE h2), .b (tbE h3), .b (tbE h4), .s (law05_FrameRejects_S0_t0 x0 x1 (frame_Encode_iai9_r0_2 1 x0 x1) x2 false x4 (frame_Encode_iai9_r0_0 1 x0 x1) (remI .i64 (wi (x3)) 38) (tbE h5)), .b (tbE h6), .m 72 (o_slice_spo (nl := (frame_Encode_iai9_r0_0 1 x0 x1)) (m := [(Blk.flat 24 9 [([(.int .i64 x0)] ++ arrD .i64 x1 8)] x2), (Blk.flat 5 1 (List.map (encI .u8) (frame_Encode_iai9_r0_2 1 x0 x1)) false)]) (enc := (encI .u8)) (l := (frame_Encode_iai9_r0_2 1 x0 x1)) (id := 1) (e := 5) (s := 1) (n := ((frame_Encode_iai9_r0_2 1 x0 x1).length)) (p := false) none (some (.i64, (remI .i64 (wi (x3)) 38))) (by kernel_rfl) (tbE h7) (tbE h8)), .y (mm := [(Blk.flat 24 9 [([(.int .i64 x0)] ++ arrD .i64 x1 8)] x2), (Blk.flat 5 1 (List.map (encI .u8) (frame_Encode_iai9_r0_2 1 x0 x1)) false)]) (args := [(V.d (.int .i64 1)), (V.agg [(V.d (.bool true)), (V.sl 1 ((frame_Encode_iai9_r0_2 1 x0 x1).length) (0 : Int).toNat (((remI .i64 (wi (x3)) 38) : Int).toNat - (0 : Int).toNat))])]) (args1 := [(V.d (.int .i64 1)), (V.agg [(V.d (.bool true)), (V.d (.rs true 1 (List.map (encI .u8) (sub (frame_Encode_iai9_r0_2 1 x0 x1) 0 (remI .i64 (wi (x3)) 38))) false))])]) (byvals_cons (by kernel_rfl) (byvals_cons (byval_agg (byvals_cons (by kernel_rfl) (byvals_cons (byval_sp (enc := (encI .u8)) (l := (frame_Encode_iai9_r0_2 1 x0 x1)) (e := 5) (s := 1) (p := false) (n := ((frame_Encode_iai9_r0_2 1 x0 x1).length)) (lo := 0) (hi := (remI .i64 (wi (x3)) 38)) (Nat.beq_refl _) (by kernel_rfl) (tbE h7)) (by kernel_rfl)))) (by kernel_rfl))), .c (frame_Decode_iabl_t0 1 true (law05_FrameRejects_S1_e0 x0 x1 x3) (tbE h9)), .m 80 (o_app_sf (m := [(Blk.flat 24 9 [([(.int .i64 x0)] ++ arrD .i64 x1 8)] x2), (Blk.flat 5 1 (List.map (encI .u8) (frame_Encode_iai9_r0_2 1 x0 x1)) false), (Blk.flat 24 9 [([(.int .i64 (frame_Decode_iabl_r0_0 1 true (law05_FrameRejects_S1_e0 x0 x1 x3)))] ++ arrD .i64 (law05_FrameRejects_S1_e1 x0 x1 x3) 8)] false), (Blk.flat 5 1 [] false)]) (enc := (encI .u8)) (l0 := ([] : List Int)) (l1 := (frame_Encode_iai9_r0_2 1 x0 x1)) (id := 3) (e := 5) (s := 1) (bytes := 1) (x := (V.so (frame_Encode_iai9_r0_0 1 x0 x1) 1 ((frame_Encode_iai9_r0_2 1 x0 x1).length))) (n := 0) (by kernel_rfl) (by kernel_rfl) (flatRowsOf_so' (b := (frame_Encode_iai9_r0_0 1 x0 x1)) (e := 5) (s := 1) (p := false) (Nat.beq_refl _) (by kernel_rfl)) (by kernel_rfl) (tbE h10)), .m 83 (o_app_sf (m := [(Blk.flat 24 9 [([(.int .i64 x0)] ++ arrD .i64 x1 8)] x2), (Blk.flat 5 1 (List.map (encI .u8) (frame_Encode_iai9_r0_2 1 x0 x1)) false), (Blk.flat 24 9 [([(.int .i64 (frame_Decode_iabl_r0_0 1 true (law05_FrameRejects_S1_e0 x0 x1 x3)))] ++ arrD .i64 (law05_FrameRejects_S1_e1 x0 x1 x3) 8)] false), (Blk.flat 5 1 (List.map (encI .u8) (frame_Encode_iai9_r0_2 1 x0 x1)) false), (Blk.flat 5 1 [[(.int .u8 x4)]] false)]) (enc := (encI .u8)) (l0 := (frame_Encode_iai9_r0_2 1 x0 x1)) (l1 := [x4]) (id := 3) (e := 5) (s := 1) (bytes := 1) (x := (V.so false 4 1)) (n := ((frame_Encode_iai9_r0_2 1 x0 x1).length)) (Nat.beq_refl _) (by kernel_rfl) (by kernel_rfl) (by kernel_rfl) (tbE h11)), .y (mm := [(Blk.flat 24 9 [([(.int .i64 x0)] ++ arrD .i64 x1 8)] x2), (Blk.flat 5 1 (List.map (encI .u8) (frame_Encode_iai9_r0_2 1 x0 x1)) false), (Blk.flat 24 9 [([(.int .i64 (frame_Decode_iabl_r0_0 1 true (law05_FrameRejects_S1_e0 x0 x1 x3)))] ++ arrD .i64 (law05_FrameRejects_S1_e1 x0 x1 x3) 8)] false), (Blk.flat 5 1 (List.map (encI .u8) ((frame_Encode_iai9_r0_2 1 x0 x1) ++ [x4])) false), (Blk.flat 5 1 [[(.int .u8 x4)]] false)]) (args := [(V.d (.int .i64 1)), (V.agg [(V.d (.bool true)), (V.so false 3 (((frame_Encode_iai9_r0_2 1 x0 x1) ++ [x4]).length))])]) (args1 := [(V.d (.int .i64 1)), (V.agg [(V.d (.bool true)), (V.d (.rs true 1 (List.map (encI .u8) ((frame_Encode_iai9_r0_2 1 x0 x1) ++ [x4])) false))])]) (byvals_cons (by kernel_rfl) (byvals_cons (byval_agg (byvals_cons (by kernel_rfl) (byvals_cons (byval_so (enc := (encI .u8)) (l := ((frame_Encode_iai9_r0_2 1 x0 x1) ++ [x4])) (b := false) (e := 5) (s := 1) (p := false) (n := (((frame_Encode_iai9_r0_2 1 x0 x1) ++ [x4]).length)) (Nat.beq_refl _) (by kernel_rfl)) (by kernel_rfl)))) (by kernel_rfl))), .c (frame_Decode_iabl_t0 1 true ((frame_Encode_iai9_r0_2 1 x0 x1) ++ [x4]) (tbE h12))] (by kernel_rfl)
            · intro g0 g1
              exact absurd g0 tf
      · intro g0 g1
        exact absurd g0 tf
    · intro g0 g1
      exact absurd g0 tf
def law05_FrameRejects_S2_r0_0 (x3 : Int) (x4 : Int) : Bool := (bif tb ((x3 : Int) == 2) then ((x4 : Int) == 2) else false)
theorem law05_FrameRejects_S2_t0 (x0 : Int) (x1 : List Int) (x2 : Bool) (x3 : Int) (x4 : Int) : segG (runC E0 (cl E0) S5_2) [15, 17] [] [6] 1 ([(V.d (.int .i64 x3)), (V.d (.int .i64 x4))], [(Blk.flat 24 9 [([(.int .i64 x0)] ++ arrD .i64 x1 8)] x2)]) = some (.normal, ([(V.d (.bool (law05_FrameRejects_S2_r0_0 x3 x4)))], [(Blk.flat 24 9 [([(.int .i64 x0)] ++ arrD .i64 x1 8)] x2)])) := by
  unfold law05_FrameRejects_S2_r0_0
  cases h1 : tb ((x3 : Int) == 2)
  · exact seg_walk [.c (law05_alive_t0), .k true, .b (tbE h1)] (by kernel_rfl)
  · exact seg_walk [.c (law05_alive_t0), .k true, .b (tbE h1)] (by kernel_rfl)
def law05_FrameRejects_e0 (x0 : Int) (x1 : List Int) (x3 : Int) : Int := (frame_Decode_iabl_r0_2 1 true ((frame_Encode_iai9_r0_2 1 x0 x1) ++ [x3]))
def law05_FrameRejects_c0 (x0 : Int) (x1 : List Int) (x2 : Int) (x3 : Int) : Bool := (bif tb (law05_FrameRejects_S1_c0 x0 x1 x2 x3) then true else (bif tb (law05_FrameRejects_S1_c1 x0 x1 x2 x3) then true else false))
def law05_FrameRejects_r0_0 (x0 : Int) (x1 : List Int) (x2 : Int) (x3 : Int) : Bool := (bif tb (law05_FrameRejects_S1_c0 x0 x1 x2 x3) then (law05_FrameRejects_S1_r0_0 x0 x1) else (law05_FrameRejects_S2_r0_0 (law05_FrameRejects_S1_r1_0 x0 x1 x2 x3) (law05_FrameRejects_e0 x0 x1 x3)))
theorem law05_FrameRejects_t0 (x0 : Int) (x1 : List Int) (x2 : Int) (x3 : Int) : law05_FrameRejects_c0 x0 x1 x2 x3 = true → cl E0 5 [(V.agg [(V.d (.int .i64 x0)), (V.d (.int .i64 (gt x1 0))), (V.d (.int .i64 (gt x1 1))), (V.d (.int .i64 (gt x1 2))), (V.d (.int .i64 (gt x1 3))), (V.d (.int .i64 (gt x1 4))), (V.d (.int .i64 (gt x1 5))), (V.d (.int .i64 (gt x1 6))), (V.d (.int .i64 (gt x1 7)))]), (V.d (.int .u8 x2)), (V.d (.int .u8 x3))] [] = some ([(V.d (.bool (law05_FrameRejects_r0_0 x0 x1 x2 x3)))], []) := by
  unfold law05_FrameRejects_c0 law05_FrameRejects_r0_0
  cases h1 : tb (law05_FrameRejects_S1_c0 x0 x1 x2 x3)
  · cases h2 : tb (law05_FrameRejects_S1_c1 x0 x1 x2 x3)
    · intro g0
      exact absurd g0 ft
    · intro g0
      exact w5 [.s (law05_FrameRejects_S1_t1 x0 x1 false x2 x3 (tbE h1) (tbE h2)), .s (law05_FrameRejects_S2_t0 x0 x1 false (law05_FrameRejects_S1_r1_0 x0 x1 x2 x3) (law05_FrameRejects_e0 x0 x1 x3))] (by kernel_rfl)
  · intro g0
    exact w5 [.s (law05_FrameRejects_S1_t0 x0 x1 false x2 x3 (tbE h1))] (by kernel_rfl)
end Go.Proofs.YtkipngagfiaddaaDoor.Den

namespace Go.Proofs.YtkipngagfiaddaaDoor.Den
open Go Go.Proofs
set_option linter.unusedVariables false
set_option linter.unusedSimpArgs false
theorem decode_l (ch : Int) (is : Bool) {l : List Int} (h : Sm l) : frame_Decode_iabl_c0 ch is l = true ∧ frame_Decode_iabl_r0_2 ch is l = rejOf ch is l ∧
    frame_Decode_iabl_r0_0 ch is l = (if rejOf ch is l = 0 then seqOf l else 0) ∧ frame_Decode_iabl_r0_1 ch is l = (if rejOf ch is l = 0 then valsOf l else z8) := decode_eq ch is false h
theorem rej_len {ch : Int} {l : List Int} (h : l.length ≠ 38) : rejOf ch true l = 2 := by simp [rejOf, h]
theorem changed {s : Int} {x : List Int} (h : x.length = 8) (hok : okF 1 s x = true) {k : Nat} (hk : k < 38) {v : Int} (hv : 0 ≤ v ∧ v ≤ 255) (hne : v ≠ 0) :
    Sm (st (sealed (bodyF 1 s x)) (k : Int) (IntKind.u8.wrap (gt (sealed (bodyF 1 s x)) (k : Int) + v))) ∧
    rejOf 1 true (st (sealed (bodyF 1 s x)) (k : Int) (IntKind.u8.wrap (gt (sealed (bodyF 1 s x)) (k : Int) + v))) = (if k = 0 then 3 else if k = 1 then 4 else 5) := by
  obtain ⟨b1, b2, _, _⟩ := back_F h hok
  obtain ⟨_, l38, g0, g1, gk⟩ := rej_fine b2
  generalize sealed (bodyF 1 s x) = B at *
  have hkl : k < B.length := by omega
  have bk := wfI_u8 (b1.b _ (List.getElem_mem hkl))
  rw [gt_nat hkl, u8_wrap_int]
  have hst : st B (k : Int) ((B[k] + v) % 256) = B.set k ((B[k] + v) % 256) := rfl
  rw [hst]
  obtain ⟨c1, c2⟩ := set_bad b1 (by omega) gk hkl (v := (B[k] + v) % 256) (by omega) (by omega)
  refine ⟨c1, ?_⟩
  have hl : (B.set k ((B[k] + v) % 256)).length = 38 := by simp [l38]
  have e0 : gt (B.set k ((B[k] + v) % 256)) 0 = if k = 0 then (B[k] + v) % 256 else 165 := by
    rw [show (0 : Int) = ((0 : Nat) : Int) from rfl, gt_nat (by omega), List.getElem_set]
    split
    · rfl
    · rw [← gt_nat (by omega)]; exact g0
  have e1 : gt (B.set k ((B[k] + v) % 256)) 1 = if k = 1 then (B[k] + v) % 256 else 1 := by
    rw [show (1 : Int) = ((1 : Nat) : Int) from rfl, gt_nat (by omega), List.getElem_set]
    split
    · rfl
    · rw [← gt_nat (by omega)]; exact g1
  simp only [rejOf, hl, e0, e1, c2, if_true]
  rcases (by omega : k = 0 ∨ k = 1 ∨ 2 ≤ k) with rfl | rfl | h2
  · have hb : B[0] = 165 := by rw [← gt_nat hkl]; exact g0
    rw [if_pos rfl, hb, if_neg (by omega)]; rfl
  · have hb : B[1] = 1 := by rw [← gt_nat hkl]; exact g1
    simp only [if_true, hb]
    rw [if_neg (by omega : ¬ (1 : Nat) = 0), if_pos rfl, if_neg (by omega)]; rfl
  · have k0 : ¬ k = 0 := by omega
    have k1 : ¬ k = 1 := by omega
    simp [k0, k1]
theorem pure_FrameRejects (x0 : Int) (x1 : List Int) (x2 : Int) (x3 : Int) (wx0 : WfI .i64 x0) (wx1 : x1.length = 8 ∧ ∀ z ∈ x1, WfI .i64 z) (wx2 : WfI .u8 x2) (wx3 : WfI .u8 x3) : law05_FrameRejects_c0 x0 x1 x2 x3 = true ∧ (law05_FrameRejects_r0_0 x0 x1 x2 x3) = true := by
  obtain ⟨h8, _⟩ := wx1
  obtain ⟨n1, n2, n3, n4⟩ := encode_eq 1 x0 h8
  have b2 := wfI_u8 wx2
  have b3 := wfI_u8 wx3
  cases hok : okF 1 x0 x1 with
  | false =>
    rw [hok] at n2 n3 n4
    simp only [Bool.false_eq_true, if_false] at n3 n4
    have c0 : law05_FrameRejects_S1_c0 x0 x1 x2 x3 = true := by simp only [law05_FrameRejects_S1_c0, n1, n3, tb_eq]; rfl
    have r0 : law05_FrameRejects_S1_r0_0 x0 x1 = true := by simp only [law05_FrameRejects_S1_r0_0, n3, n4, tb_eq]; rfl
    simp only [law05_FrameRejects_c0, law05_FrameRejects_r0_0, c0, r0, tb_eq, cond_true, and_self]
  | true =>
    rw [hok] at n2 n3 n4
    simp only [if_true, Bool.not_true] at n2 n3 n4
    obtain ⟨k, hk, hkk⟩ : ∃ k : Nat, k < 38 ∧ remI .i64 (wi x2) 38 = (k : Int) := by
      refine ⟨x2.toNat % 38, by omega, ?_⟩
      rw [wi_eq (by omega) (by omega)]
      rw [show remI .i64 x2 38 = x2 % 38 by unfold remI; exact Int.tmod_eq_emod_of_nonneg (by omega)]; omega
    obtain ⟨q1, q2, _, _⟩ := back_F h8 hok
    obtain ⟨_, l38, _, _, _⟩ := rej_fine q2
    have hch := fun (hne : x3 ≠ 0) => changed (s := x0) h8 hok hk b3 hne
    generalize sealed (bodyF 1 x0 x1) = B at *
    have a0 : ((((B.length : Nat) : Int) : Int) != 38) = false := by rw [l38]; rfl
    have a1 : Sm (B ++ [x3]) := ⟨fun z hz => by
      rcases List.mem_append.1 hz with hz | hz
      · exact q1.b z hz
      · simp at hz; subst hz; exact wx3, by simp [l38]⟩
    obtain ⟨d1, d2, _, _⟩ := decode_l 1 true a1
    rw [rej_len (by simp [l38])] at d2
    have s1 : sub B 0 (k : Int) = B.take k := by unfold sub; simp
    obtain ⟨t1, t2, _, _⟩ := decode_l 1 true (q1.take k)
    rw [rej_len (by simp [l38]; omega)] at t2
    have i0 : ins B.length 0 (k : Int) = true := by simp only [ins, Bool.and_eq_true, decide_eq_true_eq, l38]; omega
    have z1 : decide ((([] : List Int).length + B.length) * 1 ≤ 140737488355328) = true := decide_eq_true (by simp [l38])
    have z2 : decide ((B.length + [x3].length) * 1 ≤ 140737488355328) = true := decide_eq_true (by simp [l38])
    have iz : frame_Decode_iabz_S0_r0_0 true = 2 := rfl
    have e2 : law05_FrameRejects_e0 x0 x1 x3 = 2 := by simp only [law05_FrameRejects_e0, n4, d2]
    have r1 : law05_FrameRejects_S1_r1_0 x0 x1 x2 x3 = 2 := by
      simp only [law05_FrameRejects_S1_r1_0, law05_FrameRejects_S1_e0, n4, hkk, s1, t2, iz, Bool.cond_self]
    have n3' : ((0 : Int) != 0) = false := rfl
    have s2 : law05_FrameRejects_S2_r0_0 2 2 = true := rfl
    by_cases hx : x3 = 0
    · have hx0 : (x3 != 0) = false := by simp [hx]
      have c0 : law05_FrameRejects_S1_c0 x0 x1 x2 x3 = false := by
        simp only [law05_FrameRejects_S1_c0, n1, n3, n4, n3', a0, hx0, tb_eq, cond_true, cond_false]
      have c1 : law05_FrameRejects_S1_c1 x0 x1 x2 x3 = true := by
        simp only [law05_FrameRejects_S1_c1, law05_FrameRejects_S1_e0, n1, n2, n3, n4, n3', a0, hx0, hkk, i0, s1, t1, z1, z2, d1, tb_eq, cond_true, cond_false, Bool.cond_self]
      simp only [law05_FrameRejects_c0, law05_FrameRejects_r0_0, c0, c1, r1, e2, s2, tb_eq, cond_true, cond_false, and_self]
    · have hx0 : (x3 != 0) = true := by simp [hx]
      obtain ⟨m1, m2⟩ := hch hx
      obtain ⟨o1, o2, o3, o4⟩ := decode_l 1 true m1
      have hnz : rejOf 1 true (st B (k : Int) (IntKind.u8.wrap (gt B (k : Int) + x3))) ≠ 0 := by rw [m2]; repeat' split <;> omega
      rw [if_neg hnz] at o3 o4
      rw [m2] at o2
      have ik : inb B.length (k : Int) = true := inb_of (by omega) (by omega)
      have f1 : law05_FrameRejects_S0_e1 B x3 (k : Int) = false := by
        simp only [law05_FrameRejects_S0_e1, law05_FrameRejects_S0_e0, o3, o4, z8]; rfl
      have f0 : law05_FrameRejects_S0_c0 B x3 (k : Int) = true := by
        simp only [law05_FrameRejects_S0_c0, z1, ik, o1, tb_eq, cond_true]
      have f3 : law05_FrameRejects_S0_r0_3 B x3 (k : Int) = false := by
        simp only [law05_FrameRejects_S0_r0_3, o2, f1, tb_eq]
        rcases (by omega : k = 0 ∨ k = 1 ∨ 2 ≤ k) with rfl | rfl | h2
        · rfl
        · rfl
        · have g0 : ((k : Int) == 0) = false := by rw [beq_eq_false_iff_ne]; omega
          have g1 : ((k : Int) == 1) = false := by rw [beq_eq_false_iff_ne]; omega
          rw [g0, g1, if_neg (by omega), if_neg (by omega)]; rfl
      have c0 : law05_FrameRejects_S1_c0 x0 x1 x2 x3 = false := by
        simp only [law05_FrameRejects_S1_c0, n1, n3, n4, n3', a0, hx0, hkk, f0, f3, tb_eq, cond_true, cond_false]
      have c1 : law05_FrameRejects_S1_c1 x0 x1 x2 x3 = true := by
        simp only [law05_FrameRejects_S1_c1, law05_FrameRejects_S1_e0, n1, n2, n3, n4, n3', a0, hx0, hkk, f0, f3, i0, s1, t1, z1, z2, d1, tb_eq, cond_true, cond_false, Bool.cond_self]
      simp only [law05_FrameRejects_c0, law05_FrameRejects_r0_0, c0, c1, r1, e2, s2, tb_eq, cond_true, cond_false, and_self]
end Go.Proofs.YtkipngagfiaddaaDoor.Den

namespace Go.Proofs.YtkipngagfiaddaaDoor.Den
open Go Go.ChangeShapes Go.WideShapes Go.ChangeAt Go.RowKit
set_option linter.unusedVariables false
set_option linter.unusedSimpArgs false
theorem law_laid {C : Checked} (hm : C.prog.follows .mixedOrders = true) {E : Env} (hE : EnvOK C.prog E) {laid : List (String × DataW Unit)} (hgl : ∀ w, laidMetH C.prog laid w → GlOK E (cx0 w)) {os : Os} {f : FuncId} {fn : Func} {s : ChangeSpec} {H : Type} {enc : TypeId × Value → H}
    (own : ownKnob C.prog.godebug = none) (started : os.Started) (noInit : C.prog.inits.idxOf? f = none) (hfn : C.prog.funcs[f]? = some fn) (hl : laidOutB C.prog = true)
    (witness : ∃ (w : World) (tape : Tape) (i : Input), w.os = os ∧ (w.forCall tape i).Shaped C.prog ∧ i.vars = [] ∧ Input.okWide C.prog (w.forCall tape i) .any w.heap.size f i ∧
      ((s.pre enc C.prog fn [] false (w.forCall tape i).memory i.args ∧ laidMetH C.prog laid (w.forCall tape i).memory) ∧ sizedMet enc C.prog fn (OpenSpec.ofChange s) false (w.forCall tape i).memory i.args) ∧
        Assume.holds {} C.prog (lone (Frame.enter C.prog f i.args .normal) [] (w.forCall tape i)))
    (hgood : (fn.params.toList.all fun t => goodT C.prog 20 t && C.prog.readableRec t && decide (t < C.prog.types.size)) = true) {rt : TypeId} (hres : fn.resultTypes = #[rt]) (hrt : C.prog.underlying rt = some .bool)
    (hvars : s.vars = []) (hspec : ∀ ds : List (DataW H), ds.length = fn.params.toList.length → s.fn H ds = { results := [.lit (.bool true)], args := ds })
    (hlaw : ∀ rs, TyAll C.prog 20 fn.params.toList rs → ∃ k m', callD E k f (argsV C.prog fn.params.toList rs) [] = some ([.d (.bool true)], m')) :
    ReturnsInHanded {} C os f .any (fun w args => (s.pre enc C.prog fn [] false w args ∧ laidMetH C.prog laid w) ∧ sizedMet enc C.prog fn (OpenSpec.ofChange s) false w args) (s.post enc C.prog fn false true false false) := by
  refine returnsInHanded_of_change_and (X := fun w _ => laidMetH C.prog laid w) (fun _ _ _ hh h => h.of_heap hh) own started noInit hfn witness ?_
  intro W base args ds gs before hval hW _ hsz hL _
  have hW' := hW
  obtain ⟨p, q, hA, hV, rfl, hfz, hnd⟩ := hW
  rw [hvars] at hV
  obtain ⟨rfl, rfl⟩ := trodVars_none hV
  have hgd : ∀ t, t ∈ fn.params.toList → goodT C.prog 20 t = true ∧ C.prog.readableRec t = true ∧ t < C.prog.types.size := fun t ht => by
    have := List.all_eq_true.1 hgood t ht
    simpa [Bool.and_eq_true, and_assoc] using this
  obtain ⟨rs, h1, h2⟩ := open_args (n := 20) fn.params.toList args.toList ds p (List.all_eq_true.2 fun t ht => (hgd t ht).1) (fun j t v ht hv => hval j t v (by simpa using ht) (by simpa using hv)) (fun m hm => of_decide_eq_true (List.all_eq_true.1 hsz m (weightsEach_app hm))) hA
  obtain ⟨k, m', hk⟩ := hlaw rs h1
  refine (calls_law hm hE (hgl W hL) h2 hk).mono fun e W' ⟨he, bel⟩ => ?_
  subst he
  have hlen : ds.length = fn.params.toList.length := by
    have : ∀ (ts : List TypeId) (vs : List Value) (ds : List (DataW H)) (ps : List MemPlace), DataW.TrodAll enc C.prog W 0 (fun _ => true) true ts vs ds ps → ds.length = ts.length := by
      intro ts
      induction ts with
      | nil => intro vs ds ps h; obtain ⟨_, rfl, _⟩ := trodAll_nil h; rfl
      | cons t ts ih => intro vs ds ps h; obtain ⟨v, vs', d, ds', p, q, rfl, rfl, rfl, _, h2⟩ := trodAll_cons h; simp [ih _ _ _ h2]
    exact this _ _ _ _ hA
  have hs := hspec ds hlen
  refine ⟨_, rfl, ds, [], _, [], p, [], hW', ?_, ?_, ?_, bel.frame _, fun h => by cases h⟩
  · rw [List.append_nil, hs, hres]
    exact trodAll_mk1 (shut_bool hrt _)
  · rw [List.append_nil, hs]
    exact args_back hl bel _ _ _ _ (fun t ht => (hgd t ht).2) (fun x hx => by simpa using hW'.lt x (by simpa using hx)) hA
  · rw [hvars, List.append_nil, hs]; rfl
theorem held_texts {P : Program} {W : World} {name : String} {g t n e : Nat} {ss : List ByteArray} {rest : List (String × DataW Unit)} (hg : P.globalNamed name = some g) (ht : (P.globals[g]?).map (·.type) = some t) (hu : P.underlying t = some (.array n e))
    (he : P.underlying e = some .string) (hce : P.cellsOf e = 1) (hct : P.cellsOf t = n) (hn : ss.length = n) (h : laidMet P ((name, .agg (ss.map fun s => .lit (.string s.data.toList))) :: rest) W) : Held (immAll W) W g 0 (ss.map D.str) := by
  obtain ⟨ps, hlv, _, _⟩ := h
  obtain ⟨g', t', cs, fuel, p, q, hg', ht', hv, hd, _, _⟩ := hlv
  obtain rfl := Option.some.inj (hg.symm.trans hg')
  obtain rfl := Option.some.inj (ht.symm.trans ht')
  obtain ⟨xs, m, _, ex, hlen, hl, hel⟩ := DataW.trod_array hu hd
  have e1 := (DataW.agg.inj (Prod.mk.inj ex).1)
  have hsz : g < W.heap.size := by
    simp only [World.var?, hg, Option.bind_some] at hv
    rcases Nat.lt_or_ge g W.heap.size with h | h
    · exact h
    · have : W.heap[g]? = none := by simp [h]
      rw [this] at hv; simp at hv
  have hcell : ∀ i (hi : i < ss.length), W.cell? ⟨g, i, none⟩ = some (.string ss[i]) := fun i hi => by
    have hx := hel i (by omega)
    have hi' : i < xs.length := by omega
    rw [List.getElem?_eq_getElem hi', hce, Nat.mul_one] at hx
    obtain ⟨s, h1, h2, _⟩ := DataW.trod_string he hx
    have h3 : (xs.map (·.1))[i]? = (ss.map fun s => (DataW.lit (.string s.data.toList) : DataW Unit))[i]? := by rw [e1]
    rw [List.getElem?_map, List.getElem?_map, List.getElem?_eq_getElem hi', List.getElem?_eq_getElem hi, h2] at h3
    simp only [Option.map_some, Option.some.injEq, DataW.lit.injEq, Lit.string.injEq] at h3
    have hs : s = ss[i] := by
      have : s.data = ss[i].data := Array.ext' h3
      cases s; cases hh : ss[i]; rw [hh] at this; cases this; rfl
    rw [World.var?_cell hg hv i, ← hs]
    have h4 : (cs.toList.drop i)[0]? = some (.string s) := by
      have : ((cs.toList.drop i).take 1)[0]? = some (Value.string s) := by rw [h1]; rfl
      simpa [List.getElem?_take] using this
    simpa using h4
  have key : ∀ (l : List ByteArray) (o : Nat), (∀ i (hi : i < l.length), W.cell? ⟨g, o + i, none⟩ = some (.string l[i])) → Held (immAll W) W g o (l.map D.str) := by
    intro l
    induction l with
    | nil => intro o _; simp [Held]
    | cons s r ih =>
      intro o hc
      simp only [List.map_cons, Held]
      refine ⟨⟨.string s, hc 0 (by simp), hsz, trivial, by simp [RelD]⟩, ih (o + 1) fun i hi => ?_⟩
      have := hc (i + 1) (by simp; omega)
      rw [show o + 1 + i = o + (i + 1) by omega]; simpa using this
  exact key ss 0 fun i hi => by simpa using hcell i hi
end Go.Proofs.YtkipngagfiaddaaDoor.Den

namespace Go.Proofs.YtkipngagfiaddaaDoor.Den
open Go Go.Proofs
open Go.Proofs.YtkipngagfiaddaaDoor (Rows.laid_rudder_frame_names)
set_option maxRecDepth 100000
theorem own : ownKnob Tryd.prog.godebug = none := by kernel_rfl
theorem laidOut : laidOutB Tryd.prog = true := by kernel_rfl
theorem mixed : Tryd.prog.follows .mixedOrders = true := by kernel_rfl
theorem envOK : EnvOK Tryd.prog E0 := ⟨e0_cf, ext_ok rfl e0_x, e0_del⟩
theorem gl_only {g : Nat} {cs : List D} (h : E0.gl g = some cs) : g = 0 ∧ cs = gls0.map D.str := by
  have e : E0.gl g = (match Nat.beq g 0 with | true => some (gls0.map D.str) | false => none) := rfl
  rw [e] at h
  split at h
  · rename_i hb
    exact ⟨Nat.eq_of_beq_eq_true hb, (Option.some.inj h).symm⟩
  · cases h
theorem glOK (w : World) (h : laidMetH Tryd.prog [("rudder/frame.names", Rows.laid_rudder_frame_names)] w) : GlOK E0 (cx0 w) := fun g cs hg => by
  rw [MakeChecks.laidMetH_plain _ _ _ (by kernel_rfl)] at h
  have h' : laidMet Tryd.prog (("rudder/frame.names", .agg (gls0.map fun s => .lit (.string s.data.toList))) :: []) w := h
  have hh := held_texts (g := 0) (t := 79) (n := 7) (e := 9) (by kernel_rfl) (by kernel_rfl) Tryd.underlying79 Tryd.underlying9 (by kernel_rfl) (by kernel_rfl) rfl h'
  obtain ⟨rfl, rfl⟩ := gl_only hg
  simp only [RelD]
  exact ⟨0, 0, rfl, hh⟩
end Go.Proofs.YtkipngagfiaddaaDoor.Den

namespace Go.Proofs.YtkipngagfiaddaaDoor.Den
open Go Go.Proofs Go.ChangeShapes Go.WideShapes Go.ChangeAt Go.RowKit
open Go.Proofs.YtkipngagfiaddaaDoor (Rows.frameRejectsSpec Rows.frameRejectsRow Rows.FrameRejectsSaid Rows.FrameRejectsCardSaid Rows.frameRejectsCard frameRejects_row_tie Rows.laid_rudder_frame_names)
set_option maxRecDepth 100000
set_option linter.unusedSimpArgs false
set_option linter.unusedVariables false
theorem row5 (rs : List (List D)) (h : TyAll Tryd.prog 20 Tryd.f5.params.toList rs) : ∃ k m', callD E0 k 5 (argsV Tryd.prog Tryd.f5.params.toList rs) [] = some ([.d (.bool true)], m') := by
  rw [Tryd.params5] at h ⊢
  simp only [TyAll] at h
  obtain ⟨_, _, rfl, q0, _, _, rfl, q1, _, _, rfl, q2, rfl⟩ := h
  have k0 := flatK_ok 20 _ _ _ (show flatK Tryd.prog 20 24 = some [.i .i64, .i .i64, .i .i64, .i .i64, .i .i64, .i .i64, .i .i64, .i .i64, .i .i64] by kernel_rfl) q0
  simp only [CellsK, CellK] at k0
  obtain ⟨_, _, rfl, ⟨a0_0, rfl, w0_0⟩, _, _, rfl, ⟨a0_1, rfl, w0_1⟩, _, _, rfl, ⟨a0_2, rfl, w0_2⟩, _, _, rfl, ⟨a0_3, rfl, w0_3⟩, _, _, rfl, ⟨a0_4, rfl, w0_4⟩, _, _, rfl, ⟨a0_5, rfl, w0_5⟩, _, _, rfl, ⟨a0_6, rfl, w0_6⟩, _, _, rfl, ⟨a0_7, rfl, w0_7⟩, _, _, rfl, ⟨a0_8, rfl, w0_8⟩, rfl⟩ := k0
  have k1 := flatK_ok 20 _ _ _ (show flatK Tryd.prog 20 5 = some [.i .u8] by kernel_rfl) q1
  simp only [CellsK, CellK] at k1
  obtain ⟨_, _, rfl, ⟨a1_0, rfl, w1_0⟩, rfl⟩ := k1
  have k2 := flatK_ok 20 _ _ _ (show flatK Tryd.prog 20 5 = some [.i .u8] by kernel_rfl) q2
  simp only [CellsK, CellK] at k2
  obtain ⟨_, _, rfl, ⟨a2_0, rfl, w2_0⟩, rfl⟩ := k2
  simp only [argsV, argV, Tryd.underlying5, Tryd.underlying24, List.map_cons, List.map_nil]
  obtain ⟨g1, g2⟩ := pure_FrameRejects a0_0 [a0_1, a0_2, a0_3, a0_4, a0_5, a0_6, a0_7, a0_8] a1_0 a2_0 w0_0 ⟨rfl, (List.forall_mem_cons.2 ⟨w0_1, (List.forall_mem_cons.2 ⟨w0_2, (List.forall_mem_cons.2 ⟨w0_3, (List.forall_mem_cons.2 ⟨w0_4, (List.forall_mem_cons.2 ⟨w0_5, (List.forall_mem_cons.2 ⟨w0_6, (List.forall_mem_cons.2 ⟨w0_7, (List.forall_mem_cons.2 ⟨w0_8, (fun z hz => by cases hz)⟩)⟩)⟩)⟩)⟩)⟩)⟩)⟩)⟩ w1_0 w2_0
  have hc := law05_FrameRejects_t0 a0_0 [a0_1, a0_2, a0_3, a0_4, a0_5, a0_6, a0_7, a0_8] a1_0 a2_0 g1
  rw [g2] at hc
  obtain ⟨k, hk⟩ := of_cl hc
  exact ⟨k, _, hk⟩
theorem frameRejects_lifted (os : Os) (started : os.Started) (H : Type) (enc : TypeId × Value → H) :
    ReturnsInHanded {} Tryd.checked os 5 .any (fun w args => (Rows.frameRejectsSpec.pre enc Tryd.prog Tryd.f5 [] false w args ∧ laidMetH Tryd.prog [("rudder/frame.names", Rows.laid_rudder_frame_names)] w) ∧ sizedMet enc Tryd.prog Tryd.f5 (OpenSpec.ofChange Rows.frameRejectsSpec) false w args) (Rows.frameRejectsSpec.post enc Tryd.prog Tryd.f5 false true false false) :=
  law_laid (C := Tryd.checked) (fn := Tryd.f5) mixed envOK glOK own started (by kernel_rfl) Tryd.func5 laidOut
    (ChangeSpec.witness_at (enc := enc) (C := Tryd.checked) (os := os) (X := fun w _ => laidMetH Tryd.prog [("rudder/frame.names", Rows.laid_rudder_frame_names)] w) false (World.laidAll Tryd.prog os [("rudder/frame.names", Rows.laid_rudder_frame_names)]) #[.agg #[.int .i64 0, .int .i64 0, .int .i64 0, .int .i64 0, .int .i64 0, .int .i64 0, .int .i64 0, .int .i64 0, .int .i64 0], .int .u8 0, .int .u8 0] 8 (World.laidAll_os _ _ _) (by kernel_rfl) (by kernel_rfl) (by kernel_rfl) (by kernel_rfl) (by kernel_rfl)
      (by rw [MakeChecks.laidMetH_plain _ _ _ (by kernel_rfl)]; exact laidMet_laidAll _ (by kernel_rfl) (by kernel_rfl)))
    (by kernel_rfl) (rt := 4) rfl Tryd.underlying4 rfl
    (fun ds h => by
      match ds, h with
      | [_, _, _], _ => rfl)
    row5
theorem frameRejects_row : Rows.FrameRejectsSaid :=
  OpenClaim.holds_of_wide 5 Tryd.f5 rfl rfl rfl rfl rfl rfl rfl ⟨rfl, rfl, rfl, rfl, rfl⟩ rfl rfl rfl rfl rfl (by kernel_rfl) Tryd.func5 (by kernel_rfl)
    (of_decide_eq_true (by kernel_rfl)) (by unfold Func.isWrapper; first | (rw [if_pos (by decide +kernel)]; kernel_rfl) | (rw [if_neg (by decide +kernel)]; exact ⟨rfl, rfl⟩))
    (fun os started H enc _ => frameRejects_lifted os started H enc)
theorem frameRejects_holds : Rows.FrameRejectsCardSaid :=
  Claim7.holds_tied_plain_at .later [] [.data] true (true, "de0f8e2e583c2ca3011efa0872d658fafa250bb71daf0ce9d9802f694a3174c7") false frameRejects_row (fun _ h => by cases h) (by kernel_rfl) (fun _ h => by cases h) frameRejects_row_tie rfl ⟨rfl, rfl⟩ (by kernel_rfl) rfl
    (fun f fn hf hfn => by
      obtain rfl : f = 5 := Option.some.inj ((show Tryd.prog.funcNamed "rudder/rudderlaw05.FrameRejects" = some 5 by kernel_rfl).symm.trans hf) |>.symm
      obtain rfl : fn = Tryd.f5 := (Option.some.inj (Tryd.func5.symm.trans hfn)).symm
      exact ⟨by kernel_rfl, fun j t ht => by
        rw [Tryd.params5] at ht
        have hm : t ∈ [24, 5, 5] := by simpa using Array.mem_of_getElem? ht
        have hall : ([24, 5, 5].all fun u => !Tryd.prog.wantsStandIn u) = true := by kernel_rfl
        exact (show Tryd.prog.wantsStandIn t = false by simpa using List.all_eq_true.1 hall t hm)⟩)
    (by kernel_rfl)
end Go.Proofs.YtkipngagfiaddaaDoor.Den
