/- FrameTellsCard: part 6 of what its proof rests on: an evaluator of the program's code, proved sound; plain functions printed from the code by a program of this session, with proofs; plain laws. No condition. -/
import Derived.Test.YtkipngagfiaddaaDoorDenframeTells5

namespace Go.Proofs.YtkipngagfiaddaaDoor.Den
open Go Go.Proofs
set_option maxRecDepth 100000
set_option maxHeartbeats 4000000
set_option linter.unusedVariables false
set_option linter.unusedSimpArgs false
def ref03_More_io_S0_c0 (x0 : Int) : Bool := (bif tb (decide (x0 < 0)) then true else (bif tb (decide (65535 < x0)) then true else false))
theorem ref03_More_io_S0_t0 (x0 : Int) (x1 : Bool) (x2 : List Int) : ref03_More_io_S0_c0 x0 = true → segG (runC E0 (cl E0) S91_0) [0, 1] [4] [0, 1] 0 ([(V.d (.int .i64 x0)), (V.d (slD (encI .u8) true 1 x1 x2))], []) = some (.ret, ([(V.d (.int .i64 0))], [])) := by
  unfold ref03_More_io_S0_c0
  cases h1 : tb (decide (x0 < 0))
  · cases h2 : tb (decide (65535 < x0))
    · intro g0
      exact absurd g0 ft
    · intro g0
      exact seg_walk [.b (tbE h1), .b (tbE h2)] (by kernel_rfl)
  · intro g0
    exact seg_walk [.b (tbE h1)] (by kernel_rfl)
theorem ref03_More_io_S0_t1 (x0 : Int) (x1 : Bool) (x2 : List Int) : ref03_More_io_S0_c0 x0 = false → segG (runC E0 (cl E0) S91_0) [0, 1] [4] [0, 1] 0 ([(V.d (.int .i64 x0)), (V.d (slD (encI .u8) true 1 x1 x2))], []) = some (.normal, ([(V.d (.int .i64 x0)), (V.d (slD (encI .u8) true 1 x1 x2))], [])) := by
  unfold ref03_More_io_S0_c0
  cases h1 : tb (decide (x0 < 0))
  · cases h2 : tb (decide (65535 < x0))
    · intro g0
      exact seg_walk [.b (tbE h1), .b (tbE h2)] (by kernel_rfl)
    · intro g0
      exact absurd g0 tf
  · intro g0
    exact absurd g0 tf
structure ref03_cross_ii_L0_s0 where
  c0 : Int
  c1 : Int
  c2 : Int
  c3 : Int
  c4 : Int
  deriving Inhabited
def ref03_cross_ii_L0_enc (x0 : Int) (x1 : Int) (x2 : Int) (x3 : Int) (x4 : Int) (s0 : ref03_cross_ii_L0_s0) : List V × Mem := ([(V.d (.int .i64 s0.c0)), (V.d (.int .i64 s0.c1)), (V.d (.int .i64 s0.c2)), (V.d (.int .i64 s0.c3)), (V.d (.int .i64 s0.c4))], [])
def ref03_cross_ii_L0_sel  (s0 : ref03_cross_ii_L0_s0) : Bool := (bif tb (decide (s0.c4 < 16)) then true else false)
def ref03_cross_ii_L0_nx  (s0 : ref03_cross_ii_L0_s0) : ref03_cross_ii_L0_s0 := (bif tb (((remI .i64 s0.c2 2) : Int) != (remI .i64 s0.c3 2)) then ⟨(wi (s0.c0 + s0.c1)), (wi (2 * s0.c1)), (quoI .i64 s0.c2 2), (quoI .i64 s0.c3 2), (wi (s0.c4 + 1))⟩ else ⟨s0.c0, (wi (2 * s0.c1)), (quoI .i64 s0.c2 2), (quoI .i64 s0.c3 2), (wi (s0.c4 + 1))⟩)
def ref03_cross_ii_L0_ok  (s0 : ref03_cross_ii_L0_s0) : Bool := (itS (ref03_cross_ii_L0_sel ) (ref03_cross_ii_L0_nx ) bound s0).isSome
def ref03_cross_ii_L0_end  (s0 : ref03_cross_ii_L0_s0) : ref03_cross_ii_L0_s0 := (itS (ref03_cross_ii_L0_sel ) (ref03_cross_ii_L0_nx ) bound s0).getD default
theorem ref03_cross_ii_L0_go (x0 : Int) (x1 : Int) (x2 : Int) (x3 : Int) (x4 : Int) (s0 : ref03_cross_ii_L0_s0) : ref03_cross_ii_L0_sel  s0 = true → (roundG (runC E0 (cl E0) L97_0) [5, 6, 7, 8, 9] [5] 0) (ref03_cross_ii_L0_enc x0 x1 x2 x3 x4 s0) = some (.normal, ref03_cross_ii_L0_enc x0 x1 x2 x3 x4 (ref03_cross_ii_L0_nx  s0)) := by
  unfold ref03_cross_ii_L0_sel ref03_cross_ii_L0_nx
  cases h1 : tb (decide (s0.c4 < 16))
  · intro g0
    exact absurd g0 ft
  · cases h2 : tb (((remI .i64 s0.c2 2) : Int) != (remI .i64 s0.c3 2))
    · intro _
      exact round_walk [.b (tbE h1), .b (tbE h2)] (by kernel_rfl)
    · intro _
      exact round_walk [.b (tbE h1), .b (tbE h2)] (by kernel_rfl)
theorem ref03_cross_ii_L0_x0 (x0 : Int) (x1 : Int) (x2 : Int) (x3 : Int) (x4 : Int) (s0 : ref03_cross_ii_L0_s0) : ref03_cross_ii_L0_sel  s0 = false → (roundG (runC E0 (cl E0) L97_0) [5, 6, 7, 8, 9] [5] 0) (ref03_cross_ii_L0_enc x0 x1 x2 x3 x4 s0) = some ((.exit 0), ([(V.d (.int .i64 s0.c0))], [])) := by
  unfold ref03_cross_ii_L0_sel
  cases h1 : tb (decide (s0.c4 < 16))
  · intro g0
    exact round_walk [.b (tbE h1)] (by kernel_rfl)
  · cases h2 : tb (((remI .i64 s0.c2 2) : Int) != (remI .i64 s0.c3 2))
    · intro g0
      exact absurd g0 tf
    · intro g0
      exact absurd g0 tf
theorem ref03_cross_ii_L0_f0_0 (x0 : Int) (x1 : Int) (x2 : Int) (x3 : Int) (x4 : Int) (s : ref03_cross_ii_L0_s0) (hok : ref03_cross_ii_L0_ok  s = true) : loopG (roundG (runC E0 (cl E0) L97_0) [5, 6, 7, 8, 9] [5] 0) bound (ref03_cross_ii_L0_enc x0 x1 x2 x3 x4 s) = some ((.exit 0), ([(V.d (.int .i64 ((ref03_cross_ii_L0_end  s).c0)))], [])) := by
  have e : itS (ref03_cross_ii_L0_sel ) (ref03_cross_ii_L0_nx ) bound s = some (ref03_cross_ii_L0_end  s) := itS_get hok
  have f := itS_false e
  exact loop_it (ref03_cross_ii_L0_go x0 x1 x2 x3 x4) bound s _ _ _ e (fun h => by cases h) (ref03_cross_ii_L0_x0 x0 x1 x2 x3 x4 (ref03_cross_ii_L0_end  s) f )
def ref03_cross_ii_e0 (x0 : Int) (x1 : Int) : ref03_cross_ii_L0_s0 := ref03_cross_ii_L0_end  (⟨0, 1, x0, x1, 0⟩ : ref03_cross_ii_L0_s0)
def ref03_cross_ii_c0 (x0 : Int) (x1 : Int) : Bool := (bif tb (ref03_cross_ii_L0_ok  (⟨0, 1, x0, x1, 0⟩ : ref03_cross_ii_L0_s0)) then true else false)
theorem ref03_cross_ii_t0 (x0 : Int) (x1 : Int) : ref03_cross_ii_c0 x0 x1 = true → cl E0 97 [(V.d (.int .i64 x0)), (V.d (.int .i64 x1))] [] = some ([(V.d (.int .i64 ((ref03_cross_ii_e0 x0 x1).c0)))], []) := by
  unfold ref03_cross_ii_c0
  cases h1 : tb (ref03_cross_ii_L0_ok  (⟨0, 1, x0, x1, 0⟩ : ref03_cross_ii_L0_s0))
  · intro g0
    exact absurd g0 ft
  · intro g0
    exact w97 [.l (ref03_cross_ii_L0_f0_0 0 1 x0 x1 0 (⟨0, 1, x0, x1, 0⟩ : ref03_cross_ii_L0_s0) (tbE h1))] (by kernel_rfl)
structure ref03_More_io_L1_s0 where
  c2 : Int
  c4 : Int
  deriving Inhabited
def ref03_More_io_L1_enc (x0 : Bool) (x1 : List Int) (x2 : Int) (x3 : Int) (x4 : Int) (s0 : ref03_More_io_L1_s0) : List V × Mem := ([(V.d (slD (encI .u8) true 1 x0 x1)), (V.d (.int .i64 s0.c2)), (V.d (.int .i64 x3)), (V.d (.int .i64 s0.c4))], [])
def ref03_More_io_L1_sel  (s0 : ref03_More_io_L1_s0) : Bool := (bif tb (decide (s0.c4 < 8)) then (bif tb (decide (32768 ≤ s0.c2)) then (bif tb (ref03_cross_ii_c0 (remI .i64 (wi (2 * s0.c2)) 65536) 4129) then true else false) else true) else false)
def ref03_More_io_L1_nx  (s0 : ref03_More_io_L1_s0) : ref03_More_io_L1_s0 := (bif tb (decide (32768 ≤ s0.c2)) then ⟨((ref03_cross_ii_e0 (remI .i64 (wi (2 * s0.c2)) 65536) 4129).c0), (wi (s0.c4 + 1))⟩ else ⟨(remI .i64 (wi (2 * s0.c2)) 65536), (wi (s0.c4 + 1))⟩)
def ref03_More_io_L1_ok  (s0 : ref03_More_io_L1_s0) : Bool := (itS (ref03_More_io_L1_sel ) (ref03_More_io_L1_nx ) bound s0).isSome
def ref03_More_io_L1_end  (s0 : ref03_More_io_L1_s0) : ref03_More_io_L1_s0 := (itS (ref03_More_io_L1_sel ) (ref03_More_io_L1_nx ) bound s0).getD default
theorem ref03_More_io_L1_go (x0 : Bool) (x1 : List Int) (x2 : Int) (x3 : Int) (x4 : Int) (s0 : ref03_More_io_L1_s0) : ref03_More_io_L1_sel  s0 = true → (roundG (runC E0 (cl E0) L91_1) [1, 5, 6, 7] [1, 5, 6] 0) (ref03_More_io_L1_enc x0 x1 x2 x3 x4 s0) = some (.normal, ref03_More_io_L1_enc x0 x1 x2 x3 x4 (ref03_More_io_L1_nx  s0)) := by
  unfold ref03_More_io_L1_sel ref03_More_io_L1_nx
  cases h1 : tb (decide (s0.c4 < 8))
  · intro g0
    exact absurd g0 ft
  · cases h2 : tb (decide (32768 ≤ s0.c2))
    · intro _
      exact round_walk [.b (tbE h1), .b (tbE h2)] (by kernel_rfl)
    · cases h3 : tb (ref03_cross_ii_c0 (remI .i64 (wi (2 * s0.c2)) 65536) 4129)
      · intro g0
        exact absurd g0 ft
      · intro _
        exact round_walk [.b (tbE h1), .b (tbE h2), .c (ref03_cross_ii_t0 (remI .i64 (wi (2 * s0.c2)) 65536) 4129 (tbE h3))] (by kernel_rfl)
def ref03_More_io_L1_c0 (s0 : ref03_More_io_L1_s0) : Bool := (bif tb (decide (s0.c4 < 8)) then false else true)
theorem ref03_More_io_L1_x0 (x0 : Bool) (x1 : List Int) (x2 : Int) (x3 : Int) (x4 : Int) (s0 : ref03_More_io_L1_s0) : ref03_More_io_L1_sel  s0 = false → ref03_More_io_L1_c0 s0 = true → (roundG (runC E0 (cl E0) L91_1) [1, 5, 6, 7] [1, 5, 6] 0) (ref03_More_io_L1_enc x0 x1 x2 x3 x4 s0) = some ((.exit 2), ([(V.d (slD (encI .u8) true 1 x0 x1)), (V.d (.int .i64 s0.c2)), (V.d (.int .i64 x3))], [])) := by
  unfold ref03_More_io_L1_sel ref03_More_io_L1_c0
  cases h1 : tb (decide (s0.c4 < 8))
  · intro g0 g1
    exact round_walk [.b (tbE h1)] (by kernel_rfl)
  · cases h2 : tb (decide (32768 ≤ s0.c2))
    · intro g0 g1
      exact absurd g0 tf
    · cases h3 : tb (ref03_cross_ii_c0 (remI .i64 (wi (2 * s0.c2)) 65536) 4129)
      · intro g0 g1
        exact absurd g1 ft
      · intro g0 g1
        exact absurd g0 tf
theorem ref03_More_io_L1_f0_0 (x0 : Bool) (x1 : List Int) (x2 : Int) (x3 : Int) (x4 : Int) (s : ref03_More_io_L1_s0) (hok : ref03_More_io_L1_ok  s = true) (c0 : ref03_More_io_L1_c0 (ref03_More_io_L1_end  s) = true) : loopG (roundG (runC E0 (cl E0) L91_1) [1, 5, 6, 7] [1, 5, 6] 0) bound (ref03_More_io_L1_enc x0 x1 x2 x3 x4 s) = some ((.exit 2), ([(V.d (slD (encI .u8) true 1 x0 x1)), (V.d (.int .i64 ((ref03_More_io_L1_end  s).c2))), (V.d (.int .i64 x3))], [])) := by
  have e : itS (ref03_More_io_L1_sel ) (ref03_More_io_L1_nx ) bound s = some (ref03_More_io_L1_end  s) := itS_get hok
  have f := itS_false e
  exact loop_it (ref03_More_io_L1_go x0 x1 x2 x3 x4) bound s _ _ _ e (fun h => by cases h) (ref03_More_io_L1_x0 x0 x1 x2 x3 x4 (ref03_More_io_L1_end  s) f c0)
structure ref03_More_io_L2_s0 where
  c2 : Int
  c3 : Int
  deriving Inhabited
def ref03_More_io_L2_h0_e0 (x1 : List Int) (s0 : ref03_More_io_L2_s0) : Int := ((ref03_cross_ii_e0 s0.c2 (wi (256 * (wi (gt x1 s0.c3))))).c0)
def ref03_More_io_L2_h0_e1 (x1 : List Int) (s0 : ref03_More_io_L2_s0) : ref03_More_io_L1_s0 := ref03_More_io_L1_end  (⟨(ref03_More_io_L2_h0_e0 x1 s0), 0⟩ : ref03_More_io_L1_s0)
def ref03_More_io_L2_enc (x0 : Bool) (x1 : List Int) (x2 : Int) (x3 : Int) (s0 : ref03_More_io_L2_s0) : List V × Mem := ([(V.d (slD (encI .u8) true 1 x0 x1)), (V.d (.int .i64 s0.c2)), (V.d (.int .i64 s0.c3))], [])
def ref03_More_io_L2_sel (x1 : List Int) (s0 : ref03_More_io_L2_s0) : Bool := (bif tb (decide (s0.c3 < ((x1.length : Nat) : Int))) then (bif tb (inb x1.length s0.c3) then (bif tb (ref03_cross_ii_c0 s0.c2 (wi (256 * (wi (gt x1 s0.c3))))) then (bif tb (ref03_More_io_L1_ok  (⟨(ref03_More_io_L2_h0_e0 x1 s0), 0⟩ : ref03_More_io_L1_s0)) then (bif tb (ref03_More_io_L1_c0 (ref03_More_io_L2_h0_e1 x1 s0)) then true else false) else false) else false) else false) else false)
def ref03_More_io_L2_nx (x1 : List Int) (s0 : ref03_More_io_L2_s0) : ref03_More_io_L2_s0 := ⟨((ref03_More_io_L2_h0_e1 x1 s0).c2), (wi (s0.c3 + 1))⟩
def ref03_More_io_L2_ok (x1 : List Int) (s0 : ref03_More_io_L2_s0) : Bool := (itS (ref03_More_io_L2_sel x1) (ref03_More_io_L2_nx x1) bound s0).isSome
def ref03_More_io_L2_end (x1 : List Int) (s0 : ref03_More_io_L2_s0) : ref03_More_io_L2_s0 := (itS (ref03_More_io_L2_sel x1) (ref03_More_io_L2_nx x1) bound s0).getD default
theorem ref03_More_io_L2_go (x0 : Bool) (x1 : List Int) (x2 : Int) (x3 : Int) (s0 : ref03_More_io_L2_s0) : ref03_More_io_L2_sel x1 s0 = true → (roundG (runC E0 (cl E0) L91_2) [1, 5, 6] [5] 0) (ref03_More_io_L2_enc x0 x1 x2 x3 s0) = some (.normal, ref03_More_io_L2_enc x0 x1 x2 x3 (ref03_More_io_L2_nx x1 s0)) := by
  unfold ref03_More_io_L2_sel ref03_More_io_L2_nx
  cases h1 : tb (decide (s0.c3 < ((x1.length : Nat) : Int)))
  · intro g0
    exact absurd g0 ft
  · cases h2 : tb (inb x1.length s0.c3)
    · intro g0
      exact absurd g0 ft
    · cases h3 : tb (ref03_cross_ii_c0 s0.c2 (wi (256 * (wi (gt x1 s0.c3)))))
      · intro g0
        exact absurd g0 ft
      · cases h4 : tb (ref03_More_io_L1_ok  (⟨(ref03_More_io_L2_h0_e0 x1 s0), 0⟩ : ref03_More_io_L1_s0))
        · intro g0
          exact absurd g0 ft
        · cases h5 : tb (ref03_More_io_L1_c0 (ref03_More_io_L2_h0_e1 x1 s0))
          · intro g0
            exact absurd g0 ft
          · intro _
            exact round_walk [.o 18 (fun _ => o_len_os (enc := (encI .u8)) (l := x1) (fl := true) (n := x0) (s := 1)), .b (tbE h1), .o 25 (fun _ => o_idx_os (enc := (encI .u8)) (l := x1) (fl := true) (n := x0) (s := 1) (k := .i64) (tbE h2)), .c (ref03_cross_ii_t0 s0.c2 (wi (256 * (wi (gt x1 s0.c3)))) (tbE h3)), .l (ref03_More_io_L1_f0_0 x0 x1 (ref03_More_io_L2_h0_e0 x1 s0) s0.c3 0 (⟨(ref03_More_io_L2_h0_e0 x1 s0), 0⟩ : ref03_More_io_L1_s0) (tbE h4) (tbE h5))] (by kernel_rfl)
def ref03_More_io_L2_c0 (x1 : List Int) (s0 : ref03_More_io_L2_s0) : Bool := (bif tb (decide (s0.c3 < ((x1.length : Nat) : Int))) then false else true)
theorem ref03_More_io_L2_x0 (x0 : Bool) (x1 : List Int) (x2 : Int) (x3 : Int) (s0 : ref03_More_io_L2_s0) : ref03_More_io_L2_sel x1 s0 = false → ref03_More_io_L2_c0 x1 s0 = true → (roundG (runC E0 (cl E0) L91_2) [1, 5, 6] [5] 0) (ref03_More_io_L2_enc x0 x1 x2 x3 s0) = some ((.exit 0), ([(V.d (.int .i64 s0.c2))], [])) := by
  unfold ref03_More_io_L2_sel ref03_More_io_L2_c0
  cases h1 : tb (decide (s0.c3 < ((x1.length : Nat) : Int)))
  · intro g0 g1
    exact round_walk [.o 18 (fun _ => o_len_os (enc := (encI .u8)) (l := x1) (fl := true) (n := x0) (s := 1)), .b (tbE h1)] (by kernel_rfl)
  · cases h2 : tb (inb x1.length s0.c3)
    · intro g0 g1
      exact absurd g1 ft
    · cases h3 : tb (ref03_cross_ii_c0 s0.c2 (wi (256 * (wi (gt x1 s0.c3)))))
      · intro g0 g1
        exact absurd g1 ft
      · cases h4 : tb (ref03_More_io_L1_ok  (⟨(ref03_More_io_L2_h0_e0 x1 s0), 0⟩ : ref03_More_io_L1_s0))
        · intro g0 g1
          exact absurd g1 ft
        · cases h5 : tb (ref03_More_io_L1_c0 (ref03_More_io_L2_h0_e1 x1 s0))
          · intro g0 g1
            exact absurd g1 ft
          · intro g0 g1
            exact absurd g0 tf
theorem ref03_More_io_L2_f0_0 (x0 : Bool) (x1 : List Int) (x2 : Int) (x3 : Int) (s : ref03_More_io_L2_s0) (hok : ref03_More_io_L2_ok x1 s = true) (c0 : ref03_More_io_L2_c0 x1 (ref03_More_io_L2_end x1 s) = true) : loopG (roundG (runC E0 (cl E0) L91_2) [1, 5, 6] [5] 0) bound (ref03_More_io_L2_enc x0 x1 x2 x3 s) = some ((.exit 0), ([(V.d (.int .i64 ((ref03_More_io_L2_end x1 s).c2)))], [])) := by
  have e : itS (ref03_More_io_L2_sel x1) (ref03_More_io_L2_nx x1) bound s = some (ref03_More_io_L2_end x1 s) := itS_get hok
  have f := itS_false e
  exact loop_it (ref03_More_io_L2_go x0 x1 x2 x3) bound s _ _ _ e (fun h => by cases h) (ref03_More_io_L2_x0 x0 x1 x2 x3 (ref03_More_io_L2_end x1 s) f c0)
def ref03_More_io_S3_c0 (x1 : List Int) (x2 : Int) : Bool := (bif tb (ref03_More_io_L2_ok x1 (⟨x2, 0⟩ : ref03_More_io_L2_s0)) then (bif tb (ref03_More_io_L2_c0 x1 (ref03_More_io_L2_end x1 (⟨x2, 0⟩ : ref03_More_io_L2_s0))) then true else false) else false)
theorem ref03_More_io_S3_t0 (x0 : Bool) (x1 : List Int) (x2 : Int) : ref03_More_io_S3_c0 x1 x2 = true → segG (runC E0 (cl E0) S91_3) [1, 5] [] [5] 0 ([(V.d (slD (encI .u8) true 1 x0 x1)), (V.d (.int .i64 x2))], []) = some (.normal, ([(V.d (.int .i64 ((ref03_More_io_L2_end x1 (⟨x2, 0⟩ : ref03_More_io_L2_s0)).c2)))], [])) := by
  unfold ref03_More_io_S3_c0
  cases h1 : tb (ref03_More_io_L2_ok x1 (⟨x2, 0⟩ : ref03_More_io_L2_s0))
  · intro g0
    exact absurd g0 ft
  · cases h2 : tb (ref03_More_io_L2_c0 x1 (ref03_More_io_L2_end x1 (⟨x2, 0⟩ : ref03_More_io_L2_s0)))
    · intro g0
      exact absurd g0 ft
    · intro g0
      exact seg_walk [.l (ref03_More_io_L2_f0_0 x0 x1 x2 0 (⟨x2, 0⟩ : ref03_More_io_L2_s0) (tbE h1) (tbE h2))] (by kernel_rfl)
def ref03_More_io_c0 (x0 : Int) (x2 : List Int) : Bool := (bif tb (ref03_More_io_S0_c0 x0) then true else (bif tb (ref03_More_io_S3_c0 x2 x0) then true else false))
def ref03_More_io_r0_0 (x0 : Int) (x2 : List Int) : Int := (bif tb (ref03_More_io_S0_c0 x0) then 0 else ((ref03_More_io_L2_end x2 (⟨x0, 0⟩ : ref03_More_io_L2_s0)).c2))
theorem ref03_More_io_t0 (x0 : Int) (x1 : Bool) (x2 : List Int) : ref03_More_io_c0 x0 x2 = true → cl E0 91 [(V.d (.int .i64 x0)), (V.d (slD (encI .u8) true 1 x1 x2))] [] = some ([(V.d (.int .i64 (ref03_More_io_r0_0 x0 x2)))], []) := by
  unfold ref03_More_io_c0 ref03_More_io_r0_0
  cases h1 : tb (ref03_More_io_S0_c0 x0)
  · cases h2 : tb (ref03_More_io_S3_c0 x2 x0)
    · intro g0
      exact absurd g0 ft
    · intro g0
      exact w91 [.s (ref03_More_io_S0_t1 x0 x1 x2 (tbE h1)), .s (ref03_More_io_S3_t0 x1 x2 x0 (tbE h2))] (by kernel_rfl)
  · intro g0
    exact w91 [.s (ref03_More_io_S0_t0 x0 x1 x2 (tbE h1))] (by kernel_rfl)
def ref03_Sum_o_c0 (x1 : List Int) : Bool := (bif tb (ref03_More_io_c0 65535 x1) then true else false)
theorem ref03_Sum_o_t0 (x0 : Bool) (x1 : List Int) : ref03_Sum_o_c0 x1 = true → cl E0 78 [(V.d (slD (encI .u8) true 1 x0 x1))] [] = some ([(V.d (.int .i64 (ref03_More_io_r0_0 65535 x1)))], []) := by
  unfold ref03_Sum_o_c0
  cases h1 : tb (ref03_More_io_c0 65535 x1)
  · intro g0
    exact absurd g0 ft
  · intro g0
    exact w78 [.c (ref03_More_io_t0 65535 x0 x1 (tbE h1))] (by kernel_rfl)
def ref03_Seal_o_e0 (x1 : List Int) : Int := IntKind.u8.wrap (quoI .i64 (ref03_More_io_r0_0 65535 x1) 256)
def ref03_Seal_o_e1 (x1 : List Int) : Int := IntKind.u8.wrap (remI .i64 (ref03_More_io_r0_0 65535 x1) 256)
def ref03_Seal_o_c0 (x1 : List Int) : Bool := (bif tb (ref03_Sum_o_c0 x1) then (bif tb (decide ((([] : List Int).length + x1.length) * 1 ≤ 140737488355328)) then (bif tb (decide ((x1.length + [(ref03_Seal_o_e0 x1), (ref03_Seal_o_e1 x1)].length) * 1 ≤ 140737488355328)) then true else false) else false) else false)
theorem ref03_Seal_o_t0 (x0 : Bool) (x1 : List Int) : ref03_Seal_o_c0 x1 = true → cl E0 51 [(V.d (slD (encI .u8) true 1 x0 x1))] [] = some ([(V.so false 0 ((x1 ++ [(ref03_Seal_o_e0 x1), (ref03_Seal_o_e1 x1)]).length))], [(Blk.flat 5 1 (List.map (encI .u8) (x1 ++ [(ref03_Seal_o_e0 x1), (ref03_Seal_o_e1 x1)])) false)]) := by
  unfold ref03_Seal_o_c0
  cases h1 : tb (ref03_Sum_o_c0 x1)
  · intro g0
    exact absurd g0 ft
  · cases h2 : tb (decide ((([] : List Int).length + x1.length) * 1 ≤ 140737488355328))
    · intro g0
      exact absurd g0 ft
    · cases h3 : tb (decide ((x1.length + [(ref03_Seal_o_e0 x1), (ref03_Seal_o_e1 x1)].length) * 1 ≤ 140737488355328))
      · intro g0
        exact absurd g0 ft
      · intro g0
        exact w51 [.c (ref03_Sum_o_t0 x0 x1 (tbE h1)), .m 8 (o_app_sf (m := [(Blk.flat 5 1 [] false), (Blk.flat 5 1 [] false)]) (enc := (encI .u8)) (l0 := ([] : List Int)) (l1 := x1) (id := 1) (e := 5) (s := 1) (bytes := 1) (x := (V.d (slD (encI .u8) true 1 x0 x1))) (n := 0) (by kernel_rfl) (by kernel_rfl) flatRowsOf_os sizeOk_os (tbE h2)), .m 16 (o_app_sf (m := [(Blk.flat 5 1 [] false), (Blk.flat 5 1 (List.map (encI .u8) x1) false), (Blk.flat 5 1 [[(.int .u8 (ref03_Seal_o_e0 x1))], [(.int .u8 (ref03_Seal_o_e1 x1))]] false)]) (enc := (encI .u8)) (l0 := x1) (l1 := [(ref03_Seal_o_e0 x1), (ref03_Seal_o_e1 x1)]) (id := 1) (e := 5) (s := 1) (bytes := 1) (x := (V.so false 2 2)) (n := x1.length) (Nat.beq_refl _) (by kernel_rfl) (by kernel_rfl) (by kernel_rfl) (tbE h3))] (by kernel_rfl)
def ref03_Open_o_e0 (x1 : List Int) : Int := quoI .i64 (ref03_More_io_r0_0 65535 (sub x1 0 (wi (((x1.length : Nat) : Int) - 2)))) 256
def ref03_Open_o_e1 (x1 : List Int) : Int := remI .i64 (ref03_More_io_r0_0 65535 (sub x1 0 (wi (((x1.length : Nat) : Int) - 2)))) 256
def ref03_Open_o_c0 (x1 : List Int) : Bool := (bif tb (decide (((x1.length : Nat) : Int) < 2)) then true else (bif tb (ins x1.length 0 (wi (((x1.length : Nat) : Int) - 2))) then (bif tb (ref03_Sum_o_c0 (sub x1 0 (wi (((x1.length : Nat) : Int) - 2)))) then (bif tb (inb x1.length (wi (((x1.length : Nat) : Int) - 2))) then (bif tb (((wi (gt x1 (wi (((x1.length : Nat) : Int) - 2)))) : Int) != (ref03_Open_o_e0 x1)) then true else (bif tb (inb x1.length (wi (((x1.length : Nat) : Int) - 1))) then (bif tb (((wi (gt x1 (wi (((x1.length : Nat) : Int) - 1)))) : Int) != (ref03_Open_o_e1 x1)) then true else (bif tb (decide ((([] : List Int).length + (sub x1 0 (wi (((x1.length : Nat) : Int) - 2))).length) * 1 ≤ 140737488355328)) then true else false)) else false)) else false) else false) else false))
def ref03_Open_o_r0_0 (x1 : List Int) : Bool := (bif tb (decide (((x1.length : Nat) : Int) < 2)) then true else (bif tb (((wi (gt x1 (wi (((x1.length : Nat) : Int) - 2)))) : Int) != (ref03_Open_o_e0 x1)) then true else (bif tb (((wi (gt x1 (wi (((x1.length : Nat) : Int) - 1)))) : Int) != (ref03_Open_o_e1 x1)) then true else false)))
def ref03_Open_o_r0_1 (x1 : List Int) : Bool := (bif tb (decide (((x1.length : Nat) : Int) < 2)) then false else (bif tb (((wi (gt x1 (wi (((x1.length : Nat) : Int) - 2)))) : Int) != (ref03_Open_o_e0 x1)) then false else (bif tb (((wi (gt x1 (wi (((x1.length : Nat) : Int) - 1)))) : Int) != (ref03_Open_o_e1 x1)) then false else true)))
def ref03_Open_o_r0_2 (x1 : List Int) : List Int := (bif tb (decide (((x1.length : Nat) : Int) < 2)) then ([] : List Int) else (bif tb (((wi (gt x1 (wi (((x1.length : Nat) : Int) - 2)))) : Int) != (ref03_Open_o_e0 x1)) then ([] : List Int) else (bif tb (((wi (gt x1 (wi (((x1.length : Nat) : Int) - 1)))) : Int) != (ref03_Open_o_e1 x1)) then ([] : List Int) else (sub x1 0 (wi (((x1.length : Nat) : Int) - 2))))))
theorem ref03_Open_o_t0 (x0 : Bool) (x1 : List Int) : ref03_Open_o_c0 x1 = true → cl E0 55 [(V.d (slD (encI .u8) true 1 x0 x1))] [] = some ([(V.so (ref03_Open_o_r0_0 x1) 0 ((ref03_Open_o_r0_2 x1).length)), (V.d (.bool (ref03_Open_o_r0_1 x1)))], [(Blk.flat 5 1 (List.map (encI .u8) (ref03_Open_o_r0_2 x1)) false)]) := by
  unfold ref03_Open_o_c0 ref03_Open_o_r0_0 ref03_Open_o_r0_1 ref03_Open_o_r0_2
  cases h1 : tb (decide (((x1.length : Nat) : Int) < 2))
  · cases h2 : tb (ins x1.length 0 (wi (((x1.length : Nat) : Int) - 2)))
    · intro g0
      exact absurd g0 ft
    · cases h3 : tb (ref03_Sum_o_c0 (sub x1 0 (wi (((x1.length : Nat) : Int) - 2))))
      · intro g0
        exact absurd g0 ft
      · cases h4 : tb (inb x1.length (wi (((x1.length : Nat) : Int) - 2)))
        · intro g0
          exact absurd g0 ft
        · cases h5 : tb (((wi (gt x1 (wi (((x1.length : Nat) : Int) - 2)))) : Int) != (ref03_Open_o_e0 x1))
          · cases h6 : tb (inb x1.length (wi (((x1.length : Nat) : Int) - 1)))
            · intro g0
              exact absurd g0 ft
            · cases h7 : tb (((wi (gt x1 (wi (((x1.length : Nat) : Int) - 1)))) : Int) != (ref03_Open_o_e1 x1))
              · cases h8 : tb (decide ((([] : List Int).length + (sub x1 0 (wi (((x1.length : Nat) : Int) - 2))).length) * 1 ≤ 140737488355328))
                · intro g0
                  exact absurd g0 ft
                · intro g0
                  exact w55 [.o 6 (fun _ => o_len_os (enc := (encI .u8)) (l := x1) (fl := true) (n := x0) (s := 1)), .b (tbE h1), .o 10 (fun _ => o_len_os (enc := (encI .u8)) (l := x1) (fl := true) (n := x0) (s := 1)), .o 12 (fun _ => o_slice_os (enc := (encI .u8)) (l := x1) (fl := true) (n := x0) (s := 1) none (some (.i64, (wi (((x1.length : Nat) : Int) - 2)))) (tbE h2)), .c (ref03_Sum_o_t0 (x0 && x1.isEmpty) (sub x1 0 (wi (((x1.length : Nat) : Int) - 2))) (tbE h3)), .o 16 (fun _ => o_len_os (enc := (encI .u8)) (l := x1) (fl := true) (n := x0) (s := 1)), .o 18 (fun _ => o_idx_os (enc := (encI .u8)) (l := x1) (fl := true) (n := x0) (s := 1) (k := .i64) (tbE h4)), .b (tbE h5), .o 27 (fun _ => o_len_os (enc := (encI .u8)) (l := x1) (fl := true) (n := x0) (s := 1)), .o 29 (fun _ => o_idx_os (enc := (encI .u8)) (l := x1) (fl := true) (n := x0) (s := 1) (k := .i64) (tbE h6)), .b (tbE h7), .o 39 (fun _ => o_len_os (enc := (encI .u8)) (l := x1) (fl := true) (n := x0) (s := 1)), .o 41 (fun _ => o_slice_os (enc := (encI .u8)) (l := x1) (fl := true) (n := x0) (s := 1) none (some (.i64, (wi (((x1.length : Nat) : Int) - 2)))) (tbE h2)), .m 42 (o_app_sf (m := [(Blk.flat 5 1 [] false), (Blk.flat 5 1 [] false)]) (enc := (encI .u8)) (l0 := ([] : List Int)) (l1 := (sub x1 0 (wi (((x1.length : Nat) : Int) - 2)))) (id := 1) (e := 5) (s := 1) (bytes := 1) (x := (V.d (slD (encI .u8) true 1 (x0 && x1.isEmpty) (sub x1 0 (wi (((x1.length : Nat) : Int) - 2)))))) (n := 0) (by kernel_rfl) (by kernel_rfl) flatRowsOf_os sizeOk_os (tbE h8))] (by kernel_rfl)
              · intro g0
                exact w55 [.o 6 (fun _ => o_len_os (enc := (encI .u8)) (l := x1) (fl := true) (n := x0) (s := 1)), .b (tbE h1), .o 10 (fun _ => o_len_os (enc := (encI .u8)) (l := x1) (fl := true) (n := x0) (s := 1)), .o 12 (fun _ => o_slice_os (enc := (encI .u8)) (l := x1) (fl := true) (n := x0) (s := 1) none (some (.i64, (wi (((x1.length : Nat) : Int) - 2)))) (tbE h2)), .c (ref03_Sum_o_t0 (x0 && x1.isEmpty) (sub x1 0 (wi (((x1.length : Nat) : Int) - 2))) (tbE h3)), .o 16 (fun _ => o_len_os (enc := (encI .u8)) (l := x1) (fl := true) (n := x0) (s := 1)), .o 18 (fun _ => o_idx_os (enc := (encI .u8)) (l := x1) (fl := true) (n := x0) (s := 1) (k := .i64) (tbE h4)), .b (tbE h5), .o 27 (fun _ => o_len_os (enc := (encI .u8)) (l := x1) (fl := true) (n := x0) (s := 1)), .o 29 (fun _ => o_idx_os (enc := (encI .u8)) (l := x1) (fl := true) (n := x0) (s := 1) (k := .i64) (tbE h6)), .b (tbE h7)] (by kernel_rfl)
          · intro g0
            exact w55 [.o 6 (fun _ => o_len_os (enc := (encI .u8)) (l := x1) (fl := true) (n := x0) (s := 1)), .b (tbE h1), .o 10 (fun _ => o_len_os (enc := (encI .u8)) (l := x1) (fl := true) (n := x0) (s := 1)), .o 12 (fun _ => o_slice_os (enc := (encI .u8)) (l := x1) (fl := true) (n := x0) (s := 1) none (some (.i64, (wi (((x1.length : Nat) : Int) - 2)))) (tbE h2)), .c (ref03_Sum_o_t0 (x0 && x1.isEmpty) (sub x1 0 (wi (((x1.length : Nat) : Int) - 2))) (tbE h3)), .o 16 (fun _ => o_len_os (enc := (encI .u8)) (l := x1) (fl := true) (n := x0) (s := 1)), .o 18 (fun _ => o_idx_os (enc := (encI .u8)) (l := x1) (fl := true) (n := x0) (s := 1) (k := .i64) (tbE h4)), .b (tbE h5)] (by kernel_rfl)
  · intro g0
    exact w55 [.o 6 (fun _ => o_len_os (enc := (encI .u8)) (l := x1) (fl := true) (n := x0) (s := 1)), .b (tbE h1)] (by kernel_rfl)
structure ref03_Same_oo_L0_s0 where
  c4 : Int
  deriving Inhabited
def ref03_Same_oo_L0_enc (x0 : Bool) (x1 : List Int) (x2 : Bool) (x3 : List Int) (x4 : Int) (s0 : ref03_Same_oo_L0_s0) : List V × Mem := ([(V.d (slD (encI .u8) true 1 x0 x1)), (V.d (slD (encI .u8) true 1 x2 x3)), (V.d (.int .i64 s0.c4))], [])
def ref03_Same_oo_L0_sel (x1 : List Int) (x3 : List Int) (s0 : ref03_Same_oo_L0_s0) : Bool := (bif tb (decide (s0.c4 < ((x1.length : Nat) : Int))) then (bif tb (inb x1.length s0.c4) then (bif tb (inb x3.length s0.c4) then (bif tb (((gt x1 s0.c4) : Int) != (gt x3 s0.c4)) then false else true) else false) else false) else false)
def ref03_Same_oo_L0_nx (x1 : List Int) (x3 : List Int) (s0 : ref03_Same_oo_L0_s0) : ref03_Same_oo_L0_s0 := ⟨(wi (s0.c4 + 1))⟩
def ref03_Same_oo_L0_ok (x1 : List Int) (x3 : List Int) (s0 : ref03_Same_oo_L0_s0) : Bool := (itS (ref03_Same_oo_L0_sel x1 x3) (ref03_Same_oo_L0_nx x1 x3) bound s0).isSome
def ref03_Same_oo_L0_end (x1 : List Int) (x3 : List Int) (s0 : ref03_Same_oo_L0_s0) : ref03_Same_oo_L0_s0 := (itS (ref03_Same_oo_L0_sel x1 x3) (ref03_Same_oo_L0_nx x1 x3) bound s0).getD default
theorem ref03_Same_oo_L0_go (x0 : Bool) (x1 : List Int) (x2 : Bool) (x3 : List Int) (x4 : Int) (s0 : ref03_Same_oo_L0_s0) : ref03_Same_oo_L0_sel x1 x3 s0 = true → (roundG (runC E0 (cl E0) L15_0) [0, 1, 5] [4] 0) (ref03_Same_oo_L0_enc x0 x1 x2 x3 x4 s0) = some (.normal, ref03_Same_oo_L0_enc x0 x1 x2 x3 x4 (ref03_Same_oo_L0_nx x1 x3 s0)) := by
  unfold ref03_Same_oo_L0_sel ref03_Same_oo_L0_nx
  cases h1 : tb (decide (s0.c4 < ((x1.length : Nat) : Int)))
  · intro g0
    exact absurd g0 ft
  · cases h2 : tb (inb x1.length s0.c4)
    · intro g0
      exact absurd g0 ft
    · cases h3 : tb (inb x3.length s0.c4)
      · intro g0
        exact absurd g0 ft
      · cases h4 : tb (((gt x1 s0.c4) : Int) != (gt x3 s0.c4))
        · intro _
          exact round_walk [.o 13 (fun _ => o_len_os (enc := (encI .u8)) (l := x1) (fl := true) (n := x0) (s := 1)), .b (tbE h1), .o 19 (fun _ => o_idx_os (enc := (encI .u8)) (l := x1) (fl := true) (n := x0) (s := 1) (k := .i64) (tbE h2)), .o 23 (fun _ => o_idx_os (enc := (encI .u8)) (l := x3) (fl := true) (n := x2) (s := 1) (k := .i64) (tbE h3)), .b (tbE h4)] (by kernel_rfl)
        · intro g0
          exact absurd g0 ft
def ref03_Same_oo_L0_c0 (x1 : List Int) (x3 : List Int) (s0 : ref03_Same_oo_L0_s0) : Bool := (bif tb (decide (s0.c4 < ((x1.length : Nat) : Int))) then (bif tb (inb x1.length s0.c4) then (bif tb (inb x3.length s0.c4) then true else false) else false) else false)
def ref03_Same_oo_L0_c1 (x1 : List Int) (s0 : ref03_Same_oo_L0_s0) : Bool := (bif tb (decide (s0.c4 < ((x1.length : Nat) : Int))) then false else true)
theorem ref03_Same_oo_L0_x0 (x0 : Bool) (x1 : List Int) (x2 : Bool) (x3 : List Int) (x4 : Int) (s0 : ref03_Same_oo_L0_s0) : ref03_Same_oo_L0_sel x1 x3 s0 = false → ref03_Same_oo_L0_c0 x1 x3 s0 = true → (roundG (runC E0 (cl E0) L15_0) [0, 1, 5] [4] 0) (ref03_Same_oo_L0_enc x0 x1 x2 x3 x4 s0) = some (.ret, ([(V.d (.bool false))], [])) := by
  unfold ref03_Same_oo_L0_sel ref03_Same_oo_L0_c0
  cases h1 : tb (decide (s0.c4 < ((x1.length : Nat) : Int)))
  · intro g0 g1
    exact absurd g1 ft
  · cases h2 : tb (inb x1.length s0.c4)
    · intro g0 g1
      exact absurd g1 ft
    · cases h3 : tb (inb x3.length s0.c4)
      · intro g0 g1
        exact absurd g1 ft
      · cases h4 : tb (((gt x1 s0.c4) : Int) != (gt x3 s0.c4))
        · intro g0 g1
          exact absurd g0 tf
        · intro g0 g1
          exact round_walk [.o 13 (fun _ => o_len_os (enc := (encI .u8)) (l := x1) (fl := true) (n := x0) (s := 1)), .b (tbE h1), .o 19 (fun _ => o_idx_os (enc := (encI .u8)) (l := x1) (fl := true) (n := x0) (s := 1) (k := .i64) (tbE h2)), .o 23 (fun _ => o_idx_os (enc := (encI .u8)) (l := x3) (fl := true) (n := x2) (s := 1) (k := .i64) (tbE h3)), .b (tbE h4)] (by kernel_rfl)
theorem ref03_Same_oo_L0_x1 (x0 : Bool) (x1 : List Int) (x2 : Bool) (x3 : List Int) (x4 : Int) (s0 : ref03_Same_oo_L0_s0) : ref03_Same_oo_L0_sel x1 x3 s0 = false → ref03_Same_oo_L0_c0 x1 x3 s0 = false → ref03_Same_oo_L0_c1 x1 s0 = true → (roundG (runC E0 (cl E0) L15_0) [0, 1, 5] [4] 0) (ref03_Same_oo_L0_enc x0 x1 x2 x3 x4 s0) = some ((.exit 0), ([V.un], [])) := by
  unfold ref03_Same_oo_L0_sel ref03_Same_oo_L0_c0 ref03_Same_oo_L0_c1
  cases h1 : tb (decide (s0.c4 < ((x1.length : Nat) : Int)))
  · intro g0 g1 g2
    exact round_walk [.o 13 (fun _ => o_len_os (enc := (encI .u8)) (l := x1) (fl := true) (n := x0) (s := 1)), .b (tbE h1)] (by kernel_rfl)
  · cases h2 : tb (inb x1.length s0.c4)
    · intro g0 g1 g2
      exact absurd g2 ft
    · cases h3 : tb (inb x3.length s0.c4)
      · intro g0 g1 g2
        exact absurd g2 ft
      · cases h4 : tb (((gt x1 s0.c4) : Int) != (gt x3 s0.c4))
        · intro g0 g1 g2
          exact absurd g0 tf
        · intro g0 g1 g2
          exact absurd g1 tf
theorem ref03_Same_oo_L0_f0_0 (x0 : Bool) (x1 : List Int) (x2 : Bool) (x3 : List Int) (x4 : Int) (s : ref03_Same_oo_L0_s0) (hok : ref03_Same_oo_L0_ok x1 x3 s = true) (c0 : ref03_Same_oo_L0_c0 x1 x3 (ref03_Same_oo_L0_end x1 x3 s) = true) : loopG (roundG (runC E0 (cl E0) L15_0) [0, 1, 5] [4] 0) bound (ref03_Same_oo_L0_enc x0 x1 x2 x3 x4 s) = some (.ret, ([(V.d (.bool false))], [])) := by
  have e : itS (ref03_Same_oo_L0_sel x1 x3) (ref03_Same_oo_L0_nx x1 x3) bound s = some (ref03_Same_oo_L0_end x1 x3 s) := itS_get hok
  have f := itS_false e
  exact loop_it (ref03_Same_oo_L0_go x0 x1 x2 x3 x4) bound s _ _ _ e (fun h => by cases h) (ref03_Same_oo_L0_x0 x0 x1 x2 x3 x4 (ref03_Same_oo_L0_end x1 x3 s) f c0)
theorem ref03_Same_oo_L0_f0_1 (x0 : Bool) (x1 : List Int) (x2 : Bool) (x3 : List Int) (x4 : Int) (s : ref03_Same_oo_L0_s0) (hok : ref03_Same_oo_L0_ok x1 x3 s = true) (c0 : ref03_Same_oo_L0_c0 x1 x3 (ref03_Same_oo_L0_end x1 x3 s) = false) (c1 : ref03_Same_oo_L0_c1 x1 (ref03_Same_oo_L0_end x1 x3 s) = true) : loopG (roundG (runC E0 (cl E0) L15_0) [0, 1, 5] [4] 0) bound (ref03_Same_oo_L0_enc x0 x1 x2 x3 x4 s) = some ((.exit 0), ([V.un], [])) := by
  have e : itS (ref03_Same_oo_L0_sel x1 x3) (ref03_Same_oo_L0_nx x1 x3) bound s = some (ref03_Same_oo_L0_end x1 x3 s) := itS_get hok
  have f := itS_false e
  exact loop_it (ref03_Same_oo_L0_go x0 x1 x2 x3 x4) bound s _ _ _ e (fun h => by cases h) (ref03_Same_oo_L0_x1 x0 x1 x2 x3 x4 (ref03_Same_oo_L0_end x1 x3 s) f c0 c1)
def ref03_Same_oo_c0 (x1 : List Int) (x3 : List Int) : Bool := (bif tb ((((x1.length : Nat) : Int) : Int) != ((x3.length : Nat) : Int)) then true else (bif tb (ref03_Same_oo_L0_ok x1 x3 (⟨0⟩ : ref03_Same_oo_L0_s0)) then (bif tb (ref03_Same_oo_L0_c0 x1 x3 (ref03_Same_oo_L0_end x1 x3 (⟨0⟩ : ref03_Same_oo_L0_s0))) then true else (bif tb (ref03_Same_oo_L0_c1 x1 (ref03_Same_oo_L0_end x1 x3 (⟨0⟩ : ref03_Same_oo_L0_s0))) then true else false)) else false))
def ref03_Same_oo_r0_0 (x1 : List Int) (x3 : List Int) : Bool := (bif tb ((((x1.length : Nat) : Int) : Int) != ((x3.length : Nat) : Int)) then false else (bif tb (ref03_Same_oo_L0_c0 x1 x3 (ref03_Same_oo_L0_end x1 x3 (⟨0⟩ : ref03_Same_oo_L0_s0))) then false else true))
theorem ref03_Same_oo_t0 (x0 : Bool) (x1 : List Int) (x2 : Bool) (x3 : List Int) : ref03_Same_oo_c0 x1 x3 = true → cl E0 15 [(V.d (slD (encI .u8) true 1 x0 x1)), (V.d (slD (encI .u8) true 1 x2 x3))] [] = some ([(V.d (.bool (ref03_Same_oo_r0_0 x1 x3)))], []) := by
  unfold ref03_Same_oo_c0 ref03_Same_oo_r0_0
  cases h1 : tb ((((x1.length : Nat) : Int) : Int) != ((x3.length : Nat) : Int))
  · cases h2 : tb (ref03_Same_oo_L0_ok x1 x3 (⟨0⟩ : ref03_Same_oo_L0_s0))
    · intro g0
      exact absurd g0 ft
    · cases h3 : tb (ref03_Same_oo_L0_c0 x1 x3 (ref03_Same_oo_L0_end x1 x3 (⟨0⟩ : ref03_Same_oo_L0_s0)))
      · cases h4 : tb (ref03_Same_oo_L0_c1 x1 (ref03_Same_oo_L0_end x1 x3 (⟨0⟩ : ref03_Same_oo_L0_s0)))
        · intro g0
          exact absurd g0 ft
        · intro g0
          exact w15 [.o 7 (fun _ => o_len_os (enc := (encI .u8)) (l := x1) (fl := true) (n := x0) (s := 1)), .o 9 (fun _ => o_len_os (enc := (encI .u8)) (l := x3) (fl := true) (n := x2) (s := 1)), .b (tbE h1), .l (ref03_Same_oo_L0_f0_1 x0 x1 x2 x3 0 (⟨0⟩ : ref03_Same_oo_L0_s0) (tbE h2) (tbE h3) (tbE h4))] (by kernel_rfl)
      · intro g0
        exact w15 [.o 7 (fun _ => o_len_os (enc := (encI .u8)) (l := x1) (fl := true) (n := x0) (s := 1)), .o 9 (fun _ => o_len_os (enc := (encI .u8)) (l := x3) (fl := true) (n := x2) (s := 1)), .b (tbE h1), .l (ref03_Same_oo_L0_f0_0 x0 x1 x2 x3 0 (⟨0⟩ : ref03_Same_oo_L0_s0) (tbE h2) (tbE h3))] (by kernel_rfl)
  · intro g0
    exact w15 [.o 7 (fun _ => o_len_os (enc := (encI .u8)) (l := x1) (fl := true) (n := x0) (s := 1)), .o 9 (fun _ => o_len_os (enc := (encI .u8)) (l := x3) (fl := true) (n := x2) (s := 1)), .b (tbE h1)] (by kernel_rfl)
end Go.Proofs.YtkipngagfiaddaaDoor.Den

namespace Go.Proofs.YtkipngagfiaddaaDoor.Den
open Go
set_option linter.unusedVariables false
set_option linter.unusedSimpArgs false
theorem xor16 {a b : Nat} (h1 : a < 65536) (h2 : b < 65536) : a ^^^ b < 65536 := Nat.xor_lt_two_pow (n := 16) h1 h2
def topN (n : Nat) : Nat := n / 32768 % 2
def stepN (n : Nat) : Nat := if topN n = 1 then (2 * n % 65536) ^^^ 4129 else 2 * n % 65536
theorem stepN_lt (n : Nat) : stepN n < 65536 := by
  unfold stepN
  split
  · exact xor16 (by omega) (by omega)
  · omega
def itN : Nat → Nat → Nat
  | 0, c => c
  | k + 1, c => stepN (itN k c)
theorem itN_lt (k : Nat) {c : Nat} (h : c < 65536) : itN k c < 65536 := by
  cases k with
  | zero => exact h
  | succ k => exact stepN_lt _
def byteN (c b : Nat) : Nat := itN 8 (c ^^^ (256 * b))
theorem byteN_lt {c b : Nat} (hc : c < 65536) (hb : b < 256) : byteN c b < 65536 := itN_lt 8 (xor16 hc (by omega))
def crcN (c : Nat) (l : List Nat) : Nat := l.foldl byteN c
theorem crcN_lt {l : List Nat} : ∀ {c : Nat}, c < 65536 → (∀ b ∈ l, b < 256) → crcN c l < 65536 := by
  induction l with
  | nil => intro c h _; exact h
  | cons b l ih => intro c h hl; exact ih (byteN_lt h (hl b (by simp))) (fun x hx => hl x (by simp [hx]))
theorem crcN_app (c : Nat) (l k : List Nat) : crcN c (l ++ k) = crcN (crcN c l) k := by simp [crcN]
theorem bv_nat {a : Nat} (h : a < 9223372036854775808) : BitVec.ofInt 64 (a : Int) = BitVec.ofNat 64 a := by
  apply BitVec.eq_of_toNat_eq
  rw [BitVec.toNat_ofInt, BitVec.toNat_ofNat]
  omega
theorem andI_nat {a b : Nat} (ha : a < 9223372036854775808) (hb : b < 9223372036854775808) : andI .i64 (a : Int) (b : Int) = ((a &&& b : Nat) : Int) := by
  show IntKind.i64.wrap ((BitVec.ofInt 64 (a : Int) &&& BitVec.ofInt 64 (b : Int)).toNat : Int) = _
  rw [bv_nat ha, bv_nat hb, BitVec.toNat_and, BitVec.toNat_ofNat, BitVec.toNat_ofNat, Nat.mod_eq_of_lt (a := a) (by omega), Nat.mod_eq_of_lt (a := b) (by omega)]
  have := @Nat.and_le_left a b
  exact wrap64 (by omega) (by omega)
theorem xorI_nat {a b : Nat} (ha : a < 9223372036854775808) (hb : b < 9223372036854775808) : xorI .i64 (a : Int) (b : Int) = ((a ^^^ b : Nat) : Int) := by
  show IntKind.i64.wrap ((BitVec.ofInt 64 (a : Int) ^^^ BitVec.ofInt 64 (b : Int)).toNat : Int) = _
  rw [bv_nat ha, bv_nat hb, BitVec.toNat_xor, BitVec.toNat_ofNat, BitVec.toNat_ofNat, Nat.mod_eq_of_lt (a := a) (by omega), Nat.mod_eq_of_lt (a := b) (by omega)]
  have : a ^^^ b < 2 ^ 63 := Nat.xor_lt_two_pow (by omega) (by omega)
  exact wrap64 (by omega) (by omega)
theorem and_top (n : Nat) : n &&& 32768 = 32768 * topN n := by
  apply Nat.eq_of_testBit_eq
  intro j
  rw [Nat.testBit_and, show (32768 : Nat) = 2 ^ 15 from rfl, Nat.testBit_two_pow, Nat.testBit_two_pow_mul]
  by_cases h : 15 = j
  · subst h
    simp [topN, Nat.testBit_eq_decide_div_mod_eq]
  · simp only [h, decide_false, Bool.and_false]
    by_cases h2 : 15 ≤ j
    · have h3 : topN n < 2 ^ (j - 15) := by
        have : topN n < 2 ^ 1 := by unfold topN; omega
        exact Nat.lt_of_lt_of_le this (Nat.pow_le_pow_right (by omega) (by omega))
      rw [Nat.testBit_lt_two_pow h3]; simp
    · simp [h2]
theorem and_mask (n : Nat) : n &&& 65535 = n % 65536 := Nat.and_two_pow_sub_one_eq_mod n 16
def nats (l : List Int) : List Nat := l.map Int.toNat
theorem nats_lt {l : List Int} (h : ∀ z ∈ l, WfI .u8 z) : ∀ b ∈ nats l, b < 256 := by
  intro b hb
  obtain ⟨z, hz, rfl⟩ := List.mem_map.1 hb
  have := wfI_u8 (h z hz)
  omega
def crcI (c : Nat) (l : List Int) : Nat := crcN c (nats l)
end Go.Proofs.YtkipngagfiaddaaDoor.Den

namespace Go.Proofs.YtkipngagfiaddaaDoor.Den
open Go
set_option linter.unusedVariables false
set_option linter.unusedSimpArgs false
theorem shl8_nat {n : Nat} (h : n < 4294967296) : shlI .i64 (n : Int) 8 = ((256 * n : Nat) : Int) := by
  show IntKind.i64.wrap ((n : Int) * 2 ^ (min (8 : Int).toNat 64)) = _
  have : (2 : Int) ^ (min (8 : Int).toNat 64) = 256 := by decide
  rw [this, wrap64 (by omega) (by omega)]; omega
theorem shl1_nat {n : Nat} (h : n < 4294967296) : shlI .i64 (n : Int) 1 = ((2 * n : Nat) : Int) := by
  show IntKind.i64.wrap ((n : Int) * 2 ^ (min (1 : Int).toNat 64)) = _
  have : (2 : Int) ^ (min (1 : Int).toNat 64) = 2 := by decide
  rw [this, wrap64 (by omega) (by omega)]; omega
theorem step_eq {n : Nat} (h : n < 65536) : crc_More_c1_p_Fi_r0_0 (n : Int) = (stepN n : Int) := by
  have e1 : andI .i64 (n : Int) 32768 = ((32768 * topN n : Nat) : Int) := by rw [← and_top]; exact andI_nat (b := 32768) (by omega) (by omega)
  have e2 : andI .i64 (shlI .i64 (n : Int) 1) 65535 = ((2 * n % 65536 : Nat) : Int) := by rw [shl1_nat (by omega), ← and_mask]; exact andI_nat (b := 65535) (by omega) (by omega)
  have e3 : xorI .i64 ((2 * n % 65536 : Nat) : Int) 4129 = (((2 * n % 65536) ^^^ 4129 : Nat) : Int) := xorI_nat (b := 4129) (by omega) (by omega)
  have ht : topN n < 2 := by unfold topN; omega
  unfold crc_More_c1_p_Fi_r0_0 stepN
  rw [e1, e2, e3]
  by_cases h1 : topN n = 1
  · simp [h1]
  · have : topN n = 0 := by omega
    simp [this]
theorem crcL0 {c : Nat} (h : c < 65536) : crc_More_io_L1_ok ⟨0, (c : Int)⟩ = true ∧ (crc_More_io_L1_end ⟨0, (c : Int)⟩).c5 = (itN 8 c : Int) := by
  obtain ⟨s1, e, ⟨k, h1, h2⟩, h3⟩ := idx_loop (sel := crc_More_io_L1_sel) (nx := crc_More_io_L1_nx) (s0 := ⟨0, (c : Int)⟩) 8 (fun s => s.c4) (fun s => ∃ k : Nat, s.c4 = k ∧ s.c5 = (itN k c : Int)) (by omega) ⟨0, rfl, rfl⟩ (by simp) (by simp)
    (fun s ⟨k, h1, h2⟩ g1 g2 => by
      have e : (wi (s.c4 + 1)) = s.c4 + 1 := wi_eq (by omega) (by omega)
      refine ⟨by simp [crc_More_io_L1_sel, g2], ⟨k + 1, ?_, ?_⟩, e⟩
      · simp only [crc_More_io_L1_nx, e]; omega
      · simp only [crc_More_io_L1_nx, h2]; exact step_eq (itN_lt k h))
    (fun s _ g => by simp [crc_More_io_L1_sel, g])
  have hk : k = 8 := by omega
  subst hk
  simp [crc_More_io_L1_ok, crc_More_io_L1_end, e, h2]
theorem take_nats {l : List Int} {k : Nat} (h : k < l.length) (c : Nat) : crcI c (l.take (k + 1)) = byteN (crcI c (l.take k)) (l[k]).toNat := by
  unfold crcI nats
  rw [List.take_succ_eq_append_getElem h, List.map_append, crcN_app]
  rfl
def Byt (l : List Int) : Prop := ∀ z ∈ l, WfI .u8 z
theorem Byt.take {l : List Int} (h : Byt l) (k : Nat) : Byt (l.take k) := fun z hz => h z (List.mem_of_mem_take hz)
theorem Byt.drop {l : List Int} (h : Byt l) (k : Nat) : Byt (l.drop k) := fun z hz => h z (List.mem_of_mem_drop hz)
theorem crcI_lt {c : Nat} {l : List Int} (hc : c < 65536) (h : Byt l) : crcI c l < 65536 := crcN_lt hc (nats_lt h)
theorem crcL1 {c : Nat} {l : List Int} (h : c < 65536) (hl : Byt l) (hn : l.length < 1152921504606846976) : ∃ s1, itS (crc_More_io_L2_sel l l.length) (crc_More_io_L2_nx l l.length) bound ⟨0, (c : Int)⟩ = some s1 ∧ s1.c3 = l.length ∧ s1.c4 = (crcI c l : Int) := by
  obtain ⟨s1, e, ⟨k, h1, h2, h4⟩, h3⟩ := idx_loop (sel := crc_More_io_L2_sel l l.length) (nx := crc_More_io_L2_nx l l.length) (s0 := ⟨0, (c : Int)⟩) l.length (fun s => s.c3) (fun s => ∃ k : Nat, s.c3 = k ∧ k ≤ l.length ∧ s.c4 = (crcI c (l.take k) : Int)) (by omega) ⟨0, rfl, by omega, rfl⟩ (by simp) (by simp)
    (fun s ⟨k, h1, h2, h4⟩ g1 g2 => by
      have e : (wi (s.c3 + 1)) = s.c3 + 1 := wi_eq (by omega) (by omega)
      have hk : k < l.length := by omega
      have hg : gt l s.c3 = ((l[k]).toNat : Int) := by
        rw [h1, gt_nat hk]; have := wfI_u8 (hl _ (List.getElem_mem hk)); omega
      have hb : (l[k]).toNat < 256 := by have := wfI_u8 (hl _ (List.getElem_mem hk)); omega
      have hc := crcI_lt h (hl.take k)
      have hx : xorI .i64 s.c4 (shlI .i64 (wi (gt l s.c3)) 8) = ((crcI c (l.take k) ^^^ (256 * (l[k]).toNat) : Nat) : Int) := by
        rw [hg, wi_eq (x := ((l[k]).toNat : Int)) (by omega) (by omega), shl8_nat (by omega), h4]; exact xorI_nat (by omega) (by omega)
      obtain ⟨q1, q2⟩ := crcL0 (xor16 hc (by omega : 256 * (l[k]).toNat < 65536))
      refine ⟨by simp [crc_More_io_L2_sel, g2, inb_of g1 g2, hx, q1], ⟨k + 1, ?_, by omega, ?_⟩, e⟩
      · simp only [crc_More_io_L2_nx, e]; omega
      · simp only [crc_More_io_L2_nx, crc_More_io_L2_h0_e0, hx, q2, take_nats hk]; rfl)
    (fun s _ g => by simp [crc_More_io_L2_sel, g])
  have hk : k = l.length := by omega
  subst hk
  exact ⟨s1, e, h1, by rw [h4, List.take_length]⟩
def moreI (x : Int) (l : List Int) : Int := if 0 ≤ x ∧ x ≤ 65535 then (crcI x.toNat l : Int) else 0
theorem more_eq (x : Int) {l : List Int} (hl : Byt l) (hn : l.length < 1152921504606846976) : crc_More_io_c0 x l = true ∧ crc_More_io_r0_0 x l = moreI x l := by
  by_cases h1 : x < 0
  · simp [crc_More_io_c0, crc_More_io_r0_0, crc_More_io_S0_c0, h1, moreI]; omega
  by_cases h2 : 65535 < x
  · simp [crc_More_io_c0, crc_More_io_r0_0, crc_More_io_S0_c0, h1, h2, moreI]; omega
  obtain ⟨s1, e, g1, g2⟩ := crcL1 (c := x.toNat) (by omega) hl hn
  rw [show ((x.toNat : Nat) : Int) = x by omega] at e
  have h3 : 0 ≤ x ∧ x ≤ 65535 := by omega
  simp [crc_More_io_c0, crc_More_io_r0_0, crc_More_io_S0_c0, crc_More_io_S3_c0, crc_More_io_S3_e0, h1, h2, moreI, h3, crc_More_io_L2_ok, crc_More_io_L2_end, e, crc_More_io_L2_c0, g1, g2]
theorem cross_eq {a b : Nat} (ha : a < 65536) (hb : b < 65536) : ref03_cross_ii_c0 (a : Int) (b : Int) = true ∧ (ref03_cross_ii_e0 (a : Int) (b : Int)).c0 = ((a ^^^ b : Nat) : Int) := by
  obtain ⟨s1, e, ⟨k, h1, h2, c, p, h4, h5, h6, h7, h8⟩, h3⟩ := idx_loop (sel := ref03_cross_ii_L0_sel) (nx := ref03_cross_ii_L0_nx) (s0 := ⟨0, 1, (a : Int), (b : Int), 0⟩) 16 (fun s => s.c4)
    (fun s => ∃ k : Nat, s.c4 = k ∧ k ≤ 16 ∧ ∃ c p : Nat, s.c0 = c ∧ s.c1 = p ∧ p = 2 ^ k ∧ (s.c2 = ((a / p : Nat) : Int) ∧ s.c3 = ((b / p : Nat) : Int)) ∧ c + p * ((a / p) ^^^ (b / p)) = a ^^^ b) (by omega) ⟨0, rfl, by omega, 0, 1, rfl, rfl, rfl, by simp, by simp⟩ (by simp) (by simp)
    (fun s ⟨k, h1, h2, c, p, h4, h5, h6, ⟨h7, h7'⟩, h8⟩ g1 g2 => by
      have e : (wi (s.c4 + 1)) = s.c4 + 1 := wi_eq (by omega) (by omega)
      have hp0 : 0 < p := by rw [h6]; exact Nat.two_pow_pos k
      have hp : p ≤ 32768 := by
        have : (2 : Nat) ^ k ≤ 2 ^ 15 := Nat.pow_le_pow_right (by omega) (by omega)
        omega
      have hx := xor16 ha hb
      have hc : c ≤ a ^^^ b := by rw [← h8]; omega
      have hpa : a / p ≤ a := Nat.div_le_self a p
      have hpb : b / p ≤ b := Nat.div_le_self b p
      have e1 : wi (2 * s.c1) = ((2 * p : Nat) : Int) := by rw [h5, wi_eq (x := 2 * (p : Int)) (by omega) (by omega)]; omega
      have e2 : wi (s.c0 + s.c1) = ((c + p : Nat) : Int) := by rw [h4, h5, wi_eq (x := (c : Int) + (p : Int)) (by omega) (by omega)]; omega
      have q : ∀ n : Nat, n < 65536 → quoI .i64 (n : Int) 2 = ((n / 2 : Nat) : Int) := fun n hn => by
        unfold quoI
        rw [show ((n : Int).tdiv 2) = ((n / 2 : Nat) : Int) from rfl]; exact wrap64 (by omega) (by omega)
      have r : ∀ n : Nat, remI .i64 (n : Int) 2 = ((n % 2 : Nat) : Int) := fun n => rfl
      have ea : a / (2 * p) = a / p / 2 := by rw [Nat.mul_comm, Nat.div_div_eq_div_mul]
      have eb : b / (2 * p) = b / p / 2 := by rw [Nat.mul_comm, Nat.div_div_eq_div_mul]
      have xm := @Nat.xor_mod_two_eq_one (a / p) (b / p)
      have xd := @Nat.xor_div_two (a / p) (b / p)
      have pk : 2 * p = 2 ^ (k + 1) := by rw [h6, Nat.pow_succ]; omega
      have fin : ∀ z : Nat, z = c + p * (((a / p) ^^^ (b / p)) % 2) → z + 2 * p * ((a / (2 * p)) ^^^ (b / (2 * p))) = a ^^^ b := fun z hz => by
        rw [ea, eb, ← xd, hz, ← h8]
        have : (a / p ^^^ b / p) = 2 * ((a / p ^^^ b / p) / 2) + (a / p ^^^ b / p) % 2 := by omega
        generalize (a / p ^^^ b / p) = y at *
        conv => rhs; rw [this, Nat.mul_add]
        rw [Nat.mul_comm 2 p, Nat.mul_assoc]
        omega
      refine ⟨by simp [ref03_cross_ii_L0_sel, g2], ?_, ?_⟩
      · by_cases hd : (remI .i64 s.c2 2 : Int) = remI .i64 s.c3 2
        · have hm : (a / p ^^^ b / p) % 2 = 0 := by
            rw [h7, h7', r, r] at hd
            have : (a / p) % 2 = (b / p) % 2 := by omega
            rw [this] at xm
            have : ¬ (a / p ^^^ b / p) % 2 = 1 := by rw [xm]; simp
            omega
          simp only [ref03_cross_ii_L0_nx, hd, bne_self_eq_false, tb_eq, cond_false]
          exact ⟨k + 1, by rw [e]; omega, by omega, c, 2 * p, h4, e1, pk, ⟨by rw [h7, q _ (by omega), ea], by rw [h7', q _ (by omega), eb]⟩, fin c (by rw [hm]; omega)⟩
        · have hm : (a / p ^^^ b / p) % 2 = 1 := by
            rw [h7, h7', r, r] at hd
            have : ¬ (a / p) % 2 = (b / p) % 2 := by omega
            rw [xm]; omega
          simp only [ref03_cross_ii_L0_nx, bne_iff_ne.2 hd, tb_eq, cond_true]
          exact ⟨k + 1, by rw [e]; omega, by omega, c + p, 2 * p, e2, e1, pk, ⟨by rw [h7, q _ (by omega), ea], by rw [h7', q _ (by omega), eb]⟩, fin (c + p) (by rw [hm]; omega)⟩
      · by_cases hd : tb ((remI .i64 s.c2 2 : Int) != remI .i64 s.c3 2) = true <;> simp only [ref03_cross_ii_L0_nx, hd, cond_true, cond_false, e])
    (fun s _ g => by simp [ref03_cross_ii_L0_sel, g])
  have hk : k = 16 := by omega
  subst hk
  have ea : a / p = 0 := by rw [h6]; exact Nat.div_eq_of_lt (by omega)
  have eb : b / p = 0 := by rw [h6]; exact Nat.div_eq_of_lt (by omega)
  rw [ea, eb, Nat.xor_self, Nat.mul_zero, Nat.add_zero] at h8
  simp [ref03_cross_ii_c0, ref03_cross_ii_e0, ref03_cross_ii_L0_ok, ref03_cross_ii_L0_end, e, h4, h8]
theorem top_iff {n : Nat} (h : n < 65536) : topN n = 1 ↔ 32768 ≤ n := by unfold topN; omega
theorem refL0 {c : Nat} (h : c < 65536) : ref03_More_io_L1_ok ⟨(c : Int), 0⟩ = true ∧ (ref03_More_io_L1_end ⟨(c : Int), 0⟩).c2 = (itN 8 c : Int) ∧ ref03_More_io_L1_c0 (ref03_More_io_L1_end ⟨(c : Int), 0⟩) = true := by
  obtain ⟨s1, e, ⟨k, h1, h2⟩, h3⟩ := idx_loop (sel := ref03_More_io_L1_sel) (nx := ref03_More_io_L1_nx) (s0 := ⟨(c : Int), 0⟩) 8 (fun s => s.c4) (fun s => ∃ k : Nat, s.c4 = k ∧ s.c2 = (itN k c : Int)) (by omega) ⟨0, rfl, rfl⟩ (by simp) (by simp)
    (fun s ⟨k, h1, h2⟩ g1 g2 => by
      have e : (wi (s.c4 + 1)) = s.c4 + 1 := wi_eq (by omega) (by omega)
      have hi := itN_lt k h
      have hm : remI .i64 (wi (2 * s.c2)) 65536 = ((2 * itN k c % 65536 : Nat) : Int) := by
        rw [h2, wi_eq (x := 2 * (itN k c : Int)) (by omega) (by omega)]
        unfold remI
        rw [show (2 * (itN k c : Int)) = ((2 * itN k c : Nat) : Int) by omega]; rfl
      obtain ⟨q1, q2⟩ := cross_eq (a := 2 * itN k c % 65536) (b := 4129) (by omega) (by omega)
      have q1' : ref03_cross_ii_c0 ((2 * itN k c % 65536 : Nat) : Int) 4129 = true := q1
      have q2' : (ref03_cross_ii_e0 ((2 * itN k c % 65536 : Nat) : Int) 4129).c0 = _ := q2
      by_cases hd : 32768 ≤ s.c2
      · have hs : stepN (itN k c) = (2 * itN k c % 65536) ^^^ 4129 := by unfold stepN; rw [if_pos ((top_iff hi).2 (by omega))]
        refine ⟨by simp only [ref03_More_io_L1_sel, g2, hd, hm, q1', decide_true, tb_eq, cond_true], ⟨k + 1, ?_, ?_⟩, ?_⟩
        · simp only [ref03_More_io_L1_nx, e, hd, decide_true, tb_eq, cond_true]; omega
        · simp only [ref03_More_io_L1_nx, hd, decide_true, tb_eq, cond_true, hm, q2']; rw [← hs]; rfl
        · simp only [ref03_More_io_L1_nx, e, hd, decide_true, tb_eq, cond_true]
      · have hs : stepN (itN k c) = (2 * itN k c % 65536) := by unfold stepN; rw [if_neg (by rw [top_iff hi]; omega)]
        refine ⟨by simp [ref03_More_io_L1_sel, g2, hd], ⟨k + 1, ?_, ?_⟩, ?_⟩
        · simp only [ref03_More_io_L1_nx, e, hd, decide_false, tb_eq, cond_false]; omega
        · simp only [ref03_More_io_L1_nx, hd, decide_false, tb_eq, cond_false, hm]; rw [← hs]; rfl
        · simp only [ref03_More_io_L1_nx, e, hd, decide_false, tb_eq, cond_false])
    (fun s _ g => by simp [ref03_More_io_L1_sel, g])
  have hk : k = 8 := by omega
  subst hk
  simp [ref03_More_io_L1_ok, ref03_More_io_L1_end, e, h2, ref03_More_io_L1_c0, h3]
theorem refL1 {c : Nat} {l : List Int} (h : c < 65536) (hl : Byt l) (hn : l.length < 1152921504606846976) : ∃ s1, itS (ref03_More_io_L2_sel l) (ref03_More_io_L2_nx l) bound ⟨(c : Int), 0⟩ = some s1 ∧ s1.c3 = l.length ∧ s1.c2 = (crcI c l : Int) := by
  obtain ⟨s1, e, ⟨k, h1, h2, h4⟩, h3⟩ := idx_loop (sel := ref03_More_io_L2_sel l) (nx := ref03_More_io_L2_nx l) (s0 := ⟨(c : Int), 0⟩) l.length (fun s => s.c3) (fun s => ∃ k : Nat, s.c3 = k ∧ k ≤ l.length ∧ s.c2 = (crcI c (l.take k) : Int)) (by omega) ⟨0, rfl, by omega, rfl⟩ (by simp) (by simp)
    (fun s ⟨k, h1, h2, h4⟩ g1 g2 => by
      have e : (wi (s.c3 + 1)) = s.c3 + 1 := wi_eq (by omega) (by omega)
      have hk : k < l.length := by omega
      have hg : gt l s.c3 = ((l[k]).toNat : Int) := by
        rw [h1, gt_nat hk]; have := wfI_u8 (hl _ (List.getElem_mem hk)); omega
      have hb : (l[k]).toNat < 256 := by have := wfI_u8 (hl _ (List.getElem_mem hk)); omega
      have hc := crcI_lt h (hl.take k)
      have hw : wi (256 * (wi (gt l s.c3))) = ((256 * (l[k]).toNat : Nat) : Int) := by
        rw [hg, wi_eq (x := ((l[k]).toNat : Int)) (by omega) (by omega), wi_eq (x := 256 * ((l[k]).toNat : Int)) (by omega) (by omega)]; omega
      obtain ⟨p1, p2⟩ := cross_eq hc (by omega : 256 * (l[k]).toNat < 65536)
      obtain ⟨q1, q2, q3⟩ := refL0 (xor16 hc (by omega : 256 * (l[k]).toNat < 65536))
      have he0 : ref03_More_io_L2_h0_e0 l s = ((crcI c (l.take k) ^^^ (256 * (l[k]).toNat) : Nat) : Int) := by unfold ref03_More_io_L2_h0_e0; rw [hw, h4, p2]
      refine ⟨by simp only [ref03_More_io_L2_sel, g2, inb_of g1 g2, hw, h4, p1, he0, q1, ref03_More_io_L2_h0_e1, q3, decide_true, tb_eq, cond_true], ⟨k + 1, ?_, by omega, ?_⟩, e⟩
      · simp only [ref03_More_io_L2_nx, e]; omega
      · simp only [ref03_More_io_L2_nx, ref03_More_io_L2_h0_e1, he0, q2, take_nats hk]; rfl)
    (fun s _ g => by simp [ref03_More_io_L2_sel, g])
  have hk : k = l.length := by omega
  subst hk
  exact ⟨s1, e, h1, by rw [h4, List.take_length]⟩
theorem rmore_eq (x : Int) {l : List Int} (hl : Byt l) (hn : l.length < 1152921504606846976) : ref03_More_io_c0 x l = true ∧ ref03_More_io_r0_0 x l = moreI x l := by
  by_cases h1 : x < 0
  · simp [ref03_More_io_c0, ref03_More_io_r0_0, ref03_More_io_S0_c0, ref03_More_io_S3_c0, h1, moreI]; omega
  by_cases h2 : 65535 < x
  · simp [ref03_More_io_c0, ref03_More_io_r0_0, ref03_More_io_S0_c0, ref03_More_io_S3_c0, h1, h2, moreI]; omega
  obtain ⟨s1, e, g1, g2⟩ := refL1 (c := x.toNat) (by omega) hl hn
  rw [show ((x.toNat : Nat) : Int) = x by omega] at e
  have h3 : 0 ≤ x ∧ x ≤ 65535 := by omega
  simp [ref03_More_io_c0, ref03_More_io_r0_0, ref03_More_io_S0_c0, ref03_More_io_S3_c0, h1, h2, moreI, h3, ref03_More_io_L2_ok, ref03_More_io_L2_end, e, ref03_More_io_L2_c0, g1, g2]
theorem equal_eq {l k : List Int} (hl : l.length < 1152921504606846976) : slices_Equal_byte_oo_c0 l k = true ∧ slices_Equal_byte_oo_r0_0 l k = decide (l = k) := by
  by_cases h : l.length = k.length
  · obtain ⟨s1, e, g0, g⟩ := eq_loop (sel := slices_Equal_byte_oo_L0_sel l k l.length) (nx := slices_Equal_byte_oo_L0_nx l k l.length) (s0 := ⟨0⟩) h (fun s => s.c5) hl rfl
      (fun s a1 a2 => by show wi _ = _; exact wi_eq (by omega) (by omega))
      (fun s a1 a2 => by
        by_cases hi : s.c5 < l.length
        · have i1 := inb_of a1 hi
          have i2 : inb k.length s.c5 = true := by rw [← h]; exact i1
          by_cases q : gt l s.c5 = gt k s.c5
          · simp [slices_Equal_byte_oo_L0_sel, hi, i1, i2, q]
          · simp [slices_Equal_byte_oo_L0_sel, hi, i1, i2, q, bne]
        · simp [slices_Equal_byte_oo_L0_sel, hi])
    have hne : ((((l.length : Nat) : Int) : Int) != ((k.length : Nat) : Int)) = false := by simp [h]
    simp only [slices_Equal_byte_oo_c0, slices_Equal_byte_oo_r0_0, slices_Equal_byte_oo_e0, slices_Equal_byte_oo_L0_ok, slices_Equal_byte_oo_L0_end, e, hne, tb_eq, cond_false, Option.isSome_some, cond_true, Option.getD_some]
    rcases g with ⟨a, b⟩ | ⟨a, b, c⟩
    · simp [slices_Equal_byte_oo_L0_c0, slices_Equal_byte_oo_L0_c1, a, b]
    · have i1 := inb_of g0 a
      have i2 : inb k.length s1.c5 = true := by rw [← h]; exact i1
      simp [slices_Equal_byte_oo_L0_c0, slices_Equal_byte_oo_L0_c1, a, c, i1, i2]
  · have hne : ((((l.length : Nat) : Int) : Int) != ((k.length : Nat) : Int)) = true := by simp; omega
    have : l ≠ k := fun e => h (by rw [e])
    simp [slices_Equal_byte_oo_c0, slices_Equal_byte_oo_r0_0, hne, this]
structure Sm (l : List Int) : Prop where
  b : Byt l
  n : l.length ≤ 1000
theorem Sm.n' {l : List Int} (h : Sm l) : l.length < 1152921504606846976 := by have := h.n; omega
def tail2 (l : List Int) : List Int := [((crcI 65535 l / 256 : Nat) : Int), ((crcI 65535 l % 256 : Nat) : Int)]
def sealed (l : List Int) : List Int := l ++ tail2 l
theorem u8_wrap {n : Nat} : IntKind.u8.wrap (n : Int) = ((n % 256 : Nat) : Int) := by
  unfold IntKind.wrap; simp [IntKind.bits, IntKind.signed]
theorem more_f {l : List Int} (h : Sm l) : crc_More_io_r0_0 65535 l = (crcI 65535 l : Int) := by
  rw [(more_eq 65535 h.b h.n').2]; simp [moreI]
theorem rmore_f {l : List Int} (h : Sm l) : ref03_More_io_r0_0 65535 l = (crcI 65535 l : Int) := by
  rw [(rmore_eq 65535 h.b h.n').2]; simp [moreI]
theorem sumc {l : List Int} (h : Sm l) : crc_Sum_o_c0 l = true := by simp [crc_Sum_o_c0, (more_eq 65535 h.b h.n').1]
theorem rsumc {l : List Int} (h : Sm l) : ref03_Sum_o_c0 l = true := by simp [ref03_Sum_o_c0, (rmore_eq 65535 h.b h.n').1]
theorem Sm.crc {l : List Int} (h : Sm l) : crcI 65535 l < 65536 := crcI_lt (by omega) h.b
theorem tail_eq {l : List Int} (h : Sm l) : [(IntKind.u8.wrap (shrI .i64 (crc_More_io_r0_0 65535 l) 8)), (IntKind.u8.wrap ((crc_More_io_r0_0 65535 l)))] = tail2 l := by
  have hc := h.crc
  have e : shrI .i64 (crcI 65535 l : Int) 8 = ((crcI 65535 l / 256 : Nat) : Int) := by
    show (crcI 65535 l : Int).fdiv (2 ^ (min (8 : Int).toNat 64)) = _
    rw [show (2 : Int) ^ (min (8 : Int).toNat 64) = 256 by decide, Int.fdiv_eq_ediv_of_nonneg _ (by omega)]; omega
  rw [more_f h, e, u8_wrap, u8_wrap, Nat.mod_eq_of_lt (a := crcI 65535 l / 256) (by omega)]
  rfl
theorem clone_r (a : Bool) {l : List Int} (h : Sm l) : slices_Clone_byte_o_c0 a l = true ∧ slices_Clone_byte_o_r0_0 a l = (a && l.isEmpty) ∧ slices_Clone_byte_o_r0_1 a l = l := by
  have h1 : ((([] : List Int).length + l.length) * 1 ≤ 140737488355328) := by have := h.n; simp; omega
  cases l with
  | nil => cases a <;> simp [slices_Clone_byte_o_c0, slices_Clone_byte_o_r0_0, slices_Clone_byte_o_r0_1]
  | cons x l =>
    simp only [slices_Clone_byte_o_c0, slices_Clone_byte_o_r0_0, slices_Clone_byte_o_r0_1, h1, tb_eq]
    simp
theorem seal_r (a : Bool) {l : List Int} (h : Sm l) : crc_Seal_o_c0 a l = true ∧ crc_Seal_o_e0 a l = sealed l := by
  obtain ⟨c1, c2, c3⟩ := clone_r a h
  have h1 : (l.length + (tail2 l).length) * 1 ≤ 140737488355328 := by have := h.n; show (l.length + 2) * 1 ≤ _; omega
  constructor
  · simp only [crc_Seal_o_c0, sumc h, c1, c3, tail_eq h, h1, decide_true, tb_eq, cond_true]
  · unfold crc_Seal_o_e0; rw [c3, tail_eq h]; rfl
theorem rtail {l : List Int} (h : Sm l) : quoI .i64 (ref03_More_io_r0_0 65535 l) 256 = ((crcI 65535 l / 256 : Nat) : Int) ∧ remI .i64 (ref03_More_io_r0_0 65535 l) 256 = ((crcI 65535 l % 256 : Nat) : Int) := by
  have hc := h.crc
  rw [rmore_f h]
  refine ⟨?_, rfl⟩
  unfold quoI
  rw [show ((crcI 65535 l : Int).tdiv 256) = ((crcI 65535 l / 256 : Nat) : Int) from rfl]
  exact wrap64 (by omega) (by omega)
def okS (l : List Int) : Bool := decide (2 ≤ l.length) && decide (sealed (l.take (l.length - 2)) = l)
theorem Sm.take {l : List Int} (h : Sm l) (k : Nat) : Sm (l.take k) := ⟨h.b.take k, by have := h.n; rw [List.length_take]; omega⟩
theorem cut_eq {l : List Int} (h : Sm l) (h2 : 2 ≤ l.length) : wi (((l.length : Nat) : Int) - 2) = ((l.length - 2 : Nat) : Int) ∧ sub l 0 (wi (((l.length : Nat) : Int) - 2)) = l.take (l.length - 2) ∧ ins l.length 0 (wi (((l.length : Nat) : Int) - 2)) = true := by
  have hn := h.n
  have e : wi (((l.length : Nat) : Int) - 2) = ((l.length - 2 : Nat) : Int) := by rw [wi_eq (x := (l.length : Int) - 2) (by omega) (by omega)]; omega
  refine ⟨e, ?_, ?_⟩
  · rw [e]; simp [sub]
  · rw [e]; simp [ins]
theorem sealed_short {l : List Int} (h : (l.length : Nat) ≤ 1000) : (sealed l).length < 1152921504606846976 := by simp [sealed, tail2]; omega
theorem open_r {l : List Int} (h : Sm l) (a : Bool) : crc_Open_o_c0 a l = true ∧ crc_Open_o_r0_0 a l = !(okS l) ∧ crc_Open_o_r0_1 a l = okS l ∧ crc_Open_o_r0_2 a l = if okS l then l.take (l.length - 2) else [] := by
  by_cases h2 : l.length < 2
  · have e : wi (((l.length : Nat) : Int) - 2) < 0 := by rw [wi_eq (x := (l.length : Int) - 2) (by omega) (by omega)]; omega
    have e3 : ¬ 2 ≤ l.length := by omega
    simp [okS, crc_Open_o_c0, crc_Open_o_r0_0, crc_Open_o_r0_1, crc_Open_o_r0_2, e, e3]
  have h3 : 2 ≤ l.length := by omega
  obtain ⟨c1, c2, c3⟩ := cut_eq h h3
  have hp := h.take (l.length - 2)
  have hne : l.isEmpty = false := by cases l <;> simp_all
  have hneg : ¬ (wi (((l.length : Nat) : Int) - 2) < 0) := by rw [c1]; omega
  have hE : crc_Open_o_e0 a l = sealed (l.take (l.length - 2)) := by unfold crc_Open_o_e0; rw [c2, (seal_r _ hp).2]
  have eq := equal_eq (l := sealed (l.take (l.length - 2))) (k := l) (sealed_short hp.n)
  obtain ⟨d1, d2, d3⟩ := clone_r false hp
  simp only [crc_Open_o_c0, crc_Open_o_r0_0, crc_Open_o_r0_1, crc_Open_o_r0_2, hneg, c3, c2, hE, (seal_r _ hp).1, d1, d2, d3, hne, eq.1, eq.2, okS, h3, Bool.and_false, Bool.false_and, decide_true, decide_false, tb_eq, cond_true, cond_false, Bool.true_and]
  cases decide (sealed (l.take (l.length - 2)) = l) <;> simp
theorem two_end {l : List Int} (h : 2 ≤ l.length) : l = l.take (l.length - 2) ++ [l[l.length - 2], l[l.length - 1]] := by
  conv => lhs; rw [← List.take_append_drop (l.length - 2) l]
  congr 1
  apply List.ext_getElem
  · simp; omega
  · intro i h1 h2
    rw [List.getElem_drop]
    simp at h2
    rcases (by omega : i = 0 ∨ i = 1) with rfl | rfl
    · simp
    · simp; congr 1; omega
theorem ropen_r {l : List Int} (h : Sm l) : ref03_Open_o_c0 l = true ∧ ref03_Open_o_r0_0 l = !(okS l) ∧ ref03_Open_o_r0_1 l = okS l ∧ ref03_Open_o_r0_2 l = if okS l then l.take (l.length - 2) else [] := by
  by_cases h2 : l.length < 2
  · have e2 : ((l.length : Nat) : Int) < 2 := by omega
    have e3 : ¬ 2 ≤ l.length := by omega
    simp [okS, ref03_Open_o_c0, ref03_Open_o_r0_0, ref03_Open_o_r0_1, ref03_Open_o_r0_2, e2, e3]
  have h3 : 2 ≤ l.length := by omega
  have hn := h.n
  obtain ⟨c1, c2, c3⟩ := cut_eq h h3
  rw [c1] at c2 c3
  have hp := h.take (l.length - 2)
  have hneg : ¬ (((l.length : Nat) : Int) < 2) := by omega
  have e1 : wi (((l.length : Nat) : Int) - 1) = ((l.length - 1 : Nat) : Int) := by rw [wi_eq (x := (l.length : Int) - 1) (by omega) (by omega)]; omega
  have g1 : gt l ((l.length - 2 : Nat) : Int) = l[l.length - 2] := gt_nat (by omega)
  have g2 : gt l ((l.length - 1 : Nat) : Int) = l[l.length - 1] := gt_nat (by omega)
  have b1 := wfI_u8 (h.b _ (List.getElem_mem (show l.length - 2 < l.length by omega)))
  have b2 := wfI_u8 (h.b _ (List.getElem_mem (show l.length - 1 < l.length by omega)))
  have i1 : inb l.length ((l.length - 2 : Nat) : Int) = true := inb_of (by omega) (by omega)
  have i2 : inb l.length ((l.length - 1 : Nat) : Int) = true := inb_of (by omega) (by omega)
  have hl : (([] : List Int).length + (l.take (l.length - 2)).length) * 1 ≤ 140737488355328 := by rw [List.length_take]; simp; omega
  have ok : okS l = (decide (l[l.length - 2] = ((crcI 65535 (l.take (l.length - 2)) / 256 : Nat) : Int)) && decide (l[l.length - 1] = ((crcI 65535 (l.take (l.length - 2)) % 256 : Nat) : Int))) := by
    have hs : sealed (l.take (l.length - 2)) = l ↔ tail2 (l.take (l.length - 2)) = [l[l.length - 2], l[l.length - 1]] := by
      conv => lhs; rhs; rw [two_end h3]
      unfold sealed
      rw [List.append_cancel_left_eq]
    unfold okS
    rw [Bool.eq_iff_iff]
    simp only [h3, decide_true, Bool.true_and, Bool.and_eq_true, decide_eq_true_eq, hs, tail2, List.cons.injEq, and_true]
    constructor <;> rintro ⟨a, b⟩ <;> exact ⟨a.symm, b.symm⟩
  rw [ok]
  simp only [ref03_Open_o_c0, ref03_Open_o_r0_0, ref03_Open_o_r0_1, ref03_Open_o_r0_2, ref03_Open_o_e0, ref03_Open_o_e1, hneg, c3, c2, c1, e1, rsumc hp, (rtail hp).1, (rtail hp).2, i1, i2, g1, g2, hl, decide_true, decide_false, tb_eq, cond_true, cond_false]
  rw [wi_eq (x := l[l.length - 2]) (by omega) (by omega), wi_eq (x := l[l.length - 1]) (by omega) (by omega)]
  simp only [bne]
  by_cases q1 : l[l.length - 2] = ((crcI 65535 (l.take (l.length - 2)) / 256 : Nat) : Int)
  · by_cases q2 : l[l.length - 1] = ((crcI 65535 (l.take (l.length - 2)) % 256 : Nat) : Int)
    · simp only [beq_iff_eq.2 q1, beq_iff_eq.2 q2, q1, q2]; simp
    · have : (l[l.length - 1] == ((crcI 65535 (l.take (l.length - 2)) % 256 : Nat) : Int)) = false := by simpa using q2
      simp only [beq_iff_eq.2 q1, this, q2, decide_false]; simp
  · have : (l[l.length - 2] == ((crcI 65535 (l.take (l.length - 2)) / 256 : Nat) : Int)) = false := by simpa using q1
    simp only [this, q1, decide_false]; simp
end Go.Proofs.YtkipngagfiaddaaDoor.Den

namespace Go.Proofs.YtkipngagfiaddaaDoor.Den
open Go Go.Proofs
set_option maxRecDepth 100000
set_option maxHeartbeats 4000000
set_option linter.unusedVariables false
set_option linter.unusedSimpArgs false
def frame_Right_c1_i_r0_0 (x0 : Int) : Bool := (bif tb (decide (x0 < (-2147483648))) then true else (decide (2147483647 < x0)))
theorem frame_Right_c1_i_t0 (x0 : Int) : cl E0 58 [(V.d (.int .i64 x0))] [] = some ([(V.d (.bool (frame_Right_c1_i_r0_0 x0)))], []) := by
  unfold frame_Right_c1_i_r0_0
  cases h1 : tb (decide (x0 < (-2147483648)))
  · exact w58 [.b (tbE h1)] (by kernel_rfl)
  · exact w58 [.b (tbE h1)] (by kernel_rfl)
structure slices_IndexFunc_int_o_frame_Right_c1_L0_s0 where
  c3 : Int
  deriving Inhabited
def slices_IndexFunc_int_o_frame_Right_c1_L0_enc (x0 : Bool) (x1 : List Int) (x2 : Int) (x3 : Int) (s0 : slices_IndexFunc_int_o_frame_Right_c1_L0_s0) : List V × Mem := ([(V.d (slD (encI .i64) true 1 x0 x1)), (V.fn (.func 58) [] []), (V.d (.int .i64 x2)), (V.d (.int .i64 s0.c3))], [])
def slices_IndexFunc_int_o_frame_Right_c1_L0_sel (x1 : List Int) (x2 : Int) (s0 : slices_IndexFunc_int_o_frame_Right_c1_L0_s0) : Bool := (bif tb (decide (s0.c3 < x2)) then (bif tb (inb x1.length s0.c3) then (bif tb (frame_Right_c1_i_r0_0 (gt x1 s0.c3)) then false else true) else false) else false)
def slices_IndexFunc_int_o_frame_Right_c1_L0_nx (x1 : List Int) (x2 : Int) (s0 : slices_IndexFunc_int_o_frame_Right_c1_L0_s0) : slices_IndexFunc_int_o_frame_Right_c1_L0_s0 := ⟨(wi (s0.c3 + 1))⟩
def slices_IndexFunc_int_o_frame_Right_c1_L0_ok (x1 : List Int) (x2 : Int) (s0 : slices_IndexFunc_int_o_frame_Right_c1_L0_s0) : Bool := (itS (slices_IndexFunc_int_o_frame_Right_c1_L0_sel x1 x2) (slices_IndexFunc_int_o_frame_Right_c1_L0_nx x1 x2) bound s0).isSome
def slices_IndexFunc_int_o_frame_Right_c1_L0_end (x1 : List Int) (x2 : Int) (s0 : slices_IndexFunc_int_o_frame_Right_c1_L0_s0) : slices_IndexFunc_int_o_frame_Right_c1_L0_s0 := (itS (slices_IndexFunc_int_o_frame_Right_c1_L0_sel x1 x2) (slices_IndexFunc_int_o_frame_Right_c1_L0_nx x1 x2) bound s0).getD default
theorem slices_IndexFunc_int_o_frame_Right_c1_L0_go (x0 : Bool) (x1 : List Int) (x2 : Int) (x3 : Int) (s0 : slices_IndexFunc_int_o_frame_Right_c1_L0_s0) : slices_IndexFunc_int_o_frame_Right_c1_L0_sel x1 x2 s0 = true → (roundG (runC E0 (cl E0) L82_0) [0, 1, 7, 8] [4] 0) (slices_IndexFunc_int_o_frame_Right_c1_L0_enc x0 x1 x2 x3 s0) = some (.normal, slices_IndexFunc_int_o_frame_Right_c1_L0_enc x0 x1 x2 x3 (slices_IndexFunc_int_o_frame_Right_c1_L0_nx x1 x2 s0)) := by
  unfold slices_IndexFunc_int_o_frame_Right_c1_L0_sel slices_IndexFunc_int_o_frame_Right_c1_L0_nx
  cases h1 : tb (decide (s0.c3 < x2))
  · intro g0
    exact absurd g0 ft
  · cases h2 : tb (inb x1.length s0.c3)
    · intro g0
      exact absurd g0 ft
    · cases h3 : tb (frame_Right_c1_i_r0_0 (gt x1 s0.c3))
      · intro _
        exact round_walk [.b (tbE h1), .o 14 (fun _ => o_idx_os (enc := (encI .i64)) (l := x1) (fl := true) (n := x0) (s := 1) (k := .i64) (tbE h2)), .c (frame_Right_c1_i_t0 (gt x1 s0.c3)), .b (tbE h3)] (by kernel_rfl)
      · intro g0
        exact absurd g0 ft
def slices_IndexFunc_int_o_frame_Right_c1_L0_c0 (x1 : List Int) (x2 : Int) (s0 : slices_IndexFunc_int_o_frame_Right_c1_L0_s0) : Bool := (bif tb (decide (s0.c3 < x2)) then (bif tb (inb x1.length s0.c3) then true else false) else false)
def slices_IndexFunc_int_o_frame_Right_c1_L0_c1 (x2 : Int) (s0 : slices_IndexFunc_int_o_frame_Right_c1_L0_s0) : Bool := (bif tb (decide (s0.c3 < x2)) then false else true)
theorem slices_IndexFunc_int_o_frame_Right_c1_L0_x0 (x0 : Bool) (x1 : List Int) (x2 : Int) (x3 : Int) (s0 : slices_IndexFunc_int_o_frame_Right_c1_L0_s0) : slices_IndexFunc_int_o_frame_Right_c1_L0_sel x1 x2 s0 = false → slices_IndexFunc_int_o_frame_Right_c1_L0_c0 x1 x2 s0 = true → (roundG (runC E0 (cl E0) L82_0) [0, 1, 7, 8] [4] 0) (slices_IndexFunc_int_o_frame_Right_c1_L0_enc x0 x1 x2 x3 s0) = some (.ret, ([(V.d (.int .i64 s0.c3))], [])) := by
  unfold slices_IndexFunc_int_o_frame_Right_c1_L0_sel slices_IndexFunc_int_o_frame_Right_c1_L0_c0
  cases h1 : tb (decide (s0.c3 < x2))
  · intro g0 g1
    exact absurd g1 ft
  · cases h2 : tb (inb x1.length s0.c3)
    · intro g0 g1
      exact absurd g1 ft
    · cases h3 : tb (frame_Right_c1_i_r0_0 (gt x1 s0.c3))
      · intro g0 g1
        exact absurd g0 tf
      · intro g0 g1
        exact round_walk [.b (tbE h1), .o 14 (fun _ => o_idx_os (enc := (encI .i64)) (l := x1) (fl := true) (n := x0) (s := 1) (k := .i64) (tbE h2)), .c (frame_Right_c1_i_t0 (gt x1 s0.c3)), .b (tbE h3)] (by kernel_rfl)
theorem slices_IndexFunc_int_o_frame_Right_c1_L0_x1 (x0 : Bool) (x1 : List Int) (x2 : Int) (x3 : Int) (s0 : slices_IndexFunc_int_o_frame_Right_c1_L0_s0) : slices_IndexFunc_int_o_frame_Right_c1_L0_sel x1 x2 s0 = false → slices_IndexFunc_int_o_frame_Right_c1_L0_c0 x1 x2 s0 = false → slices_IndexFunc_int_o_frame_Right_c1_L0_c1 x2 s0 = true → (roundG (runC E0 (cl E0) L82_0) [0, 1, 7, 8] [4] 0) (slices_IndexFunc_int_o_frame_Right_c1_L0_enc x0 x1 x2 x3 s0) = some ((.exit 0), ([V.un], [])) := by
  unfold slices_IndexFunc_int_o_frame_Right_c1_L0_sel slices_IndexFunc_int_o_frame_Right_c1_L0_c0 slices_IndexFunc_int_o_frame_Right_c1_L0_c1
  cases h1 : tb (decide (s0.c3 < x2))
  · intro g0 g1 g2
    exact round_walk [.b (tbE h1)] (by kernel_rfl)
  · cases h2 : tb (inb x1.length s0.c3)
    · intro g0 g1 g2
      exact absurd g2 ft
    · cases h3 : tb (frame_Right_c1_i_r0_0 (gt x1 s0.c3))
      · intro g0 g1 g2
        exact absurd g0 tf
      · intro g0 g1 g2
        exact absurd g1 tf
theorem slices_IndexFunc_int_o_frame_Right_c1_L0_f0_0 (x0 : Bool) (x1 : List Int) (x2 : Int) (x3 : Int) (s : slices_IndexFunc_int_o_frame_Right_c1_L0_s0) (hok : slices_IndexFunc_int_o_frame_Right_c1_L0_ok x1 x2 s = true) (c0 : slices_IndexFunc_int_o_frame_Right_c1_L0_c0 x1 x2 (slices_IndexFunc_int_o_frame_Right_c1_L0_end x1 x2 s) = true) : loopG (roundG (runC E0 (cl E0) L82_0) [0, 1, 7, 8] [4] 0) bound (slices_IndexFunc_int_o_frame_Right_c1_L0_enc x0 x1 x2 x3 s) = some (.ret, ([(V.d (.int .i64 ((slices_IndexFunc_int_o_frame_Right_c1_L0_end x1 x2 s).c3)))], [])) := by
  have e : itS (slices_IndexFunc_int_o_frame_Right_c1_L0_sel x1 x2) (slices_IndexFunc_int_o_frame_Right_c1_L0_nx x1 x2) bound s = some (slices_IndexFunc_int_o_frame_Right_c1_L0_end x1 x2 s) := itS_get hok
  have f := itS_false e
  exact loop_it (slices_IndexFunc_int_o_frame_Right_c1_L0_go x0 x1 x2 x3) bound s _ _ _ e (fun h => by cases h) (slices_IndexFunc_int_o_frame_Right_c1_L0_x0 x0 x1 x2 x3 (slices_IndexFunc_int_o_frame_Right_c1_L0_end x1 x2 s) f c0)
theorem slices_IndexFunc_int_o_frame_Right_c1_L0_f0_1 (x0 : Bool) (x1 : List Int) (x2 : Int) (x3 : Int) (s : slices_IndexFunc_int_o_frame_Right_c1_L0_s0) (hok : slices_IndexFunc_int_o_frame_Right_c1_L0_ok x1 x2 s = true) (c0 : slices_IndexFunc_int_o_frame_Right_c1_L0_c0 x1 x2 (slices_IndexFunc_int_o_frame_Right_c1_L0_end x1 x2 s) = false) (c1 : slices_IndexFunc_int_o_frame_Right_c1_L0_c1 x2 (slices_IndexFunc_int_o_frame_Right_c1_L0_end x1 x2 s) = true) : loopG (roundG (runC E0 (cl E0) L82_0) [0, 1, 7, 8] [4] 0) bound (slices_IndexFunc_int_o_frame_Right_c1_L0_enc x0 x1 x2 x3 s) = some ((.exit 0), ([V.un], [])) := by
  have e : itS (slices_IndexFunc_int_o_frame_Right_c1_L0_sel x1 x2) (slices_IndexFunc_int_o_frame_Right_c1_L0_nx x1 x2) bound s = some (slices_IndexFunc_int_o_frame_Right_c1_L0_end x1 x2 s) := itS_get hok
  have f := itS_false e
  exact loop_it (slices_IndexFunc_int_o_frame_Right_c1_L0_go x0 x1 x2 x3) bound s _ _ _ e (fun h => by cases h) (slices_IndexFunc_int_o_frame_Right_c1_L0_x1 x0 x1 x2 x3 (slices_IndexFunc_int_o_frame_Right_c1_L0_end x1 x2 s) f c0 c1)
def slices_IndexFunc_int_o_frame_Right_c1_e0 (x1 : List Int) : slices_IndexFunc_int_o_frame_Right_c1_L0_s0 := slices_IndexFunc_int_o_frame_Right_c1_L0_end x1 ((x1.length : Nat) : Int) (⟨0⟩ : slices_IndexFunc_int_o_frame_Right_c1_L0_s0)
def slices_IndexFunc_int_o_frame_Right_c1_c0 (x1 : List Int) : Bool := (bif tb (slices_IndexFunc_int_o_frame_Right_c1_L0_ok x1 ((x1.length : Nat) : Int) (⟨0⟩ : slices_IndexFunc_int_o_frame_Right_c1_L0_s0)) then (bif tb (slices_IndexFunc_int_o_frame_Right_c1_L0_c0 x1 ((x1.length : Nat) : Int) (slices_IndexFunc_int_o_frame_Right_c1_e0 x1)) then true else (bif tb (slices_IndexFunc_int_o_frame_Right_c1_L0_c1 ((x1.length : Nat) : Int) (slices_IndexFunc_int_o_frame_Right_c1_e0 x1)) then true else false)) else false)
def slices_IndexFunc_int_o_frame_Right_c1_r0_0 (x1 : List Int) : Int := (bif tb (slices_IndexFunc_int_o_frame_Right_c1_L0_c0 x1 ((x1.length : Nat) : Int) (slices_IndexFunc_int_o_frame_Right_c1_e0 x1)) then ((slices_IndexFunc_int_o_frame_Right_c1_e0 x1).c3) else (-1))
theorem slices_IndexFunc_int_o_frame_Right_c1_t0 (x0 : Bool) (x1 : List Int) : slices_IndexFunc_int_o_frame_Right_c1_c0 x1 = true → cl E0 82 [(V.d (slD (encI .i64) true 1 x0 x1)), (V.fn (.func 58) [] [])] [] = some ([(V.d (.int .i64 (slices_IndexFunc_int_o_frame_Right_c1_r0_0 x1)))], []) := by
  unfold slices_IndexFunc_int_o_frame_Right_c1_c0 slices_IndexFunc_int_o_frame_Right_c1_r0_0
  cases h1 : tb (slices_IndexFunc_int_o_frame_Right_c1_L0_ok x1 ((x1.length : Nat) : Int) (⟨0⟩ : slices_IndexFunc_int_o_frame_Right_c1_L0_s0))
  · intro g0
    exact absurd g0 ft
  · cases h2 : tb (slices_IndexFunc_int_o_frame_Right_c1_L0_c0 x1 ((x1.length : Nat) : Int) (slices_IndexFunc_int_o_frame_Right_c1_e0 x1))
    · cases h3 : tb (slices_IndexFunc_int_o_frame_Right_c1_L0_c1 ((x1.length : Nat) : Int) (slices_IndexFunc_int_o_frame_Right_c1_e0 x1))
      · intro g0
        exact absurd g0 ft
      · intro g0
        exact w82 [.o 7 (fun _ => o_len_os (enc := (encI .i64)) (l := x1) (fl := true) (n := x0) (s := 1)), .l (slices_IndexFunc_int_o_frame_Right_c1_L0_f0_1 x0 x1 ((x1.length : Nat) : Int) 0 (⟨0⟩ : slices_IndexFunc_int_o_frame_Right_c1_L0_s0) (tbE h1) (tbE h2) (tbE h3))] (by kernel_rfl)
    · intro g0
      exact w82 [.o 7 (fun _ => o_len_os (enc := (encI .i64)) (l := x1) (fl := true) (n := x0) (s := 1)), .l (slices_IndexFunc_int_o_frame_Right_c1_L0_f0_0 x0 x1 ((x1.length : Nat) : Int) 0 (⟨0⟩ : slices_IndexFunc_int_o_frame_Right_c1_L0_s0) (tbE h1) (tbE h2))] (by kernel_rfl)
def slices_ContainsFunc_int_o_frame_Right_c1_c0 (x1 : List Int) : Bool := (bif tb (slices_IndexFunc_int_o_frame_Right_c1_c0 x1) then true else false)
theorem slices_ContainsFunc_int_o_frame_Right_c1_t0 (x0 : Bool) (x1 : List Int) : slices_ContainsFunc_int_o_frame_Right_c1_c0 x1 = true → cl E0 59 [(V.d (slD (encI .i64) true 1 x0 x1)), (V.fn (.func 58) [] [])] [] = some ([(V.d (.bool (decide (0 ≤ (slices_IndexFunc_int_o_frame_Right_c1_r0_0 x1)))))], []) := by
  unfold slices_ContainsFunc_int_o_frame_Right_c1_c0
  cases h1 : tb (slices_IndexFunc_int_o_frame_Right_c1_c0 x1)
  · intro g0
    exact absurd g0 ft
  · intro g0
    exact w59 [.c (slices_IndexFunc_int_o_frame_Right_c1_t0 x0 x1 (tbE h1))] (by kernel_rfl)
def frame_Right_ai9_e0 (x1 : List Int) : List Int := [(gt x1 0), (gt x1 1), (gt x1 2), (gt x1 3), (gt x1 4), (gt x1 5), (gt x1 6), (gt x1 7)]
def frame_Right_ai9_c0 (x0 : Int) (x1 : List Int) : Bool := (bif tb (decide (0 ≤ x0)) then (bif tb (decide (x0 < 65536)) then (bif tb (slices_ContainsFunc_int_o_frame_Right_c1_c0 (frame_Right_ai9_e0 x1)) then true else false) else true) else true)
def frame_Right_ai9_r0_0 (x0 : Int) (x1 : List Int) : Bool := (bif tb (decide (0 ≤ x0)) then (bif tb (decide (x0 < 65536)) then (!(decide (0 ≤ (slices_IndexFunc_int_o_frame_Right_c1_r0_0 (frame_Right_ai9_e0 x1))))) else false) else false)
theorem frame_Right_ai9_t0 (x0 : Int) (x1 : List Int) : frame_Right_ai9_c0 x0 x1 = true → cl E0 16 [(V.agg [(V.d (.int .i64 x0)), (V.d (.int .i64 (gt x1 0))), (V.d (.int .i64 (gt x1 1))), (V.d (.int .i64 (gt x1 2))), (V.d (.int .i64 (gt x1 3))), (V.d (.int .i64 (gt x1 4))), (V.d (.int .i64 (gt x1 5))), (V.d (.int .i64 (gt x1 6))), (V.d (.int .i64 (gt x1 7)))])] [] = some ([(V.d (.bool (frame_Right_ai9_r0_0 x0 x1)))], []) := by
  unfold frame_Right_ai9_c0 frame_Right_ai9_r0_0
  cases h1 : tb (decide (0 ≤ x0))
  · intro g0
    exact w16 [.b (tbE h1)] (by kernel_rfl)
  · cases h2 : tb (decide (x0 < 65536))
    · intro g0
      exact w16 [.b (tbE h1), .b (tbE h2)] (by kernel_rfl)
    · cases h3 : tb (slices_ContainsFunc_int_o_frame_Right_c1_c0 (frame_Right_ai9_e0 x1))
      · intro g0
        exact absurd g0 ft
      · intro g0
        exact w16 [.b (tbE h1), .b (tbE h2), .c (slices_ContainsFunc_int_o_frame_Right_c1_t0 false (frame_Right_ai9_e0 x1) (tbE h3))] (by kernel_rfl)
def frame_Encode_iai9_S0_c0 (x0 : Int) (x1 : List Int) (x4 : Int) : Bool := (bif tb (decide (x4 < 0)) then true else (bif tb (decide (4 ≤ x4)) then true else (bif tb (frame_Right_ai9_c0 x0 x1) then (bif tb (frame_Right_ai9_r0_0 x0 x1) then false else true) else false)))
def frame_Encode_iai9_S0_c1 (x0 : Int) (x1 : List Int) (x4 : Int) : Bool := (bif tb (decide (x4 < 0)) then false else (bif tb (decide (4 ≤ x4)) then false else (bif tb (frame_Right_ai9_c0 x0 x1) then (bif tb (frame_Right_ai9_r0_0 x0 x1) then true else false) else false)))
theorem frame_Encode_iai9_S0_t0 (x0 : Int) (x1 : List Int) (x2 : Bool) (x3 : Bool) (x4 : Int) : frame_Encode_iai9_S0_c0 x0 x1 x4 = true → segG (runC E0 (cl E0) S11_0) [0, 3] [4, 5] [0, 3] 2 ([(V.d (.int .i64 x4)), (V.ptr 0 1 0 0)], [(Blk.flat 24 9 [([(.int .i64 x0)] ++ arrD .i64 x1 8)] x2), (Blk.flat 5 1 [] x3)]) = some (.ret, ([(V.so true 2 0), (V.d (.int .i64 1))], [(Blk.flat 24 9 [([(.int .i64 x0)] ++ arrD .i64 x1 8)] x2), (Blk.flat 5 1 [] x3), (Blk.flat 5 1 [] false)])) := by
  unfold frame_Encode_iai9_S0_c0
  cases h1 : tb (decide (x4 < 0))
  · cases h2 : tb (decide (4 ≤ x4))
    · cases h3 : tb (frame_Right_ai9_c0 x0 x1)
      · intro g0
        exact absurd g0 ft
      · cases h4 : tb (frame_Right_ai9_r0_0 x0 x1)
        · intro g0
          exact seg_walk [.b (tbE h1), .b (tbE h2), .c (frame_Right_ai9_t0 x0 x1 (tbE h3)), .b (notF (tbE h4))] (by kernel_rfl)
        · intro g0
          exact absurd g0 ft
    · intro g0
      exact seg_walk [.b (tbE h1), .b (tbE h2)] (by kernel_rfl)
  · intro g0
    exact seg_walk [.b (tbE h1)] (by kernel_rfl)
theorem frame_Encode_iai9_S0_t1 (x0 : Int) (x1 : List Int) (x2 : Bool) (x3 : Bool) (x4 : Int) : frame_Encode_iai9_S0_c0 x0 x1 x4 = false → frame_Encode_iai9_S0_c1 x0 x1 x4 = true → segG (runC E0 (cl E0) S11_0) [0, 3] [4, 5] [0, 3] 2 ([(V.d (.int .i64 x4)), (V.ptr 0 1 0 0)], [(Blk.flat 24 9 [([(.int .i64 x0)] ++ arrD .i64 x1 8)] x2), (Blk.flat 5 1 [] x3)]) = some (.normal, ([(V.d (.int .i64 x4)), (V.ptr 0 1 0 0)], [(Blk.flat 24 9 [([(.int .i64 x0)] ++ arrD .i64 x1 8)] x2), (Blk.flat 5 1 [] x3)])) := by
  unfold frame_Encode_iai9_S0_c0 frame_Encode_iai9_S0_c1
  cases h1 : tb (decide (x4 < 0))
  · cases h2 : tb (decide (4 ≤ x4))
    · cases h3 : tb (frame_Right_ai9_c0 x0 x1)
      · intro g0 g1
        exact absurd g1 ft
      · cases h4 : tb (frame_Right_ai9_r0_0 x0 x1)
        · intro g0 g1
          exact absurd g0 tf
        · intro g0 g1
          exact seg_walk [.b (tbE h1), .b (tbE h2), .c (frame_Right_ai9_t0 x0 x1 (tbE h3)), .b (notT (tbE h4))] (by kernel_rfl)
    · intro g0 g1
      exact absurd g0 tf
  · intro g0 g1
    exact absurd g0 tf
def frame_Encode_iai9_e0 (x2 : List Int) : List Int := [(gt x2 0), (gt x2 1), (gt x2 2), (gt x2 3), (gt x2 4), (gt x2 5), (gt x2 6), (gt x2 7)]
def frame_Encode_iai9_e1 (x0 : Int) (x1 : Int) (x2 : List Int) : Bool := ((word_PutAll_o_r0_1 (frame_Encode_iai9_e0 x2)).isEmpty && ((word_Put2_i_r0_1 x1).isEmpty && ([165, (IntKind.u8.wrap (x0))].isEmpty && (slices_Concat_byte_v_GvvvLLL_e0 [165, (IntKind.u8.wrap (x0))] (word_Put2_i_r0_1 x1) (word_PutAll_o_r0_1 (frame_Encode_iai9_e0 x2))))))
def frame_Encode_iai9_e2 (x0 : Int) (x1 : Int) (x2 : List Int) : List Int := (([165, (IntKind.u8.wrap (x0))] ++ (word_Put2_i_r0_1 x1)) ++ (word_PutAll_o_r0_1 (frame_Encode_iai9_e0 x2)))
def frame_Encode_iai9_c0 (x0 : Int) (x1 : Int) (x2 : List Int) : Bool := (bif tb (frame_Encode_iai9_S0_c0 x1 x2 x0) then true else (bif tb (frame_Encode_iai9_S0_c1 x1 x2 x0) then (bif tb (word_PutAll_o_c0 (frame_Encode_iai9_e0 x2)) then (bif tb (slices_Concat_byte_v_GvvvLLL_c0 [165, (IntKind.u8.wrap (x0))] (word_Put2_i_r0_1 x1) (word_PutAll_o_r0_1 (frame_Encode_iai9_e0 x2))) then (bif tb (crc_Seal_o_c0 (frame_Encode_iai9_e1 x0 x1 x2) (frame_Encode_iai9_e2 x0 x1 x2)) then true else false) else false) else false) else false))
def frame_Encode_iai9_r0_0 (x0 : Int) (x1 : Int) (x2 : List Int) : Bool := (bif tb (frame_Encode_iai9_S0_c0 x1 x2 x0) then true else false)
def frame_Encode_iai9_r0_1 (x0 : Int) (x1 : Int) (x2 : List Int) : Int := (bif tb (frame_Encode_iai9_S0_c0 x1 x2 x0) then 1 else 0)
def frame_Encode_iai9_r0_2 (x0 : Int) (x1 : Int) (x2 : List Int) : List Int := (bif tb (frame_Encode_iai9_S0_c0 x1 x2 x0) then ([] : List Int) else (crc_Seal_o_e0 (frame_Encode_iai9_e1 x0 x1 x2) (frame_Encode_iai9_e2 x0 x1 x2)))
theorem frame_Encode_iai9_t0 (x0 : Int) (x1 : Int) (x2 : List Int) : frame_Encode_iai9_c0 x0 x1 x2 = true → cl E0 11 [(V.d (.int .i64 x0)), (V.agg [(V.d (.int .i64 x1)), (V.d (.int .i64 (gt x2 0))), (V.d (.int .i64 (gt x2 1))), (V.d (.int .i64 (gt x2 2))), (V.d (.int .i64 (gt x2 3))), (V.d (.int .i64 (gt x2 4))), (V.d (.int .i64 (gt x2 5))), (V.d (.int .i64 (gt x2 6))), (V.d (.int .i64 (gt x2 7)))])] [] = some ([(V.so (frame_Encode_iai9_r0_0 x0 x1 x2) 0 ((frame_Encode_iai9_r0_2 x0 x1 x2).length)), (V.d (.int .i64 (frame_Encode_iai9_r0_1 x0 x1 x2)))], [(Blk.flat 5 1 (List.map (encI .u8) (frame_Encode_iai9_r0_2 x0 x1 x2)) false)]) := by
  unfold frame_Encode_iai9_c0 frame_Encode_iai9_r0_0 frame_Encode_iai9_r0_1 frame_Encode_iai9_r0_2
  cases h1 : tb (frame_Encode_iai9_S0_c0 x1 x2 x0)
  · cases h2 : tb (frame_Encode_iai9_S0_c1 x1 x2 x0)
    · intro g0
      exact absurd g0 ft
    · cases h3 : tb (word_PutAll_o_c0 (frame_Encode_iai9_e0 x2))
      · intro g0
        exact absurd g0 ft
      · cases h4 : tb (slices_Concat_byte_v_GvvvLLL_c0 [165, (IntKind.u8.wrap (x0))] (word_Put2_i_r0_1 x1) (word_PutAll_o_r0_1 (frame_Encode_iai9_e0 x2)))
        · intro g0
          exact absurd g0 ft
        · cases h5 : tb (crc_Seal_o_c0 (frame_Encode_iai9_e1 x0 x1 x2) (frame_Encode_iai9_e2 x0 x1 x2))
          · intro g0
            exact absurd g0 ft
          · intro g0
            exact w11 [.s (frame_Encode_iai9_S0_t1 x1 x2 false false x0 (tbE h1) (tbE h2)), .c (word_Put2_i_t0 x1), .c (word_PutAll_o_t0 false (frame_Encode_iai9_e0 x2) (tbE h3)), .c (slices_Concat_byte_v_GvvvLLL_t0 [165, (IntKind.u8.wrap (x0))] (word_Put2_i_r0_1 x1) (word_PutAll_o_r0_1 (frame_Encode_iai9_e0 x2)) false (word_Put2_i_r0_0 x1) (word_PutAll_o_r0_0 (frame_Encode_iai9_e0 x2)) false false false false false (tbE h4)), .y (mm := [(Blk.flat 24 9 [([(.int .i64 x1)] ++ arrD .i64 x2 8)] false), (Blk.flat 5 1 [] false), (Blk.flat 5 1 (List.map (encI .u8) [165, (IntKind.u8.wrap (x0))]) false), (Blk.flat 5 1 (List.map (encI .u8) (word_Put2_i_r0_1 x1)) false), (Blk.flat 5 1 (List.map (encI .u8) (word_PutAll_o_r0_1 (frame_Encode_iai9_e0 x2))) false), (Blk.gen 25 1 [[(V.so false 2 ([165, (IntKind.u8.wrap (x0))].length))], [(V.so (word_Put2_i_r0_0 x1) 3 ((word_Put2_i_r0_1 x1).length))], [(V.so (word_PutAll_o_r0_0 (frame_Encode_iai9_e0 x2)) 4 ((word_PutAll_o_r0_1 (frame_Encode_iai9_e0 x2)).length))]] false), (Blk.flat 5 1 (List.map (encI .u8) (([165, (IntKind.u8.wrap (x0))] ++ (word_Put2_i_r0_1 x1)) ++ (word_PutAll_o_r0_1 (frame_Encode_iai9_e0 x2)))) false)]) (args := [(V.so ((word_PutAll_o_r0_1 (frame_Encode_iai9_e0 x2)).isEmpty && ((word_Put2_i_r0_1 x1).isEmpty && ([165, (IntKind.u8.wrap (x0))].isEmpty && (slices_Concat_byte_v_GvvvLLL_e0 [165, (IntKind.u8.wrap (x0))] (word_Put2_i_r0_1 x1) (word_PutAll_o_r0_1 (frame_Encode_iai9_e0 x2)))))) 6 ((([165, (IntKind.u8.wrap (x0))] ++ (word_Put2_i_r0_1 x1)) ++ (word_PutAll_o_r0_1 (frame_Encode_iai9_e0 x2))).length))]) (args1 := [(V.d (slD (encI .u8) true 1 ((word_PutAll_o_r0_1 (frame_Encode_iai9_e0 x2)).isEmpty && ((word_Put2_i_r0_1 x1).isEmpty && ([165, (IntKind.u8.wrap (x0))].isEmpty && (slices_Concat_byte_v_GvvvLLL_e0 [165, (IntKind.u8.wrap (x0))] (word_Put2_i_r0_1 x1) (word_PutAll_o_r0_1 (frame_Encode_iai9_e0 x2)))))) (([165, (IntKind.u8.wrap (x0))] ++ (word_Put2_i_r0_1 x1)) ++ (word_PutAll_o_r0_1 (frame_Encode_iai9_e0 x2)))))]) (byvals_cons (byval_so (enc := (encI .u8)) (l := (([165, (IntKind.u8.wrap (x0))] ++ (word_Put2_i_r0_1 x1)) ++ (word_PutAll_o_r0_1 (frame_Encode_iai9_e0 x2)))) (b := ((word_PutAll_o_r0_1 (frame_Encode_iai9_e0 x2)).isEmpty && ((word_Put2_i_r0_1 x1).isEmpty && ([165, (IntKind.u8.wrap (x0))].isEmpty && (slices_Concat_byte_v_GvvvLLL_e0 [165, (IntKind.u8.wrap (x0))] (word_Put2_i_r0_1 x1) (word_PutAll_o_r0_1 (frame_Encode_iai9_e0 x2))))))) (e := 5) (s := 1) (p := false) (n := ((([165, (IntKind.u8.wrap (x0))] ++ (word_Put2_i_r0_1 x1)) ++ (word_PutAll_o_r0_1 (frame_Encode_iai9_e0 x2))).length)) (Nat.beq_refl _) (by kernel_rfl)) (by kernel_rfl)), .c (crc_Seal_o_t0 (frame_Encode_iai9_e1 x0 x1 x2) (frame_Encode_iai9_e2 x0 x1 x2) (tbE h5))] (by kernel_rfl)
  · intro g0
    exact w11 [.s (frame_Encode_iai9_S0_t0 x1 x2 false false x0 (tbE h1))] (by kernel_rfl)
def frame_Decode_iabo_S0_c0 (x1 : Bool) (x3 : List Int) (x6 : Int) : Bool := (bif tb (x1) then (bif tb ((((x3.length : Nat) : Int) : Int) != 38) then true else (bif tb (inb x3.length 0) then (bif tb (((gt x3 0) : Int) != 165) then true else (bif tb (inb x3.length 1) then (bif tb (((wi (gt x3 1)) : Int) != x6) then true else false) else false)) else false)) else true)
def frame_Decode_iabo_S0_r0_0 (x1 : Bool) (x3 : List Int) : Int := (bif tb (x1) then (bif tb ((((x3.length : Nat) : Int) : Int) != 38) then 2 else (bif tb (((gt x3 0) : Int) != 165) then 3 else 4)) else 1)
def frame_Decode_iabo_S0_c1 (x1 : Bool) (x3 : List Int) (x6 : Int) : Bool := (bif tb (x1) then (bif tb ((((x3.length : Nat) : Int) : Int) != 38) then false else (bif tb (inb x3.length 0) then (bif tb (((gt x3 0) : Int) != 165) then false else (bif tb (inb x3.length 1) then (bif tb (((wi (gt x3 1)) : Int) != x6) then false else true) else false)) else false)) else false)
theorem frame_Decode_iabo_S0_t0 (x0 : List Int) (x1 : Bool) (x2 : Bool) (x3 : List Int) (x4 : Bool) (x6 : Int) : frame_Decode_iabo_S0_c0 x1 x3 x6 = true → segG (runC E0 (cl E0) S13_0) [0, 3, 4] [4, 5] [3, 4] 2 ([(V.d (.int .i64 x6)), (V.ptr 0 1 0 0), (V.ptr 1 1 0 0)], [(Blk.gen 27 2 [[(V.d (.bool x1)), (V.d (slD (encI .u8) true 1 x2 x3))]] x4), (Blk.flat 24 9 [([(.int .i64 0)] ++ arrD .i64 x0 8)] false)]) = some (.ret, ([(V.ptr 1 1 0 0), (V.d (.int .i64 (frame_Decode_iabo_S0_r0_0 x1 x3)))], [(Blk.gen 27 2 [[(V.d (.bool x1)), (V.d (slD (encI .u8) true 1 x2 x3))]] x4), (Blk.flat 24 9 [([(.int .i64 0)] ++ arrD .i64 [0, 0, 0, 0, 0, 0, 0, 0] 8)] false)])) := by
  unfold frame_Decode_iabo_S0_c0 frame_Decode_iabo_S0_r0_0
  cases h1 : tb (x1)
  · intro g0
    exact seg_walk [.b (notF (tbE h1))] (by kernel_rfl)
  · cases h2 : tb ((((x3.length : Nat) : Int) : Int) != 38)
    · cases h3 : tb (inb x3.length 0)
      · intro g0
        exact absurd g0 ft
      · cases h4 : tb (((gt x3 0) : Int) != 165)
        · cases h5 : tb (inb x3.length 1)
          · intro g0
            exact absurd g0 ft
          · cases h6 : tb (((wi (gt x3 1)) : Int) != x6)
            · intro g0
              exact absurd g0 ft
            · intro g0
              exact seg_walk [.b (notT (tbE h1)), .o 19 (fun _ => o_len_os (enc := (encI .u8)) (l := x3) (fl := true) (n := x2) (s := 1)), .b (tbE h2), .o 25 (fun _ => o_idx_os (enc := (encI .u8)) (l := x3) (fl := true) (n := x2) (s := 1) (k := .i64) (tbE h3)), .b (tbE h4), .o 32 (fun _ => o_idx_os (enc := (encI .u8)) (l := x3) (fl := true) (n := x2) (s := 1) (k := .i64) (tbE h5)), .b (tbE h6)] (by kernel_rfl)
        · intro g0
          exact seg_walk [.b (notT (tbE h1)), .o 19 (fun _ => o_len_os (enc := (encI .u8)) (l := x3) (fl := true) (n := x2) (s := 1)), .b (tbE h2), .o 25 (fun _ => o_idx_os (enc := (encI .u8)) (l := x3) (fl := true) (n := x2) (s := 1) (k := .i64) (tbE h3)), .b (tbE h4)] (by kernel_rfl)
    · intro g0
      exact seg_walk [.b (notT (tbE h1)), .o 19 (fun _ => o_len_os (enc := (encI .u8)) (l := x3) (fl := true) (n := x2) (s := 1)), .b (tbE h2)] (by kernel_rfl)
theorem frame_Decode_iabo_S0_t1 (x0 : List Int) (x1 : Bool) (x2 : Bool) (x3 : List Int) (x4 : Bool) (x6 : Int) : frame_Decode_iabo_S0_c0 x1 x3 x6 = false → frame_Decode_iabo_S0_c1 x1 x3 x6 = true → segG (runC E0 (cl E0) S13_0) [0, 3, 4] [4, 5] [3, 4] 2 ([(V.d (.int .i64 x6)), (V.ptr 0 1 0 0), (V.ptr 1 1 0 0)], [(Blk.gen 27 2 [[(V.d (.bool x1)), (V.d (slD (encI .u8) true 1 x2 x3))]] x4), (Blk.flat 24 9 [([(.int .i64 0)] ++ arrD .i64 x0 8)] false)]) = some (.normal, ([(V.ptr 0 1 0 0), (V.ptr 1 1 0 0)], [(Blk.gen 27 2 [[(V.d (.bool x1)), (V.d (slD (encI .u8) true 1 x2 x3))]] x4), (Blk.flat 24 9 [([(.int .i64 0)] ++ arrD .i64 x0 8)] false)])) := by
  unfold frame_Decode_iabo_S0_c0 frame_Decode_iabo_S0_c1
  cases h1 : tb (x1)
  · intro g0 g1
    exact absurd g0 tf
  · cases h2 : tb ((((x3.length : Nat) : Int) : Int) != 38)
    · cases h3 : tb (inb x3.length 0)
      · intro g0 g1
        exact absurd g1 ft
      · cases h4 : tb (((gt x3 0) : Int) != 165)
        · cases h5 : tb (inb x3.length 1)
          · intro g0 g1
            exact absurd g1 ft
          · cases h6 : tb (((wi (gt x3 1)) : Int) != x6)
            · intro g0 g1
              exact seg_walk [.b (notT (tbE h1)), .o 19 (fun _ => o_len_os (enc := (encI .u8)) (l := x3) (fl := true) (n := x2) (s := 1)), .b (tbE h2), .o 25 (fun _ => o_idx_os (enc := (encI .u8)) (l := x3) (fl := true) (n := x2) (s := 1) (k := .i64) (tbE h3)), .b (tbE h4), .o 32 (fun _ => o_idx_os (enc := (encI .u8)) (l := x3) (fl := true) (n := x2) (s := 1) (k := .i64) (tbE h5)), .b (tbE h6)] (by kernel_rfl)
            · intro g0 g1
              exact absurd g0 tf
        · intro g0 g1
          exact absurd g0 tf
    · intro g0 g1
      exact absurd g0 tf
def frame_Decode_iabo_S1_e0 (x2 : Bool) (x3 : List Int) : List Int := (sub (crc_Open_o_r0_2 x2 x3) 4 ((((crc_Open_o_r0_2 x2 x3).length) : Nat) : Int))
def frame_Decode_iabo_S1_c0 (x2 : Bool) (x3 : List Int) : Bool := (bif tb (crc_Open_o_c0 x2 x3) then (bif tb (crc_Open_o_r0_1 x2 x3) then (bif tb (ins ((crc_Open_o_r0_2 x2 x3).length) 2 4) then (bif tb (decide (2 < 4)) then (bif tb (word_Get2_o_c0 (sub (crc_Open_o_r0_2 x2 x3) 2 4)) then (bif tb (ins ((crc_Open_o_r0_2 x2 x3).length) 4 ((((crc_Open_o_r0_2 x2 x3).length) : Nat) : Int)) then (bif tb (decide (4 < ((((crc_Open_o_r0_2 x2 x3).length) : Nat) : Int))) then (bif tb (word_GetAll_o_c0 false (frame_Decode_iabo_S1_e0 x2 x3)) then (bif tb (word_GetAll_o_r0_0 false (frame_Decode_iabo_S1_e0 x2 x3)) then false else (bif tb (Nat.ble 8 ((word_GetAll_o_r0_2 false (frame_Decode_iabo_S1_e0 x2 x3)).length)) then true else false)) else false) else false) else false) else false) else (bif tb (crc_Open_o_r0_0 x2 x3) then false else (bif tb (ins ((crc_Open_o_r0_2 x2 x3).length) 4 ((((crc_Open_o_r0_2 x2 x3).length) : Nat) : Int)) then (bif tb (decide (4 < ((((crc_Open_o_r0_2 x2 x3).length) : Nat) : Int))) then (bif tb (word_GetAll_o_c0 false (frame_Decode_iabo_S1_e0 x2 x3)) then (bif tb (word_GetAll_o_r0_0 false (frame_Decode_iabo_S1_e0 x2 x3)) then false else (bif tb (Nat.ble 8 ((word_GetAll_o_r0_2 false (frame_Decode_iabo_S1_e0 x2 x3)).length)) then true else false)) else false) else false) else false))) else false) else false) else false)
def frame_Decode_iabo_S1_r0_5 (x2 : Bool) (x3 : List Int) : Int := (bif tb (decide (2 < 4)) then (word_Get2_o_r0_0 (sub (crc_Open_o_r0_2 x2 x3) 2 4)) else 0)
def frame_Decode_iabo_S1_c1 (x2 : Bool) (x3 : List Int) : Bool := (bif tb (crc_Open_o_c0 x2 x3) then (bif tb (crc_Open_o_r0_1 x2 x3) then false else true) else false)
theorem frame_Decode_iabo_S1_t0 (x0 : List Int) (x1 : Bool) (x2 : Bool) (x3 : List Int) (x4 : Bool) : frame_Decode_iabo_S1_c0 x2 x3 = true → segG (runC E0 (cl E0) S13_1) [3, 4] [4, 5] [4, 5] 2 ([(V.ptr 0 1 0 0), (V.ptr 1 1 0 0)], [(Blk.gen 27 2 [[(V.d (.bool x1)), (V.d (slD (encI .u8) true 1 x2 x3))]] x4), (Blk.flat 24 9 [([(.int .i64 0)] ++ arrD .i64 x0 8)] false)]) = some (.normal, ([(V.ptr 1 1 0 0), (V.d (.int .i64 0))], [(Blk.gen 27 2 [[(V.d (.bool x1)), (V.d (slD (encI .u8) true 1 x2 x3))]] x4), (Blk.flat 24 9 [([(.int .i64 (frame_Decode_iabo_S1_r0_5 x2 x3))] ++ arrD .i64 (word_GetAll_o_r0_2 false (frame_Decode_iabo_S1_e0 x2 x3)) 8)] false)])) := by
  unfold frame_Decode_iabo_S1_c0 frame_Decode_iabo_S1_r0_5
  cases h1 : tb (crc_Open_o_c0 x2 x3)
  · intro g0
    exact absurd g0 ft
  · cases h2 : tb (crc_Open_o_r0_1 x2 x3)
    · intro g0
      exact absurd g0 ft
    · cases h3 : tb (ins ((crc_Open_o_r0_2 x2 x3).length) 2 4)
      · intro g0
        exact absurd g0 ft
      · cases h4 : tb (decide (2 < 4))
        · cases h5 : tb (crc_Open_o_r0_0 x2 x3)
          · cases h6 : tb (ins ((crc_Open_o_r0_2 x2 x3).length) 4 ((((crc_Open_o_r0_2 x2 x3).length) : Nat) : Int))
            · intro g0
              exact absurd g0 ft
            · cases h7 : tb (decide (4 < ((((crc_Open_o_r0_2 x2 x3).length) : Nat) : Int)))
              · cases h8 : tb (word_GetAll_z_c0)
                · intro g0
                  exact absurd g0 ft
                · intro g0
                  exact absurd g0 ft
              · cases h8 : tb (word_GetAll_o_c0 false (frame_Decode_iabo_S1_e0 x2 x3))
                · intro g0
                  exact absurd g0 ft
                · cases h9 : tb (word_GetAll_o_r0_0 false (frame_Decode_iabo_S1_e0 x2 x3))
                  · cases h10 : tb (Nat.ble 8 ((word_GetAll_o_r0_2 false (frame_Decode_iabo_S1_e0 x2 x3)).length))
                    · intro g0
                      exact absurd g0 ft
                    · intro g0
                      exact seg_walk [.c (crc_Open_o_t0 x2 x3 (tbE h1)), .b (notT (tbE h2)), .m 49 (o_slice_sp0 (m := [(Blk.gen 27 2 [[(V.d (.bool x1)), (V.d (slD (encI .u8) true 1 x2 x3))]] x4), (Blk.flat 24 9 [([(.int .i64 0)] ++ arrD .i64 x0 8)] false), (Blk.flat 5 1 (List.map (encI .u8) (crc_Open_o_r0_2 x2 x3)) false), (Blk.flat 24 9 [[(.int .i64 0), (.int .i64 0), (.int .i64 0), (.int .i64 0), (.int .i64 0), (.int .i64 0), (.int .i64 0), (.int .i64 0), (.int .i64 0)]] false)]) (enc := (encI .u8)) (l := (crc_Open_o_r0_2 x2 x3)) (id := 2) (e := 5) (s := 1) (n := ((crc_Open_o_r0_2 x2 x3).length)) (p := false) (some (.i64, 2)) (some (.i64, 4)) (deSo_f (tbE h5)) (Nat.beq_refl _) (by kernel_rfl) (tbE h3) (tbE h4)), .c (word_Get2_z_t0), .m 56 (o_slice_spo (nl := (crc_Open_o_r0_0 x2 x3)) (m := [(Blk.gen 27 2 [[(V.d (.bool x1)), (V.d (slD (encI .u8) true 1 x2 x3))]] x4), (Blk.flat 24 9 [([(.int .i64 0)] ++ arrD .i64 x0 8)] false), (Blk.flat 5 1 (List.map (encI .u8) (crc_Open_o_r0_2 x2 x3)) false), (Blk.flat 24 9 [[(.int .i64 0), (.int .i64 0), (.int .i64 0), (.int .i64 0), (.int .i64 0), (.int .i64 0), (.int .i64 0), (.int .i64 0), (.int .i64 0)]] false)]) (enc := (encI .u8)) (l := (crc_Open_o_r0_2 x2 x3)) (id := 2) (e := 5) (s := 1) (n := ((crc_Open_o_r0_2 x2 x3).length)) (p := false) (some (.i64, 4)) none (by kernel_rfl) (tbE h6) (tbE h7)), .y (mm := [(Blk.gen 27 2 [[(V.d (.bool x1)), (V.d (slD (encI .u8) true 1 x2 x3))]] x4), (Blk.flat 24 9 [([(.int .i64 0)] ++ arrD .i64 x0 8)] false), (Blk.flat 5 1 (List.map (encI .u8) (crc_Open_o_r0_2 x2 x3)) false), (Blk.flat 24 9 [[(.int .i64 0), (.int .i64 0), (.int .i64 0), (.int .i64 0), (.int .i64 0), (.int .i64 0), (.int .i64 0), (.int .i64 0), (.int .i64 0)]] false)]) (args := [(V.sl 2 ((crc_Open_o_r0_2 x2 x3).length) (4 : Int).toNat ((((((crc_Open_o_r0_2 x2 x3).length) : Nat) : Int) : Int).toNat - (4 : Int).toNat))]) (args1 := [(V.d (.rs true 1 (List.map (encI .u8) (sub (crc_Open_o_r0_2 x2 x3) 4 ((((crc_Open_o_r0_2 x2 x3).length) : Nat) : Int))) false))]) (byvals_cons (byval_sp (enc := (encI .u8)) (l := (crc_Open_o_r0_2 x2 x3)) (e := 5) (s := 1) (p := false) (n := ((crc_Open_o_r0_2 x2 x3).length)) (lo := 4) (hi := ((((crc_Open_o_r0_2 x2 x3).length) : Nat) : Int)) (Nat.beq_refl _) (by kernel_rfl) (tbE h6)) (by kernel_rfl)), .c (word_GetAll_o_t0 false (frame_Decode_iabo_S1_e0 x2 x3) (tbE h8)), .m 61 (o_arrP (m := [(Blk.gen 27 2 [[(V.d (.bool x1)), (V.d (slD (encI .u8) true 1 x2 x3))]] x4), (Blk.flat 24 9 [([(.int .i64 0)] ++ arrD .i64 x0 8)] false), (Blk.flat 5 1 (List.map (encI .u8) (crc_Open_o_r0_2 x2 x3)) false), (Blk.flat 24 9 [[(.int .i64 0), (.int .i64 0), (.int .i64 0), (.int .i64 0), (.int .i64 0), (.int .i64 0), (.int .i64 0), (.int .i64 0), (.int .i64 0)]] false), (Blk.flat 3 1 (List.map (encI .i64) (word_GetAll_o_r0_2 false (frame_Decode_iabo_S1_e0 x2 x3))) false)]) (nl := (word_GetAll_o_r0_0 false (frame_Decode_iabo_S1_e0 x2 x3))) (id := 4) (n := ((word_GetAll_o_r0_2 false (frame_Decode_iabo_S1_e0 x2 x3)).length)) (k := 8) (s := 1) (tbE h9) (by kernel_rfl) (tbE h10)), .m 62 (o_load_pa (m := [(Blk.gen 27 2 [[(V.d (.bool x1)), (V.d (slD (encI .u8) true 1 x2 x3))]] x4), (Blk.flat 24 9 [([(.int .i64 0)] ++ arrD .i64 x0 8)] false), (Blk.flat 5 1 (List.map (encI .u8) (crc_Open_o_r0_2 x2 x3)) false), (Blk.flat 24 9 [[(.int .i64 0), (.int .i64 0), (.int .i64 0), (.int .i64 0), (.int .i64 0), (.int .i64 0), (.int .i64 0), (.int .i64 0), (.int .i64 0)]] false), (Blk.flat 3 1 (List.map (encI .i64) (word_GetAll_o_r0_2 false (frame_Decode_iabo_S1_e0 x2 x3))) false)]) (kd := .i64) (l := (word_GetAll_o_r0_2 false (frame_Decode_iabo_S1_e0 x2 x3))) (id := 4) (n := ((word_GetAll_o_r0_2 false (frame_Decode_iabo_S1_e0 x2 x3)).length)) (k := 8) (e := 3) (p := false) (Nat.beq_refl _) (by kernel_rfl) (tbE h10))] (by kernel_rfl)
                  · intro g0
                    exact absurd g0 ft
          · intro g0
            exact absurd g0 ft
        · cases h5 : tb (word_Get2_o_c0 (sub (crc_Open_o_r0_2 x2 x3) 2 4))
          · intro g0
            exact absurd g0 ft
          · cases h6 : tb (ins ((crc_Open_o_r0_2 x2 x3).length) 4 ((((crc_Open_o_r0_2 x2 x3).length) : Nat) : Int))
            · intro g0
              exact absurd g0 ft
            · cases h7 : tb (decide (4 < ((((crc_Open_o_r0_2 x2 x3).length) : Nat) : Int)))
              · cases h8 : tb (crc_Open_o_r0_0 x2 x3)
                · cases h9 : tb (word_GetAll_z_c0)
                  · intro g0
                    exact absurd g0 ft
                  · intro g0
                    exact absurd g0 ft
                · intro g0
                  exact absurd g0 ft
              · cases h8 : tb (word_GetAll_o_c0 false (frame_Decode_iabo_S1_e0 x2 x3))
                · intro g0
                  exact absurd g0 ft
                · cases h9 : tb (word_GetAll_o_r0_0 false (frame_Decode_iabo_S1_e0 x2 x3))
                  · cases h10 : tb (Nat.ble 8 ((word_GetAll_o_r0_2 false (frame_Decode_iabo_S1_e0 x2 x3)).length))
                    · intro g0
                      exact absurd g0 ft
                    · intro g0
                      exact seg_walk [.c (crc_Open_o_t0 x2 x3 (tbE h1)), .b (notT (tbE h2)), .m 49 (o_slice_spo (nl := (crc_Open_o_r0_0 x2 x3)) (m := [(Blk.gen 27 2 [[(V.d (.bool x1)), (V.d (slD (encI .u8) true 1 x2 x3))]] x4), (Blk.flat 24 9 [([(.int .i64 0)] ++ arrD .i64 x0 8)] false), (Blk.flat 5 1 (List.map (encI .u8) (crc_Open_o_r0_2 x2 x3)) false), (Blk.flat 24 9 [[(.int .i64 0), (.int .i64 0), (.int .i64 0), (.int .i64 0), (.int .i64 0), (.int .i64 0), (.int .i64 0), (.int .i64 0), (.int .i64 0)]] false)]) (enc := (encI .u8)) (l := (crc_Open_o_r0_2 x2 x3)) (id := 2) (e := 5) (s := 1) (n := ((crc_Open_o_r0_2 x2 x3).length)) (p := false) (some (.i64, 2)) (some (.i64, 4)) (by kernel_rfl) (tbE h3) (tbE h4)), .y (mm := [(Blk.gen 27 2 [[(V.d (.bool x1)), (V.d (slD (encI .u8) true 1 x2 x3))]] x4), (Blk.flat 24 9 [([(.int .i64 0)] ++ arrD .i64 x0 8)] false), (Blk.flat 5 1 (List.map (encI .u8) (crc_Open_o_r0_2 x2 x3)) false), (Blk.flat 24 9 [[(.int .i64 0), (.int .i64 0), (.int .i64 0), (.int .i64 0), (.int .i64 0), (.int .i64 0), (.int .i64 0), (.int .i64 0), (.int .i64 0)]] false)]) (args := [(V.sl 2 ((crc_Open_o_r0_2 x2 x3).length) (2 : Int).toNat ((4 : Int).toNat - (2 : Int).toNat))]) (args1 := [(V.d (.rs true 1 (List.map (encI .u8) (sub (crc_Open_o_r0_2 x2 x3) 2 4)) false))]) (byvals_cons (byval_sp (enc := (encI .u8)) (l := (crc_Open_o_r0_2 x2 x3)) (e := 5) (s := 1) (p := false) (n := ((crc_Open_o_r0_2 x2 x3).length)) (lo := 2) (hi := 4) (Nat.beq_refl _) (by kernel_rfl) (tbE h3)) (by kernel_rfl)), .c (word_Get2_o_t0 false (sub (crc_Open_o_r0_2 x2 x3) 2 4) (tbE h5)), .m 56 (o_slice_spo (nl := (crc_Open_o_r0_0 x2 x3)) (m := [(Blk.gen 27 2 [[(V.d (.bool x1)), (V.d (slD (encI .u8) true 1 x2 x3))]] x4), (Blk.flat 24 9 [([(.int .i64 0)] ++ arrD .i64 x0 8)] false), (Blk.flat 5 1 (List.map (encI .u8) (crc_Open_o_r0_2 x2 x3)) false), (Blk.flat 24 9 [[(.int .i64 (word_Get2_o_r0_0 (sub (crc_Open_o_r0_2 x2 x3) 2 4))), (.int .i64 0), (.int .i64 0), (.int .i64 0), (.int .i64 0), (.int .i64 0), (.int .i64 0), (.int .i64 0), (.int .i64 0)]] false)]) (enc := (encI .u8)) (l := (crc_Open_o_r0_2 x2 x3)) (id := 2) (e := 5) (s := 1) (n := ((crc_Open_o_r0_2 x2 x3).length)) (p := false) (some (.i64, 4)) none (by kernel_rfl) (tbE h6) (tbE h7)), .y (mm := [(Blk.gen 27 2 [[(V.d (.bool x1)), (V.d (slD (encI .u8) true 1 x2 x3))]] x4), (Blk.flat 24 9 [([(.int .i64 0)] ++ arrD .i64 x0 8)] false), (Blk.flat 5 1 (List.map (encI .u8) (crc_Open_o_r0_2 x2 x3)) false), (Blk.flat 24 9 [[(.int .i64 (word_Get2_o_r0_0 (sub (crc_Open_o_r0_2 x2 x3) 2 4))), (.int .i64 0), (.int .i64 0), (.int .i64 0), (.int .i64 0), (.int .i64 0), (.int .i64 0), (.int .i64 0), (.int .i64 0)]] false)]) (args := [(V.sl 2 ((crc_Open_o_r0_2 x2 x3).length) (4 : Int).toNat ((((((crc_Open_o_r0_2 x2 x3).length) : Nat) : Int) : Int).toNat - (4 : Int).toNat))]) (args1 := [(V.d (.rs true 1 (List.map (encI .u8) (sub (crc_Open_o_r0_2 x2 x3) 4 ((((crc_Open_o_r0_2 x2 x3).length) : Nat) : Int))) false))]) (byvals_cons (byval_sp (enc := (encI .u8)) (l := (crc_Open_o_r0_2 x2 x3)) (e := 5) (s := 1) (p := false) (n := ((crc_Open_o_r0_2 x2 x3).length)) (lo := 4) (hi := ((((crc_Open_o_r0_2 x2 x3).length) : Nat) : Int)) (Nat.beq_refl _) (by kernel_rfl) (tbE h6)) (by kernel_rfl)), .c (word_GetAll_o_t0 false (frame_Decode_iabo_S1_e0 x2 x3) (tbE h8)), .m 61 (o_arrP (m := [(Blk.gen 27 2 [[(V.d (.bool x1)), (V.d (slD (encI .u8) true 1 x2 x3))]] x4), (Blk.flat 24 9 [([(.int .i64 0)] ++ arrD .i64 x0 8)] false), (Blk.flat 5 1 (List.map (encI .u8) (crc_Open_o_r0_2 x2 x3)) false), (Blk.flat 24 9 [[(.int .i64 (word_Get2_o_r0_0 (sub (crc_Open_o_r0_2 x2 x3) 2 4))), (.int .i64 0), (.int .i64 0), (.int .i64 0), (.int .i64 0), (.int .i64 0), (.int .i64 0), (.int .i64 0), (.int .i64 0)]] false), (Blk.flat 3 1 (List.map (encI .i64) (word_GetAll_o_r0_2 false (frame_Decode_iabo_S1_e0 x2 x3))) false)]) (nl := (word_GetAll_o_r0_0 false (frame_Decode_iabo_S1_e0 x2 x3))) (id := 4) (n := ((word_GetAll_o_r0_2 false (frame_Decode_iabo_S1_e0 x2 x3)).length)) (k := 8) (s := 1) (tbE h9) (by kernel_rfl) (tbE h10)), .m 62 (o_load_pa (m := [(Blk.gen 27 2 [[(V.d (.bool x1)), (V.d (slD (encI .u8) true 1 x2 x3))]] x4), (Blk.flat 24 9 [([(.int .i64 0)] ++ arrD .i64 x0 8)] false), (Blk.flat 5 1 (List.map (encI .u8) (crc_Open_o_r0_2 x2 x3)) false), (Blk.flat 24 9 [[(.int .i64 (word_Get2_o_r0_0 (sub (crc_Open_o_r0_2 x2 x3) 2 4))), (.int .i64 0), (.int .i64 0), (.int .i64 0), (.int .i64 0), (.int .i64 0), (.int .i64 0), (.int .i64 0), (.int .i64 0)]] false), (Blk.flat 3 1 (List.map (encI .i64) (word_GetAll_o_r0_2 false (frame_Decode_iabo_S1_e0 x2 x3))) false)]) (kd := .i64) (l := (word_GetAll_o_r0_2 false (frame_Decode_iabo_S1_e0 x2 x3))) (id := 4) (n := ((word_GetAll_o_r0_2 false (frame_Decode_iabo_S1_e0 x2 x3)).length)) (k := 8) (e := 3) (p := false) (Nat.beq_refl _) (by kernel_rfl) (tbE h10))] (by kernel_rfl)
                  · intro g0
                    exact absurd g0 ft
theorem frame_Decode_iabo_S1_t1 (x0 : List Int) (x1 : Bool) (x2 : Bool) (x3 : List Int) (x4 : Bool) : frame_Decode_iabo_S1_c0 x2 x3 = false → frame_Decode_iabo_S1_c1 x2 x3 = true → segG (runC E0 (cl E0) S13_1) [3, 4] [4, 5] [4, 5] 2 ([(V.ptr 0 1 0 0), (V.ptr 1 1 0 0)], [(Blk.gen 27 2 [[(V.d (.bool x1)), (V.d (slD (encI .u8) true 1 x2 x3))]] x4), (Blk.flat 24 9 [([(.int .i64 0)] ++ arrD .i64 x0 8)] false)]) = some (.ret, ([(V.ptr 1 1 0 0), (V.d (.int .i64 5))], [(Blk.gen 27 2 [[(V.d (.bool x1)), (V.d (slD (encI .u8) true 1 x2 x3))]] x4), (Blk.flat 24 9 [([(.int .i64 0)] ++ arrD .i64 [0, 0, 0, 0, 0, 0, 0, 0] 8)] false)])) := by
  unfold frame_Decode_iabo_S1_c0 frame_Decode_iabo_S1_c1
  cases h1 : tb (crc_Open_o_c0 x2 x3)
  · intro g0 g1
    exact absurd g1 ft
  · cases h2 : tb (crc_Open_o_r0_1 x2 x3)
    · intro g0 g1
      exact seg_walk [.c (crc_Open_o_t0 x2 x3 (tbE h1)), .b (notF (tbE h2))] (by kernel_rfl)
    · cases h3 : tb (ins ((crc_Open_o_r0_2 x2 x3).length) 2 4)
      · intro g0 g1
        exact absurd g1 ft
      · cases h4 : tb (decide (2 < 4))
        · cases h5 : tb (crc_Open_o_r0_0 x2 x3)
          · cases h6 : tb (ins ((crc_Open_o_r0_2 x2 x3).length) 4 ((((crc_Open_o_r0_2 x2 x3).length) : Nat) : Int))
            · intro g0 g1
              exact absurd g1 ft
            · cases h7 : tb (decide (4 < ((((crc_Open_o_r0_2 x2 x3).length) : Nat) : Int)))
              · cases h8 : tb (word_GetAll_z_c0)
                · intro g0 g1
                  exact absurd g1 ft
                · intro g0 g1
                  exact absurd g1 ft
              · cases h8 : tb (word_GetAll_o_c0 false (frame_Decode_iabo_S1_e0 x2 x3))
                · intro g0 g1
                  exact absurd g1 ft
                · cases h9 : tb (word_GetAll_o_r0_0 false (frame_Decode_iabo_S1_e0 x2 x3))
                  · cases h10 : tb (Nat.ble 8 ((word_GetAll_o_r0_2 false (frame_Decode_iabo_S1_e0 x2 x3)).length))
                    · intro g0 g1
                      exact absurd g1 ft
                    · intro g0 g1
                      exact absurd g0 tf
                  · intro g0 g1
                    exact absurd g1 ft
          · intro g0 g1
            exact absurd g1 ft
        · cases h5 : tb (word_Get2_o_c0 (sub (crc_Open_o_r0_2 x2 x3) 2 4))
          · intro g0 g1
            exact absurd g1 ft
          · cases h6 : tb (ins ((crc_Open_o_r0_2 x2 x3).length) 4 ((((crc_Open_o_r0_2 x2 x3).length) : Nat) : Int))
            · intro g0 g1
              exact absurd g1 ft
            · cases h7 : tb (decide (4 < ((((crc_Open_o_r0_2 x2 x3).length) : Nat) : Int)))
              · cases h8 : tb (crc_Open_o_r0_0 x2 x3)
                · cases h9 : tb (word_GetAll_z_c0)
                  · intro g0 g1
                    exact absurd g1 ft
                  · intro g0 g1
                    exact absurd g1 ft
                · intro g0 g1
                  exact absurd g1 ft
              · cases h8 : tb (word_GetAll_o_c0 false (frame_Decode_iabo_S1_e0 x2 x3))
                · intro g0 g1
                  exact absurd g1 ft
                · cases h9 : tb (word_GetAll_o_r0_0 false (frame_Decode_iabo_S1_e0 x2 x3))
                  · cases h10 : tb (Nat.ble 8 ((word_GetAll_o_r0_2 false (frame_Decode_iabo_S1_e0 x2 x3)).length))
                    · intro g0 g1
                      exact absurd g1 ft
                    · intro g0 g1
                      exact absurd g0 tf
                  · intro g0 g1
                    exact absurd g1 ft
def frame_Decode_iabo_c0 (x0 : Int) (x1 : Bool) (x2 : Bool) (x3 : List Int) : Bool := (bif tb (frame_Decode_iabo_S0_c0 x1 x3 x0) then true else (bif tb (frame_Decode_iabo_S0_c1 x1 x3 x0) then (bif tb (frame_Decode_iabo_S1_c0 x2 x3) then true else (bif tb (frame_Decode_iabo_S1_c1 x2 x3) then true else false)) else false))
def frame_Decode_iabo_r0_0 (x0 : Int) (x1 : Bool) (x2 : Bool) (x3 : List Int) : Int := (bif tb (frame_Decode_iabo_S0_c0 x1 x3 x0) then 0 else (bif tb (frame_Decode_iabo_S1_c0 x2 x3) then (frame_Decode_iabo_S1_r0_5 x2 x3) else 0))
def frame_Decode_iabo_r0_1 (x0 : Int) (x1 : Bool) (x2 : Bool) (x3 : List Int) : List Int := (bif tb (frame_Decode_iabo_S0_c0 x1 x3 x0) then [0, 0, 0, 0, 0, 0, 0, 0] else (bif tb (frame_Decode_iabo_S1_c0 x2 x3) then (word_GetAll_o_r0_2 false (frame_Decode_iabo_S1_e0 x2 x3)) else [0, 0, 0, 0, 0, 0, 0, 0]))
def frame_Decode_iabo_r0_2 (x0 : Int) (x1 : Bool) (x2 : Bool) (x3 : List Int) : Int := (bif tb (frame_Decode_iabo_S0_c0 x1 x3 x0) then (frame_Decode_iabo_S0_r0_0 x1 x3) else (bif tb (frame_Decode_iabo_S1_c0 x2 x3) then 0 else 5))
theorem frame_Decode_iabo_t0 (x0 : Int) (x1 : Bool) (x2 : Bool) (x3 : List Int) : frame_Decode_iabo_c0 x0 x1 x2 x3 = true → cl E0 13 [(V.d (.int .i64 x0)), (V.agg [(V.d (.bool x1)), (V.d (slD (encI .u8) true 1 x2 x3))])] [] = some ([(V.agg [(V.d (.int .i64 (frame_Decode_iabo_r0_0 x0 x1 x2 x3))), (V.d (.int .i64 (gt (frame_Decode_iabo_r0_1 x0 x1 x2 x3) 0))), (V.d (.int .i64 (gt (frame_Decode_iabo_r0_1 x0 x1 x2 x3) 1))), (V.d (.int .i64 (gt (frame_Decode_iabo_r0_1 x0 x1 x2 x3) 2))), (V.d (.int .i64 (gt (frame_Decode_iabo_r0_1 x0 x1 x2 x3) 3))), (V.d (.int .i64 (gt (frame_Decode_iabo_r0_1 x0 x1 x2 x3) 4))), (V.d (.int .i64 (gt (frame_Decode_iabo_r0_1 x0 x1 x2 x3) 5))), (V.d (.int .i64 (gt (frame_Decode_iabo_r0_1 x0 x1 x2 x3) 6))), (V.d (.int .i64 (gt (frame_Decode_iabo_r0_1 x0 x1 x2 x3) 7)))]), (V.d (.int .i64 (frame_Decode_iabo_r0_2 x0 x1 x2 x3)))], []) := by
  unfold frame_Decode_iabo_c0 frame_Decode_iabo_r0_0 frame_Decode_iabo_r0_1 frame_Decode_iabo_r0_2
  cases h1 : tb (frame_Decode_iabo_S0_c0 x1 x3 x0)
  · cases h2 : tb (frame_Decode_iabo_S0_c1 x1 x3 x0)
    · intro g0
      exact absurd g0 ft
    · cases h3 : tb (frame_Decode_iabo_S1_c0 x2 x3)
      · cases h4 : tb (frame_Decode_iabo_S1_c1 x2 x3)
        · intro g0
          exact absurd g0 ft
        · intro g0
          exact w13 [.s (frame_Decode_iabo_S0_t1 [0, 0, 0, 0, 0, 0, 0, 0] x1 x2 x3 false x0 (tbE h1) (tbE h2)), .s (frame_Decode_iabo_S1_t1 [0, 0, 0, 0, 0, 0, 0, 0] x1 x2 x3 false (tbE h3) (tbE h4))] (by kernel_rfl)
      · intro g0
        exact w13 [.s (frame_Decode_iabo_S0_t1 [0, 0, 0, 0, 0, 0, 0, 0] x1 x2 x3 false x0 (tbE h1) (tbE h2)), .s (frame_Decode_iabo_S1_t0 [0, 0, 0, 0, 0, 0, 0, 0] x1 x2 x3 false (tbE h3))] (by kernel_rfl)
  · intro g0
    exact w13 [.s (frame_Decode_iabo_S0_t0 [0, 0, 0, 0, 0, 0, 0, 0] x1 x2 x3 false x0 (tbE h1))] (by kernel_rfl)
def frame_Name_i_c0 (x0 : Int) : Bool := (bif tb (decide (x0 < 0)) then true else (bif tb (decide (7 ≤ x0)) then true else (bif tb (inb 7 x0) then true else false)))
def frame_Name_i_r0_0 (x0 : Int) : ByteArray := (bif tb (decide (x0 < 0)) then ⟨#[]⟩ else (bif tb (decide (7 ≤ x0)) then ⟨#[]⟩ else (gt [gl0_0, gl0_1, gl0_2, gl0_3, gl0_4, gl0_5, gl0_6] x0)))
theorem frame_Name_i_t0 (x0 : Int) : frame_Name_i_c0 x0 = true → cl E0 18 [(V.d (.int .i64 x0))] [] = some ([(V.d (.str (frame_Name_i_r0_0 x0)))], []) := by
  unfold frame_Name_i_c0 frame_Name_i_r0_0
  cases h1 : tb (decide (x0 < 0))
  · cases h2 : tb (decide (7 ≤ x0))
    · cases h3 : tb (inb 7 x0)
      · intro g0
        exact absurd g0 ft
      · intro g0
        exact w18 [.b (tbE h1), .b (tbE h2), .o 10 (fun _ => o_idxAA_rps (ss := [gl0_0, gl0_1, gl0_2, gl0_3, gl0_4, gl0_5, gl0_6]) (n := 7) (k := .i64) (i := x0) rfl (tbE h3))] (by kernel_rfl)
    · intro g0
      exact w18 [.b (tbE h1), .b (tbE h2)] (by kernel_rfl)
  · intro g0
    exact w18 [.b (tbE h1)] (by kernel_rfl)
end Go.Proofs.YtkipngagfiaddaaDoor.Den

namespace Go.Proofs.YtkipngagfiaddaaDoor.Den
open Go Go.Proofs
set_option maxRecDepth 100000
set_option maxHeartbeats 4000000
set_option linter.unusedVariables false
set_option linter.unusedSimpArgs false
structure ref05_Right_ai9_L0_s0 where
  c0 : Int
  deriving Inhabited
def ref05_Right_ai9_L0_enc (x0 : Int) (x1 : List Int) (x2 : Bool) (x3 : Int) (s0 : ref05_Right_ai9_L0_s0) : List V × Mem := ([(V.ptr 0 1 0 0), (V.d (.int .i64 s0.c0))], [(Blk.flat 24 9 [([(.int .i64 x0)] ++ arrD .i64 x1 8)] x2)])
def ref05_Right_ai9_L0_sel (x1 : List Int) (s0 : ref05_Right_ai9_L0_s0) : Bool := (bif tb (decide (s0.c0 < 8)) then (bif tb (inb 8 s0.c0) then (bif tb (decide ((gt x1 s0.c0) < (-2147483648))) then false else (bif tb (decide (2147483647 < (gt x1 s0.c0))) then false else true)) else false) else false)
def ref05_Right_ai9_L0_nx (x1 : List Int) (s0 : ref05_Right_ai9_L0_s0) : ref05_Right_ai9_L0_s0 := ⟨(wi (s0.c0 + 1))⟩
def ref05_Right_ai9_L0_ok (x1 : List Int) (s0 : ref05_Right_ai9_L0_s0) : Bool := (itS (ref05_Right_ai9_L0_sel x1) (ref05_Right_ai9_L0_nx x1) bound s0).isSome
def ref05_Right_ai9_L0_end (x1 : List Int) (s0 : ref05_Right_ai9_L0_s0) : ref05_Right_ai9_L0_s0 := (itS (ref05_Right_ai9_L0_sel x1) (ref05_Right_ai9_L0_nx x1) bound s0).getD default
theorem ref05_Right_ai9_L0_go (x0 : Int) (x1 : List Int) (x2 : Bool) (x3 : Int) (s0 : ref05_Right_ai9_L0_s0) : ref05_Right_ai9_L0_sel x1 s0 = true → (roundG (runC E0 (cl E0) L17_0) [1, 3] [1, 2] 1) (ref05_Right_ai9_L0_enc x0 x1 x2 x3 s0) = some (.normal, ref05_Right_ai9_L0_enc x0 x1 x2 x3 (ref05_Right_ai9_L0_nx x1 s0)) := by
  unfold ref05_Right_ai9_L0_sel ref05_Right_ai9_L0_nx
  cases h1 : tb (decide (s0.c0 < 8))
  · intro g0
    exact absurd g0 ft
  · cases h2 : tb (inb 8 s0.c0)
    · intro g0
      exact absurd g0 ft
    · cases h3 : tb (decide ((gt x1 s0.c0) < (-2147483648)))
      · cases h4 : tb (decide (2147483647 < (gt x1 s0.c0)))
        · intro _
          exact round_walk [.b (tbE h1), .o 10 (fun _ => o_idxAA (id := 0) (nn := 1) (row := 0) (off := 1) (n := 8) (s := 1) (k := .i64) (i := s0.c0) (tbE h2)), .m 11 (o_load_arr (m := [(Blk.flat 24 9 [([(.int .i64 x0)] ++ arrD .i64 x1 8)] x2)]) (id := 0) (nn := 1) (row := 0) (off := 1) (n := 8) (k := .i64) (T := x1) (i := s0.c0) (by kernel_rfl) (tbE h2)), .b (tbE h3), .o 16 (fun _ => o_idxAA (id := 0) (nn := 1) (row := 0) (off := 1) (n := 8) (s := 1) (k := .i64) (i := s0.c0) (tbE h2)), .m 17 (o_load_arr (m := [(Blk.flat 24 9 [([(.int .i64 x0)] ++ arrD .i64 x1 8)] x2)]) (id := 0) (nn := 1) (row := 0) (off := 1) (n := 8) (k := .i64) (T := x1) (i := s0.c0) (by kernel_rfl) (tbE h2)), .b (tbE h4)] (by kernel_rfl)
        · intro g0
          exact absurd g0 ft
      · intro g0
        exact absurd g0 ft
def ref05_Right_ai9_L0_c0 (s0 : ref05_Right_ai9_L0_s0) : Bool := (bif tb (decide (s0.c0 < 8)) then (bif tb (inb 8 s0.c0) then true else false) else false)
def ref05_Right_ai9_L0_c1 (s0 : ref05_Right_ai9_L0_s0) : Bool := (bif tb (decide (s0.c0 < 8)) then false else true)
theorem ref05_Right_ai9_L0_x0 (x0 : Int) (x1 : List Int) (x2 : Bool) (x3 : Int) (s0 : ref05_Right_ai9_L0_s0) : ref05_Right_ai9_L0_sel x1 s0 = false → ref05_Right_ai9_L0_c0 s0 = true → (roundG (runC E0 (cl E0) L17_0) [1, 3] [1, 2] 1) (ref05_Right_ai9_L0_enc x0 x1 x2 x3 s0) = some (.ret, ([(V.ptr 0 1 0 0), (V.d (.bool false))], [(Blk.flat 24 9 [([(.int .i64 x0)] ++ arrD .i64 x1 8)] x2)])) := by
  unfold ref05_Right_ai9_L0_sel ref05_Right_ai9_L0_c0
  cases h1 : tb (decide (s0.c0 < 8))
  · intro g0 g1
    exact absurd g1 ft
  · cases h2 : tb (inb 8 s0.c0)
    · intro g0 g1
      exact absurd g1 ft
    · cases h3 : tb (decide ((gt x1 s0.c0) < (-2147483648)))
      · cases h4 : tb (decide (2147483647 < (gt x1 s0.c0)))
        · intro g0 g1
          exact absurd g0 tf
        · intro g0 g1
          exact round_walk [.b (tbE h1), .o 10 (fun _ => o_idxAA (id := 0) (nn := 1) (row := 0) (off := 1) (n := 8) (s := 1) (k := .i64) (i := s0.c0) (tbE h2)), .m 11 (o_load_arr (m := [(Blk.flat 24 9 [([(.int .i64 x0)] ++ arrD .i64 x1 8)] x2)]) (id := 0) (nn := 1) (row := 0) (off := 1) (n := 8) (k := .i64) (T := x1) (i := s0.c0) (by kernel_rfl) (tbE h2)), .b (tbE h3), .o 16 (fun _ => o_idxAA (id := 0) (nn := 1) (row := 0) (off := 1) (n := 8) (s := 1) (k := .i64) (i := s0.c0) (tbE h2)), .m 17 (o_load_arr (m := [(Blk.flat 24 9 [([(.int .i64 x0)] ++ arrD .i64 x1 8)] x2)]) (id := 0) (nn := 1) (row := 0) (off := 1) (n := 8) (k := .i64) (T := x1) (i := s0.c0) (by kernel_rfl) (tbE h2)), .b (tbE h4)] (by kernel_rfl)
      · intro g0 g1
        exact round_walk [.b (tbE h1), .o 10 (fun _ => o_idxAA (id := 0) (nn := 1) (row := 0) (off := 1) (n := 8) (s := 1) (k := .i64) (i := s0.c0) (tbE h2)), .m 11 (o_load_arr (m := [(Blk.flat 24 9 [([(.int .i64 x0)] ++ arrD .i64 x1 8)] x2)]) (id := 0) (nn := 1) (row := 0) (off := 1) (n := 8) (k := .i64) (T := x1) (i := s0.c0) (by kernel_rfl) (tbE h2)), .b (tbE h3)] (by kernel_rfl)
theorem ref05_Right_ai9_L0_x1 (x0 : Int) (x1 : List Int) (x2 : Bool) (x3 : Int) (s0 : ref05_Right_ai9_L0_s0) : ref05_Right_ai9_L0_sel x1 s0 = false → ref05_Right_ai9_L0_c0 s0 = false → ref05_Right_ai9_L0_c1 s0 = true → (roundG (runC E0 (cl E0) L17_0) [1, 3] [1, 2] 1) (ref05_Right_ai9_L0_enc x0 x1 x2 x3 s0) = some ((.exit 0), ([(V.ptr 0 1 0 0), V.un], [(Blk.flat 24 9 [([(.int .i64 x0)] ++ arrD .i64 x1 8)] x2)])) := by
  unfold ref05_Right_ai9_L0_sel ref05_Right_ai9_L0_c0 ref05_Right_ai9_L0_c1
  cases h1 : tb (decide (s0.c0 < 8))
  · intro g0 g1 g2
    exact round_walk [.b (tbE h1)] (by kernel_rfl)
  · cases h2 : tb (inb 8 s0.c0)
    · intro g0 g1 g2
      exact absurd g2 ft
    · cases h3 : tb (decide ((gt x1 s0.c0) < (-2147483648)))
      · cases h4 : tb (decide (2147483647 < (gt x1 s0.c0)))
        · intro g0 g1 g2
          exact absurd g0 tf
        · intro g0 g1 g2
          exact absurd g1 tf
      · intro g0 g1 g2
        exact absurd g1 tf
theorem ref05_Right_ai9_L0_f0_0 (x0 : Int) (x1 : List Int) (x2 : Bool) (x3 : Int) (s : ref05_Right_ai9_L0_s0) (hok : ref05_Right_ai9_L0_ok x1 s = true) (c0 : ref05_Right_ai9_L0_c0 (ref05_Right_ai9_L0_end x1 s) = true) : loopG (roundG (runC E0 (cl E0) L17_0) [1, 3] [1, 2] 1) bound (ref05_Right_ai9_L0_enc x0 x1 x2 x3 s) = some (.ret, ([(V.ptr 0 1 0 0), (V.d (.bool false))], [(Blk.flat 24 9 [([(.int .i64 x0)] ++ arrD .i64 x1 8)] x2)])) := by
  have e : itS (ref05_Right_ai9_L0_sel x1) (ref05_Right_ai9_L0_nx x1) bound s = some (ref05_Right_ai9_L0_end x1 s) := itS_get hok
  have f := itS_false e
  exact loop_it (ref05_Right_ai9_L0_go x0 x1 x2 x3) bound s _ _ _ e (fun h => by cases h) (ref05_Right_ai9_L0_x0 x0 x1 x2 x3 (ref05_Right_ai9_L0_end x1 s) f c0)
theorem ref05_Right_ai9_L0_f0_1 (x0 : Int) (x1 : List Int) (x2 : Bool) (x3 : Int) (s : ref05_Right_ai9_L0_s0) (hok : ref05_Right_ai9_L0_ok x1 s = true) (c0 : ref05_Right_ai9_L0_c0 (ref05_Right_ai9_L0_end x1 s) = false) (c1 : ref05_Right_ai9_L0_c1 (ref05_Right_ai9_L0_end x1 s) = true) : loopG (roundG (runC E0 (cl E0) L17_0) [1, 3] [1, 2] 1) bound (ref05_Right_ai9_L0_enc x0 x1 x2 x3 s) = some ((.exit 0), ([(V.ptr 0 1 0 0), V.un], [(Blk.flat 24 9 [([(.int .i64 x0)] ++ arrD .i64 x1 8)] x2)])) := by
  have e : itS (ref05_Right_ai9_L0_sel x1) (ref05_Right_ai9_L0_nx x1) bound s = some (ref05_Right_ai9_L0_end x1 s) := itS_get hok
  have f := itS_false e
  exact loop_it (ref05_Right_ai9_L0_go x0 x1 x2 x3) bound s _ _ _ e (fun h => by cases h) (ref05_Right_ai9_L0_x1 x0 x1 x2 x3 (ref05_Right_ai9_L0_end x1 s) f c0 c1)
def ref05_Right_ai9_c0 (x1 : List Int) : Bool := (bif tb (ref05_Right_ai9_L0_ok x1 (⟨0⟩ : ref05_Right_ai9_L0_s0)) then (bif tb (ref05_Right_ai9_L0_c0 (ref05_Right_ai9_L0_end x1 (⟨0⟩ : ref05_Right_ai9_L0_s0))) then true else (bif tb (ref05_Right_ai9_L0_c1 (ref05_Right_ai9_L0_end x1 (⟨0⟩ : ref05_Right_ai9_L0_s0))) then true else false)) else false)
def ref05_Right_ai9_r0_0 (x0 : Int) (x1 : List Int) : Bool := (bif tb (ref05_Right_ai9_L0_c0 (ref05_Right_ai9_L0_end x1 (⟨0⟩ : ref05_Right_ai9_L0_s0))) then false else (bif tb (decide (0 ≤ x0)) then (decide (x0 ≤ 65535)) else false))
theorem ref05_Right_ai9_t0 (x0 : Int) (x1 : List Int) : ref05_Right_ai9_c0 x1 = true → cl E0 17 [(V.agg [(V.d (.int .i64 x0)), (V.d (.int .i64 (gt x1 0))), (V.d (.int .i64 (gt x1 1))), (V.d (.int .i64 (gt x1 2))), (V.d (.int .i64 (gt x1 3))), (V.d (.int .i64 (gt x1 4))), (V.d (.int .i64 (gt x1 5))), (V.d (.int .i64 (gt x1 6))), (V.d (.int .i64 (gt x1 7)))])] [] = some ([(V.d (.bool (ref05_Right_ai9_r0_0 x0 x1)))], []) := by
  unfold ref05_Right_ai9_c0 ref05_Right_ai9_r0_0
  cases h1 : tb (ref05_Right_ai9_L0_ok x1 (⟨0⟩ : ref05_Right_ai9_L0_s0))
  · intro g0
    exact absurd g0 ft
  · cases h2 : tb (ref05_Right_ai9_L0_c0 (ref05_Right_ai9_L0_end x1 (⟨0⟩ : ref05_Right_ai9_L0_s0)))
    · cases h3 : tb (ref05_Right_ai9_L0_c1 (ref05_Right_ai9_L0_end x1 (⟨0⟩ : ref05_Right_ai9_L0_s0)))
      · intro g0
        exact absurd g0 ft
      · cases h4 : tb (decide (0 ≤ x0))
        · intro g0
          exact w17 [.l (ref05_Right_ai9_L0_f0_1 x0 x1 false 0 (⟨0⟩ : ref05_Right_ai9_L0_s0) (tbE h1) (tbE h2) (tbE h3)), .b (tbE h4)] (by kernel_rfl)
        · intro g0
          exact w17 [.l (ref05_Right_ai9_L0_f0_1 x0 x1 false 0 (⟨0⟩ : ref05_Right_ai9_L0_s0) (tbE h1) (tbE h2) (tbE h3)), .b (tbE h4)] (by kernel_rfl)
    · intro g0
      exact w17 [.l (ref05_Right_ai9_L0_f0_0 x0 x1 false 0 (⟨0⟩ : ref05_Right_ai9_L0_s0) (tbE h1) (tbE h2))] (by kernel_rfl)
def ref05_Encode_iai9_S0_c0 (x4 : Int) (x5 : Bool) : Bool := (bif tb (x5) then (bif tb (decide (x4 < 0)) then true else (bif tb (decide (3 < x4)) then true else false)) else true)
theorem ref05_Encode_iai9_S0_t0 (x0 : Int) (x1 : List Int) (x2 : Bool) (x3 : Bool) (x4 : Int) (x5 : Bool) : ref05_Encode_iai9_S0_c0 x4 x5 = true → segG (runC E0 (cl E0) S12_0) [0, 3, 6] [4, 5] [0, 3] 2 ([(V.d (.int .i64 x4)), (V.ptr 0 1 0 0), (V.d (.bool x5))], [(Blk.flat 24 9 [([(.int .i64 x0)] ++ arrD .i64 x1 8)] x2), (Blk.flat 5 1 [] x3)]) = some (.ret, ([(V.so true 2 0), (V.d (.int .i64 1))], [(Blk.flat 24 9 [([(.int .i64 x0)] ++ arrD .i64 x1 8)] x2), (Blk.flat 5 1 [] x3), (Blk.flat 5 1 [] false)])) := by
  unfold ref05_Encode_iai9_S0_c0
  cases h1 : tb (x5)
  · intro g0
    exact seg_walk [.b (notF (tbE h1))] (by kernel_rfl)
  · cases h2 : tb (decide (x4 < 0))
    · cases h3 : tb (decide (3 < x4))
      · intro g0
        exact absurd g0 ft
      · intro g0
        exact seg_walk [.b (notT (tbE h1)), .b (tbE h2), .b (tbE h3)] (by kernel_rfl)
    · intro g0
      exact seg_walk [.b (notT (tbE h1)), .b (tbE h2)] (by kernel_rfl)
theorem ref05_Encode_iai9_S0_t1 (x0 : Int) (x1 : List Int) (x2 : Bool) (x3 : Bool) (x4 : Int) (x5 : Bool) : ref05_Encode_iai9_S0_c0 x4 x5 = false → segG (runC E0 (cl E0) S12_0) [0, 3, 6] [4, 5] [0, 3] 2 ([(V.d (.int .i64 x4)), (V.ptr 0 1 0 0), (V.d (.bool x5))], [(Blk.flat 24 9 [([(.int .i64 x0)] ++ arrD .i64 x1 8)] x2), (Blk.flat 5 1 [] x3)]) = some (.normal, ([(V.d (.int .i64 x4)), (V.ptr 0 1 0 0)], [(Blk.flat 24 9 [([(.int .i64 x0)] ++ arrD .i64 x1 8)] x2), (Blk.flat 5 1 [] x3)])) := by
  unfold ref05_Encode_iai9_S0_c0
  cases h1 : tb (x5)
  · intro g0
    exact absurd g0 tf
  · cases h2 : tb (decide (x4 < 0))
    · cases h3 : tb (decide (3 < x4))
      · intro g0
        exact seg_walk [.b (notT (tbE h1)), .b (tbE h2), .b (tbE h3)] (by kernel_rfl)
      · intro g0
        exact absurd g0 tf
    · intro g0
      exact absurd g0 tf
structure ref05_Encode_iai9_L1_s0 where
  c0 : Bool
  c1 : Int
  c6 : List Int
  deriving Inhabited
def ref05_Encode_iai9_L1_enc (x0 : Int) (x1 : List Int) (x2 : List Int) (x3 : List Int) (x4 : Bool) (x5 : Bool) (x6 : Bool) (x7 : Bool) (x8 : Bool) (x9 : Int) (s0 : ref05_Encode_iai9_L1_s0) : List V × Mem := ([(V.ptr 0 1 0 0), (V.so s0.c0 2 s0.c6.length), (V.d (.int .i64 s0.c1))], [(Blk.flat 24 9 [([(.int .i64 x0)] ++ arrD .i64 x1 8)] x4), (Blk.flat 5 1 [] x5), (Blk.flat 5 1 (List.map (encI .u8) s0.c6) false), (Blk.flat 5 1 (List.map (encI .u8) x3) x7)])
def ref05_Encode_iai9_L1_sel (x1 : List Int) (s0 : ref05_Encode_iai9_L1_s0) : Bool := (bif tb (decide (s0.c1 < 8)) then (bif tb (inb 8 s0.c1) then (bif tb (decide ((s0.c6.length + (ref04_Put4_i_r0_1 (gt x1 s0.c1)).length) * 1 ≤ 140737488355328)) then true else false) else false) else false)
def ref05_Encode_iai9_L1_nx (x1 : List Int) (s0 : ref05_Encode_iai9_L1_s0) : ref05_Encode_iai9_L1_s0 := ⟨((ref04_Put4_i_r0_1 (gt x1 s0.c1)).isEmpty && s0.c0), (wi (s0.c1 + 1)), (s0.c6 ++ (ref04_Put4_i_r0_1 (gt x1 s0.c1)))⟩
def ref05_Encode_iai9_L1_ok (x1 : List Int) (s0 : ref05_Encode_iai9_L1_s0) : Bool := (itS (ref05_Encode_iai9_L1_sel x1) (ref05_Encode_iai9_L1_nx x1) bound s0).isSome
def ref05_Encode_iai9_L1_end (x1 : List Int) (s0 : ref05_Encode_iai9_L1_s0) : ref05_Encode_iai9_L1_s0 := (itS (ref05_Encode_iai9_L1_sel x1) (ref05_Encode_iai9_L1_nx x1) bound s0).getD default
theorem ref05_Encode_iai9_L1_go (x0 : Int) (x1 : List Int) (x2 : List Int) (x3 : List Int) (x4 : Bool) (x5 : Bool) (x6 : Bool) (x7 : Bool) (x8 : Bool) (x9 : Int) (s0 : ref05_Encode_iai9_L1_s0) : ref05_Encode_iai9_L1_sel x1 s0 = true → (roundG (runC E0 (cl E0) L12_1) [3, 7, 8] [7] 4) (ref05_Encode_iai9_L1_enc x0 x1 x2 x3 x4 x5 x6 x7 x8 x9 s0) = some (.normal, ref05_Encode_iai9_L1_enc x0 x1 x2 x3 x4 x5 x6 x7 x8 x9 (ref05_Encode_iai9_L1_nx x1 s0)) := by
  unfold ref05_Encode_iai9_L1_sel ref05_Encode_iai9_L1_nx
  cases h1 : tb (decide (s0.c1 < 8))
  · intro g0
    exact absurd g0 ft
  · cases h2 : tb (inb 8 s0.c1)
    · intro g0
      exact absurd g0 ft
    · cases h3 : tb (decide ((s0.c6.length + (ref04_Put4_i_r0_1 (gt x1 s0.c1)).length) * 1 ≤ 140737488355328))
      · intro g0
        exact absurd g0 ft
      · intro _
        exact round_walk [.b (tbE h1), .o 36 (fun _ => o_idxAA (id := 0) (nn := 1) (row := 0) (off := 1) (n := 8) (s := 1) (k := .i64) (i := s0.c1) (tbE h2)), .m 37 (o_load_arr (m := [(Blk.flat 24 9 [([(.int .i64 x0)] ++ arrD .i64 x1 8)] x4), (Blk.flat 5 1 [] x5), (Blk.flat 5 1 (List.map (encI .u8) s0.c6) false), (Blk.flat 5 1 (List.map (encI .u8) x3) x7)]) (id := 0) (nn := 1) (row := 0) (off := 1) (n := 8) (k := .i64) (T := x1) (i := s0.c1) (by kernel_rfl) (tbE h2)), .c (ref04_Put4_i_t0 (gt x1 s0.c1)), .m 39 (o_app_so (nl := s0.c0) (m := [(Blk.flat 24 9 [([(.int .i64 x0)] ++ arrD .i64 x1 8)] x4), (Blk.flat 5 1 [] x5), (Blk.flat 5 1 (List.map (encI .u8) s0.c6) false), (Blk.flat 5 1 (List.map (encI .u8) x3) x7), (Blk.flat 5 1 (List.map (encI .u8) (ref04_Put4_i_r0_1 (gt x1 s0.c1))) false)]) (enc := (encI .u8)) (l0 := s0.c6) (l1 := (ref04_Put4_i_r0_1 (gt x1 s0.c1))) (id := 2) (e := 5) (s := 1) (bytes := 1) (x := (V.so (ref04_Put4_i_r0_0 (gt x1 s0.c1)) 4 ((ref04_Put4_i_r0_1 (gt x1 s0.c1)).length))) (n := s0.c6.length) (Nat.beq_refl _) (by kernel_rfl) (flatRowsOf_so' (b := (ref04_Put4_i_r0_0 (gt x1 s0.c1))) (e := 5) (s := 1) (p := false) (Nat.beq_refl _) (by kernel_rfl)) (by kernel_rfl) (tbE h3))] (by kernel_rfl)
def ref05_Encode_iai9_L1_c0 (s0 : ref05_Encode_iai9_L1_s0) : Bool := (bif tb (decide (s0.c1 < 8)) then false else true)
theorem ref05_Encode_iai9_L1_x0 (x0 : Int) (x1 : List Int) (x2 : List Int) (x3 : List Int) (x4 : Bool) (x5 : Bool) (x6 : Bool) (x7 : Bool) (x8 : Bool) (x9 : Int) (s0 : ref05_Encode_iai9_L1_s0) : ref05_Encode_iai9_L1_sel x1 s0 = false → ref05_Encode_iai9_L1_c0 s0 = true → (roundG (runC E0 (cl E0) L12_1) [3, 7, 8] [7] 4) (ref05_Encode_iai9_L1_enc x0 x1 x2 x3 x4 x5 x6 x7 x8 x9 s0) = some ((.exit 0), ([(V.so s0.c0 2 s0.c6.length)], [(Blk.flat 24 9 [([(.int .i64 x0)] ++ arrD .i64 x1 8)] x4), (Blk.flat 5 1 [] x5), (Blk.flat 5 1 (List.map (encI .u8) s0.c6) false), (Blk.flat 5 1 (List.map (encI .u8) x3) x7)])) := by
  unfold ref05_Encode_iai9_L1_sel ref05_Encode_iai9_L1_c0
  cases h1 : tb (decide (s0.c1 < 8))
  · intro g0 g1
    exact round_walk [.b (tbE h1)] (by kernel_rfl)
  · cases h2 : tb (inb 8 s0.c1)
    · intro g0 g1
      exact absurd g1 ft
    · cases h3 : tb (decide ((s0.c6.length + (ref04_Put4_i_r0_1 (gt x1 s0.c1)).length) * 1 ≤ 140737488355328))
      · intro g0 g1
        exact absurd g1 ft
      · intro g0 g1
        exact absurd g0 tf
theorem ref05_Encode_iai9_L1_f0_0 (x0 : Int) (x1 : List Int) (x2 : List Int) (x3 : List Int) (x4 : Bool) (x5 : Bool) (x6 : Bool) (x7 : Bool) (x8 : Bool) (x9 : Int) (s : ref05_Encode_iai9_L1_s0) (hok : ref05_Encode_iai9_L1_ok x1 s = true) (c0 : ref05_Encode_iai9_L1_c0 (ref05_Encode_iai9_L1_end x1 s) = true) : loopG (roundG (runC E0 (cl E0) L12_1) [3, 7, 8] [7] 4) bound (ref05_Encode_iai9_L1_enc x0 x1 x2 x3 x4 x5 x6 x7 x8 x9 s) = some ((.exit 0), ([(V.so ((ref05_Encode_iai9_L1_end x1 s).c0) 2 (((ref05_Encode_iai9_L1_end x1 s).c6).length))], [(Blk.flat 24 9 [([(.int .i64 x0)] ++ arrD .i64 x1 8)] x4), (Blk.flat 5 1 [] x5), (Blk.flat 5 1 (List.map (encI .u8) ((ref05_Encode_iai9_L1_end x1 s).c6)) false), (Blk.flat 5 1 (List.map (encI .u8) x3) x7)])) := by
  have e : itS (ref05_Encode_iai9_L1_sel x1) (ref05_Encode_iai9_L1_nx x1) bound s = some (ref05_Encode_iai9_L1_end x1 s) := itS_get hok
  have f := itS_false e
  exact loop_it (ref05_Encode_iai9_L1_go x0 x1 x2 x3 x4 x5 x6 x7 x8 x9) bound s _ _ _ e (fun h => by cases h) (ref05_Encode_iai9_L1_x0 x0 x1 x2 x3 x4 x5 x6 x7 x8 x9 (ref05_Encode_iai9_L1_end x1 s) f c0)
def ref05_Encode_iai9_e0 (x0 : Int) (x1 : Int) (x2 : List Int) : ref05_Encode_iai9_L1_s0 := ref05_Encode_iai9_L1_end x2 (⟨false, 0, ([165, (IntKind.u8.wrap (x0))] ++ (ref04_Put2_i_r0_1 x1))⟩ : ref05_Encode_iai9_L1_s0)
def ref05_Encode_iai9_c0 (x0 : Int) (x1 : Int) (x2 : List Int) : Bool := (bif tb (ref05_Right_ai9_c0 x2) then (bif tb (ref05_Encode_iai9_S0_c0 x0 (ref05_Right_ai9_r0_0 x1 x2)) then true else (bif tb (decide (([165, (IntKind.u8.wrap (x0))].length + (ref04_Put2_i_r0_1 x1).length) * 1 ≤ 140737488355328)) then (bif tb (ref05_Encode_iai9_L1_ok x2 (⟨false, 0, ([165, (IntKind.u8.wrap (x0))] ++ (ref04_Put2_i_r0_1 x1))⟩ : ref05_Encode_iai9_L1_s0)) then (bif tb (ref05_Encode_iai9_L1_c0 (ref05_Encode_iai9_e0 x0 x1 x2)) then (bif tb (ref03_Seal_o_c0 ((ref05_Encode_iai9_e0 x0 x1 x2).c6)) then true else false) else false) else false) else false)) else false)
def ref05_Encode_iai9_r0_0 (x0 : Int) (x1 : Int) (x2 : List Int) : Bool := (bif tb (ref05_Encode_iai9_S0_c0 x0 (ref05_Right_ai9_r0_0 x1 x2)) then true else false)
def ref05_Encode_iai9_r0_1 (x0 : Int) (x1 : Int) (x2 : List Int) : Int := (bif tb (ref05_Encode_iai9_S0_c0 x0 (ref05_Right_ai9_r0_0 x1 x2)) then 1 else 0)
def ref05_Encode_iai9_r0_2 (x0 : Int) (x1 : Int) (x2 : List Int) : List Int := (bif tb (ref05_Encode_iai9_S0_c0 x0 (ref05_Right_ai9_r0_0 x1 x2)) then ([] : List Int) else (((ref05_Encode_iai9_e0 x0 x1 x2).c6) ++ [(ref03_Seal_o_e0 ((ref05_Encode_iai9_e0 x0 x1 x2).c6)), (ref03_Seal_o_e1 ((ref05_Encode_iai9_e0 x0 x1 x2).c6))]))
theorem ref05_Encode_iai9_t0 (x0 : Int) (x1 : Int) (x2 : List Int) : ref05_Encode_iai9_c0 x0 x1 x2 = true → cl E0 12 [(V.d (.int .i64 x0)), (V.agg [(V.d (.int .i64 x1)), (V.d (.int .i64 (gt x2 0))), (V.d (.int .i64 (gt x2 1))), (V.d (.int .i64 (gt x2 2))), (V.d (.int .i64 (gt x2 3))), (V.d (.int .i64 (gt x2 4))), (V.d (.int .i64 (gt x2 5))), (V.d (.int .i64 (gt x2 6))), (V.d (.int .i64 (gt x2 7)))])] [] = some ([(V.so (ref05_Encode_iai9_r0_0 x0 x1 x2) 0 ((ref05_Encode_iai9_r0_2 x0 x1 x2).length)), (V.d (.int .i64 (ref05_Encode_iai9_r0_1 x0 x1 x2)))], [(Blk.flat 5 1 (List.map (encI .u8) (ref05_Encode_iai9_r0_2 x0 x1 x2)) false)]) := by
  unfold ref05_Encode_iai9_c0 ref05_Encode_iai9_r0_0 ref05_Encode_iai9_r0_1 ref05_Encode_iai9_r0_2
  cases h1 : tb (ref05_Right_ai9_c0 x2)
  · intro g0
    exact absurd g0 ft
  · cases h2 : tb (ref05_Encode_iai9_S0_c0 x0 (ref05_Right_ai9_r0_0 x1 x2))
    · cases h3 : tb (decide (([165, (IntKind.u8.wrap (x0))].length + (ref04_Put2_i_r0_1 x1).length) * 1 ≤ 140737488355328))
      · intro g0
        exact absurd g0 ft
      · cases h4 : tb (ref05_Encode_iai9_L1_ok x2 (⟨false, 0, ([165, (IntKind.u8.wrap (x0))] ++ (ref04_Put2_i_r0_1 x1))⟩ : ref05_Encode_iai9_L1_s0))
        · intro g0
          exact absurd g0 ft
        · cases h5 : tb (ref05_Encode_iai9_L1_c0 (ref05_Encode_iai9_e0 x0 x1 x2))
          · intro g0
            exact absurd g0 ft
          · cases h6 : tb (ref03_Seal_o_c0 ((ref05_Encode_iai9_e0 x0 x1 x2).c6))
            · intro g0
              exact absurd g0 ft
            · intro g0
              exact w12 [.c (ref05_Right_ai9_t0 x1 x2 (tbE h1)), .s (ref05_Encode_iai9_S0_t1 x1 x2 false false x0 (ref05_Right_ai9_r0_0 x1 x2) (tbE h2)), .c (ref04_Put2_i_t0 x1), .m 28 (o_app_sf (m := [(Blk.flat 24 9 [([(.int .i64 x1)] ++ arrD .i64 x2 8)] false), (Blk.flat 5 1 [] false), (Blk.flat 5 1 [[(.int .u8 165)], [(.int .u8 (IntKind.u8.wrap (x0)))]] false), (Blk.flat 5 1 (List.map (encI .u8) (ref04_Put2_i_r0_1 x1)) false)]) (enc := (encI .u8)) (l0 := [165, (IntKind.u8.wrap (x0))]) (l1 := (ref04_Put2_i_r0_1 x1)) (id := 2) (e := 5) (s := 1) (bytes := 1) (x := (V.so (ref04_Put2_i_r0_0 x1) 3 ((ref04_Put2_i_r0_1 x1).length))) (n := 2) (by kernel_rfl) (by kernel_rfl) (flatRowsOf_so' (b := (ref04_Put2_i_r0_0 x1)) (e := 5) (s := 1) (p := false) (Nat.beq_refl _) (by kernel_rfl)) (by kernel_rfl) (tbE h3)), .l (ref05_Encode_iai9_L1_f0_0 x1 x2 ([165, (IntKind.u8.wrap (x0))] ++ (ref04_Put2_i_r0_1 x1)) (ref04_Put2_i_r0_1 x1) false false false false false 0 (⟨false, 0, ([165, (IntKind.u8.wrap (x0))] ++ (ref04_Put2_i_r0_1 x1))⟩ : ref05_Encode_iai9_L1_s0) (tbE h4) (tbE h5)), .y (mm := [(Blk.flat 24 9 [([(.int .i64 x1)] ++ arrD .i64 x2 8)] false), (Blk.flat 5 1 [] false), (Blk.flat 5 1 (List.map (encI .u8) ((ref05_Encode_iai9_e0 x0 x1 x2).c6)) false), (Blk.flat 5 1 (List.map (encI .u8) (ref04_Put2_i_r0_1 x1)) false)]) (args := [(V.so ((ref05_Encode_iai9_e0 x0 x1 x2).c0) 2 (((ref05_Encode_iai9_e0 x0 x1 x2).c6).length))]) (args1 := [(V.d (slD (encI .u8) true 1 ((ref05_Encode_iai9_e0 x0 x1 x2).c0) ((ref05_Encode_iai9_e0 x0 x1 x2).c6)))]) (byvals_cons (byval_so (enc := (encI .u8)) (l := ((ref05_Encode_iai9_e0 x0 x1 x2).c6)) (b := ((ref05_Encode_iai9_e0 x0 x1 x2).c0)) (e := 5) (s := 1) (p := false) (n := (((ref05_Encode_iai9_e0 x0 x1 x2).c6).length)) (Nat.beq_refl _) (by kernel_rfl)) (by kernel_rfl)), .c (ref03_Seal_o_t0 ((ref05_Encode_iai9_e0 x0 x1 x2).c0) ((ref05_Encode_iai9_e0 x0 x1 x2).c6) (tbE h6))] (by kernel_rfl)
    · intro g0
      exact w12 [.c (ref05_Right_ai9_t0 x1 x2 (tbE h1)), .s (ref05_Encode_iai9_S0_t0 x1 x2 false false x0 (ref05_Right_ai9_r0_0 x1 x2) (tbE h2))] (by kernel_rfl)
def ref05_Decode_iabo_S0_c0 (x2 : Bool) : Bool := (bif tb (x2) then true else false)
theorem ref05_Decode_iabo_S0_t0 (x0 : List Int) (x1 : List Int) (x2 : Bool) (x3 : Bool) (x4 : List Int) (x5 : Bool) (x7 : Bool) (x8 : Int) : ref05_Decode_iabo_S0_c0 x2 = true → segG (runC E0 (cl E0) S14_0) [0, 3, 4, 6] [4, 5] [0, 3, 4, 6] 3 ([(V.d (.int .i64 x8)), (V.ptr 0 1 0 0), (V.ptr 1 1 0 0), (V.ptr 2 1 0 0)], [(Blk.gen 27 2 [[(V.d (.bool x2)), (V.d (slD (encI .u8) true 1 x3 x4))]] x5), (Blk.flat 24 9 [([(.int .i64 0)] ++ arrD .i64 x0 8)] false), (Blk.flat 24 9 [([(.int .i64 0)] ++ arrD .i64 x1 8)] x7)]) = some (.normal, ([(V.d (.int .i64 x8)), (V.ptr 0 1 0 0), (V.ptr 1 1 0 0), (V.ptr 2 1 0 0)], [(Blk.gen 27 2 [[(V.d (.bool x2)), (V.d (slD (encI .u8) true 1 x3 x4))]] x5), (Blk.flat 24 9 [([(.int .i64 0)] ++ arrD .i64 x0 8)] false), (Blk.flat 24 9 [([(.int .i64 0)] ++ arrD .i64 x1 8)] x7)])) := by
  unfold ref05_Decode_iabo_S0_c0
  cases h1 : tb (x2)
  · intro g0
    exact absurd g0 ft
  · intro g0
    exact seg_walk [.b (notT (tbE h1))] (by kernel_rfl)
theorem ref05_Decode_iabo_S0_t1 (x0 : List Int) (x1 : List Int) (x2 : Bool) (x3 : Bool) (x4 : List Int) (x5 : Bool) (x7 : Bool) (x8 : Int) : ref05_Decode_iabo_S0_c0 x2 = false → segG (runC E0 (cl E0) S14_0) [0, 3, 4, 6] [4, 5] [0, 3, 4, 6] 3 ([(V.d (.int .i64 x8)), (V.ptr 0 1 0 0), (V.ptr 1 1 0 0), (V.ptr 2 1 0 0)], [(Blk.gen 27 2 [[(V.d (.bool x2)), (V.d (slD (encI .u8) true 1 x3 x4))]] x5), (Blk.flat 24 9 [([(.int .i64 0)] ++ arrD .i64 x0 8)] false), (Blk.flat 24 9 [([(.int .i64 0)] ++ arrD .i64 x1 8)] x7)]) = some (.ret, ([(V.ptr 1 1 0 0), (V.d (.int .i64 1))], [(Blk.gen 27 2 [[(V.d (.bool x2)), (V.d (slD (encI .u8) true 1 x3 x4))]] x5), (Blk.flat 24 9 [([(.int .i64 0)] ++ arrD .i64 x1 8)] false), (Blk.flat 24 9 [([(.int .i64 0)] ++ arrD .i64 x1 8)] x7)])) := by
  unfold ref05_Decode_iabo_S0_c0
  cases h1 : tb (x2)
  · intro g0
    exact seg_walk [.b (notF (tbE h1))] (by kernel_rfl)
  · intro g0
    exact absurd g0 tf
def ref05_Decode_iabo_S1_c0 (x4 : List Int) : Bool := (bif tb ((((x4.length : Nat) : Int) : Int) != 38) then true else false)
theorem ref05_Decode_iabo_S1_t0 (x0 : List Int) (x1 : List Int) (x2 : Bool) (x3 : Bool) (x4 : List Int) (x5 : Bool) (x7 : Bool) (x8 : Int) : ref05_Decode_iabo_S1_c0 x4 = true → segG (runC E0 (cl E0) S14_1) [0, 3, 4, 6] [4, 5] [0, 3, 4, 6] 3 ([(V.d (.int .i64 x8)), (V.ptr 0 1 0 0), (V.ptr 1 1 0 0), (V.ptr 2 1 0 0)], [(Blk.gen 27 2 [[(V.d (.bool x2)), (V.d (slD (encI .u8) true 1 x3 x4))]] x5), (Blk.flat 24 9 [([(.int .i64 0)] ++ arrD .i64 x0 8)] false), (Blk.flat 24 9 [([(.int .i64 0)] ++ arrD .i64 x1 8)] x7)]) = some (.ret, ([(V.ptr 1 1 0 0), (V.d (.int .i64 2))], [(Blk.gen 27 2 [[(V.d (.bool x2)), (V.d (slD (encI .u8) true 1 x3 x4))]] x5), (Blk.flat 24 9 [([(.int .i64 0)] ++ arrD .i64 x1 8)] false), (Blk.flat 24 9 [([(.int .i64 0)] ++ arrD .i64 x1 8)] x7)])) := by
  unfold ref05_Decode_iabo_S1_c0
  cases h1 : tb ((((x4.length : Nat) : Int) : Int) != 38)
  · intro g0
    exact absurd g0 ft
  · intro g0
    exact seg_walk [.o 20 (fun _ => o_len_os (enc := (encI .u8)) (l := x4) (fl := true) (n := x3) (s := 1)), .b (tbE h1)] (by kernel_rfl)
theorem ref05_Decode_iabo_S1_t1 (x0 : List Int) (x1 : List Int) (x2 : Bool) (x3 : Bool) (x4 : List Int) (x5 : Bool) (x7 : Bool) (x8 : Int) : ref05_Decode_iabo_S1_c0 x4 = false → segG (runC E0 (cl E0) S14_1) [0, 3, 4, 6] [4, 5] [0, 3, 4, 6] 3 ([(V.d (.int .i64 x8)), (V.ptr 0 1 0 0), (V.ptr 1 1 0 0), (V.ptr 2 1 0 0)], [(Blk.gen 27 2 [[(V.d (.bool x2)), (V.d (slD (encI .u8) true 1 x3 x4))]] x5), (Blk.flat 24 9 [([(.int .i64 0)] ++ arrD .i64 x0 8)] false), (Blk.flat 24 9 [([(.int .i64 0)] ++ arrD .i64 x1 8)] x7)]) = some (.normal, ([(V.d (.int .i64 x8)), (V.ptr 0 1 0 0), (V.ptr 1 1 0 0), (V.ptr 2 1 0 0)], [(Blk.gen 27 2 [[(V.d (.bool x2)), (V.d (slD (encI .u8) true 1 x3 x4))]] x5), (Blk.flat 24 9 [([(.int .i64 0)] ++ arrD .i64 x0 8)] false), (Blk.flat 24 9 [([(.int .i64 0)] ++ arrD .i64 x1 8)] x7)])) := by
  unfold ref05_Decode_iabo_S1_c0
  cases h1 : tb ((((x4.length : Nat) : Int) : Int) != 38)
  · intro g0
    exact seg_walk [.o 20 (fun _ => o_len_os (enc := (encI .u8)) (l := x4) (fl := true) (n := x3) (s := 1)), .b (tbE h1)] (by kernel_rfl)
  · intro g0
    exact absurd g0 tf
def ref05_Decode_iabo_S2_c0 (x4 : List Int) : Bool := (bif tb (inb x4.length 0) then (bif tb (((gt x4 0) : Int) != 165) then true else false) else false)
def ref05_Decode_iabo_S2_c1 (x4 : List Int) : Bool := (bif tb (inb x4.length 0) then (bif tb (((gt x4 0) : Int) != 165) then false else true) else false)
theorem ref05_Decode_iabo_S2_t0 (x0 : List Int) (x1 : List Int) (x2 : Bool) (x3 : Bool) (x4 : List Int) (x5 : Bool) (x7 : Bool) (x8 : Int) : ref05_Decode_iabo_S2_c0 x4 = true → segG (runC E0 (cl E0) S14_2) [0, 3, 4, 6] [4, 5] [0, 3, 4, 6] 3 ([(V.d (.int .i64 x8)), (V.ptr 0 1 0 0), (V.ptr 1 1 0 0), (V.ptr 2 1 0 0)], [(Blk.gen 27 2 [[(V.d (.bool x2)), (V.d (slD (encI .u8) true 1 x3 x4))]] x5), (Blk.flat 24 9 [([(.int .i64 0)] ++ arrD .i64 x0 8)] false), (Blk.flat 24 9 [([(.int .i64 0)] ++ arrD .i64 x1 8)] x7)]) = some (.ret, ([(V.ptr 1 1 0 0), (V.d (.int .i64 3))], [(Blk.gen 27 2 [[(V.d (.bool x2)), (V.d (slD (encI .u8) true 1 x3 x4))]] x5), (Blk.flat 24 9 [([(.int .i64 0)] ++ arrD .i64 x1 8)] false), (Blk.flat 24 9 [([(.int .i64 0)] ++ arrD .i64 x1 8)] x7)])) := by
  unfold ref05_Decode_iabo_S2_c0
  cases h1 : tb (inb x4.length 0)
  · intro g0
    exact absurd g0 ft
  · cases h2 : tb (((gt x4 0) : Int) != 165)
    · intro g0
      exact absurd g0 ft
    · intro g0
      exact seg_walk [.o 25 (fun _ => o_idx_os (enc := (encI .u8)) (l := x4) (fl := true) (n := x3) (s := 1) (k := .i64) (tbE h1)), .b (tbE h2)] (by kernel_rfl)
theorem ref05_Decode_iabo_S2_t1 (x0 : List Int) (x1 : List Int) (x2 : Bool) (x3 : Bool) (x4 : List Int) (x5 : Bool) (x7 : Bool) (x8 : Int) : ref05_Decode_iabo_S2_c0 x4 = false → ref05_Decode_iabo_S2_c1 x4 = true → segG (runC E0 (cl E0) S14_2) [0, 3, 4, 6] [4, 5] [0, 3, 4, 6] 3 ([(V.d (.int .i64 x8)), (V.ptr 0 1 0 0), (V.ptr 1 1 0 0), (V.ptr 2 1 0 0)], [(Blk.gen 27 2 [[(V.d (.bool x2)), (V.d (slD (encI .u8) true 1 x3 x4))]] x5), (Blk.flat 24 9 [([(.int .i64 0)] ++ arrD .i64 x0 8)] false), (Blk.flat 24 9 [([(.int .i64 0)] ++ arrD .i64 x1 8)] x7)]) = some (.normal, ([(V.d (.int .i64 x8)), (V.ptr 0 1 0 0), (V.ptr 1 1 0 0), (V.ptr 2 1 0 0)], [(Blk.gen 27 2 [[(V.d (.bool x2)), (V.d (slD (encI .u8) true 1 x3 x4))]] x5), (Blk.flat 24 9 [([(.int .i64 0)] ++ arrD .i64 x0 8)] false), (Blk.flat 24 9 [([(.int .i64 0)] ++ arrD .i64 x1 8)] x7)])) := by
  unfold ref05_Decode_iabo_S2_c0 ref05_Decode_iabo_S2_c1
  cases h1 : tb (inb x4.length 0)
  · intro g0 g1
    exact absurd g1 ft
  · cases h2 : tb (((gt x4 0) : Int) != 165)
    · intro g0 g1
      exact seg_walk [.o 25 (fun _ => o_idx_os (enc := (encI .u8)) (l := x4) (fl := true) (n := x3) (s := 1) (k := .i64) (tbE h1)), .b (tbE h2)] (by kernel_rfl)
    · intro g0 g1
      exact absurd g0 tf
def ref05_Decode_iabo_S3_c0 (x4 : List Int) (x8 : Int) : Bool := (bif tb (inb x4.length 1) then (bif tb (((wi (gt x4 1)) : Int) != x8) then true else false) else false)
def ref05_Decode_iabo_S3_c1 (x4 : List Int) (x8 : Int) : Bool := (bif tb (inb x4.length 1) then (bif tb (((wi (gt x4 1)) : Int) != x8) then false else true) else false)
theorem ref05_Decode_iabo_S3_t0 (x0 : List Int) (x1 : List Int) (x2 : Bool) (x3 : Bool) (x4 : List Int) (x5 : Bool) (x7 : Bool) (x8 : Int) : ref05_Decode_iabo_S3_c0 x4 x8 = true → segG (runC E0 (cl E0) S14_3) [0, 3, 4, 6] [4, 5] [3, 4, 6] 3 ([(V.d (.int .i64 x8)), (V.ptr 0 1 0 0), (V.ptr 1 1 0 0), (V.ptr 2 1 0 0)], [(Blk.gen 27 2 [[(V.d (.bool x2)), (V.d (slD (encI .u8) true 1 x3 x4))]] x5), (Blk.flat 24 9 [([(.int .i64 0)] ++ arrD .i64 x0 8)] false), (Blk.flat 24 9 [([(.int .i64 0)] ++ arrD .i64 x1 8)] x7)]) = some (.ret, ([(V.ptr 1 1 0 0), (V.d (.int .i64 4))], [(Blk.gen 27 2 [[(V.d (.bool x2)), (V.d (slD (encI .u8) true 1 x3 x4))]] x5), (Blk.flat 24 9 [([(.int .i64 0)] ++ arrD .i64 x1 8)] false), (Blk.flat 24 9 [([(.int .i64 0)] ++ arrD .i64 x1 8)] x7)])) := by
  unfold ref05_Decode_iabo_S3_c0
  cases h1 : tb (inb x4.length 1)
  · intro g0
    exact absurd g0 ft
  · cases h2 : tb (((wi (gt x4 1)) : Int) != x8)
    · intro g0
      exact absurd g0 ft
    · intro g0
      exact seg_walk [.o 31 (fun _ => o_idx_os (enc := (encI .u8)) (l := x4) (fl := true) (n := x3) (s := 1) (k := .i64) (tbE h1)), .b (tbE h2)] (by kernel_rfl)
theorem ref05_Decode_iabo_S3_t1 (x0 : List Int) (x1 : List Int) (x2 : Bool) (x3 : Bool) (x4 : List Int) (x5 : Bool) (x7 : Bool) (x8 : Int) : ref05_Decode_iabo_S3_c0 x4 x8 = false → ref05_Decode_iabo_S3_c1 x4 x8 = true → segG (runC E0 (cl E0) S14_3) [0, 3, 4, 6] [4, 5] [3, 4, 6] 3 ([(V.d (.int .i64 x8)), (V.ptr 0 1 0 0), (V.ptr 1 1 0 0), (V.ptr 2 1 0 0)], [(Blk.gen 27 2 [[(V.d (.bool x2)), (V.d (slD (encI .u8) true 1 x3 x4))]] x5), (Blk.flat 24 9 [([(.int .i64 0)] ++ arrD .i64 x0 8)] false), (Blk.flat 24 9 [([(.int .i64 0)] ++ arrD .i64 x1 8)] x7)]) = some (.normal, ([(V.ptr 0 1 0 0), (V.ptr 1 1 0 0), (V.ptr 2 1 0 0)], [(Blk.gen 27 2 [[(V.d (.bool x2)), (V.d (slD (encI .u8) true 1 x3 x4))]] x5), (Blk.flat 24 9 [([(.int .i64 0)] ++ arrD .i64 x0 8)] false), (Blk.flat 24 9 [([(.int .i64 0)] ++ arrD .i64 x1 8)] x7)])) := by
  unfold ref05_Decode_iabo_S3_c0 ref05_Decode_iabo_S3_c1
  cases h1 : tb (inb x4.length 1)
  · intro g0 g1
    exact absurd g1 ft
  · cases h2 : tb (((wi (gt x4 1)) : Int) != x8)
    · intro g0 g1
      exact seg_walk [.o 31 (fun _ => o_idx_os (enc := (encI .u8)) (l := x4) (fl := true) (n := x3) (s := 1) (k := .i64) (tbE h1)), .b (tbE h2)] (by kernel_rfl)
    · intro g0 g1
      exact absurd g0 tf
structure ref05_Decode_iabo_L4_s0 where
  c1 : Int
  c10 : List Int
  deriving Inhabited
def ref05_Decode_iabo_L4_h0_e0 (x4 : List Int) (s0 : ref05_Decode_iabo_L4_s0) : List Int := (sub x4 (wi (4 + (wi (4 * s0.c1)))) (wi (8 + (wi (4 * s0.c1)))))
def ref05_Decode_iabo_L4_h0_e1 (x4 : List Int) (s0 : ref05_Decode_iabo_L4_s0) : List Int := sta s0.c10 8 s0.c1 (ref04_Get4_o_r0_0 (ref05_Decode_iabo_L4_h0_e0 x4 s0))
def ref05_Decode_iabo_L4_enc (x0 : Int) (x1 : List Int) (x2 : Int) (x3 : List Int) (x4 : List Int) (x5 : Bool) (x6 : Bool) (x7 : List Int) (x8 : Bool) (x9 : Bool) (x10 : Bool) (x11 : Bool) (x12 : Bool) (x13 : Int) (s0 : ref05_Decode_iabo_L4_s0) : List V × Mem := ([(V.ptr 1 1 0 0), (V.ptr 2 1 0 0), (V.so x12 3 x4.length), (V.d (.int .i64 s0.c1))], [(Blk.gen 27 2 [[(V.d (.bool x5)), (V.d (slD (encI .u8) true 1 x6 x7))]] x8), (Blk.flat 24 9 [([(.int .i64 x0)] ++ arrD .i64 x1 8)] x9), (Blk.flat 24 9 [([(.int .i64 x2)] ++ arrD .i64 s0.c10 8)] false), (Blk.flat 5 1 (List.map (encI .u8) x4) x11)])
def ref05_Decode_iabo_L4_sel (x4 : List Int) (x12 : Bool) (s0 : ref05_Decode_iabo_L4_s0) : Bool := (bif tb (decide (s0.c1 < 8)) then (bif tb (ins x4.length (wi (4 + (wi (4 * s0.c1)))) (wi (8 + (wi (4 * s0.c1))))) then (bif tb (decide ((wi (4 + (wi (4 * s0.c1)))) < (wi (8 + (wi (4 * s0.c1)))))) then (bif tb (ref04_Get4_o_c0 (ref05_Decode_iabo_L4_h0_e0 x4 s0)) then (bif tb (inb 8 s0.c1) then true else false) else false) else (bif tb (x12) then false else (bif tb (inb 8 s0.c1) then true else false))) else false) else false)
def ref05_Decode_iabo_L4_nx (x4 : List Int) (x12 : Bool) (s0 : ref05_Decode_iabo_L4_s0) : ref05_Decode_iabo_L4_s0 := ⟨(wi (s0.c1 + 1)), (bif tb (decide ((wi (4 + (wi (4 * s0.c1)))) < (wi (8 + (wi (4 * s0.c1)))))) then (ref05_Decode_iabo_L4_h0_e1 x4 s0) else (sta s0.c10 8 s0.c1 0))⟩
def ref05_Decode_iabo_L4_ok (x4 : List Int) (x12 : Bool) (s0 : ref05_Decode_iabo_L4_s0) : Bool := (itS (ref05_Decode_iabo_L4_sel x4 x12) (ref05_Decode_iabo_L4_nx x4 x12) bound s0).isSome
def ref05_Decode_iabo_L4_end (x4 : List Int) (x12 : Bool) (s0 : ref05_Decode_iabo_L4_s0) : ref05_Decode_iabo_L4_s0 := (itS (ref05_Decode_iabo_L4_sel x4 x12) (ref05_Decode_iabo_L4_nx x4 x12) bound s0).getD default
theorem ref05_Decode_iabo_L4_go (x0 : Int) (x1 : List Int) (x2 : Int) (x3 : List Int) (x4 : List Int) (x5 : Bool) (x6 : Bool) (x7 : List Int) (x8 : Bool) (x9 : Bool) (x10 : Bool) (x11 : Bool) (x12 : Bool) (x13 : Int) (s0 : ref05_Decode_iabo_L4_s0) : ref05_Decode_iabo_L4_sel x4 x12 s0 = true → (roundG (runC E0 (cl E0) L14_4) [4, 6, 7, 11] [4, 6] 4) (ref05_Decode_iabo_L4_enc x0 x1 x2 x3 x4 x5 x6 x7 x8 x9 x10 x11 x12 x13 s0) = some (.normal, ref05_Decode_iabo_L4_enc x0 x1 x2 x3 x4 x5 x6 x7 x8 x9 x10 x11 x12 x13 (ref05_Decode_iabo_L4_nx x4 x12 s0)) := by
  unfold ref05_Decode_iabo_L4_sel ref05_Decode_iabo_L4_nx
  cases h1 : tb (decide (s0.c1 < 8))
  · intro g0
    exact absurd g0 ft
  · cases h2 : tb (ins x4.length (wi (4 + (wi (4 * s0.c1)))) (wi (8 + (wi (4 * s0.c1)))))
    · intro g0
      exact absurd g0 ft
    · cases h3 : tb (decide ((wi (4 + (wi (4 * s0.c1)))) < (wi (8 + (wi (4 * s0.c1))))))
      · cases h4 : tb (x12)
        · cases h5 : tb (inb 8 s0.c1)
          · intro g0
            exact absurd g0 ft
          · intro _
            exact round_walk [.b (tbE h1), .m 66 (o_slice_sp0 (m := [(Blk.gen 27 2 [[(V.d (.bool x5)), (V.d (slD (encI .u8) true 1 x6 x7))]] x8), (Blk.flat 24 9 [([(.int .i64 x0)] ++ arrD .i64 x1 8)] x9), (Blk.flat 24 9 [([(.int .i64 x2)] ++ arrD .i64 s0.c10 8)] false), (Blk.flat 5 1 (List.map (encI .u8) x4) x11)]) (enc := (encI .u8)) (l := x4) (id := 3) (e := 5) (s := 1) (n := x4.length) (p := x11) (some (.i64, (wi (4 + (wi (4 * s0.c1)))))) (some (.i64, (wi (8 + (wi (4 * s0.c1)))))) (deSo_f (tbE h4)) (Nat.beq_refl _) (by kernel_rfl) (tbE h2) (tbE h3)), .c (ref04_Get4_z_t0), .o 73 (fun _ => o_idxAA (id := 2) (nn := 1) (row := 0) (off := 1) (n := 8) (s := 1) (k := .i64) (i := s0.c1) (tbE h5)), .m 100073 (o_store_arr (m := [(Blk.gen 27 2 [[(V.d (.bool x5)), (V.d (slD (encI .u8) true 1 x6 x7))]] x8), (Blk.flat 24 9 [([(.int .i64 x0)] ++ arrD .i64 x1 8)] x9), (Blk.flat 24 9 [([(.int .i64 x2)] ++ arrD .i64 s0.c10 8)] false), (Blk.flat 5 1 (List.map (encI .u8) x4) x11)]) (id := 2) (nn := 1) (row := 0) (off := 1) (n := 8) (s := 9) (e := 24) (rows := [([(.int .i64 x2)] ++ arrD .i64 s0.c10 8)]) (cs := ([(.int .i64 x2)] ++ arrD .i64 s0.c10 8)) (k := .i64) (T := s0.c10) (i := s0.c1) (v := 0) (by kernel_rfl) (by kernel_rfl) (by kernel_rfl) (by kernel_rfl) (tbE h5))] (by kernel_rfl)
        · intro g0
          exact absurd g0 ft
      · cases h4 : tb (ref04_Get4_o_c0 (ref05_Decode_iabo_L4_h0_e0 x4 s0))
        · intro g0
          exact absurd g0 ft
        · cases h5 : tb (inb 8 s0.c1)
          · intro g0
            exact absurd g0 ft
          · intro _
            exact round_walk [.b (tbE h1), .m 66 (o_slice_spo (nl := x12) (m := [(Blk.gen 27 2 [[(V.d (.bool x5)), (V.d (slD (encI .u8) true 1 x6 x7))]] x8), (Blk.flat 24 9 [([(.int .i64 x0)] ++ arrD .i64 x1 8)] x9), (Blk.flat 24 9 [([(.int .i64 x2)] ++ arrD .i64 s0.c10 8)] false), (Blk.flat 5 1 (List.map (encI .u8) x4) x11)]) (enc := (encI .u8)) (l := x4) (id := 3) (e := 5) (s := 1) (n := x4.length) (p := x11) (some (.i64, (wi (4 + (wi (4 * s0.c1)))))) (some (.i64, (wi (8 + (wi (4 * s0.c1)))))) (by kernel_rfl) (tbE h2) (tbE h3)), .y (mm := [(Blk.gen 27 2 [[(V.d (.bool x5)), (V.d (slD (encI .u8) true 1 x6 x7))]] x8), (Blk.flat 24 9 [([(.int .i64 x0)] ++ arrD .i64 x1 8)] x9), (Blk.flat 24 9 [([(.int .i64 x2)] ++ arrD .i64 s0.c10 8)] false), (Blk.flat 5 1 (List.map (encI .u8) x4) x11)]) (args := [(V.sl 3 x4.length ((wi (4 + (wi (4 * s0.c1)))) : Int).toNat (((wi (8 + (wi (4 * s0.c1)))) : Int).toNat - ((wi (4 + (wi (4 * s0.c1)))) : Int).toNat))]) (args1 := [(V.d (.rs true 1 (List.map (encI .u8) (sub x4 (wi (4 + (wi (4 * s0.c1)))) (wi (8 + (wi (4 * s0.c1)))))) false))]) (byvals_cons (byval_sp (enc := (encI .u8)) (l := x4) (e := 5) (s := 1) (p := x11) (n := x4.length) (lo := (wi (4 + (wi (4 * s0.c1))))) (hi := (wi (8 + (wi (4 * s0.c1))))) (Nat.beq_refl _) (by kernel_rfl) (tbE h2)) (by kernel_rfl)), .c (ref04_Get4_o_t0 false (ref05_Decode_iabo_L4_h0_e0 x4 s0) (tbE h4)), .o 73 (fun _ => o_idxAA (id := 2) (nn := 1) (row := 0) (off := 1) (n := 8) (s := 1) (k := .i64) (i := s0.c1) (tbE h5)), .m 100073 (o_store_arr (m := [(Blk.gen 27 2 [[(V.d (.bool x5)), (V.d (slD (encI .u8) true 1 x6 x7))]] x8), (Blk.flat 24 9 [([(.int .i64 x0)] ++ arrD .i64 x1 8)] x9), (Blk.flat 24 9 [([(.int .i64 x2)] ++ arrD .i64 s0.c10 8)] false), (Blk.flat 5 1 (List.map (encI .u8) x4) x11)]) (id := 2) (nn := 1) (row := 0) (off := 1) (n := 8) (s := 9) (e := 24) (rows := [([(.int .i64 x2)] ++ arrD .i64 s0.c10 8)]) (cs := ([(.int .i64 x2)] ++ arrD .i64 s0.c10 8)) (k := .i64) (T := s0.c10) (i := s0.c1) (v := (ref04_Get4_o_r0_0 (ref05_Decode_iabo_L4_h0_e0 x4 s0))) (by kernel_rfl) (by kernel_rfl) (by kernel_rfl) (by kernel_rfl) (tbE h5))] (by kernel_rfl)
def ref05_Decode_iabo_L4_c0 (s0 : ref05_Decode_iabo_L4_s0) : Bool := (bif tb (decide (s0.c1 < 8)) then false else true)
theorem ref05_Decode_iabo_L4_x0 (x0 : Int) (x1 : List Int) (x2 : Int) (x3 : List Int) (x4 : List Int) (x5 : Bool) (x6 : Bool) (x7 : List Int) (x8 : Bool) (x9 : Bool) (x10 : Bool) (x11 : Bool) (x12 : Bool) (x13 : Int) (s0 : ref05_Decode_iabo_L4_s0) : ref05_Decode_iabo_L4_sel x4 x12 s0 = false → ref05_Decode_iabo_L4_c0 s0 = true → (roundG (runC E0 (cl E0) L14_4) [4, 6, 7, 11] [4, 6] 4) (ref05_Decode_iabo_L4_enc x0 x1 x2 x3 x4 x5 x6 x7 x8 x9 x10 x11 x12 x13 s0) = some ((.exit 0), ([(V.ptr 1 1 0 0), (V.ptr 2 1 0 0)], [(Blk.gen 27 2 [[(V.d (.bool x5)), (V.d (slD (encI .u8) true 1 x6 x7))]] x8), (Blk.flat 24 9 [([(.int .i64 x0)] ++ arrD .i64 x1 8)] x9), (Blk.flat 24 9 [([(.int .i64 x2)] ++ arrD .i64 s0.c10 8)] false), (Blk.flat 5 1 (List.map (encI .u8) x4) x11)])) := by
  unfold ref05_Decode_iabo_L4_sel ref05_Decode_iabo_L4_c0
  cases h1 : tb (decide (s0.c1 < 8))
  · intro g0 g1
    exact round_walk [.b (tbE h1)] (by kernel_rfl)
  · cases h2 : tb (ins x4.length (wi (4 + (wi (4 * s0.c1)))) (wi (8 + (wi (4 * s0.c1)))))
    · intro g0 g1
      exact absurd g1 ft
    · cases h3 : tb (decide ((wi (4 + (wi (4 * s0.c1)))) < (wi (8 + (wi (4 * s0.c1))))))
      · cases h4 : tb (x12)
        · cases h5 : tb (inb 8 s0.c1)
          · intro g0 g1
            exact absurd g1 ft
          · intro g0 g1
            exact absurd g0 tf
        · intro g0 g1
          exact absurd g1 ft
      · cases h4 : tb (ref04_Get4_o_c0 (ref05_Decode_iabo_L4_h0_e0 x4 s0))
        · intro g0 g1
          exact absurd g1 ft
        · cases h5 : tb (inb 8 s0.c1)
          · intro g0 g1
            exact absurd g1 ft
          · intro g0 g1
            exact absurd g0 tf
theorem ref05_Decode_iabo_L4_f0_0 (x0 : Int) (x1 : List Int) (x2 : Int) (x3 : List Int) (x4 : List Int) (x5 : Bool) (x6 : Bool) (x7 : List Int) (x8 : Bool) (x9 : Bool) (x10 : Bool) (x11 : Bool) (x12 : Bool) (x13 : Int) (s : ref05_Decode_iabo_L4_s0) (hok : ref05_Decode_iabo_L4_ok x4 x12 s = true) (c0 : ref05_Decode_iabo_L4_c0 (ref05_Decode_iabo_L4_end x4 x12 s) = true) : loopG (roundG (runC E0 (cl E0) L14_4) [4, 6, 7, 11] [4, 6] 4) bound (ref05_Decode_iabo_L4_enc x0 x1 x2 x3 x4 x5 x6 x7 x8 x9 x10 x11 x12 x13 s) = some ((.exit 0), ([(V.ptr 1 1 0 0), (V.ptr 2 1 0 0)], [(Blk.gen 27 2 [[(V.d (.bool x5)), (V.d (slD (encI .u8) true 1 x6 x7))]] x8), (Blk.flat 24 9 [([(.int .i64 x0)] ++ arrD .i64 x1 8)] x9), (Blk.flat 24 9 [([(.int .i64 x2)] ++ arrD .i64 ((ref05_Decode_iabo_L4_end x4 x12 s).c10) 8)] false), (Blk.flat 5 1 (List.map (encI .u8) x4) x11)])) := by
  have e : itS (ref05_Decode_iabo_L4_sel x4 x12) (ref05_Decode_iabo_L4_nx x4 x12) bound s = some (ref05_Decode_iabo_L4_end x4 x12 s) := itS_get hok
  have f := itS_false e
  exact loop_it (ref05_Decode_iabo_L4_go x0 x1 x2 x3 x4 x5 x6 x7 x8 x9 x10 x11 x12 x13) bound s _ _ _ e (fun h => by cases h) (ref05_Decode_iabo_L4_x0 x0 x1 x2 x3 x4 x5 x6 x7 x8 x9 x10 x11 x12 x13 (ref05_Decode_iabo_L4_end x4 x12 s) f c0)
def ref05_Decode_iabo_S5_e0 (x1 : List Int) (x4 : List Int) : ref05_Decode_iabo_L4_s0 := ref05_Decode_iabo_L4_end (ref03_Open_o_r0_2 x4) (ref03_Open_o_r0_0 x4) (⟨0, x1⟩ : ref05_Decode_iabo_L4_s0)
def ref05_Decode_iabo_S5_c0 (x1 : List Int) (x4 : List Int) : Bool := (bif tb (ref03_Open_o_c0 x4) then (bif tb (ref03_Open_o_r0_1 x4) then (bif tb (ins ((ref03_Open_o_r0_2 x4).length) 2 4) then (bif tb (decide (2 < 4)) then (bif tb (ref04_Get2_o_c0 (sub (ref03_Open_o_r0_2 x4) 2 4)) then (bif tb (ref05_Decode_iabo_L4_ok (ref03_Open_o_r0_2 x4) (ref03_Open_o_r0_0 x4) (⟨0, x1⟩ : ref05_Decode_iabo_L4_s0)) then (bif tb (ref05_Decode_iabo_L4_c0 (ref05_Decode_iabo_S5_e0 x1 x4)) then true else false) else false) else false) else (bif tb (ref03_Open_o_r0_0 x4) then false else (bif tb (ref05_Decode_iabo_L4_ok (ref03_Open_o_r0_2 x4) (ref03_Open_o_r0_0 x4) (⟨0, x1⟩ : ref05_Decode_iabo_L4_s0)) then (bif tb (ref05_Decode_iabo_L4_c0 (ref05_Decode_iabo_S5_e0 x1 x4)) then true else false) else false))) else false) else false) else false)
def ref05_Decode_iabo_S5_r0_7 (x4 : List Int) : Int := (bif tb (decide (2 < 4)) then (ref04_Get2_o_r0_0 (sub (ref03_Open_o_r0_2 x4) 2 4)) else 0)
def ref05_Decode_iabo_S5_c1 (x4 : List Int) : Bool := (bif tb (ref03_Open_o_c0 x4) then (bif tb (ref03_Open_o_r0_1 x4) then false else true) else false)
theorem ref05_Decode_iabo_S5_t0 (x0 : List Int) (x1 : List Int) (x2 : Bool) (x3 : Bool) (x4 : List Int) (x5 : Bool) : ref05_Decode_iabo_S5_c0 x1 x4 = true → segG (runC E0 (cl E0) S14_5) [3, 4, 6] [4, 5] [4, 6] 3 ([(V.ptr 0 1 0 0), (V.ptr 1 1 0 0), (V.ptr 2 1 0 0)], [(Blk.gen 27 2 [[(V.d (.bool x2)), (V.d (slD (encI .u8) true 1 x3 x4))]] x5), (Blk.flat 24 9 [([(.int .i64 0)] ++ arrD .i64 x0 8)] false), (Blk.flat 24 9 [([(.int .i64 0)] ++ arrD .i64 x1 8)] false)]) = some (.normal, ([(V.ptr 1 1 0 0), (V.ptr 2 1 0 0)], [(Blk.gen 27 2 [[(V.d (.bool x2)), (V.d (slD (encI .u8) true 1 x3 x4))]] x5), (Blk.flat 24 9 [([(.int .i64 0)] ++ arrD .i64 x0 8)] false), (Blk.flat 24 9 [([(.int .i64 (ref05_Decode_iabo_S5_r0_7 x4))] ++ arrD .i64 ((ref05_Decode_iabo_S5_e0 x1 x4).c10) 8)] false)])) := by
  unfold ref05_Decode_iabo_S5_c0 ref05_Decode_iabo_S5_r0_7
  cases h1 : tb (ref03_Open_o_c0 x4)
  · intro g0
    exact absurd g0 ft
  · cases h2 : tb (ref03_Open_o_r0_1 x4)
    · intro g0
      exact absurd g0 ft
    · cases h3 : tb (ins ((ref03_Open_o_r0_2 x4).length) 2 4)
      · intro g0
        exact absurd g0 ft
      · cases h4 : tb (decide (2 < 4))
        · cases h5 : tb (ref03_Open_o_r0_0 x4)
          · cases h6 : tb (ref05_Decode_iabo_L4_ok (ref03_Open_o_r0_2 x4) (ref03_Open_o_r0_0 x4) (⟨0, x1⟩ : ref05_Decode_iabo_L4_s0))
            · intro g0
              exact absurd g0 ft
            · cases h7 : tb (ref05_Decode_iabo_L4_c0 (ref05_Decode_iabo_S5_e0 x1 x4))
              · intro g0
                exact absurd g0 ft
              · intro g0
                exact seg_walk [.c (ref03_Open_o_t0 x3 x4 (tbE h1)), .b (notT (tbE h2)), .m 48 (o_slice_sp0 (m := [(Blk.gen 27 2 [[(V.d (.bool x2)), (V.d (slD (encI .u8) true 1 x3 x4))]] x5), (Blk.flat 24 9 [([(.int .i64 0)] ++ arrD .i64 x0 8)] false), (Blk.flat 24 9 [([(.int .i64 0)] ++ arrD .i64 x1 8)] false), (Blk.flat 5 1 (List.map (encI .u8) (ref03_Open_o_r0_2 x4)) false)]) (enc := (encI .u8)) (l := (ref03_Open_o_r0_2 x4)) (id := 3) (e := 5) (s := 1) (n := ((ref03_Open_o_r0_2 x4).length)) (p := false) (some (.i64, 2)) (some (.i64, 4)) (deSo_f (tbE h5)) (Nat.beq_refl _) (by kernel_rfl) (tbE h3) (tbE h4)), .c (ref04_Get2_z_t0), .l (ref05_Decode_iabo_L4_f0_0 0 x0 0 x1 (ref03_Open_o_r0_2 x4) x2 x3 x4 x5 false false false (ref03_Open_o_r0_0 x4) 0 (⟨0, x1⟩ : ref05_Decode_iabo_L4_s0) (tbE h6) (tbE h7))] (by kernel_rfl)
          · intro g0
            exact absurd g0 ft
        · cases h5 : tb (ref04_Get2_o_c0 (sub (ref03_Open_o_r0_2 x4) 2 4))
          · intro g0
            exact absurd g0 ft
          · cases h6 : tb (ref05_Decode_iabo_L4_ok (ref03_Open_o_r0_2 x4) (ref03_Open_o_r0_0 x4) (⟨0, x1⟩ : ref05_Decode_iabo_L4_s0))
            · intro g0
              exact absurd g0 ft
            · cases h7 : tb (ref05_Decode_iabo_L4_c0 (ref05_Decode_iabo_S5_e0 x1 x4))
              · intro g0
                exact absurd g0 ft
              · intro g0
                exact seg_walk [.c (ref03_Open_o_t0 x3 x4 (tbE h1)), .b (notT (tbE h2)), .m 48 (o_slice_spo (nl := (ref03_Open_o_r0_0 x4)) (m := [(Blk.gen 27 2 [[(V.d (.bool x2)), (V.d (slD (encI .u8) true 1 x3 x4))]] x5), (Blk.flat 24 9 [([(.int .i64 0)] ++ arrD .i64 x0 8)] false), (Blk.flat 24 9 [([(.int .i64 0)] ++ arrD .i64 x1 8)] false), (Blk.flat 5 1 (List.map (encI .u8) (ref03_Open_o_r0_2 x4)) false)]) (enc := (encI .u8)) (l := (ref03_Open_o_r0_2 x4)) (id := 3) (e := 5) (s := 1) (n := ((ref03_Open_o_r0_2 x4).length)) (p := false) (some (.i64, 2)) (some (.i64, 4)) (by kernel_rfl) (tbE h3) (tbE h4)), .y (mm := [(Blk.gen 27 2 [[(V.d (.bool x2)), (V.d (slD (encI .u8) true 1 x3 x4))]] x5), (Blk.flat 24 9 [([(.int .i64 0)] ++ arrD .i64 x0 8)] false), (Blk.flat 24 9 [([(.int .i64 0)] ++ arrD .i64 x1 8)] false), (Blk.flat 5 1 (List.map (encI .u8) (ref03_Open_o_r0_2 x4)) false)]) (args := [(V.sl 3 ((ref03_Open_o_r0_2 x4).length) (2 : Int).toNat ((4 : Int).toNat - (2 : Int).toNat))]) (args1 := [(V.d (.rs true 1 (List.map (encI .u8) (sub (ref03_Open_o_r0_2 x4) 2 4)) false))]) (byvals_cons (byval_sp (enc := (encI .u8)) (l := (ref03_Open_o_r0_2 x4)) (e := 5) (s := 1) (p := false) (n := ((ref03_Open_o_r0_2 x4).length)) (lo := 2) (hi := 4) (Nat.beq_refl _) (by kernel_rfl) (tbE h3)) (by kernel_rfl)), .c (ref04_Get2_o_t0 false (sub (ref03_Open_o_r0_2 x4) 2 4) (tbE h5)), .l (ref05_Decode_iabo_L4_f0_0 0 x0 (ref04_Get2_o_r0_0 (sub (ref03_Open_o_r0_2 x4) 2 4)) x1 (ref03_Open_o_r0_2 x4) x2 x3 x4 x5 false false false (ref03_Open_o_r0_0 x4) 0 (⟨0, x1⟩ : ref05_Decode_iabo_L4_s0) (tbE h6) (tbE h7))] (by kernel_rfl)
theorem ref05_Decode_iabo_S5_t1 (x0 : List Int) (x1 : List Int) (x2 : Bool) (x3 : Bool) (x4 : List Int) (x5 : Bool) : ref05_Decode_iabo_S5_c0 x1 x4 = false → ref05_Decode_iabo_S5_c1 x4 = true → segG (runC E0 (cl E0) S14_5) [3, 4, 6] [4, 5] [4, 6] 3 ([(V.ptr 0 1 0 0), (V.ptr 1 1 0 0), (V.ptr 2 1 0 0)], [(Blk.gen 27 2 [[(V.d (.bool x2)), (V.d (slD (encI .u8) true 1 x3 x4))]] x5), (Blk.flat 24 9 [([(.int .i64 0)] ++ arrD .i64 x0 8)] false), (Blk.flat 24 9 [([(.int .i64 0)] ++ arrD .i64 x1 8)] false)]) = some (.ret, ([(V.ptr 1 1 0 0), (V.d (.int .i64 5))], [(Blk.gen 27 2 [[(V.d (.bool x2)), (V.d (slD (encI .u8) true 1 x3 x4))]] x5), (Blk.flat 24 9 [([(.int .i64 0)] ++ arrD .i64 x1 8)] false), (Blk.flat 24 9 [([(.int .i64 0)] ++ arrD .i64 x1 8)] false)])) := by
  unfold ref05_Decode_iabo_S5_c0 ref05_Decode_iabo_S5_c1
  cases h1 : tb (ref03_Open_o_c0 x4)
  · intro g0 g1
    exact absurd g1 ft
  · cases h2 : tb (ref03_Open_o_r0_1 x4)
    · intro g0 g1
      exact seg_walk [.c (ref03_Open_o_t0 x3 x4 (tbE h1)), .b (notF (tbE h2))] (by kernel_rfl)
    · cases h3 : tb (ins ((ref03_Open_o_r0_2 x4).length) 2 4)
      · intro g0 g1
        exact absurd g1 ft
      · cases h4 : tb (decide (2 < 4))
        · cases h5 : tb (ref03_Open_o_r0_0 x4)
          · cases h6 : tb (ref05_Decode_iabo_L4_ok (ref03_Open_o_r0_2 x4) (ref03_Open_o_r0_0 x4) (⟨0, x1⟩ : ref05_Decode_iabo_L4_s0))
            · intro g0 g1
              exact absurd g1 ft
            · cases h7 : tb (ref05_Decode_iabo_L4_c0 (ref05_Decode_iabo_S5_e0 x1 x4))
              · intro g0 g1
                exact absurd g1 ft
              · intro g0 g1
                exact absurd g0 tf
          · intro g0 g1
            exact absurd g1 ft
        · cases h5 : tb (ref04_Get2_o_c0 (sub (ref03_Open_o_r0_2 x4) 2 4))
          · intro g0 g1
            exact absurd g1 ft
          · cases h6 : tb (ref05_Decode_iabo_L4_ok (ref03_Open_o_r0_2 x4) (ref03_Open_o_r0_0 x4) (⟨0, x1⟩ : ref05_Decode_iabo_L4_s0))
            · intro g0 g1
              exact absurd g1 ft
            · cases h7 : tb (ref05_Decode_iabo_L4_c0 (ref05_Decode_iabo_S5_e0 x1 x4))
              · intro g0 g1
                exact absurd g1 ft
              · intro g0 g1
                exact absurd g0 tf
def ref05_Decode_iabo_c0 (x0 : Int) (x1 : Bool) (x3 : List Int) : Bool := (bif tb (ref05_Decode_iabo_S0_c0 x1) then (bif tb (ref05_Decode_iabo_S1_c0 x3) then true else (bif tb (ref05_Decode_iabo_S2_c0 x3) then true else (bif tb (ref05_Decode_iabo_S2_c1 x3) then (bif tb (ref05_Decode_iabo_S3_c0 x3 x0) then true else (bif tb (ref05_Decode_iabo_S3_c1 x3 x0) then (bif tb (ref05_Decode_iabo_S5_c0 [0, 0, 0, 0, 0, 0, 0, 0] x3) then true else (bif tb (ref05_Decode_iabo_S5_c1 x3) then true else false)) else false)) else false))) else true)
def ref05_Decode_iabo_r0_0 (x0 : Int) (x1 : Bool) (x3 : List Int) : Int := (bif tb (ref05_Decode_iabo_S0_c0 x1) then (bif tb (ref05_Decode_iabo_S1_c0 x3) then 0 else (bif tb (ref05_Decode_iabo_S2_c0 x3) then 0 else (bif tb (ref05_Decode_iabo_S3_c0 x3 x0) then 0 else (bif tb (ref05_Decode_iabo_S5_c0 [0, 0, 0, 0, 0, 0, 0, 0] x3) then (ref05_Decode_iabo_S5_r0_7 x3) else 0)))) else 0)
def ref05_Decode_iabo_r0_1 (x0 : Int) (x1 : Bool) (x3 : List Int) : List Int := (bif tb (ref05_Decode_iabo_S0_c0 x1) then (bif tb (ref05_Decode_iabo_S1_c0 x3) then [0, 0, 0, 0, 0, 0, 0, 0] else (bif tb (ref05_Decode_iabo_S2_c0 x3) then [0, 0, 0, 0, 0, 0, 0, 0] else (bif tb (ref05_Decode_iabo_S3_c0 x3 x0) then [0, 0, 0, 0, 0, 0, 0, 0] else (bif tb (ref05_Decode_iabo_S5_c0 [0, 0, 0, 0, 0, 0, 0, 0] x3) then ((ref05_Decode_iabo_S5_e0 [0, 0, 0, 0, 0, 0, 0, 0] x3).c10) else [0, 0, 0, 0, 0, 0, 0, 0])))) else [0, 0, 0, 0, 0, 0, 0, 0])
def ref05_Decode_iabo_r0_2 (x0 : Int) (x1 : Bool) (x3 : List Int) : Int := (bif tb (ref05_Decode_iabo_S0_c0 x1) then (bif tb (ref05_Decode_iabo_S1_c0 x3) then 2 else (bif tb (ref05_Decode_iabo_S2_c0 x3) then 3 else (bif tb (ref05_Decode_iabo_S3_c0 x3 x0) then 4 else (bif tb (ref05_Decode_iabo_S5_c0 [0, 0, 0, 0, 0, 0, 0, 0] x3) then 0 else 5)))) else 1)
theorem ref05_Decode_iabo_t0 (x0 : Int) (x1 : Bool) (x2 : Bool) (x3 : List Int) : ref05_Decode_iabo_c0 x0 x1 x3 = true → cl E0 14 [(V.d (.int .i64 x0)), (V.agg [(V.d (.bool x1)), (V.d (slD (encI .u8) true 1 x2 x3))])] [] = some ([(V.agg [(V.d (.int .i64 (ref05_Decode_iabo_r0_0 x0 x1 x3))), (V.d (.int .i64 (gt (ref05_Decode_iabo_r0_1 x0 x1 x3) 0))), (V.d (.int .i64 (gt (ref05_Decode_iabo_r0_1 x0 x1 x3) 1))), (V.d (.int .i64 (gt (ref05_Decode_iabo_r0_1 x0 x1 x3) 2))), (V.d (.int .i64 (gt (ref05_Decode_iabo_r0_1 x0 x1 x3) 3))), (V.d (.int .i64 (gt (ref05_Decode_iabo_r0_1 x0 x1 x3) 4))), (V.d (.int .i64 (gt (ref05_Decode_iabo_r0_1 x0 x1 x3) 5))), (V.d (.int .i64 (gt (ref05_Decode_iabo_r0_1 x0 x1 x3) 6))), (V.d (.int .i64 (gt (ref05_Decode_iabo_r0_1 x0 x1 x3) 7)))]), (V.d (.int .i64 (ref05_Decode_iabo_r0_2 x0 x1 x3)))], []) := by
  unfold ref05_Decode_iabo_c0 ref05_Decode_iabo_r0_0 ref05_Decode_iabo_r0_1 ref05_Decode_iabo_r0_2
  cases h1 : tb (ref05_Decode_iabo_S0_c0 x1)
  · intro g0
    exact w14 [.s (ref05_Decode_iabo_S0_t1 [0, 0, 0, 0, 0, 0, 0, 0] [0, 0, 0, 0, 0, 0, 0, 0] x1 x2 x3 false false x0 (tbE h1))] (by kernel_rfl)
  · cases h2 : tb (ref05_Decode_iabo_S1_c0 x3)
    · cases h3 : tb (ref05_Decode_iabo_S2_c0 x3)
      · cases h4 : tb (ref05_Decode_iabo_S2_c1 x3)
        · intro g0
          exact absurd g0 ft
        · cases h5 : tb (ref05_Decode_iabo_S3_c0 x3 x0)
          · cases h6 : tb (ref05_Decode_iabo_S3_c1 x3 x0)
            · intro g0
              exact absurd g0 ft
            · cases h7 : tb (ref05_Decode_iabo_S5_c0 [0, 0, 0, 0, 0, 0, 0, 0] x3)
              · cases h8 : tb (ref05_Decode_iabo_S5_c1 x3)
                · intro g0
                  exact absurd g0 ft
                · intro g0
                  exact w14 [.s (ref05_Decode_iabo_S0_t0 [0, 0, 0, 0, 0, 0, 0, 0] [0, 0, 0, 0, 0, 0, 0, 0] x1 x2 x3 false false x0 (tbE h1)), .s (ref05_Decode_iabo_S1_t1 [0, 0, 0, 0, 0, 0, 0, 0] [0, 0, 0, 0, 0, 0, 0, 0] x1 x2 x3 false false x0 (tbE h2)), .s (ref05_Decode_iabo_S2_t1 [0, 0, 0, 0, 0, 0, 0, 0] [0, 0, 0, 0, 0, 0, 0, 0] x1 x2 x3 false false x0 (tbE h3) (tbE h4)), .s (ref05_Decode_iabo_S3_t1 [0, 0, 0, 0, 0, 0, 0, 0] [0, 0, 0, 0, 0, 0, 0, 0] x1 x2 x3 false false x0 (tbE h5) (tbE h6)), .s (ref05_Decode_iabo_S5_t1 [0, 0, 0, 0, 0, 0, 0, 0] [0, 0, 0, 0, 0, 0, 0, 0] x1 x2 x3 false (tbE h7) (tbE h8))] (by kernel_rfl)
              · intro g0
                exact w14 [.s (ref05_Decode_iabo_S0_t0 [0, 0, 0, 0, 0, 0, 0, 0] [0, 0, 0, 0, 0, 0, 0, 0] x1 x2 x3 false false x0 (tbE h1)), .s (ref05_Decode_iabo_S1_t1 [0, 0, 0, 0, 0, 0, 0, 0] [0, 0, 0, 0, 0, 0, 0, 0] x1 x2 x3 false false x0 (tbE h2)), .s (ref05_Decode_iabo_S2_t1 [0, 0, 0, 0, 0, 0, 0, 0] [0, 0, 0, 0, 0, 0, 0, 0] x1 x2 x3 false false x0 (tbE h3) (tbE h4)), .s (ref05_Decode_iabo_S3_t1 [0, 0, 0, 0, 0, 0, 0, 0] [0, 0, 0, 0, 0, 0, 0, 0] x1 x2 x3 false false x0 (tbE h5) (tbE h6)), .s (ref05_Decode_iabo_S5_t0 [0, 0, 0, 0, 0, 0, 0, 0] [0, 0, 0, 0, 0, 0, 0, 0] x1 x2 x3 false (tbE h7))] (by kernel_rfl)
          · intro g0
            exact w14 [.s (ref05_Decode_iabo_S0_t0 [0, 0, 0, 0, 0, 0, 0, 0] [0, 0, 0, 0, 0, 0, 0, 0] x1 x2 x3 false false x0 (tbE h1)), .s (ref05_Decode_iabo_S1_t1 [0, 0, 0, 0, 0, 0, 0, 0] [0, 0, 0, 0, 0, 0, 0, 0] x1 x2 x3 false false x0 (tbE h2)), .s (ref05_Decode_iabo_S2_t1 [0, 0, 0, 0, 0, 0, 0, 0] [0, 0, 0, 0, 0, 0, 0, 0] x1 x2 x3 false false x0 (tbE h3) (tbE h4)), .s (ref05_Decode_iabo_S3_t0 [0, 0, 0, 0, 0, 0, 0, 0] [0, 0, 0, 0, 0, 0, 0, 0] x1 x2 x3 false false x0 (tbE h5))] (by kernel_rfl)
      · intro g0
        exact w14 [.s (ref05_Decode_iabo_S0_t0 [0, 0, 0, 0, 0, 0, 0, 0] [0, 0, 0, 0, 0, 0, 0, 0] x1 x2 x3 false false x0 (tbE h1)), .s (ref05_Decode_iabo_S1_t1 [0, 0, 0, 0, 0, 0, 0, 0] [0, 0, 0, 0, 0, 0, 0, 0] x1 x2 x3 false false x0 (tbE h2)), .s (ref05_Decode_iabo_S2_t0 [0, 0, 0, 0, 0, 0, 0, 0] [0, 0, 0, 0, 0, 0, 0, 0] x1 x2 x3 false false x0 (tbE h3))] (by kernel_rfl)
    · intro g0
      exact w14 [.s (ref05_Decode_iabo_S0_t0 [0, 0, 0, 0, 0, 0, 0, 0] [0, 0, 0, 0, 0, 0, 0, 0] x1 x2 x3 false false x0 (tbE h1)), .s (ref05_Decode_iabo_S1_t0 [0, 0, 0, 0, 0, 0, 0, 0] [0, 0, 0, 0, 0, 0, 0, 0] x1 x2 x3 false false x0 (tbE h2))] (by kernel_rfl)
def ref05_Name_i_S0_c0 (x0 : Int) : Bool := (bif tb ((x0 : Int) == 0) then true else (bif tb ((x0 : Int) == 1) then true else (bif tb ((x0 : Int) == 2) then true else (bif tb ((x0 : Int) == 3) then true else (bif tb ((x0 : Int) == 4) then true else (bif tb ((x0 : Int) == 5) then true else (bif tb ((x0 : Int) == 6) then true else false)))))))
def ref05_Name_i_S0_r0_0 (x0 : Int) : ByteArray := (bif tb ((x0 : Int) == 0) then ⟨#[102, 105, 110, 101]⟩ else (bif tb ((x0 : Int) == 1) then ⟨#[97, 98, 115, 101, 110, 116]⟩ else (bif tb ((x0 : Int) == 2) then ⟨#[108, 101, 110, 103, 116, 104]⟩ else (bif tb ((x0 : Int) == 3) then ⟨#[115, 121, 110, 99]⟩ else (bif tb ((x0 : Int) == 4) then ⟨#[111, 116, 104, 101, 114]⟩ else (bif tb ((x0 : Int) == 5) then ⟨#[115, 117, 109]⟩ else ⟨#[115, 116, 97, 108, 101]⟩))))))
theorem ref05_Name_i_S0_t0 (x0 : Int) : ref05_Name_i_S0_c0 x0 = true → segG (runC E0 (cl E0) S19_0) [0] [2] [] 0 ([(V.d (.int .i64 x0))], []) = some (.ret, ([(V.d (.str (ref05_Name_i_S0_r0_0 x0)))], [])) := by
  unfold ref05_Name_i_S0_c0 ref05_Name_i_S0_r0_0
  cases h1 : tb ((x0 : Int) == 0)
  · cases h2 : tb ((x0 : Int) == 1)
    · cases h3 : tb ((x0 : Int) == 2)
      · cases h4 : tb ((x0 : Int) == 3)
        · cases h5 : tb ((x0 : Int) == 4)
          · cases h6 : tb ((x0 : Int) == 5)
            · cases h7 : tb ((x0 : Int) == 6)
              · intro g0
                exact absurd g0 ft
              · intro g0
                exact seg_walk [.b (tbE h1), .b (tbE h2), .b (tbE h3), .b (tbE h4), .b (tbE h5), .b (tbE h6), .b (tbE h7)] (by kernel_rfl)
            · intro g0
              exact seg_walk [.b (tbE h1), .b (tbE h2), .b (tbE h3), .b (tbE h4), .b (tbE h5), .b (tbE h6)] (by kernel_rfl)
          · intro g0
            exact seg_walk [.b (tbE h1), .b (tbE h2), .b (tbE h3), .b (tbE h4), .b (tbE h5)] (by kernel_rfl)
        · intro g0
          exact seg_walk [.b (tbE h1), .b (tbE h2), .b (tbE h3), .b (tbE h4)] (by kernel_rfl)
      · intro g0
        exact seg_walk [.b (tbE h1), .b (tbE h2), .b (tbE h3)] (by kernel_rfl)
    · intro g0
      exact seg_walk [.b (tbE h1), .b (tbE h2)] (by kernel_rfl)
  · intro g0
    exact seg_walk [.b (tbE h1)] (by kernel_rfl)
theorem ref05_Name_i_S0_t1 (x0 : Int) : ref05_Name_i_S0_c0 x0 = false → segG (runC E0 (cl E0) S19_0) [0] [2] [] 0 ([(V.d (.int .i64 x0))], []) = some (.normal, ([], [])) := by
  unfold ref05_Name_i_S0_c0
  cases h1 : tb ((x0 : Int) == 0)
  · cases h2 : tb ((x0 : Int) == 1)
    · cases h3 : tb ((x0 : Int) == 2)
      · cases h4 : tb ((x0 : Int) == 3)
        · cases h5 : tb ((x0 : Int) == 4)
          · cases h6 : tb ((x0 : Int) == 5)
            · cases h7 : tb ((x0 : Int) == 6)
              · intro g0
                exact seg_walk [.b (tbE h1), .b (tbE h2), .b (tbE h3), .b (tbE h4), .b (tbE h5), .b (tbE h6), .b (tbE h7)] (by kernel_rfl)
              · intro g0
                exact absurd g0 tf
            · intro g0
              exact absurd g0 tf
          · intro g0
            exact absurd g0 tf
        · intro g0
          exact absurd g0 tf
      · intro g0
        exact absurd g0 tf
    · intro g0
      exact absurd g0 tf
  · intro g0
    exact absurd g0 tf
def ref05_Name_i_r0_0 (x0 : Int) : ByteArray := (bif tb (ref05_Name_i_S0_c0 x0) then (ref05_Name_i_S0_r0_0 x0) else ⟨#[]⟩)
theorem ref05_Name_i_t0 (x0 : Int) : cl E0 19 [(V.d (.int .i64 x0))] [] = some ([(V.d (.str (ref05_Name_i_r0_0 x0)))], []) := by
  unfold ref05_Name_i_r0_0
  cases h1 : tb (ref05_Name_i_S0_c0 x0)
  · exact w19 [.s (ref05_Name_i_S0_t1 x0 (tbE h1))] (by kernel_rfl)
  · exact w19 [.s (ref05_Name_i_S0_t0 x0 (tbE h1))] (by kernel_rfl)
end Go.Proofs.YtkipngagfiaddaaDoor.Den

namespace Go.Proofs.YtkipngagfiaddaaDoor.Den
open Go Go.Proofs
set_option linter.unusedVariables false
set_option linter.unusedSimpArgs false
theorem GetAll_n {b : List Int} (hb : Byts b) (hl : b.length ≤ 1000000) (x : Bool) : word_GetAll_o_r0_0 x b = (if b.length % 4 = 0 then b.length / 4 == 0 else true) := by
  have hrun := fours_run hb hl x
  have he : word_fours_c1_yp_Y54_1pGvLGo_e0 [] true x b = ⟨b.length / 4 == 0, fours b (b.length / 4), (b.length / 4 == 0) && x, b.drop (4 * (b.length / 4))⟩ := by
    simp only [word_fours_c1_yp_Y54_1pGvLGo_e0, word_fours_c1_yp_Y54_1pGvLGo_L0_end, hrun]; rfl
  simp only [word_GetAll_o_r0_0, rem4, he, tb_eq]
  by_cases h : b.length % 4 = 0
  · simp [h]
  · have : (((b.length % 4 : Nat) : Int) != 0) = true := by simp; omega
    simp only [this, cond_true, h, if_false]
def z8 : List Int := [0, 0, 0, 0, 0, 0, 0, 0]
def rejOf (ch : Int) (is : Bool) (l : List Int) : Int := if is = true then (if l.length = 38 then (if gt l 0 = 165 then (if gt l 1 = ch then (if okS l = true then 0 else 5) else 4) else 3) else 2) else 1
def seqOf (l : List Int) : Int := g2 (((l.take 36).drop 2).take 2)
def valsOf (l : List Int) : List Int := fours ((l.take 36).drop 4) 8
theorem byt_byts {l : List Int} (h : Byt l) : Byts l := byts_of h
theorem decode_S0 {ch : Int} {is : Bool} {l : List Int} (h : Byt l) :
    frame_Decode_iabo_S0_c0 is l ch = !(is && decide (l.length = 38) && decide (gt l 0 = 165) && decide (gt l 1 = ch)) ∧
    frame_Decode_iabo_S0_c1 is l ch = (is && decide (l.length = 38) && decide (gt l 0 = 165) && decide (gt l 1 = ch)) ∧
    frame_Decode_iabo_S0_r0_0 is l = (if is = true then (if l.length = 38 then (if gt l 0 = 165 then 4 else 3) else 2) else 1) := by
  cases is with
  | false => simp [frame_Decode_iabo_S0_c0, frame_Decode_iabo_S0_c1, frame_Decode_iabo_S0_r0_0]
  | true =>
    by_cases h1 : l.length = 38
    · have e1 : ((((l.length : Nat) : Int) : Int) != 38) = false := by simp [h1]
      have i0 : inb l.length 0 = true := inb_of (by omega) (by omega)
      have i1 : inb l.length 1 = true := inb_of (by omega) (by omega)
      have i0' : inb 38 0 = true := rfl
      have i1' : inb 38 1 = true := rfl
      have b1 := wfI_u8 (h _ (gt_mem (l := l) (i := 1) (by omega) (by omega)))
      have w1 : wi (gt l 1) = gt l 1 := wi_eq (by omega) (by omega)
      by_cases h2 : gt l 0 = 165
      · have e2 : ((gt l 0 : Int) != 165) = false := by simp [h2]
        by_cases h3 : gt l 1 = ch
        · have w1' : wi ch = ch := by rw [← h3]; exact w1
          have e3 : ((gt l 1 : Int) != ch) = false := by simp [h3]
          simp [frame_Decode_iabo_S0_c0, frame_Decode_iabo_S0_c1, frame_Decode_iabo_S0_r0_0, e1, e2, e3, i0, i1, i0', i1', w1, w1', h1, h2, h3]
        · have e3 : ((gt l 1 : Int) != ch) = true := by simp [h3]
          simp [frame_Decode_iabo_S0_c0, frame_Decode_iabo_S0_c1, frame_Decode_iabo_S0_r0_0, e1, e2, e3, i0, i1, i0', i1', w1, h1, h2, h3]
      · have e2 : ((gt l 0 : Int) != 165) = true := by simp [h2]
        simp [frame_Decode_iabo_S0_c0, frame_Decode_iabo_S0_c1, frame_Decode_iabo_S0_r0_0, e1, e2, i0, i0', h1, h2]
    · have e1 : ((((l.length : Nat) : Int) : Int) != 38) = true := by simp; omega
      simp [frame_Decode_iabo_S0_c0, frame_Decode_iabo_S0_c1, frame_Decode_iabo_S0_r0_0, e1, h1]
theorem sub_24 {b : List Int} : sub b 2 4 = (b.drop 2).take 2 := by unfold sub; rfl
theorem sub_4e {b : List Int} (h : b.length = 36) : sub b 4 ((b.length : Nat) : Int) = b.drop 4 := by
  unfold sub; rw [h]
  show (b.drop 4).take 32 = _
  rw [List.take_of_length_le (by simp; omega)]
theorem decode_eq (ch : Int) (is nl : Bool) {l : List Int} (h : Sm l) : frame_Decode_iabo_c0 ch is nl l = true ∧ frame_Decode_iabo_r0_2 ch is nl l = rejOf ch is l ∧
    frame_Decode_iabo_r0_0 ch is nl l = (if rejOf ch is l = 0 then seqOf l else 0) ∧ frame_Decode_iabo_r0_1 ch is nl l = (if rejOf ch is l = 0 then valsOf l else z8) := by
  obtain ⟨s1, s2, s3⟩ := decode_S0 (ch := ch) (is := is) h.b
  by_cases hok : (is && decide (l.length = 38) && decide (gt l 0 = 165) && decide (gt l 1 = ch)) = true
  · rw [hok] at s1 s2
    simp only [Bool.and_eq_true, decide_eq_true_eq] at hok
    obtain ⟨⟨⟨hi, h1⟩, h2⟩, h3⟩ := hok
    have hr : rejOf ch is l = if okS l = true then 0 else 5 := by simp [rejOf, hi, h1, h2, h3]
    obtain ⟨o1, o2, o3, o4⟩ := open_r h nl
    cases ho : okS l with
    | true =>
      rw [ho] at o2 o3 o4 hr
      rw [if_pos rfl, h1] at o4
      have o4 : crc_Open_o_r0_2 nl l = l.take 36 := o4
      simp only [if_true] at hr
      have hl : (l.take 36).length = 36 := by simp [h1]
      have hby : Byts (l.take 36) := byt_byts (h.b.take 36)
      have i1 : ins (l.take 36).length 2 4 = true := by rw [hl]; rfl
      have i2 : ins (l.take 36).length 4 (((l.take 36).length : Nat) : Int) = true := by rw [hl]; rfl
      have i3 : decide ((4 : Int) < (((l.take 36).length : Nat) : Int)) = true := by rw [hl]; rfl
      obtain ⟨q1, _, q3, _⟩ := Get2_eq (l := sub (l.take 36) 2 4) (by rw [sub_24]; exact byts_take (byts_drop hby 2) 2)
      have e0 : frame_Decode_iabo_S1_e0 nl l = (l.take 36).drop 4 := by unfold frame_Decode_iabo_S1_e0; rw [o4]; exact sub_4e hl
      have hl4 : ((l.take 36).drop 4).length = 32 := by simp [h1]
      obtain ⟨g1, g2', g3⟩ := GetAll_r (byts_drop hby 4) (by omega) false
      have g4 := GetAll_n (byts_drop hby 4) (by omega) false
      rw [hl4] at g4
      have ga : getAll ((l.take 36).drop 4) = valsOf l := by unfold getAll; rw [hl4]; rfl
      have g5 : Nat.ble 8 (getAll ((l.take 36).drop 4)).length = true := by rw [ga]; simp [valsOf, fours_len]
      have c1 : frame_Decode_iabo_S1_c0 nl l = true := by
        simp only [frame_Decode_iabo_S1_c0, o1, o2, o3, o4, i1, i2, i3, q1, e0, g1, g3, g4, g5, tb_eq, cond_true, show decide (2 < 4) = true from rfl]
        rfl
      have r5 : frame_Decode_iabo_S1_r0_5 nl l = seqOf l := by
        simp only [frame_Decode_iabo_S1_r0_5, o4, tb_eq, show decide (2 < 4) = true from rfl, cond_true]; rw [q3, sub_24]; rfl
      simp only [frame_Decode_iabo_c0, frame_Decode_iabo_r0_0, frame_Decode_iabo_r0_1, frame_Decode_iabo_r0_2, s1, s2, c1, r5, e0, g3, ga, hr, tb_eq, Bool.not_true, cond_true, cond_false, if_true, and_self]
    | false =>
      rw [ho] at o2 o3 o4 hr
      simp only [Bool.false_eq_true, if_false] at hr
      have c0 : frame_Decode_iabo_S1_c0 nl l = false := by
        simp only [frame_Decode_iabo_S1_c0, o1, o2, o3, tb_eq, cond_true]
        cases tb (ins (crc_Open_o_r0_2 nl l).length 2 4) <;> simp
      have c1 : frame_Decode_iabo_S1_c1 nl l = true := by simp only [frame_Decode_iabo_S1_c1, o1, o3, tb_eq]; rfl
      have hz : (if (5 : Int) = 0 then valsOf l else z8) = z8 := by simp
      have hz2 : (if (5 : Int) = 0 then seqOf l else 0) = 0 := by simp
      simp only [frame_Decode_iabo_c0, frame_Decode_iabo_r0_0, frame_Decode_iabo_r0_1, frame_Decode_iabo_r0_2, s1, s2, c0, c1, hr, hz, hz2, tb_eq, Bool.not_true, cond_true, cond_false, true_and]
      trivial
  · have hf : (is && decide (l.length = 38) && decide (gt l 0 = 165) && decide (gt l 1 = ch)) = false := by simpa using hok
    rw [hf] at s1 s2
    have hr : rejOf ch is l = frame_Decode_iabo_S0_r0_0 is l ∧ rejOf ch is l ≠ 0 := by
      rw [s3]
      unfold rejOf
      cases is with
      | false => simp
      | true =>
        by_cases h1 : l.length = 38
        · by_cases h2 : gt l 0 = 165
          · have h3 : ¬ gt l 1 = ch := by intro h3; simp [h1, h2, h3] at hf
            simp [h1, h2, h3]
          · simp [h1, h2]
        · simp [h1]
    simp only [frame_Decode_iabo_c0, frame_Decode_iabo_r0_0, frame_Decode_iabo_r0_1, frame_Decode_iabo_r0_2, s1, tb_eq, Bool.not_false, cond_true, hr.2, if_false, hr.1, true_and]
    rw [if_neg (by rw [← hr.1]; exact hr.2), if_neg (by rw [← hr.1]; exact hr.2)]
    exact ⟨rfl, rfl⟩
theorem sta_fill {B : List Int} {k : Nat} (hk : k < 8) : sta (fours B k ++ List.replicate (8 - k) 0) 8 (k : Int) (g4 ((B.drop (4 * k)).take 4)) = fours B (k + 1) ++ List.replicate (8 - (k + 1)) 0 := by
  have hl : (fours B k ++ List.replicate (8 - k) (0 : Int)).length = 8 := by simp [fours_len]; omega
  have ht : tab (fours B k ++ List.replicate (8 - k) (0 : Int)) 8 = fours B k ++ List.replicate (8 - k) 0 := by
    apply List.ext_getElem
    · rw [tab_len, hl]
    · intro i h1 h2
      simp only [tab, List.getElem_map, List.getElem_range]
      rw [gt_nat h2]
  unfold sta st
  rw [ht, fours_succ]
  obtain ⟨m, hm⟩ : ∃ m, 8 - k = m + 1 := ⟨8 - k - 1, by omega⟩
  have hm2 : 8 - (k + 1) = m := by omega
  rw [hm, hm2, List.replicate_succ, Int.toNat_natCast, List.set_append_right _ _ (by rw [fours_len]; omega), fours_len, Nat.sub_self]
  simp
theorem refvals {b : List Int} (hb : Byts b) (hl : b.length = 36) (x : Bool) : ref05_Decode_iabo_L4_ok b x ⟨0, z8⟩ = true ∧ ref05_Decode_iabo_L4_end b x ⟨0, z8⟩ = ⟨8, fours (b.drop 4) 8⟩ := by
  have hit : itS (ref05_Decode_iabo_L4_sel b x) (ref05_Decode_iabo_L4_nx b x) bound (⟨((0 : Nat) : Int), fours (b.drop 4) 0 ++ List.replicate (8 - 0) 0⟩ : ref05_Decode_iabo_L4_s0) = some ⟨((8 : Nat) : Int), fours (b.drop 4) 8 ++ List.replicate (8 - 8) 0⟩ := by
    refine loop_seq (fun k => (⟨(k : Int), fours (b.drop 4) k ++ List.replicate (8 - k) 0⟩ : ref05_Decode_iabo_L4_s0)) 8 (by omega) (fun k hk => ?_) ?_
    · have w0 : wi (4 * (k : Int)) = ((4 * k : Nat) : Int) := by rw [wi_eq (by omega) (by omega)]; omega
      have w1 : wi (4 + wi (4 * (k : Int))) = ((4 + 4 * k : Nat) : Int) := by rw [w0, wi_eq (by omega) (by omega)]; omega
      have w2 : wi (8 + wi (4 * (k : Int))) = ((8 + 4 * k : Nat) : Int) := by rw [w0, wi_eq (by omega) (by omega)]; omega
      have w3 : wi ((k : Int) + 1) = ((k + 1 : Nat) : Int) := by rw [wi_eq (by omega) (by omega)]; omega
      have i1 : ins b.length ((4 + 4 * k : Nat) : Int) ((8 + 4 * k : Nat) : Int) = true := by simp only [ins, hl, Bool.and_eq_true, decide_eq_true_eq]; omega
      have i2 : decide (((4 + 4 * k : Nat) : Int) < ((8 + 4 * k : Nat) : Int)) = true := decide_eq_true (by omega)
      have i3 : inb 8 (k : Int) = true := inb_of (by omega) (by omega)
      have e0 : ref05_Decode_iabo_L4_h0_e0 b ⟨(k : Int), fours (b.drop 4) k ++ List.replicate (8 - k) 0⟩ = ((b.drop 4).drop (4 * k)).take 4 := by
        simp only [ref05_Decode_iabo_L4_h0_e0, w1, w2]
        rw [sub_nat, List.drop_drop]; congr 1; omega
      obtain ⟨g1, g2', _⟩ := rGet4 (l := ((b.drop 4).drop (4 * k)).take 4) (byts_take (byts_drop (byts_drop hb 4) _) 4)
      constructor
      · simp only [ref05_Decode_iabo_L4_sel, w1, w2, i1, i2, i3, e0, g1, tb_eq]
        simp; omega
      · simp only [ref05_Decode_iabo_L4_nx, ref05_Decode_iabo_L4_h0_e1, w1, w2, w3, i2, e0, g2', tb_eq, cond_true, sta_fill hk]
    · simp [ref05_Decode_iabo_L4_sel]
  have h0 : (⟨((0 : Nat) : Int), fours (b.drop 4) 0 ++ List.replicate (8 - 0) 0⟩ : ref05_Decode_iabo_L4_s0) = ⟨0, z8⟩ := rfl
  rw [h0] at hit
  constructor
  · simp only [ref05_Decode_iabo_L4_ok, hit]; rfl
  · simp only [ref05_Decode_iabo_L4_end, hit]; simp
theorem rdecode_eq (ch : Int) (is : Bool) {l : List Int} (h : Sm l) : ref05_Decode_iabo_c0 ch is l = true ∧ ref05_Decode_iabo_r0_2 ch is l = rejOf ch is l ∧
    ref05_Decode_iabo_r0_0 ch is l = (if rejOf ch is l = 0 then seqOf l else 0) ∧ ref05_Decode_iabo_r0_1 ch is l = (if rejOf ch is l = 0 then valsOf l else z8) := by
  have hz : ([0, 0, 0, 0, 0, 0, 0, 0] : List Int) = z8 := rfl
  simp only [ref05_Decode_iabo_c0, ref05_Decode_iabo_r0_0, ref05_Decode_iabo_r0_1, ref05_Decode_iabo_r0_2, hz]
  cases is with
  | false => simp [ref05_Decode_iabo_S0_c0, rejOf]
  | true =>
    have s0 : ref05_Decode_iabo_S0_c0 true = true := by simp [ref05_Decode_iabo_S0_c0]
    by_cases h1 : l.length = 38
    · have s1 : ref05_Decode_iabo_S1_c0 l = false := by simp [ref05_Decode_iabo_S1_c0, h1]
      have i0 : inb l.length 0 = true := inb_of (by omega) (by omega)
      have i1 : inb l.length 1 = true := inb_of (by omega) (by omega)
      have i0' : inb 38 0 = true := rfl
      have i1' : inb 38 1 = true := rfl
      have b1 := wfI_u8 (h.b _ (gt_mem (l := l) (i := 1) (by omega) (by omega)))
      have w1 : wi (gt l 1) = gt l 1 := wi_eq (by omega) (by omega)
      by_cases h2 : gt l 0 = 165
      · have s2 : ref05_Decode_iabo_S2_c0 l = false := by simp [ref05_Decode_iabo_S2_c0, i0, h2]
        have s3 : ref05_Decode_iabo_S2_c1 l = true := by simp [ref05_Decode_iabo_S2_c1, i0, h2]
        by_cases h3 : gt l 1 = ch
        · have w1' : wi ch = ch := by rw [← h3]; exact w1
          have s4 : ref05_Decode_iabo_S3_c0 l ch = false := by simp [ref05_Decode_iabo_S3_c0, i1, w1, w1', h3]
          have s5 : ref05_Decode_iabo_S3_c1 l ch = true := by simp [ref05_Decode_iabo_S3_c1, i1, w1, w1', h3]
          have hr : rejOf ch true l = if okS l = true then 0 else 5 := by simp [rejOf, h1, h2, h3]
          obtain ⟨o1, o2, o3, o4⟩ := ropen_r h
          cases ho : okS l with
          | true =>
            rw [ho] at o2 o3 o4 hr
            rw [if_pos rfl, h1] at o4
            have o4 : ref03_Open_o_r0_2 l = l.take 36 := o4
            simp only [if_true] at hr
            have hl : (l.take 36).length = 36 := by simp [h1]
            have hby : Byts (l.take 36) := byt_byts (h.b.take 36)
            have j1 : ins (l.take 36).length 2 4 = true := by rw [hl]; rfl
            obtain ⟨_, q1, _, q3, _⟩ := Get2_eq (l := sub (l.take 36) 2 4) (by rw [sub_24]; exact byts_take (byts_drop hby 2) 2)
            obtain ⟨v1, v2⟩ := refvals hby hl false
            have e0 : ref05_Decode_iabo_S5_e0 z8 l = ⟨8, valsOf l⟩ := by simp only [ref05_Decode_iabo_S5_e0, o4, o2, Bool.not_true, v2]; rfl
            have c0 : ref05_Decode_iabo_S5_c0 z8 l = true := by
              simp only [ref05_Decode_iabo_S5_c0, o1, o2, o3, o4, j1, q1, Bool.not_true, v1, e0, ref05_Decode_iabo_L4_c0, tb_eq, cond_true, show decide (2 < 4) = true from rfl]
              rfl
            have r7 : ref05_Decode_iabo_S5_r0_7 l = seqOf l := by
              simp only [ref05_Decode_iabo_S5_r0_7, o4, tb_eq, show decide (2 < 4) = true from rfl, cond_true]; rw [q3, sub_24]; rfl
            simp only [s0, s1, s2, s3, s4, s5, c0, e0, r7, hr, tb_eq, cond_true, cond_false, if_true, and_self]
          | false =>
            rw [ho] at o2 o3 o4 hr
            simp only [Bool.false_eq_true, if_false] at hr
            have c0 : ref05_Decode_iabo_S5_c0 z8 l = false := by simp only [ref05_Decode_iabo_S5_c0, o1, o2, o3, tb_eq]; rfl
            have c1 : ref05_Decode_iabo_S5_c1 l = true := by simp only [ref05_Decode_iabo_S5_c1, o1, o3, tb_eq]; rfl
            simp only [s0, s1, s2, s3, s4, s5, c0, c1, hr, tb_eq, cond_true, cond_false]
            simp
        · have s4 : ref05_Decode_iabo_S3_c0 l ch = true := by simp [ref05_Decode_iabo_S3_c0, i1, w1, h3]
          have hr : rejOf ch true l = 4 := by simp [rejOf, h1, h2, h3]
          simp only [s0, s1, s2, s3, s4, hr, tb_eq, cond_true, cond_false]
          simp
      · have s2 : ref05_Decode_iabo_S2_c0 l = true := by simp [ref05_Decode_iabo_S2_c0, i0, h2]
        have hr : rejOf ch true l = 3 := by simp [rejOf, h1, h2]
        simp only [s0, s1, s2, hr, tb_eq, cond_true, cond_false]
        simp
    · have s1 : ref05_Decode_iabo_S1_c0 l = true := by simp [ref05_Decode_iabo_S1_c0]; omega
      have hr : rejOf ch true l = 2 := by simp [rejOf, h1]
      simp only [s0, s1, hr, tb_eq, cond_true]
      simp
end Go.Proofs.YtkipngagfiaddaaDoor.Den

namespace Go.Proofs.YtkipngagfiaddaaDoor.Den
open Go Go.Proofs
set_option linter.unusedVariables false
set_option linter.unusedSimpArgs false
theorem arr8 {x : List Int} (h : x.length = 8) : [(gt x 0), (gt x 1), (gt x 2), (gt x 3), (gt x 4), (gt x 5), (gt x 6), (gt x 7)] = x := by
  match x, h with
  | [a, b, c, d, e, f, g, i], _ => rfl
theorem bad_eq (n : Int) : frame_Right_c1_i_r0_0 n = !(n32 n) := by
  simp only [frame_Right_c1_i_r0_0, n32, tb_eq]
  by_cases h1 : n < -2147483648
  · have : ¬ (-2147483648 ≤ n) := by omega
    simp [h1, this]
  · have h2 : -2147483648 ≤ n := by omega
    by_cases h3 : 2147483647 < n
    · have : ¬ (n ≤ 2147483647) := by omega
      simp [h1, h2, h3, this]
    · have : n ≤ 2147483647 := by omega
      simp [h1, h2, h3, this]
theorem index_bad {l : List Int} (hl : l.length < 1152921504606846976) : slices_IndexFunc_int_o_frame_Right_c1_c0 l = true ∧ decide (0 ≤ slices_IndexFunc_int_o_frame_Right_c1_r0_0 l) = !(all32 l) := by
  obtain ⟨s1, e, _, a1, a2⟩ := all_loop (sel := slices_IndexFunc_int_o_frame_Right_c1_L0_sel l l.length) (nx := slices_IndexFunc_int_o_frame_Right_c1_L0_nx l l.length) (s0 := ⟨0⟩) l (fun s => s.c3) n32 (fun _ => True) hl rfl trivial
    (fun s _ b1 b2 _ => ⟨by show wi _ = _; exact wi_eq (by omega) (by omega), trivial⟩)
    (fun s _ b1 b2 => by
      by_cases hi : s.c3 < l.length
      · have i1 := inb_of b1 hi
        simp only [slices_IndexFunc_int_o_frame_Right_c1_L0_sel, i1, hi, bad_eq, tb_eq, decide_true, cond_true, Bool.true_and]
        cases n32 (gt l s.c3) <;> rfl
      · simp [slices_IndexFunc_int_o_frame_Right_c1_L0_sel, hi])
  have he : slices_IndexFunc_int_o_frame_Right_c1_e0 l = s1 := by simp only [slices_IndexFunc_int_o_frame_Right_c1_e0, slices_IndexFunc_int_o_frame_Right_c1_L0_end, e, Option.getD_some]
  simp only [slices_IndexFunc_int_o_frame_Right_c1_c0, slices_IndexFunc_int_o_frame_Right_c1_r0_0, slices_IndexFunc_int_o_frame_Right_c1_L0_ok, e, he, tb_eq, Option.isSome_some, cond_true]
  rcases a2 with ⟨b1, b2⟩ | ⟨b1, b2, b3⟩
  · have h0 : slices_IndexFunc_int_o_frame_Right_c1_L0_c0 l l.length s1 = false := by simp [slices_IndexFunc_int_o_frame_Right_c1_L0_c0, b1]
    have h1 : slices_IndexFunc_int_o_frame_Right_c1_L0_c1 l.length s1 = true := by simp [slices_IndexFunc_int_o_frame_Right_c1_L0_c1, b1]
    have : all32 l = true := b2
    rw [h0, h1, this]; simp
  · have i1 := inb_of a1 b1
    have h0 : slices_IndexFunc_int_o_frame_Right_c1_L0_c0 l l.length s1 = true := by simp [slices_IndexFunc_int_o_frame_Right_c1_L0_c0, b1, i1]
    have : all32 l = false := b3
    rw [h0, this]; simp [a1]
theorem right_eq (s : Int) {x : List Int} (h : x.length = 8) : frame_Right_ai9_c0 s x = true ∧ frame_Right_ai9_r0_0 s x = (n16 s && all32 x) := by
  obtain ⟨i1, i2⟩ := index_bad (l := x) (by omega)
  simp only [frame_Right_ai9_c0, frame_Right_ai9_r0_0, frame_Right_ai9_e0, arr8 h, slices_ContainsFunc_int_o_frame_Right_c1_c0, i1, i2, n16, tb_eq]
  by_cases h1 : 0 ≤ s
  · by_cases h2 : s < 65536 <;> simp [h1, h2]
  · simp [h1]
def c3st0 : Nat → slices_Concat_byte_v_GvvvLLL_L0_1_S
  | 0 => .h0 ⟨⟩
  | 1 => .h1 ⟨⟩
  | 2 => .h2 ⟨⟩
  | _ => .h3 ⟨⟩
def c3st2 : Nat → slices_Concat_byte_v_GvvvLLL_L2_1_S
  | 0 => .h0 ⟨⟩
  | 1 => .h1 ⟨⟩
  | 2 => .h2 ⟨⟩
  | _ => .h3 ⟨⟩
theorem concat_c {a b c : List Int} (ha : a.length ≤ 1000) (hb : b.length ≤ 1000) (hc : c.length ≤ 1000) : slices_Concat_byte_v_GvvvLLL_c0 a b c = true := by
  have w0 : wi (0 + ((a.length : Nat) : Int)) = ((a.length : Nat) : Int) := by rw [wi_eq (by omega) (by omega)]; omega
  have w1 : slices_Concat_byte_v_GvvvLLL_L0_1_h1_e0 a b = ((a.length + b.length : Nat) : Int) := by unfold slices_Concat_byte_v_GvvvLLL_L0_1_h1_e0; rw [w0, wi_eq (by omega) (by omega)]; omega
  have w2 : slices_Concat_byte_v_GvvvLLL_L0_1_h2_e0 a b c = ((a.length + b.length + c.length : Nat) : Int) := by unfold slices_Concat_byte_v_GvvvLLL_L0_1_h2_e0; rw [w1, wi_eq (by omega) (by omega)]; omega
  have r0 : itS (slices_Concat_byte_v_GvvvLLL_L0_1_sel a b c) (slices_Concat_byte_v_GvvvLLL_L0_1_nx a b c) bound (c3st0 0) = some (c3st0 3) := by
    refine loop_seq c3st0 3 (by omega) (fun k hk => ?_) rfl
    rcases (by omega : k = 0 ∨ k = 1 ∨ k = 2) with rfl | rfl | rfl
    · refine ⟨?_, rfl⟩
      simp only [c3st0, slices_Concat_byte_v_GvvvLLL_L0_1_sel, slices_Concat_byte_v_GvvvLLL_L0_1_h0_sel, w0, tb_eq]
      rw [decide_eq_false (by omega)]; rfl
    · refine ⟨?_, rfl⟩
      simp only [c3st0, slices_Concat_byte_v_GvvvLLL_L0_1_sel, slices_Concat_byte_v_GvvvLLL_L0_1_h1_sel, w1, tb_eq]
      rw [decide_eq_false (by omega)]; rfl
    · refine ⟨?_, rfl⟩
      simp only [c3st0, slices_Concat_byte_v_GvvvLLL_L0_1_sel, slices_Concat_byte_v_GvvvLLL_L0_1_h2_sel, w2, tb_eq]
      rw [decide_eq_false (by omega)]; rfl
  have r2 : itS (slices_Concat_byte_v_GvvvLLL_L2_1_sel a b c) (slices_Concat_byte_v_GvvvLLL_L2_1_nx a b c) bound (c3st2 0) = some (c3st2 3) := by
    refine loop_seq c3st2 3 (by omega) (fun k hk => ?_) rfl
    rcases (by omega : k = 0 ∨ k = 1 ∨ k = 2) with rfl | rfl | rfl
    · refine ⟨?_, rfl⟩
      simp only [c3st2, slices_Concat_byte_v_GvvvLLL_L2_1_sel, slices_Concat_byte_v_GvvvLLL_L2_1_h0_sel, tb_eq]
      rw [decide_eq_true (by simp; omega)]; rfl
    · refine ⟨?_, rfl⟩
      simp only [c3st2, slices_Concat_byte_v_GvvvLLL_L2_1_sel, slices_Concat_byte_v_GvvvLLL_L2_1_h1_sel, tb_eq]
      rw [decide_eq_true (by omega)]; rfl
    · refine ⟨?_, rfl⟩
      simp only [c3st2, slices_Concat_byte_v_GvvvLLL_L2_1_sel, slices_Concat_byte_v_GvvvLLL_L2_1_h2_sel, tb_eq]
      rw [decide_eq_true (by simp; omega)]; rfl
  have z0 : c3st0 0 = .h0 ⟨⟩ := rfl
  have z2 : c3st2 0 = .h0 ⟨⟩ := rfl
  rw [z0] at r0
  rw [z2] at r2
  have e0 : slices_Concat_byte_v_GvvvLLL_S1_e0 a b c = .h3 ⟨⟩ := by simp only [slices_Concat_byte_v_GvvvLLL_S1_e0, slices_Concat_byte_v_GvvvLLL_L0_1_end, r0]; rfl
  have e1 : slices_Concat_byte_v_GvvvLLL_e1 a b c = .h3 ⟨⟩ := by simp only [slices_Concat_byte_v_GvvvLLL_e1, slices_Concat_byte_v_GvvvLLL_L2_1_end, r2]; rfl
  have s1 : slices_Concat_byte_v_GvvvLLL_S1_c0 a b c = true := by
    simp only [slices_Concat_byte_v_GvvvLLL_S1_c0, slices_Concat_byte_v_GvvvLLL_L0_1_ok, r0, e0, tb_eq]; rfl
  have gr : slices_Grow_byte_ni_c0 ((a.length + b.length + c.length : Nat) : Int) = true := by
    simp only [slices_Grow_byte_ni_c0, Bool.and_eq_true, decide_eq_true_eq]; omega
  simp only [slices_Concat_byte_v_GvvvLLL_c0, s1, w2, gr, slices_Concat_byte_v_GvvvLLL_L2_1_ok, r2, e1, tb_eq]; rfl
def bodyF (ch s : Int) (x : List Int) : List Int := [165, ch] ++ p2 s ++ x.flatMap p4
theorem wf_u8 {z : Int} (h : 0 ≤ z ∧ z ≤ 255) : WfI .u8 z := by
  simp [WfI, Lit.wf, IntKind.min, IntKind.max, IntKind.signed, IntKind.bits]; omega
theorem bodyF_len {ch s : Int} {x : List Int} (h : x.length = 8) : (bodyF ch s x).length = 36 := by
  simp only [bodyF, List.length_append, flat_len, h]; rfl
theorem bodyF_sm {ch s : Int} {x : List Int} (hc : 0 ≤ ch ∧ ch ≤ 3) (h : x.length = 8) : Sm (bodyF ch s x) := by
  refine ⟨fun z hz => wf_u8 ?_, by rw [bodyF_len h]; omega⟩
  simp only [bodyF, List.mem_append] at hz
  rcases hz with (hz | hz) | hz
  · simp at hz; omega
  · exact p2_byts s z hz
  · exact flat_byts x z hz
def okF (ch s : Int) (x : List Int) : Bool := decide (0 ≤ ch) && decide (ch ≤ 3) && n16 s && all32 x
theorem encode_eq (ch s : Int) {x : List Int} (h : x.length = 8) : frame_Encode_iai9_c0 ch s x = true ∧ frame_Encode_iai9_r0_0 ch s x = !(okF ch s x) ∧ frame_Encode_iai9_r0_1 ch s x = (if okF ch s x = true then 0 else 1) ∧
    frame_Encode_iai9_r0_2 ch s x = (if okF ch s x = true then sealed (bodyF ch s x) else []) := by
  obtain ⟨r1, r2⟩ := right_eq s h
  have s0 : frame_Encode_iai9_S0_c0 s x ch = !(okF ch s x) ∧ frame_Encode_iai9_S0_c1 s x ch = okF ch s x := by
    simp only [frame_Encode_iai9_S0_c0, frame_Encode_iai9_S0_c1, r1, r2, okF, tb_eq]
    by_cases h1 : ch < 0
    · have : ¬ 0 ≤ ch := by omega
      simp [h1, this]
    · have h1' : 0 ≤ ch := by omega
      by_cases h2 : 4 ≤ ch
      · have : ¬ ch ≤ 3 := by omega
        simp [h1, h1', h2, this]
      · have h2' : ch ≤ 3 := by omega
        cases n16 s <;> cases all32 x <;> simp [h1, h1', h2, h2']
  cases hk : okF ch s x with
  | false =>
    rw [hk] at s0
    simp only [frame_Encode_iai9_c0, frame_Encode_iai9_r0_0, frame_Encode_iai9_r0_1, frame_Encode_iai9_r0_2, s0.1, tb_eq, Bool.not_false, cond_true]
    simp
  | true =>
    rw [hk] at s0
    have hk' := hk
    simp only [okF, Bool.and_eq_true, decide_eq_true_eq] at hk'
    obtain ⟨⟨⟨k1, k2⟩, k3⟩, k4⟩ := hk'
    obtain ⟨p1, p2'⟩ := PutAll_r (l := x) (by omega)
    have hw : IntKind.u8.wrap ch = ch := by rw [u8w]; omega
    have hpa : putAll x = x.flatMap p4 := by simp [putAll, k4]
    have hq : q2 s = p2 s := by simp [q2, k3]
    have e2 : frame_Encode_iai9_e2 ch s x = bodyF ch s x := by simp only [frame_Encode_iai9_e2, frame_Encode_iai9_e0, arr8 h, hw, Put2_r, p2', hpa, hq]; rfl
    have cc : slices_Concat_byte_v_GvvvLLL_c0 [165, ch] (p2 s) (x.flatMap p4) = true := concat_c (by simp) (by simp [p2]) (by rw [flat_len]; omega)
    obtain ⟨t1, t2⟩ := seal_r (frame_Encode_iai9_e1 ch s x) (bodyF_sm (s := s) ⟨k1, k2⟩ h)
    simp only [frame_Encode_iai9_c0, frame_Encode_iai9_r0_0, frame_Encode_iai9_r0_1, frame_Encode_iai9_r0_2, s0.1, s0.2, frame_Encode_iai9_e0, arr8 h, p1, p2', hpa, hw, Put2_r, hq, cc, e2, t1, t2, tb_eq, Bool.not_true, cond_true, cond_false]
    simp
end Go.Proofs.YtkipngagfiaddaaDoor.Den

namespace Go.Proofs.YtkipngagfiaddaaDoor.Den
open Go Go.Proofs
set_option linter.unusedVariables false
set_option linter.unusedSimpArgs false
end Go.Proofs.YtkipngagfiaddaaDoor.Den

namespace Go.Proofs.YtkipngagfiaddaaDoor.Den
open Go Go.Proofs
set_option linter.unusedVariables false
set_option linter.unusedSimpArgs false
theorem same_eq {l k : List Int} (hl : l.length < 1152921504606846976) : ref03_Same_oo_c0 l k = true ∧ ref03_Same_oo_r0_0 l k = decide (l = k) := by
  by_cases h : l.length = k.length
  · obtain ⟨s1, e, g0, g⟩ := eq_loop (sel := ref03_Same_oo_L0_sel l k) (nx := ref03_Same_oo_L0_nx l k) (s0 := ⟨0⟩) h (fun s => s.c4) hl rfl
      (fun s a1 a2 => by show wi _ = _; exact wi_eq (by omega) (by omega))
      (fun s a1 a2 => by
        by_cases hi : s.c4 < l.length
        · have i1 := inb_of a1 hi
          have i2 : inb k.length s.c4 = true := by rw [← h]; exact i1
          by_cases q : gt l s.c4 = gt k s.c4
          · simp [ref03_Same_oo_L0_sel, hi, i1, i2, q]
          · simp [ref03_Same_oo_L0_sel, hi, i1, i2, q, bne]
        · simp [ref03_Same_oo_L0_sel, hi])
    have hne : ((((l.length : Nat) : Int) : Int) != ((k.length : Nat) : Int)) = false := by simp [h]
    simp only [ref03_Same_oo_c0, ref03_Same_oo_r0_0, ref03_Same_oo_L0_ok, ref03_Same_oo_L0_end, e, hne, tb_eq, cond_false, Option.isSome_some, cond_true, Option.getD_some]
    rcases g with ⟨a, b⟩ | ⟨a, b, c⟩
    · simp [ref03_Same_oo_L0_c0, ref03_Same_oo_L0_c1, a, b]
    · have i1 := inb_of g0 a
      have i2 : inb k.length s1.c4 = true := by rw [← h]; exact i1
      simp [ref03_Same_oo_L0_c0, ref03_Same_oo_L0_c1, a, c, i1, i2]
  · have hne : ((((l.length : Nat) : Int) : Int) != ((k.length : Nat) : Int)) = true := by simp; omega
    have : l ≠ k := fun e => h (by rw [e])
    simp [ref03_Same_oo_c0, ref03_Same_oo_r0_0, hne, this]
end Go.Proofs.YtkipngagfiaddaaDoor.Den

namespace Go.Proofs.YtkipngagfiaddaaDoor.Den
open Go Go.Proofs
set_option linter.unusedVariables false
set_option linter.unusedSimpArgs false
theorem rPut4_r (n : Int) : ref04_Put4_i_r0_1 n = q4 n := by
  simp only [ref04_Put4_i_r0_1, ref04_Put4_i_e0, ref04_Put4_i_e1, tb_eq, q4, n32]
  by_cases h1 : n < -2147483648
  · have : ¬ (-2147483648 ≤ n) := by omega
    simp [h1, this]
  · have h2 : -2147483648 ≤ n := by omega
    by_cases h3 : 2147483647 < n
    · have : ¬ (n ≤ 2147483647) := by omega
      simp [h1, h2, h3, this]
    · have h4 : n ≤ 2147483647 := by omega
      by_cases hn : n < 0
      · have hw : wi (n + 4294967296) = n + 4294967296 := wi_eq (by omega) (by omega)
        simp only [h1, h2, h3, h4, hn, decide_true, decide_false, cond_true, cond_false, hw, Bool.and_self, if_true]
        rw [quo_i64 (by omega) (by omega) (by omega), quo_i64 (by omega) (by omega) (by omega), quo_i64 (by omega) (by omega) (by omega), rem_i64 (by omega), rem_i64 (by omega), rem_i64 (by omega), u8w, u8w, u8w, u8w]
        simp [p4] <;> omega
      · simp only [h1, h2, h3, h4, hn, decide_true, decide_false, cond_true, cond_false, Bool.and_self, if_true]
        rw [quo_i64 (by omega) (by omega) (by omega), quo_i64 (by omega) (by omega) (by omega), quo_i64 (by omega) (by omega) (by omega), rem_i64 (by omega), rem_i64 (by omega), rem_i64 (by omega), u8w, u8w, u8w, u8w]
        simp [p4] <;> omega
theorem rPut2_r (n : Int) : ref04_Put2_i_r0_1 n = q2 n := by
  simp only [ref04_Put2_i_r0_1, tb_eq, q2]
  by_cases h1 : n < 0
  · have : n16 n = false := by cases h : n16 n with | false => rfl | true => have := n16_iff.1 h; omega
    simp [h1, this]
  · by_cases h3 : 65535 < n
    · have : n16 n = false := by cases h : n16 n with | false => rfl | true => have := n16_iff.1 h; omega
      simp [h1, h3, this]
    · have : n16 n = true := n16_iff.2 (by omega)
      simp only [h1, h3, this, decide_false, cond_false, if_true]
      rw [quo_i64 (by omega) (by omega) (by omega), rem_i64 (by omega), u8w, u8w]
      simp [p2]
theorem rseal_e {l : List Int} (h : Sm l) : [ref03_Seal_o_e0 l, ref03_Seal_o_e1 l] = tail2 l := by
  have hc := h.crc
  unfold ref03_Seal_o_e0 ref03_Seal_o_e1
  rw [(rtail h).1, (rtail h).2, u8_wrap, u8_wrap, Nat.mod_eq_of_lt (a := crcI 65535 l / 256) (by omega), Nat.mod_mod]
  rfl
theorem rseal_c0 {l : List Int} (h : Sm l) : ref03_Seal_o_c0 l = true := by
  have h1 : l.length * 1 ≤ 140737488355328 := by have := h.n; omega
  have h2 : (l.length + (tail2 l).length) * 1 ≤ 140737488355328 := by have := h.n; show (l.length + 2) * 1 ≤ _; omega
  have h0 : decide ((([] : List Int).length + l.length) * 1 ≤ 140737488355328) = true := decide_eq_true (by simp; omega)
  simp only [ref03_Seal_o_c0, rsumc h, rseal_e h, h0, h1, h2, decide_true, tb_eq, cond_true]
theorem bad32 (n : Int) : (bif tb (decide (n < (-2147483648))) then true else (decide (2147483647 < n))) = !(n32 n) := by
  simp only [n32, tb_eq]
  by_cases h1 : n < -2147483648
  · have : ¬ (-2147483648 ≤ n) := by omega
    simp [h1, this]
  · have h2 : -2147483648 ≤ n := by omega
    by_cases h3 : 2147483647 < n
    · have : ¬ (n ≤ 2147483647) := by omega
      simp [h1, h2, h3, this]
    · have : n ≤ 2147483647 := by omega
      simp [h1, h2, h3, this]
theorem rright_eq (s : Int) {x : List Int} (h : x.length = 8) : ref05_Right_ai9_c0 x = true ∧ ref05_Right_ai9_r0_0 s x = (n16 s && all32 x) := by
  obtain ⟨s1, e, _, a1, a2⟩ := all_loop (sel := ref05_Right_ai9_L0_sel x) (nx := ref05_Right_ai9_L0_nx x) (s0 := ⟨0⟩) x (fun s => s.c0) n32 (fun _ => True) (by omega) rfl trivial
    (fun s _ b1 b2 _ => ⟨by show wi _ = _; exact wi_eq (by omega) (by omega), trivial⟩)
    (fun s _ b1 b2 => by
      by_cases hi : s.c0 < x.length
      · have i1 : inb 8 s.c0 = true := inb_of b1 (by omega)
        have hi8 : s.c0 < 8 := by omega
        have hb := bad32 (gt x s.c0)
        simp only [tb_eq] at hb
        simp only [ref05_Right_ai9_L0_sel, i1, hi8, hi, tb_eq, decide_true, cond_true, Bool.true_and]
        revert hb
        cases decide (gt x s.c0 < -2147483648) <;> cases decide (2147483647 < gt x s.c0) <;> cases n32 (gt x s.c0) <;> simp
      · have hi8 : ¬ s.c0 < 8 := by omega
        simp [ref05_Right_ai9_L0_sel, hi, hi8])
  have hn : (bif decide (0 ≤ s) then decide (s ≤ 65535) else false) = n16 s := by
    simp only [n16]
    by_cases h1 : 0 ≤ s
    · by_cases h2 : s ≤ 65535
      · have : s < 65536 := by omega
        simp [h1, h2, this]
      · have : ¬ s < 65536 := by omega
        simp [h1, h2, this]
    · simp [h1]
  simp only [ref05_Right_ai9_c0, ref05_Right_ai9_r0_0, ref05_Right_ai9_L0_ok, ref05_Right_ai9_L0_end, e, tb_eq, Option.isSome_some, cond_true, Option.getD_some, hn]
  rcases a2 with ⟨b1, b2⟩ | ⟨b1, b2, b3⟩
  · have hi8 : ¬ s1.c0 < 8 := by omega
    have : all32 x = true := b2
    simp [ref05_Right_ai9_L0_c0, ref05_Right_ai9_L0_c1, hi8, this]
  · have i1 : inb 8 s1.c0 = true := inb_of a1 (by omega)
    have hi8 : s1.c0 < 8 := by omega
    have : all32 x = false := b3
    simp [ref05_Right_ai9_L0_c0, hi8, i1, this]
def encSt (b0 : List Int) (x : List Int) (k : Nat) : ref05_Encode_iai9_L1_s0 := ⟨false, (k : Int), b0 ++ (x.take k).flatMap p4⟩
theorem renc_run {b0 x : List Int} (h : x.length = 8) (hb : b0.length ≤ 100) (ha : all32 x = true) : itS (ref05_Encode_iai9_L1_sel x) (ref05_Encode_iai9_L1_nx x) bound ⟨false, 0, b0⟩ = some (encSt b0 x 8) := by
  have h0 : (⟨false, 0, b0⟩ : ref05_Encode_iai9_L1_s0) = encSt b0 x 0 := by simp [encSt]
  rw [h0]
  refine loop_seq (encSt b0 x) 8 (by omega) (fun k hk => ?_) ?_
  · have hq : ref04_Put4_i_r0_1 (gt x (k : Int)) = p4 (gt x (k : Int)) := by
      rw [rPut4_r]; simp only [q4, all32_gt ha (show k < x.length by omega), if_true]
    have i1 : inb 8 (k : Int) = true := inb_of (by omega) (by omega)
    have i2 : decide ((k : Int) < 8) = true := decide_eq_true (by omega)
    have hl : ((x.take k).flatMap p4).length = 4 * k := by rw [flat_len, List.length_take]; omega
    have i3 : decide (((b0 ++ (x.take k).flatMap p4).length + (p4 (gt x (k : Int))).length) * 1 ≤ 140737488355328) = true := decide_eq_true (by rw [List.length_append, hl, p4_len]; omega)
    have ht : (x.take (k + 1)).flatMap p4 = (x.take k).flatMap p4 ++ p4 (gt x (k : Int)) := by
      rw [List.take_add_one, List.getElem?_eq_getElem (show k < x.length by omega), List.flatMap_append, gt_nat (show k < x.length by omega)]; simp
    constructor
    · simp only [encSt, ref05_Encode_iai9_L1_sel, hq, i1, i2, i3, tb_eq, cond_true]
      show (bif decide ((k : Int) < 8) then true else false) = true
      rw [i2]; rfl
    · have hw : wi ((k : Int) + 1) = ((k + 1 : Nat) : Int) := by rw [wi_eq (by omega) (by omega)]; omega
      simp only [encSt, ref05_Encode_iai9_L1_nx, hq, ht, hw, List.append_assoc, Bool.and_false]
  · simp [encSt, ref05_Encode_iai9_L1_sel]
theorem rencode_eq (ch s : Int) {x : List Int} (h : x.length = 8) : ref05_Encode_iai9_c0 ch s x = true ∧ ref05_Encode_iai9_r0_1 ch s x = (if okF ch s x = true then 0 else 1) ∧
    ref05_Encode_iai9_r0_2 ch s x = (if okF ch s x = true then sealed (bodyF ch s x) else []) := by
  obtain ⟨r1, r2⟩ := rright_eq s h
  have s0 : ref05_Encode_iai9_S0_c0 ch (n16 s && all32 x) = !(okF ch s x) := by
    simp only [ref05_Encode_iai9_S0_c0, okF, tb_eq]
    by_cases h1 : ch < 0
    · have : ¬ 0 ≤ ch := by omega
      cases n16 s <;> cases all32 x <;> simp [h1, this]
    · have h1' : 0 ≤ ch := by omega
      by_cases h2 : 3 < ch
      · have : ¬ ch ≤ 3 := by omega
        cases n16 s <;> cases all32 x <;> simp [h1, h2, this]
      · have h2' : ch ≤ 3 := by omega
        cases n16 s <;> cases all32 x <;> simp [h1, h1', h2, h2']
  simp only [ref05_Encode_iai9_c0, ref05_Encode_iai9_r0_1, ref05_Encode_iai9_r0_2, r1, r2, s0, tb_eq, cond_true]
  cases hk : okF ch s x with
  | false => simp
  | true =>
    have hk' := hk
    simp only [okF, Bool.and_eq_true, decide_eq_true_eq] at hk'
    obtain ⟨⟨⟨k1, k2⟩, k3⟩, k4⟩ := hk'
    have hw : IntKind.u8.wrap ch = ch := by rw [u8w]; omega
    have hq : ref04_Put2_i_r0_1 s = p2 s := by rw [rPut2_r]; simp only [q2, k3, if_true]
    have hp2 : (p2 s).length = 2 := rfl
    have hrun := renc_run (b0 := [165, ch] ++ p2 s) h (by simp [hp2]) k4
    have e0 : ref05_Encode_iai9_e0 ch s x = encSt ([165, ch] ++ p2 s) x 8 := by
      simp only [ref05_Encode_iai9_e0, hw, hq, ref05_Encode_iai9_L1_end, hrun, Option.getD_some]
    have ec : (encSt ([165, ch] ++ p2 s) x 8).c6 = bodyF ch s x := by
      show ([165, ch] ++ p2 s) ++ (x.take 8).flatMap p4 = _
      rw [List.take_of_length_le (by omega)]; rfl
    have hb := bodyF_sm (ch := ch) (s := s) ⟨k1, k2⟩ h
    have l1 : decide ((([165, ch] : List Int).length + (p2 s).length) * 1 ≤ 140737488355328) = true := by rw [hp2]; rfl
    have l2 : ref05_Encode_iai9_L1_c0 (encSt ([165, ch] ++ p2 s) x 8) = true := rfl
    simp only [hw, hq, l1, ref05_Encode_iai9_L1_ok, hrun, Option.isSome_some, e0, l2, ec, rseal_c0 hb, rseal_e hb, Bool.not_true, cond_true, cond_false, if_true]
    exact ⟨trivial, trivial, rfl⟩
theorem name_eq (r : Int) : frame_Name_i_c0 r = true ∧ ((frame_Name_i_r0_0 r).toList == (ref05_Name_i_r0_0 r).toList) = true := by
  by_cases h0 : r < 0
  · have n0 : ∀ k : Int, 0 ≤ k → (r == k) = false := fun k hk => by rw [beq_eq_false_iff_ne]; omega
    have hs : ref05_Name_i_S0_c0 r = false := by
      simp only [ref05_Name_i_S0_c0, n0 0 (by omega), n0 1 (by omega), n0 2 (by omega), n0 3 (by omega), n0 4 (by omega), n0 5 (by omega), n0 6 (by omega), tb_eq, cond_false]
    have d0 : decide (r < 0) = true := decide_eq_true h0
    simp only [frame_Name_i_c0, frame_Name_i_r0_0, ref05_Name_i_r0_0, hs, d0, tb_eq, cond_true, cond_false]
    simp
  · have d0 : decide (r < 0) = false := decide_eq_false h0
    by_cases h7 : 7 ≤ r
    · have n0 : ∀ k : Int, k ≤ 6 → (r == k) = false := fun k hk => by rw [beq_eq_false_iff_ne]; omega
      have hs : ref05_Name_i_S0_c0 r = false := by
        simp only [ref05_Name_i_S0_c0, n0 0 (by omega), n0 1 (by omega), n0 2 (by omega), n0 3 (by omega), n0 4 (by omega), n0 5 (by omega), n0 6 (by omega), tb_eq, cond_false]
      have d7 : decide (7 ≤ r) = true := decide_eq_true h7
      simp only [frame_Name_i_c0, frame_Name_i_r0_0, ref05_Name_i_r0_0, hs, d0, d7, tb_eq, cond_true, cond_false]
      simp
    · rcases (by omega : r = 0 ∨ r = 1 ∨ r = 2 ∨ r = 3 ∨ r = 4 ∨ r = 5 ∨ r = 6) with rfl | rfl | rfl | rfl | rfl | rfl | rfl
      all_goals exact ⟨rfl, by show (_ == _) = true; rw [beq_iff_eq]; rfl⟩
end Go.Proofs.YtkipngagfiaddaaDoor.Den

namespace Go.Proofs.YtkipngagfiaddaaDoor.Den
open Go Go.Proofs
set_option maxRecDepth 100000
set_option maxHeartbeats 4000000
set_option linter.unusedVariables false
set_option linter.unusedSimpArgs false
theorem law05_alive_t0 : cl E0 10 [] [] = some ([(V.d (.bool true))], []) := cl_of (n := 60) (by kernel_rfl)
end Go.Proofs.YtkipngagfiaddaaDoor.Den

namespace Go.Proofs.YtkipngagfiaddaaDoor.Den
open Go Go.Proofs
set_option maxRecDepth 100000
set_option maxHeartbeats 4000000
set_option linter.unusedVariables false
set_option linter.unusedSimpArgs false
def law05_FrameTells_S0_c0 (x5 : List Int) : Bool := (bif tb (decide (300 < ((x5.length : Nat) : Int))) then true else false)
theorem law05_FrameTells_S0_t0 (x0 : Int) (x1 : List Int) (x2 : Bool) (x3 : Bool) (x4 : Bool) (x5 : List Int) (x6 : Bool) (x7 : Int) : law05_FrameTells_S0_c0 x5 = true → segG (runC E0 (cl E0) S3_0) [0, 4, 5] [6] [0, 4, 5] 2 ([(V.d (.int .i64 x7)), (V.ptr 0 1 0 0), (V.ptr 1 1 0 0)], [(Blk.flat 24 9 [([(.int .i64 x0)] ++ arrD .i64 x1 8)] x2), (Blk.gen 27 2 [[(V.d (.bool x3)), (V.d (slD (encI .u8) true 1 x4 x5))]] x6)]) = some (.ret, ([(V.d (.bool true))], [(Blk.flat 24 9 [([(.int .i64 x0)] ++ arrD .i64 x1 8)] x2), (Blk.gen 27 2 [[(V.d (.bool x3)), (V.d (slD (encI .u8) true 1 x4 x5))]] x6)])) := by
  unfold law05_FrameTells_S0_c0
  cases h1 : tb (decide (300 < ((x5.length : Nat) : Int)))
  · intro g0
    exact absurd g0 ft
  · intro g0
    exact seg_walk [.o 18 (fun _ => o_len_os (enc := (encI .u8)) (l := x5) (fl := true) (n := x4) (s := 1)), .b (tbE h1), .c (law05_alive_t0)] (by kernel_rfl)
theorem law05_FrameTells_S0_t1 (x0 : Int) (x1 : List Int) (x2 : Bool) (x3 : Bool) (x4 : Bool) (x5 : List Int) (x6 : Bool) (x7 : Int) : law05_FrameTells_S0_c0 x5 = false → segG (runC E0 (cl E0) S3_0) [0, 4, 5] [6] [0, 4, 5] 2 ([(V.d (.int .i64 x7)), (V.ptr 0 1 0 0), (V.ptr 1 1 0 0)], [(Blk.flat 24 9 [([(.int .i64 x0)] ++ arrD .i64 x1 8)] x2), (Blk.gen 27 2 [[(V.d (.bool x3)), (V.d (slD (encI .u8) true 1 x4 x5))]] x6)]) = some (.normal, ([(V.d (.int .i64 x7)), (V.ptr 0 1 0 0), (V.ptr 1 1 0 0)], [(Blk.flat 24 9 [([(.int .i64 x0)] ++ arrD .i64 x1 8)] x2), (Blk.gen 27 2 [[(V.d (.bool x3)), (V.d (slD (encI .u8) true 1 x4 x5))]] x6)])) := by
  unfold law05_FrameTells_S0_c0
  cases h1 : tb (decide (300 < ((x5.length : Nat) : Int)))
  · intro g0
    exact seg_walk [.o 18 (fun _ => o_len_os (enc := (encI .u8)) (l := x5) (fl := true) (n := x4) (s := 1)), .b (tbE h1)] (by kernel_rfl)
  · intro g0
    exact absurd g0 tf
def law05_FrameTells_S1_e0 (x3 : Bool) (x4 : Bool) (x5 : List Int) (x7 : Int) : Bool := (false != ((((frame_Decode_iabo_r0_0 x7 x3 x4 x5) : Int) == (ref05_Decode_iabo_r0_0 x7 x3 x5)) && ((((gt (frame_Decode_iabo_r0_1 x7 x3 x4 x5) 0) : Int) == (gt (ref05_Decode_iabo_r0_1 x7 x3 x5) 0)) && ((((gt (frame_Decode_iabo_r0_1 x7 x3 x4 x5) 1) : Int) == (gt (ref05_Decode_iabo_r0_1 x7 x3 x5) 1)) && ((((gt (frame_Decode_iabo_r0_1 x7 x3 x4 x5) 2) : Int) == (gt (ref05_Decode_iabo_r0_1 x7 x3 x5) 2)) && ((((gt (frame_Decode_iabo_r0_1 x7 x3 x4 x5) 3) : Int) == (gt (ref05_Decode_iabo_r0_1 x7 x3 x5) 3)) && ((((gt (frame_Decode_iabo_r0_1 x7 x3 x4 x5) 4) : Int) == (gt (ref05_Decode_iabo_r0_1 x7 x3 x5) 4)) && ((((gt (frame_Decode_iabo_r0_1 x7 x3 x4 x5) 5) : Int) == (gt (ref05_Decode_iabo_r0_1 x7 x3 x5) 5)) && ((((gt (frame_Decode_iabo_r0_1 x7 x3 x4 x5) 6) : Int) == (gt (ref05_Decode_iabo_r0_1 x7 x3 x5) 6)) && ((((gt (frame_Decode_iabo_r0_1 x7 x3 x4 x5) 7) : Int) == (gt (ref05_Decode_iabo_r0_1 x7 x3 x5) 7)) && true))))))))))
def law05_FrameTells_S1_c0 (x0 : Int) (x1 : List Int) (x3 : Bool) (x4 : Bool) (x5 : List Int) (x7 : Int) : Bool := (bif tb (frame_Encode_iai9_c0 x7 x0 x1) then (bif tb (ref05_Encode_iai9_c0 x7 x0 x1) then (bif tb (frame_Decode_iabo_c0 x7 x3 x4 x5) then (bif tb (ref05_Decode_iabo_c0 x7 x3 x5) then (bif tb (ref03_Same_oo_c0 (frame_Encode_iai9_r0_2 x7 x0 x1) (ref05_Encode_iai9_r0_2 x7 x0 x1)) then (bif tb (ref03_Same_oo_r0_0 (frame_Encode_iai9_r0_2 x7 x0 x1) (ref05_Encode_iai9_r0_2 x7 x0 x1)) then (bif tb (((frame_Encode_iai9_r0_1 x7 x0 x1) : Int) == (ref05_Encode_iai9_r0_1 x7 x0 x1)) then (bif tb (law05_FrameTells_S1_e0 x3 x4 x5 x7) then (bif tb (((frame_Decode_iabo_r0_2 x7 x3 x4 x5) : Int) == (ref05_Decode_iabo_r0_2 x7 x3 x5)) then (bif tb (frame_Right_ai9_c0 x0 x1) then (bif tb (ref05_Right_ai9_c0 x1) then (bif tb (false != ((frame_Right_ai9_r0_0 x0 x1) == (ref05_Right_ai9_r0_0 x0 x1))) then (bif tb (frame_Name_i_c0 x7) then true else false) else true) else false) else false) else true) else true) else true) else true) else false) else false) else false) else false) else false)
def law05_FrameTells_S1_r0_0 (x0 : Int) (x1 : List Int) (x3 : Bool) (x4 : Bool) (x5 : List Int) (x7 : Int) : Bool := (bif tb (ref03_Same_oo_r0_0 (frame_Encode_iai9_r0_2 x7 x0 x1) (ref05_Encode_iai9_r0_2 x7 x0 x1)) then (bif tb (((frame_Encode_iai9_r0_1 x7 x0 x1) : Int) == (ref05_Encode_iai9_r0_1 x7 x0 x1)) then (bif tb (law05_FrameTells_S1_e0 x3 x4 x5 x7) then (bif tb (((frame_Decode_iabo_r0_2 x7 x3 x4 x5) : Int) == (ref05_Decode_iabo_r0_2 x7 x3 x5)) then (bif tb (false != ((frame_Right_ai9_r0_0 x0 x1) == (ref05_Right_ai9_r0_0 x0 x1))) then ((frame_Name_i_r0_0 x7).toList == (ref05_Name_i_r0_0 x7).toList) else false) else false) else false) else false) else false)
theorem law05_FrameTells_S1_t0 (x0 : Int) (x1 : List Int) (x2 : Bool) (x3 : Bool) (x4 : Bool) (x5 : List Int) (x6 : Bool) (x7 : Int) : law05_FrameTells_S1_c0 x0 x1 x3 x4 x5 x7 = true → segG (runC E0 (cl E0) S3_1) [0, 4, 5] [] [6] 2 ([(V.d (.int .i64 x7)), (V.ptr 0 1 0 0), (V.ptr 1 1 0 0)], [(Blk.flat 24 9 [([(.int .i64 x0)] ++ arrD .i64 x1 8)] x2), (Blk.gen 27 2 [[(V.d (.bool x3)), (V.d (slD (encI .u8) true 1 x4 x5))]] x6)]) = some (.normal, ([(V.d (.bool (law05_FrameTells_S1_r0_0 x0 x1 x3 x4 x5 x7)))], [(Blk.flat 24 9 [([(.int .i64 x0)] ++ arrD .i64 x1 8)] x2), (Blk.gen 27 2 [[(V.d (.bool x3)), (V.d (slD (encI .u8) true 1 x4 x5))]] x6)])) := by
  unfold law05_FrameTells_S1_c0 law05_FrameTells_S1_r0_0
  cases h1 : tb (frame_Encode_iai9_c0 x7 x0 x1)
  · intro g0
    exact absurd g0 ft
  · cases h2 : tb (ref05_Encode_iai9_c0 x7 x0 x1)
    · intro g0
      exact absurd g0 ft
    · cases h3 : tb (frame_Decode_iabo_c0 x7 x3 x4 x5)
      · intro g0
        exact absurd g0 ft
      · cases h4 : tb (ref05_Decode_iabo_c0 x7 x3 x5)
        · intro g0
          exact absurd g0 ft
        · cases h5 : tb (ref03_Same_oo_c0 (frame_Encode_iai9_r0_2 x7 x0 x1) (ref05_Encode_iai9_r0_2 x7 x0 x1))
          · intro g0
            exact absurd g0 ft
          · cases h6 : tb (ref03_Same_oo_r0_0 (frame_Encode_iai9_r0_2 x7 x0 x1) (ref05_Encode_iai9_r0_2 x7 x0 x1))
            · intro g0
              exact seg_walk [.c (frame_Encode_iai9_t0 x7 x0 x1 (tbE h1)), .c (ref05_Encode_iai9_t0 x7 x0 x1 (tbE h2)), .c (frame_Decode_iabo_t0 x7 x3 x4 x5 (tbE h3)), .c (ref05_Decode_iabo_t0 x7 x3 x4 x5 (tbE h4)), .y (mm := [(Blk.flat 24 9 [([(.int .i64 x0)] ++ arrD .i64 x1 8)] x2), (Blk.gen 27 2 [[(V.d (.bool x3)), (V.d (slD (encI .u8) true 1 x4 x5))]] x6), (Blk.flat 5 1 (List.map (encI .u8) (frame_Encode_iai9_r0_2 x7 x0 x1)) false), (Blk.flat 5 1 (List.map (encI .u8) (ref05_Encode_iai9_r0_2 x7 x0 x1)) false), (Blk.flat 24 9 [([(.int .i64 (frame_Decode_iabo_r0_0 x7 x3 x4 x5))] ++ arrD .i64 (frame_Decode_iabo_r0_1 x7 x3 x4 x5) 8)] false), (Blk.flat 24 9 [([(.int .i64 (ref05_Decode_iabo_r0_0 x7 x3 x5))] ++ arrD .i64 (ref05_Decode_iabo_r0_1 x7 x3 x5) 8)] false)]) (args := [(V.so (frame_Encode_iai9_r0_0 x7 x0 x1) 2 ((frame_Encode_iai9_r0_2 x7 x0 x1).length)), (V.so (ref05_Encode_iai9_r0_0 x7 x0 x1) 3 ((ref05_Encode_iai9_r0_2 x7 x0 x1).length))]) (args1 := [(V.d (slD (encI .u8) true 1 (frame_Encode_iai9_r0_0 x7 x0 x1) (frame_Encode_iai9_r0_2 x7 x0 x1))), (V.d (slD (encI .u8) true 1 (ref05_Encode_iai9_r0_0 x7 x0 x1) (ref05_Encode_iai9_r0_2 x7 x0 x1)))]) (byvals_cons (byval_so (enc := (encI .u8)) (l := (frame_Encode_iai9_r0_2 x7 x0 x1)) (b := (frame_Encode_iai9_r0_0 x7 x0 x1)) (e := 5) (s := 1) (p := false) (n := ((frame_Encode_iai9_r0_2 x7 x0 x1).length)) (Nat.beq_refl _) (by kernel_rfl)) (byvals_cons (byval_so (enc := (encI .u8)) (l := (ref05_Encode_iai9_r0_2 x7 x0 x1)) (b := (ref05_Encode_iai9_r0_0 x7 x0 x1)) (e := 5) (s := 1) (p := false) (n := ((ref05_Encode_iai9_r0_2 x7 x0 x1).length)) (Nat.beq_refl _) (by kernel_rfl)) (by kernel_rfl))), .c (ref03_Same_oo_t0 (frame_Encode_iai9_r0_0 x7 x0 x1) (frame_Encode_iai9_r0_2 x7 x0 x1) (ref05_Encode_iai9_r0_0 x7 x0 x1) (ref05_Encode_iai9_r0_2 x7 x0 x1) (tbE h5)), .c (law05_alive_t0), .k true, .b (tbE h6)] (by kernel_rfl)
            · cases h7 : tb (((frame_Encode_iai9_r0_1 x7 x0 x1) : Int) == (ref05_Encode_iai9_r0_1 x7 x0 x1))
              · intro g0
                exact seg_walk [.c (frame_Encode_iai9_t0 x7 x0 x1 (tbE h1)), .c (ref05_Encode_iai9_t0 x7 x0 x1 (tbE h2)), .c (frame_Decode_iabo_t0 x7 x3 x4 x5 (tbE h3)), .c (ref05_Decode_iabo_t0 x7 x3 x4 x5 (tbE h4)), .y (mm := [(Blk.flat 24 9 [([(.int .i64 x0)] ++ arrD .i64 x1 8)] x2), (Blk.gen 27 2 [[(V.d (.bool x3)), (V.d (slD (encI .u8) true 1 x4 x5))]] x6), (Blk.flat 5 1 (List.map (encI .u8) (frame_Encode_iai9_r0_2 x7 x0 x1)) false), (Blk.flat 5 1 (List.map (encI .u8) (ref05_Encode_iai9_r0_2 x7 x0 x1)) false), (Blk.flat 24 9 [([(.int .i64 (frame_Decode_iabo_r0_0 x7 x3 x4 x5))] ++ arrD .i64 (frame_Decode_iabo_r0_1 x7 x3 x4 x5) 8)] false), (Blk.flat 24 9 [([(.int .i64 (ref05_Decode_iabo_r0_0 x7 x3 x5))] ++ arrD .i64 (ref05_Decode_iabo_r0_1 x7 x3 x5) 8)] false)]) (args := [(V.so (frame_Encode_iai9_r0_0 x7 x0 x1) 2 ((frame_Encode_iai9_r0_2 x7 x0 x1).length)), (V.so (ref05_Encode_iai9_r0_0 x7 x0 x1) 3 ((ref05_Encode_iai9_r0_2 x7 x0 x1).length))]) (args1 := [(V.d (slD (encI .u8) true 1 (frame_Encode_iai9_r0_0 x7 x0 x1) (frame_Encode_iai9_r0_2 x7 x0 x1))), (V.d (slD (encI .u8) true 1 (ref05_Encode_iai9_r0_0 x7 x0 x1) (ref05_Encode_iai9_r0_2 x7 x0 x1)))]) (byvals_cons (byval_so (enc := (encI .u8)) (l := (frame_Encode_iai9_r0_2 x7 x0 x1)) (b := (frame_Encode_iai9_r0_0 x7 x0 x1)) (e := 5) (s := 1) (p := false) (n := ((frame_Encode_iai9_r0_2 x7 x0 x1).length)) (Nat.beq_refl _) (by kernel_rfl)) (byvals_cons (byval_so (enc := (encI .u8)) (l := (ref05_Encode_iai9_r0_2 x7 x0 x1)) (b := (ref05_Encode_iai9_r0_0 x7 x0 x1)) (e := 5) (s := 1) (p := false) (n := ((ref05_Encode_iai9_r0_2 x7 x0 x1).length)) (Nat.beq_refl _) (by kernel_rfl)) (by kernel_rfl))), .c (ref03_Same_oo_t0 (frame_Encode_iai9_r0_0 x7 x0 x1) (frame_Encode_iai9_r0_2 x7 x0 x1) (ref05_Encode_iai9_r0_0 x7 x0 x1) (ref05_Encode_iai9_r0_2 x7 x0 x1) (tbE h5)), .c (law05_alive_t0), .k true, .b (tbE h6), .b (tbE h7)] (by kernel_rfl)
              · cases h8 : tb (law05_FrameTells_S1_e0 x3 x4 x5 x7)
                · intro g0
                  exact seg_walk [.c (frame_Encode_iai9_t0 x7 x0 x1 (tbE h1)), .c (ref05_Encode_iai9_t0 x7 x0 x1 (tbE h2)), .c (frame_Decode_iabo_t0 x7 x3 x4 x5 (tbE h3)), .c (ref05_Decode_iabo_t0 x7 x3 x4 x5 (tbE h4)), .y (mm := [(Blk.flat 24 9 [([(.int .i64 x0)] ++ arrD .i64 x1 8)] x2), (Blk.gen 27 2 [[(V.d (.bool x3)), (V.d (slD (encI .u8) true 1 x4 x5))]] x6), (Blk.flat 5 1 (List.map (encI .u8) (frame_Encode_iai9_r0_2 x7 x0 x1)) false), (Blk.flat 5 1 (List.map (encI .u8) (ref05_Encode_iai9_r0_2 x7 x0 x1)) false), (Blk.flat 24 9 [([(.int .i64 (frame_Decode_iabo_r0_0 x7 x3 x4 x5))] ++ arrD .i64 (frame_Decode_iabo_r0_1 x7 x3 x4 x5) 8)] false), (Blk.flat 24 9 [([(.int .i64 (ref05_Decode_iabo_r0_0 x7 x3 x5))] ++ arrD .i64 (ref05_Decode_iabo_r0_1 x7 x3 x5) 8)] false)]) (args := [(V.so (frame_Encode_iai9_r0_0 x7 x0 x1) 2 ((frame_Encode_iai9_r0_2 x7 x0 x1).length)), (V.so (ref05_Encode_iai9_r0_0 x7 x0 x1) 3 ((ref05_Encode_iai9_r0_2 x7 x0 x1).length))]) (args1 := [(V.d (slD (encI .u8) true 1 (frame_Encode_iai9_r0_0 x7 x0 x1) (frame_Encode_iai9_r0_2 x7 x0 x1))), (V.d (slD (encI .u8) true 1 (ref05_Encode_iai9_r0_0 x7 x0 x1) (ref05_Encode_iai9_r0_2 x7 x0 x1)))]) (byvals_cons (byval_so (enc := (encI .u8)) (l := (frame_Encode_iai9_r0_2 x7 x0 x1)) (b := (frame_Encode_iai9_r0_0 x7 x0 x1)) (e := 5) (s := 1) (p := false) (n := ((frame_Encode_iai9_r0_2 x7 x0 x1).length)) (Nat.beq_refl _) (by kernel_rfl)) (byvals_cons (byval_so (enc := (encI .u8)) (l := (ref05_Encode_iai9_r0_2 x7 x0 x1)) (b := (ref05_Encode_iai9_r0_0 x7 x0 x1)) (e := 5) (s := 1) (p := false) (n := ((ref05_Encode_iai9_r0_2 x7 x0 x1).length)) (Nat.beq_refl _) (by kernel_rfl)) (by kernel_rfl))), .c (ref03_Same_oo_t0 (frame_Encode_iai9_r0_0 x7 x0 x1) (frame_Encode_iai9_r0_2 x7 x0 x1) (ref05_Encode_iai9_r0_0 x7 x0 x1) (ref05_Encode_iai9_r0_2 x7 x0 x1) (tbE h5)), .c (law05_alive_t0), .k true, .b (tbE h6), .b (tbE h7), .b (tbE h8)] (by kernel_rfl)
                · cases h9 : tb (((frame_Decode_iabo_r0_2 x7 x3 x4 x5) : Int) == (ref05_Decode_iabo_r0_2 x7 x3 x5))
                  · intro g0
                    exact seg_walk [.c (frame_Encode_iai9_t0 x7 x0 x1 (tbE h1)), .c (ref05_Encode_iai9_t0 x7 x0 x1 (tbE h2)), .c (frame_Decode_iabo_t0 x7 x3 x4 x5 (tbE h3)), .c (ref05_Decode_iabo_t0 x7 x3 x4 x5 (tbE h4)), .y (mm := [(Blk.flat 24 9 [([(.int .i64 x0)] ++ arrD .i64 x1 8)] x2), (Blk.gen 27 2 [[(V.d (.bool x3)), (V.d (slD (encI .u8) true 1 x4 x5))]] x6), (Blk.flat 5 1 (List.map (encI .u8) (frame_Encode_iai9_r0_2 x7 x0 x1)) false), (Blk.flat 5 1 (List.map (encI .u8) (ref05_Encode_iai9_r0_2 x7 x0 x1)) false), (Blk.flat 24 9 [([(.int .i64 (frame_Decode_iabo_r0_0 x7 x3 x4 x5))] ++ arrD .i64 (frame_Decode_iabo_r0_1 x7 x3 x4 x5) 8)] false), (Blk.flat 24 9 [([(.int .i64 (ref05_Decode_iabo_r0_0 x7 x3 x5))] ++ arrD .i64 (ref05_Decode_iabo_r0_1 x7 x3 x5) 8)] false)]) (args := [(V.so (frame_Encode_iai9_r0_0 x7 x0 x1) 2 ((frame_Encode_iai9_r0_2 x7 x0 x1).length)), (V.so (ref05_Encode_iai9_r0_0 x7 x0 x1) 3 ((ref05_Encode_iai9_r0_2 x7 x0 x1).length))]) (args1 := [(V.d (slD (encI .u8) true 1 (frame_Encode_iai9_r0_0 x7 x0 x1) (frame_Encode_iai9_r0_2 x7 x0 x1))), (V.d (slD (encI .u8) true 1 (ref05_Encode_iai9_r0_0 x7 x0 x1) (ref05_Encode_iai9_r0_2 x7 x0 x1)))]) (byvals_cons (byval_so (enc := (encI .u8)) (l := (frame_Encode_iai9_r0_2 x7 x0 x1)) (b := (frame_Encode_iai9_r0_0 x7 x0 x1)) (e := 5) (s := 1) (p := false) (n := ((frame_Encode_iai9_r0_2 x7 x0 x1).length)) (Nat.beq_refl _) (by kernel_rfl)) (byvals_cons (byval_so (enc := (encI .u8)) (l := (ref05_Encode_iai9_r0_2 x7 x0 x1)) (b := (ref05_Encode_iai9_r0_0 x7 x0 x1)) (e := 5) (s := 1) (p := false) (n := ((ref05_Encode_iai9_r0_2 x7 x0 x1).length)) (Nat.beq_refl _) (by kernel_rfl)) (by kernel_rfl))), .c (ref03_Same_oo_t0 (frame_Encode_iai9_r0_0 x7 x0 x1) (frame_Encode_iai9_r0_2 x7 x0 x1) (ref05_Encode_iai9_r0_0 x7 x0 x1) (ref05_Encode_iai9_r0_2 x7 x0 x1) (tbE h5)), .c (law05_alive_t0), .k true, .b (tbE h6), .b (tbE h7), .b (tbE h8), .b (tbE h9)] (by kernel_rfl)
                  · cases h10 : tb (frame_Right_ai9_c0 x0 x1)
                    · intro g0
                      exact absurd g0 ft
                    · cases h11 : tb (ref05_Right_ai9_c0 x1)
                      · intro g0
                        exact absurd g0 ft
                      · cases h12 : tb (false != ((frame_Right_ai9_r0_0 x0 x1) == (ref05_Right_ai9_r0_0 x0 x1)))
                        · intro g0
                          exact seg_walk [.c (frame_Encode_iai9_t0 x7 x0 x1 (tbE h1)), .c (ref05_Encode_iai9_t0 x7 x0 x1 (tbE h2)), .c (frame_Decode_iabo_t0 x7 x3 x4 x5 (tbE h3)), .c (ref05_Decode_iabo_t0 x7 x3 x4 x5 (tbE h4)), .y (mm := [(Blk.flat 24 9 [([(.int .i64 x0)] ++ arrD .i64 x1 8)] x2), (Blk.gen 27 2 [[(V.d (.bool x3)), (V.d (slD (encI .u8) true 1 x4 x5))]] x6), (Blk.flat 5 1 (List.map (encI .u8) (frame_Encode_iai9_r0_2 x7 x0 x1)) false), (Blk.flat 5 1 (List.map (encI .u8) (ref05_Encode_iai9_r0_2 x7 x0 x1)) false), (Blk.flat 24 9 [([(.int .i64 (frame_Decode_iabo_r0_0 x7 x3 x4 x5))] ++ arrD .i64 (frame_Decode_iabo_r0_1 x7 x3 x4 x5) 8)] false), (Blk.flat 24 9 [([(.int .i64 (ref05_Decode_iabo_r0_0 x7 x3 x5))] ++ arrD .i64 (ref05_Decode_iabo_r0_1 x7 x3 x5) 8)] false)]) (args := [(V.so (frame_Encode_iai9_r0_0 x7 x0 x1) 2 ((frame_Encode_iai9_r0_2 x7 x0 x1).length)), (V.so (ref05_Encode_iai9_r0_0 x7 x0 x1) 3 ((ref05_Encode_iai9_r0_2 x7 x0 x1).length))]) (args1 := [(V.d (slD (encI .u8) true 1 (frame_Encode_iai9_r0_0 x7 x0 x1) (frame_Encode_iai9_r0_2 x7 x0 x1))), (V.d (slD (encI .u8) true 1 (ref05_Encode_iai9_r0_0 x7 x0 x1) (ref05_Encode_iai9_r0_2 x7 x0 x1)))]) (byvals_cons (byval_so (enc := (encI .u8)) (l := (frame_Encode_iai9_r0_2 x7 x0 x1)) (b := (frame_Encode_iai9_r0_0 x7 x0 x1)) (e := 5) (s := 1) (p := false) (n := ((frame_Encode_iai9_r0_2 x7 x0 x1).length)) (Nat.beq_refl _) (by kernel_rfl)) (byvals_cons (byval_so (enc := (encI .u8)) (l := (ref05_Encode_iai9_r0_2 x7 x0 x1)) (b := (ref05_Encode_iai9_r0_0 x7 x0 x1)) (e := 5) (s := 1) (p := false) (n := ((ref05_Encode_iai9_r0_2 x7 x0 x1).length)) (Nat.beq_refl _) (by kernel_rfl)) (by kernel_rfl))), .c (ref03_Same_oo_t0 (frame_Encode_iai9_r0_0 x7 x0 x1) (frame_Encode_iai9_r0_2 x7 x0 x1) (ref05_Encode_iai9_r0_0 x7 x0 x1) (ref05_Encode_iai9_r0_2 x7 x0 x1) (tbE h5)), .c (law05_alive_t0), .k true, .b (tbE h6), .b (tbE h7), .b (tbE h8), .b (tbE h9), .c (frame_Right_ai9_t0 x0 x1 (tbE h10)), .c (ref05_Right_ai9_t0 x0 x1 (tbE h11)), .b (tbE h12)] (by kernel_rfl)
                        · cases h13 : tb (frame_Name_i_c0 x7)
                          · intro g0
                            exact absurd g0 ft
                          · intro g0
                            exact seg_walk [.c (frame_Encode_iai9_t0 x7 x0 x1 (tbE h1)), .c (ref05_Encode_iai9_t0 x7 x0 x1 (tbE h2)), .c (frame_Decode_iabo_t0 x7 x3 x4 x5 (tbE h3)), .c (ref05_Decode_iabo_t0 x7 x3 x4 x5 (tbE h4)), .y (mm := [(Blk.flat 24 9 [([(.int .i64 x0)] ++ arrD .i64 x1 8)] x2), (Blk.gen 27 2 [[(V.d (.bool x3)), (V.d (slD (encI .u8) true 1 x4 x5))]] x6), (Blk.flat 5 1 (List.map (encI .u8) (frame_Encode_iai9_r0_2 x7 x0 x1)) false), (Blk.flat 5 1 (List.map (encI .u8) (ref05_Encode_iai9_r0_2 x7 x0 x1)) false), (Blk.flat 24 9 [([(.int .i64 (frame_Decode_iabo_r0_0 x7 x3 x4 x5))] ++ arrD .i64 (frame_Decode_iabo_r0_1 x7 x3 x4 x5) 8)] false), (Blk.flat 24 9 [([(.int .i64 (ref05_Decode_iabo_r0_0 x7 x3 x5))] ++ arrD .i64 (ref05_Decode_iabo_r0_1 x7 x3 x5) 8)] false)]) (args := [(V.so (frame_Encode_iai9_r0_0 x7 x0 x1) 2 ((frame_Encode_iai9_r0_2 x7 x0 x1).length)), (V.so (ref05_Encode_iai9_r0_0 x7 x0 x1) 3 ((ref05_Encode_iai9_r0_2 x7 x0 x1).length))]) (args1 := [(V.d (slD (encI .u8) true 1 (frame_Encode_iai9_r0_0 x7 x0 x1) (frame_Encode_iai9_r0_2 x7 x0 x1))), (V.d (slD (encI .u8) true 1 (ref05_Encode_iai9_r0_0 x7 x0 x1) (ref05_Encode_iai9_r0_2 x7 x0 x1)))]) (byvals_cons (byval_so (enc := (encI .u8)) (l := (frame_Encode_iai9_r0_2 x7 x0 x1)) (b := (frame_Encode_iai9_r0_0 x7 x0 x1)) (e := 5) (s := 1) (p := false) (n := ((frame_Encode_iai9_r0_2 x7 x0 x1).length)) (Nat.beq_refl _) (by kernel_rfl)) (byvals_cons (byval_so (enc := (encI .u8)) (l := (ref05_Encode_iai9_r0_2 x7 x0 x1)) (b := (ref05_Encode_iai9_r0_0 x7 x0 x1)) (e := 5) (s := 1) (p := false) (n := ((ref05_Encode_iai9_r0_2 x7 x0 x1).length)) (Nat.beq_refl _) (by kernel_rfl)) (by kernel_rfl))), .c (ref03_Same_oo_t0 (frame_Encode_iai9_r0_0 x7 x0 x1) (frame_Encode_iai9_r0_2 x7 x0 x1) (ref05_Encode_iai9_r0_0 x7 x0 x1) (ref05_Encode_iai9_r0_2 x7 x0 x1) (tbE h5)), .c (law05_alive_t0), .k true, .b (tbE h6), .b (tbE h7), .b (tbE h8), .b (tbE h9), .c (frame_Right_ai9_t0 x0 x1 (tbE h10)), .c (ref05_Right_ai9_t0 x0 x1 (tbE h11)), .b (tbE h12), .c (frame_Name_i_t0 x7 (tbE h13)), .c (ref05_Name_i_t0 x7)] (by kernel_rfl)
def law05_FrameTells_c0 (x0 : Int) (x1 : Int) (x2 : List Int) (x3 : Bool) (x4 : Bool) (x5 : List Int) : Bool := (bif tb (law05_FrameTells_S0_c0 x5) then true else (bif tb (law05_FrameTells_S1_c0 x1 x2 x3 x4 x5 x0) then true else false))
def law05_FrameTells_r0_0 (x0 : Int) (x1 : Int) (x2 : List Int) (x3 : Bool) (x4 : Bool) (x5 : List Int) : Bool := (bif tb (law05_FrameTells_S0_c0 x5) then true else (law05_FrameTells_S1_r0_0 x1 x2 x3 x4 x5 x0))
theorem law05_FrameTells_t0 (x0 : Int) (x1 : Int) (x2 : List Int) (x3 : Bool) (x4 : Bool) (x5 : List Int) : law05_FrameTells_c0 x0 x1 x2 x3 x4 x5 = true → cl E0 3 [(V.d (.int .i64 x0)), (V.agg [(V.d (.int .i64 x1)), (V.d (.int .i64 (gt x2 0))), (V.d (.int .i64 (gt x2 1))), (V.d (.int .i64 (gt x2 2))), (V.d (.int .i64 (gt x2 3))), (V.d (.int .i64 (gt x2 4))), (V.d (.int .i64 (gt x2 5))), (V.d (.int .i64 (gt x2 6))), (V.d (.int .i64 (gt x2 7)))]), (V.agg [(V.d (.bool x3)), (V.d (slD (encI .u8) true 1 x4 x5))])] [] = some ([(V.d (.bool (law05_FrameTells_r0_0 x0 x1 x2 x3 x4 x5)))], []) := by
  unfold law05_FrameTells_c0 law05_FrameTells_r0_0
  cases h1 : tb (law05_FrameTells_S0_c0 x5)
  · cases h2 : tb (law05_FrameTells_S1_c0 x1 x2 x3 x4 x5 x0)
    · intro g0
      exact absurd g0 ft
    · intro g0
      exact w3 [.s (law05_FrameTells_S0_t1 x1 x2 false x3 x4 x5 false x0 (tbE h1)), .s (law05_FrameTells_S1_t0 x1 x2 false x3 x4 x5 false x0 (tbE h2))] (by kernel_rfl)
  · intro g0
    exact w3 [.s (law05_FrameTells_S0_t0 x1 x2 false x3 x4 x5 false x0 (tbE h1))] (by kernel_rfl)
end Go.Proofs.YtkipngagfiaddaaDoor.Den

namespace Go.Proofs.YtkipngagfiaddaaDoor.Den
open Go Go.Proofs
set_option linter.unusedVariables false
set_option linter.unusedSimpArgs false
theorem pure_FrameTells (x0 : Int) (x1 : Int) (x2 : List Int) (x3 : Bool) (x4 : Bool) (x5 : List Int) (wx0 : WfI .i64 x0) (wx1 : WfI .i64 x1) (wx2 : x2.length = 8 ∧ ∀ z ∈ x2, WfI .i64 z) (wx5 : (x5.length ≤ maxLen ∧ x5.length * 1 ≤ 140737488351232 ∧ ∀ z ∈ x5, WfI .u8 z)) : law05_FrameTells_c0 x0 x1 x2 x3 x4 x5 = true ∧ (law05_FrameTells_r0_0 x0 x1 x2 x3 x4 x5) = true := by
  by_cases hl : 300 < x5.length
  · have h1 : decide ((300 : Int) < ((x5.length : Nat) : Int)) = true := decide_eq_true (by omega)
    simp [law05_FrameTells_c0, law05_FrameTells_r0_0, law05_FrameTells_S0_c0, h1]
  · have h1 : decide ((300 : Int) < ((x5.length : Nat) : Int)) = false := decide_eq_false (by omega)
    have s0 : law05_FrameTells_S0_c0 x5 = false := by simp only [law05_FrameTells_S0_c0, h1, tb_eq, cond_false]
    obtain ⟨h8, _⟩ := wx2
    obtain ⟨n1, n2, n3, n4⟩ := encode_eq x0 x1 h8
    obtain ⟨m1, m3, m4⟩ := rencode_eq x0 x1 h8
    obtain ⟨r1, r2⟩ := right_eq x1 h8
    obtain ⟨q1, q2⟩ := rright_eq x1 h8
    have hs : Sm x5 := ⟨wx5.2.2, by omega⟩
    obtain ⟨d1, d2, d3, d4⟩ := decode_eq x0 x3 x4 hs
    obtain ⟨g1, g2, g3, g4⟩ := rdecode_eq x0 x3 hs
    obtain ⟨z1, z2⟩ := name_eq x0
    have hbl : (if okF x0 x1 x2 = true then sealed (bodyF x0 x1 x2) else []).length < 1152921504606846976 := by
      split
      · have := bodyF_len (ch := x0) (s := x1) h8
        simp [sealed, tail2, this]
      · simp
    obtain ⟨u1, u2⟩ := same_eq (l := (if okF x0 x1 x2 = true then sealed (bodyF x0 x1 x2) else [])) (k := (if okF x0 x1 x2 = true then sealed (bodyF x0 x1 x2) else [])) hbl
    have u2' : ref03_Same_oo_r0_0 (if okF x0 x1 x2 = true then sealed (bodyF x0 x1 x2) else []) (if okF x0 x1 x2 = true then sealed (bodyF x0 x1 x2) else []) = true := by rw [u2]; simp
    have e0 : law05_FrameTells_S1_e0 x3 x4 x5 x0 = true := by
      simp only [law05_FrameTells_S1_e0, d3, d4, g3, g4]; simp
    have e1 : (((if okF x0 x1 x2 = true then (0 : Int) else 1) : Int) == (if okF x0 x1 x2 = true then 0 else 1)) = true := by simp
    have e2 : ((rejOf x0 x3 x5 : Int) == rejOf x0 x3 x5) = true := by simp
    have e3 : (false != ((n16 x1 && all32 x2) == (n16 x1 && all32 x2))) = true := by simp
    simp only [law05_FrameTells_c0, law05_FrameTells_r0_0, s0, law05_FrameTells_S1_c0, law05_FrameTells_S1_r0_0, n1, n3, n4, m1, m3, m4, d1, d2, g1, g2, u1, u2', e0, e1, e2, r1, r2, q1, q2, e3, z1, z2, tb_eq, cond_true, cond_false, and_self]
end Go.Proofs.YtkipngagfiaddaaDoor.Den
