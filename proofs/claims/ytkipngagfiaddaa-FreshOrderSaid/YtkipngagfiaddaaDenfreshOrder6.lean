/- FreshOrder: part 6 of what its proof rests on: an evaluator of the program's code, proved sound; plain functions printed from the code by a program of this session, with proofs; plain laws. No condition. -/
import Derived.Test.YtkipngagfiaddaaDenfreshOrder5

namespace Go.Proofs.Ytkipngagfiaddaa.Den
open Go Go.Proofs
set_option maxRecDepth 100000
set_option maxHeartbeats 4000000
set_option linter.unusedVariables false
set_option linter.unusedSimpArgs false
def slices_Clone_byte_o_c0 (x0 : Bool) (x1 : List Int) : Bool := (bif tb (false != (x0 && x1.isEmpty)) then true else (bif tb (decide ((([] : List Int).length + x1.length) * 1 ≤ 140737488355328)) then true else false))
def slices_Clone_byte_o_r0_0 (x0 : Bool) (x1 : List Int) : Bool := (bif tb (false != (x0 && x1.isEmpty)) then true else false)
def slices_Clone_byte_o_r0_1 (x0 : Bool) (x1 : List Int) : List Int := (bif tb (false != (x0 && x1.isEmpty)) then ([] : List Int) else x1)
theorem slices_Clone_byte_o_t0 (x0 : Bool) (x1 : List Int) : slices_Clone_byte_o_c0 x0 x1 = true → cl E0 59 [(V.d (slD (encI .u8) true 1 x0 x1))] [] = some ([(V.so (slices_Clone_byte_o_r0_0 x0 x1) 0 ((slices_Clone_byte_o_r0_1 x0 x1).length))], [(Blk.flat 5 1 (List.map (encI .u8) (slices_Clone_byte_o_r0_1 x0 x1)) false)]) := by
  unfold slices_Clone_byte_o_c0 slices_Clone_byte_o_r0_0 slices_Clone_byte_o_r0_1
  cases h1 : tb (false != (x0 && x1.isEmpty))
  · cases h2 : tb (decide ((([] : List Int).length + x1.length) * 1 ≤ 140737488355328))
    · intro g0
      exact absurd g0 ft
    · intro g0
      exact w59 [.o 4 (fun _ => o_nil_os (enc := (encI .u8)) (l := x1) (fl := true) (n := x0) (s := 1) (neg := false)), .b (tbE h1), .m 7 (o_app_sf (m := [(Blk.flat 5 1 [] false), (Blk.flat 5 1 [] false)]) (enc := (encI .u8)) (l0 := ([] : List Int)) (l1 := x1) (id := 1) (e := 5) (s := 1) (bytes := 1) (x := (V.d (slD (encI .u8) true 1 x0 x1))) (n := 0) (by kernel_rfl) (by kernel_rfl) flatRowsOf_os sizeOk_os (tbE h2))] (by kernel_rfl)
  · intro g0
    exact w59 [.o 4 (fun _ => o_nil_os (enc := (encI .u8)) (l := x1) (fl := true) (n := x0) (s := 1) (neg := false)), .b (tbE h1)] (by kernel_rfl)
structure slices_Equal_byte_oo_L0_s0 where
  c5 : Int
  deriving Inhabited
def slices_Equal_byte_oo_L0_enc (x0 : Bool) (x1 : List Int) (x2 : Bool) (x3 : List Int) (x4 : Int) (x5 : Int) (s0 : slices_Equal_byte_oo_L0_s0) : List V × Mem := ([(V.d (slD (encI .u8) true 1 x0 x1)), (V.d (slD (encI .u8) true 1 x2 x3)), (V.d (.int .i64 x4)), (V.d (.int .i64 s0.c5))], [])
def slices_Equal_byte_oo_L0_sel (x1 : List Int) (x3 : List Int) (x4 : Int) (s0 : slices_Equal_byte_oo_L0_s0) : Bool := (bif tb (decide (s0.c5 < x4)) then (bif tb (inb x1.length s0.c5) then (bif tb (inb x3.length s0.c5) then (bif tb (((gt x1 s0.c5) : Int) != (gt x3 s0.c5)) then false else true) else false) else false) else false)
def slices_Equal_byte_oo_L0_nx (x1 : List Int) (x3 : List Int) (x4 : Int) (s0 : slices_Equal_byte_oo_L0_s0) : slices_Equal_byte_oo_L0_s0 := ⟨(wi (s0.c5 + 1))⟩
def slices_Equal_byte_oo_L0_ok (x1 : List Int) (x3 : List Int) (x4 : Int) (s0 : slices_Equal_byte_oo_L0_s0) : Bool := (itS (slices_Equal_byte_oo_L0_sel x1 x3 x4) (slices_Equal_byte_oo_L0_nx x1 x3 x4) bound s0).isSome
def slices_Equal_byte_oo_L0_end (x1 : List Int) (x3 : List Int) (x4 : Int) (s0 : slices_Equal_byte_oo_L0_s0) : slices_Equal_byte_oo_L0_s0 := (itS (slices_Equal_byte_oo_L0_sel x1 x3 x4) (slices_Equal_byte_oo_L0_nx x1 x3 x4) bound s0).getD default
theorem slices_Equal_byte_oo_L0_go (x0 : Bool) (x1 : List Int) (x2 : Bool) (x3 : List Int) (x4 : Int) (x5 : Int) (s0 : slices_Equal_byte_oo_L0_s0) : slices_Equal_byte_oo_L0_sel x1 x3 x4 s0 = true → (roundG (runC E0 (cl E0) L45_0) [0, 1, 12, 13] [4] 0) (slices_Equal_byte_oo_L0_enc x0 x1 x2 x3 x4 x5 s0) = some (.normal, slices_Equal_byte_oo_L0_enc x0 x1 x2 x3 x4 x5 (slices_Equal_byte_oo_L0_nx x1 x3 x4 s0)) := by
  unfold slices_Equal_byte_oo_L0_sel slices_Equal_byte_oo_L0_nx
  cases h1 : tb (decide (s0.c5 < x4))
  · intro g0
    exact absurd g0 ft
  · cases h2 : tb (inb x1.length s0.c5)
    · intro g0
      exact absurd g0 ft
    · cases h3 : tb (inb x3.length s0.c5)
      · intro g0
        exact absurd g0 ft
      · cases h4 : tb (((gt x1 s0.c5) : Int) != (gt x3 s0.c5))
        · intro _
          exact round_walk [.b (tbE h1), .o 18 (fun _ => o_idx_os (enc := (encI .u8)) (l := x1) (fl := true) (n := x0) (s := 1) (k := .i64) (tbE h2)), .o 22 (fun _ => o_idx_os (enc := (encI .u8)) (l := x3) (fl := true) (n := x2) (s := 1) (k := .i64) (tbE h3)), .b (tbE h4)] (by kernel_rfl)
        · intro g0
          exact absurd g0 ft
def slices_Equal_byte_oo_L0_c0 (x1 : List Int) (x3 : List Int) (x4 : Int) (s0 : slices_Equal_byte_oo_L0_s0) : Bool := (bif tb (decide (s0.c5 < x4)) then (bif tb (inb x1.length s0.c5) then (bif tb (inb x3.length s0.c5) then true else false) else false) else false)
def slices_Equal_byte_oo_L0_c1 (x4 : Int) (s0 : slices_Equal_byte_oo_L0_s0) : Bool := (bif tb (decide (s0.c5 < x4)) then false else true)
theorem slices_Equal_byte_oo_L0_x0 (x0 : Bool) (x1 : List Int) (x2 : Bool) (x3 : List Int) (x4 : Int) (x5 : Int) (s0 : slices_Equal_byte_oo_L0_s0) : slices_Equal_byte_oo_L0_sel x1 x3 x4 s0 = false → slices_Equal_byte_oo_L0_c0 x1 x3 x4 s0 = true → (roundG (runC E0 (cl E0) L45_0) [0, 1, 12, 13] [4] 0) (slices_Equal_byte_oo_L0_enc x0 x1 x2 x3 x4 x5 s0) = some (.ret, ([(V.d (.bool false))], [])) := by
  unfold slices_Equal_byte_oo_L0_sel slices_Equal_byte_oo_L0_c0
  cases h1 : tb (decide (s0.c5 < x4))
  · intro g0 g1
    exact absurd g1 ft
  · cases h2 : tb (inb x1.length s0.c5)
    · intro g0 g1
      exact absurd g1 ft
    · cases h3 : tb (inb x3.length s0.c5)
      · intro g0 g1
        exact absurd g1 ft
      · cases h4 : tb (((gt x1 s0.c5) : Int) != (gt x3 s0.c5))
        · intro g0 g1
          exact absurd g0 tf
        · intro g0 g1
          exact round_walk [.b (tbE h1), .o 18 (fun _ => o_idx_os (enc := (encI .u8)) (l := x1) (fl := true) (n := x0) (s := 1) (k := .i64) (tbE h2)), .o 22 (fun _ => o_idx_os (enc := (encI .u8)) (l := x3) (fl := true) (n := x2) (s := 1) (k := .i64) (tbE h3)), .b (tbE h4)] (by kernel_rfl)
theorem slices_Equal_byte_oo_L0_x1 (x0 : Bool) (x1 : List Int) (x2 : Bool) (x3 : List Int) (x4 : Int) (x5 : Int) (s0 : slices_Equal_byte_oo_L0_s0) : slices_Equal_byte_oo_L0_sel x1 x3 x4 s0 = false → slices_Equal_byte_oo_L0_c0 x1 x3 x4 s0 = false → slices_Equal_byte_oo_L0_c1 x4 s0 = true → (roundG (runC E0 (cl E0) L45_0) [0, 1, 12, 13] [4] 0) (slices_Equal_byte_oo_L0_enc x0 x1 x2 x3 x4 x5 s0) = some ((.exit 0), ([V.un], [])) := by
  unfold slices_Equal_byte_oo_L0_sel slices_Equal_byte_oo_L0_c0 slices_Equal_byte_oo_L0_c1
  cases h1 : tb (decide (s0.c5 < x4))
  · intro g0 g1 g2
    exact round_walk [.b (tbE h1)] (by kernel_rfl)
  · cases h2 : tb (inb x1.length s0.c5)
    · intro g0 g1 g2
      exact absurd g2 ft
    · cases h3 : tb (inb x3.length s0.c5)
      · intro g0 g1 g2
        exact absurd g2 ft
      · cases h4 : tb (((gt x1 s0.c5) : Int) != (gt x3 s0.c5))
        · intro g0 g1 g2
          exact absurd g0 tf
        · intro g0 g1 g2
          exact absurd g1 tf
theorem slices_Equal_byte_oo_L0_f0_0 (x0 : Bool) (x1 : List Int) (x2 : Bool) (x3 : List Int) (x4 : Int) (x5 : Int) (s : slices_Equal_byte_oo_L0_s0) (hok : slices_Equal_byte_oo_L0_ok x1 x3 x4 s = true) (c0 : slices_Equal_byte_oo_L0_c0 x1 x3 x4 (slices_Equal_byte_oo_L0_end x1 x3 x4 s) = true) : loopG (roundG (runC E0 (cl E0) L45_0) [0, 1, 12, 13] [4] 0) bound (slices_Equal_byte_oo_L0_enc x0 x1 x2 x3 x4 x5 s) = some (.ret, ([(V.d (.bool false))], [])) := by
  have e : itS (slices_Equal_byte_oo_L0_sel x1 x3 x4) (slices_Equal_byte_oo_L0_nx x1 x3 x4) bound s = some (slices_Equal_byte_oo_L0_end x1 x3 x4 s) := itS_get hok
  have f := itS_false e
  exact loop_it (slices_Equal_byte_oo_L0_go x0 x1 x2 x3 x4 x5) bound s _ _ _ e (fun h => by cases h) (slices_Equal_byte_oo_L0_x0 x0 x1 x2 x3 x4 x5 (slices_Equal_byte_oo_L0_end x1 x3 x4 s) f c0)
theorem slices_Equal_byte_oo_L0_f0_1 (x0 : Bool) (x1 : List Int) (x2 : Bool) (x3 : List Int) (x4 : Int) (x5 : Int) (s : slices_Equal_byte_oo_L0_s0) (hok : slices_Equal_byte_oo_L0_ok x1 x3 x4 s = true) (c0 : slices_Equal_byte_oo_L0_c0 x1 x3 x4 (slices_Equal_byte_oo_L0_end x1 x3 x4 s) = false) (c1 : slices_Equal_byte_oo_L0_c1 x4 (slices_Equal_byte_oo_L0_end x1 x3 x4 s) = true) : loopG (roundG (runC E0 (cl E0) L45_0) [0, 1, 12, 13] [4] 0) bound (slices_Equal_byte_oo_L0_enc x0 x1 x2 x3 x4 x5 s) = some ((.exit 0), ([V.un], [])) := by
  have e : itS (slices_Equal_byte_oo_L0_sel x1 x3 x4) (slices_Equal_byte_oo_L0_nx x1 x3 x4) bound s = some (slices_Equal_byte_oo_L0_end x1 x3 x4 s) := itS_get hok
  have f := itS_false e
  exact loop_it (slices_Equal_byte_oo_L0_go x0 x1 x2 x3 x4 x5) bound s _ _ _ e (fun h => by cases h) (slices_Equal_byte_oo_L0_x1 x0 x1 x2 x3 x4 x5 (slices_Equal_byte_oo_L0_end x1 x3 x4 s) f c0 c1)
def slices_Equal_byte_oo_e0 (x1 : List Int) (x3 : List Int) : slices_Equal_byte_oo_L0_s0 := slices_Equal_byte_oo_L0_end x1 x3 ((x1.length : Nat) : Int) (⟨0⟩ : slices_Equal_byte_oo_L0_s0)
def slices_Equal_byte_oo_c0 (x1 : List Int) (x3 : List Int) : Bool := (bif tb ((((x1.length : Nat) : Int) : Int) != ((x3.length : Nat) : Int)) then true else (bif tb (slices_Equal_byte_oo_L0_ok x1 x3 ((x1.length : Nat) : Int) (⟨0⟩ : slices_Equal_byte_oo_L0_s0)) then (bif tb (slices_Equal_byte_oo_L0_c0 x1 x3 ((x1.length : Nat) : Int) (slices_Equal_byte_oo_e0 x1 x3)) then true else (bif tb (slices_Equal_byte_oo_L0_c1 ((x1.length : Nat) : Int) (slices_Equal_byte_oo_e0 x1 x3)) then true else false)) else false))
def slices_Equal_byte_oo_r0_0 (x1 : List Int) (x3 : List Int) : Bool := (bif tb ((((x1.length : Nat) : Int) : Int) != ((x3.length : Nat) : Int)) then false else (bif tb (slices_Equal_byte_oo_L0_c0 x1 x3 ((x1.length : Nat) : Int) (slices_Equal_byte_oo_e0 x1 x3)) then false else true))
theorem slices_Equal_byte_oo_t0 (x0 : Bool) (x1 : List Int) (x2 : Bool) (x3 : List Int) : slices_Equal_byte_oo_c0 x1 x3 = true → cl E0 45 [(V.d (slD (encI .u8) true 1 x0 x1)), (V.d (slD (encI .u8) true 1 x2 x3))] [] = some ([(V.d (.bool (slices_Equal_byte_oo_r0_0 x1 x3)))], []) := by
  unfold slices_Equal_byte_oo_c0 slices_Equal_byte_oo_r0_0
  cases h1 : tb ((((x1.length : Nat) : Int) : Int) != ((x3.length : Nat) : Int))
  · cases h2 : tb (slices_Equal_byte_oo_L0_ok x1 x3 ((x1.length : Nat) : Int) (⟨0⟩ : slices_Equal_byte_oo_L0_s0))
    · intro g0
      exact absurd g0 ft
    · cases h3 : tb (slices_Equal_byte_oo_L0_c0 x1 x3 ((x1.length : Nat) : Int) (slices_Equal_byte_oo_e0 x1 x3))
      · cases h4 : tb (slices_Equal_byte_oo_L0_c1 ((x1.length : Nat) : Int) (slices_Equal_byte_oo_e0 x1 x3))
        · intro g0
          exact absurd g0 ft
        · intro g0
          exact w45 [.o 7 (fun _ => o_len_os (enc := (encI .u8)) (l := x1) (fl := true) (n := x0) (s := 1)), .o 9 (fun _ => o_len_os (enc := (encI .u8)) (l := x3) (fl := true) (n := x2) (s := 1)), .b (tbE h1), .o 12 (fun _ => o_len_os (enc := (encI .u8)) (l := x1) (fl := true) (n := x0) (s := 1)), .l (slices_Equal_byte_oo_L0_f0_1 x0 x1 x2 x3 ((x1.length : Nat) : Int) 0 (⟨0⟩ : slices_Equal_byte_oo_L0_s0) (tbE h2) (tbE h3) (tbE h4))] (by kernel_rfl)
      · intro g0
        exact w45 [.o 7 (fun _ => o_len_os (enc := (encI .u8)) (l := x1) (fl := true) (n := x0) (s := 1)), .o 9 (fun _ => o_len_os (enc := (encI .u8)) (l := x3) (fl := true) (n := x2) (s := 1)), .b (tbE h1), .o 12 (fun _ => o_len_os (enc := (encI .u8)) (l := x1) (fl := true) (n := x0) (s := 1)), .l (slices_Equal_byte_oo_L0_f0_0 x0 x1 x2 x3 ((x1.length : Nat) : Int) 0 (⟨0⟩ : slices_Equal_byte_oo_L0_s0) (tbE h2) (tbE h3))] (by kernel_rfl)
  · intro g0
    exact w45 [.o 7 (fun _ => o_len_os (enc := (encI .u8)) (l := x1) (fl := true) (n := x0) (s := 1)), .o 9 (fun _ => o_len_os (enc := (encI .u8)) (l := x3) (fl := true) (n := x2) (s := 1)), .b (tbE h1)] (by kernel_rfl)
structure slices_Concat_byte_v_GvvvLLL_L0_1_s0 where mk ::
  deriving Inhabited
structure slices_Concat_byte_v_GvvvLLL_L0_1_s1 where mk ::
  deriving Inhabited
structure slices_Concat_byte_v_GvvvLLL_L0_1_s2 where mk ::
  deriving Inhabited
structure slices_Concat_byte_v_GvvvLLL_L0_1_s3 where mk ::
  deriving Inhabited
inductive slices_Concat_byte_v_GvvvLLL_L0_1_S where
  | h0 (v : slices_Concat_byte_v_GvvvLLL_L0_1_s0)
  | h1 (v : slices_Concat_byte_v_GvvvLLL_L0_1_s1)
  | h2 (v : slices_Concat_byte_v_GvvvLLL_L0_1_s2)
  | h3 (v : slices_Concat_byte_v_GvvvLLL_L0_1_s3)
  deriving Inhabited
def slices_Concat_byte_v_GvvvLLL_L0_1_is0 : slices_Concat_byte_v_GvvvLLL_L0_1_S → Bool
  | .h0 _ => true
  | _ => false
def slices_Concat_byte_v_GvvvLLL_L0_1_is1 : slices_Concat_byte_v_GvvvLLL_L0_1_S → Bool
  | .h1 _ => true
  | _ => false
def slices_Concat_byte_v_GvvvLLL_L0_1_is2 : slices_Concat_byte_v_GvvvLLL_L0_1_S → Bool
  | .h2 _ => true
  | _ => false
def slices_Concat_byte_v_GvvvLLL_L0_1_get3 : slices_Concat_byte_v_GvvvLLL_L0_1_S → slices_Concat_byte_v_GvvvLLL_L0_1_s3
  | .h3 v => v
  | _ => default
def slices_Concat_byte_v_GvvvLLL_L0_1_h1_e0 (x0 : List Int) (x1 : List Int) : Int := wi ((wi (0 + ((x0.length : Nat) : Int))) + ((x1.length : Nat) : Int))
def slices_Concat_byte_v_GvvvLLL_L0_1_h2_e0 (x0 : List Int) (x1 : List Int) (x2 : List Int) : Int := wi ((slices_Concat_byte_v_GvvvLLL_L0_1_h1_e0 x0 x1) + ((x2.length : Nat) : Int))
def slices_Concat_byte_v_GvvvLLL_L0_1_enc (x0 : List Int) (x1 : List Int) (x2 : List Int) (x3 : Bool) (x4 : Bool) (x5 : Bool) (x6 : Bool) (x7 : Bool) (x8 : Bool) (x9 : Bool) (x10 : Bool) (x11 : Bool) (x12 : Bool) : slices_Concat_byte_v_GvvvLLL_L0_1_S → List V × Mem
  | .h0 s0 => ([(V.so x11 0 3), (V.d (.int .i64 0)), (V.so x12 0 3), (V.d (.int .i64 3)), (V.d (.int .i64 0))], [(Blk.gen 37 1 [[(V.so x3 1 x0.length)], [(V.so x4 2 x1.length)], [(V.so x5 3 x2.length)]] x6), (Blk.flat 5 1 (List.map (encI .u8) x0) x7), (Blk.flat 5 1 (List.map (encI .u8) x1) x8), (Blk.flat 5 1 (List.map (encI .u8) x2) x9), (Blk.flat 5 1 [] x10)])
  | .h1 s0 => ([(V.so x11 0 3), (V.d (.int .i64 (wi (0 + ((x0.length : Nat) : Int))))), (V.so x12 0 3), (V.d (.int .i64 3)), (V.d (.int .i64 1))], [(Blk.gen 37 1 [[(V.so x3 1 x0.length)], [(V.so x4 2 x1.length)], [(V.so x5 3 x2.length)]] x6), (Blk.flat 5 1 (List.map (encI .u8) x0) x7), (Blk.flat 5 1 (List.map (encI .u8) x1) x8), (Blk.flat 5 1 (List.map (encI .u8) x2) x9), (Blk.flat 5 1 [] x10)])
  | .h2 s0 => ([(V.so x11 0 3), (V.d (.int .i64 (slices_Concat_byte_v_GvvvLLL_L0_1_h1_e0 x0 x1))), (V.so x12 0 3), (V.d (.int .i64 3)), (V.d (.int .i64 2))], [(Blk.gen 37 1 [[(V.so x3 1 x0.length)], [(V.so x4 2 x1.length)], [(V.so x5 3 x2.length)]] x6), (Blk.flat 5 1 (List.map (encI .u8) x0) x7), (Blk.flat 5 1 (List.map (encI .u8) x1) x8), (Blk.flat 5 1 (List.map (encI .u8) x2) x9), (Blk.flat 5 1 [] x10)])
  | .h3 s0 => ([(V.so x11 0 3), (V.d (.int .i64 (slices_Concat_byte_v_GvvvLLL_L0_1_h2_e0 x0 x1 x2))), (V.so x12 0 3), (V.d (.int .i64 3)), (V.d (.int .i64 3))], [(Blk.gen 37 1 [[(V.so x3 1 x0.length)], [(V.so x4 2 x1.length)], [(V.so x5 3 x2.length)]] x6), (Blk.flat 5 1 (List.map (encI .u8) x0) x7), (Blk.flat 5 1 (List.map (encI .u8) x1) x8), (Blk.flat 5 1 (List.map (encI .u8) x2) x9), (Blk.flat 5 1 [] x10)])
def slices_Concat_byte_v_GvvvLLL_L0_1_h0_sel (x0 : List Int) (x1 : List Int) (x2 : List Int) (s0 : slices_Concat_byte_v_GvvvLLL_L0_1_s0) : Bool := (bif tb (decide ((wi (0 + ((x0.length : Nat) : Int))) < 0)) then false else true)
def slices_Concat_byte_v_GvvvLLL_L0_1_h0_nx (x0 : List Int) (x1 : List Int) (x2 : List Int) (s0 : slices_Concat_byte_v_GvvvLLL_L0_1_s0) : slices_Concat_byte_v_GvvvLLL_L0_1_S := .h1 ⟨⟩
def slices_Concat_byte_v_GvvvLLL_L0_1_h1_sel (x0 : List Int) (x1 : List Int) (x2 : List Int) (s0 : slices_Concat_byte_v_GvvvLLL_L0_1_s1) : Bool := (bif tb (decide ((slices_Concat_byte_v_GvvvLLL_L0_1_h1_e0 x0 x1) < 0)) then false else true)
def slices_Concat_byte_v_GvvvLLL_L0_1_h1_nx (x0 : List Int) (x1 : List Int) (x2 : List Int) (s0 : slices_Concat_byte_v_GvvvLLL_L0_1_s1) : slices_Concat_byte_v_GvvvLLL_L0_1_S := .h2 ⟨⟩
def slices_Concat_byte_v_GvvvLLL_L0_1_h2_sel (x0 : List Int) (x1 : List Int) (x2 : List Int) (s0 : slices_Concat_byte_v_GvvvLLL_L0_1_s2) : Bool := (bif tb (decide ((slices_Concat_byte_v_GvvvLLL_L0_1_h2_e0 x0 x1 x2) < 0)) then false else true)
def slices_Concat_byte_v_GvvvLLL_L0_1_h2_nx (x0 : List Int) (x1 : List Int) (x2 : List Int) (s0 : slices_Concat_byte_v_GvvvLLL_L0_1_s2) : slices_Concat_byte_v_GvvvLLL_L0_1_S := .h3 ⟨⟩
def slices_Concat_byte_v_GvvvLLL_L0_1_h3_sel (x0 : List Int) (x1 : List Int) (x2 : List Int) (s0 : slices_Concat_byte_v_GvvvLLL_L0_1_s3) : Bool := false
def slices_Concat_byte_v_GvvvLLL_L0_1_h3_nx (x0 : List Int) (x1 : List Int) (x2 : List Int) (s0 : slices_Concat_byte_v_GvvvLLL_L0_1_s3) : slices_Concat_byte_v_GvvvLLL_L0_1_S := default
def slices_Concat_byte_v_GvvvLLL_L0_1_sel (x0 : List Int) (x1 : List Int) (x2 : List Int) : slices_Concat_byte_v_GvvvLLL_L0_1_S → Bool
  | .h0 v => slices_Concat_byte_v_GvvvLLL_L0_1_h0_sel x0 x1 x2 v
  | .h1 v => slices_Concat_byte_v_GvvvLLL_L0_1_h1_sel x0 x1 x2 v
  | .h2 v => slices_Concat_byte_v_GvvvLLL_L0_1_h2_sel x0 x1 x2 v
  | .h3 v => slices_Concat_byte_v_GvvvLLL_L0_1_h3_sel x0 x1 x2 v
def slices_Concat_byte_v_GvvvLLL_L0_1_nx (x0 : List Int) (x1 : List Int) (x2 : List Int) : slices_Concat_byte_v_GvvvLLL_L0_1_S → slices_Concat_byte_v_GvvvLLL_L0_1_S
  | .h0 v => slices_Concat_byte_v_GvvvLLL_L0_1_h0_nx x0 x1 x2 v
  | .h1 v => slices_Concat_byte_v_GvvvLLL_L0_1_h1_nx x0 x1 x2 v
  | .h2 v => slices_Concat_byte_v_GvvvLLL_L0_1_h2_nx x0 x1 x2 v
  | .h3 v => slices_Concat_byte_v_GvvvLLL_L0_1_h3_nx x0 x1 x2 v
def slices_Concat_byte_v_GvvvLLL_L0_1_ok (x0 : List Int) (x1 : List Int) (x2 : List Int) (s0 : slices_Concat_byte_v_GvvvLLL_L0_1_S) : Bool := (itS (slices_Concat_byte_v_GvvvLLL_L0_1_sel x0 x1 x2) (slices_Concat_byte_v_GvvvLLL_L0_1_nx x0 x1 x2) bound s0).isSome
def slices_Concat_byte_v_GvvvLLL_L0_1_end (x0 : List Int) (x1 : List Int) (x2 : List Int) (s0 : slices_Concat_byte_v_GvvvLLL_L0_1_S) : slices_Concat_byte_v_GvvvLLL_L0_1_S := (itS (slices_Concat_byte_v_GvvvLLL_L0_1_sel x0 x1 x2) (slices_Concat_byte_v_GvvvLLL_L0_1_nx x0 x1 x2) bound s0).getD default
theorem slices_Concat_byte_v_GvvvLLL_L0_1_h0_go (x0 : List Int) (x1 : List Int) (x2 : List Int) (x3 : Bool) (x4 : Bool) (x5 : Bool) (x6 : Bool) (x7 : Bool) (x8 : Bool) (x9 : Bool) (x10 : Bool) (x11 : Bool) (x12 : Bool) (s0 : slices_Concat_byte_v_GvvvLLL_L0_1_s0) : slices_Concat_byte_v_GvvvLLL_L0_1_h0_sel x0 x1 x2 s0 = true → (roundG (runC E0 (cl E0) L32_0) [0, 3, 9, 10, 11] [0, 3] 5) (slices_Concat_byte_v_GvvvLLL_L0_1_enc x0 x1 x2 x3 x4 x5 x6 x7 x8 x9 x10 x11 x12 (.h0 s0)) = some (.normal, slices_Concat_byte_v_GvvvLLL_L0_1_enc x0 x1 x2 x3 x4 x5 x6 x7 x8 x9 x10 x11 x12 (slices_Concat_byte_v_GvvvLLL_L0_1_h0_nx x0 x1 x2 s0)) := by
  unfold slices_Concat_byte_v_GvvvLLL_L0_1_h0_sel slices_Concat_byte_v_GvvvLLL_L0_1_h0_nx
  cases h1 : tb (decide ((wi (0 + ((x0.length : Nat) : Int))) < 0))
  · intro _
    exact round_walk [.k true, .b (tbE h1)] (by kernel_rfl)
  · intro g0
    exact absurd g0 ft
theorem slices_Concat_byte_v_GvvvLLL_L0_1_h1_go (x0 : List Int) (x1 : List Int) (x2 : List Int) (x3 : Bool) (x4 : Bool) (x5 : Bool) (x6 : Bool) (x7 : Bool) (x8 : Bool) (x9 : Bool) (x10 : Bool) (x11 : Bool) (x12 : Bool) (s0 : slices_Concat_byte_v_GvvvLLL_L0_1_s1) : slices_Concat_byte_v_GvvvLLL_L0_1_h1_sel x0 x1 x2 s0 = true → (roundG (runC E0 (cl E0) L32_0) [0, 3, 9, 10, 11] [0, 3] 5) (slices_Concat_byte_v_GvvvLLL_L0_1_enc x0 x1 x2 x3 x4 x5 x6 x7 x8 x9 x10 x11 x12 (.h1 s0)) = some (.normal, slices_Concat_byte_v_GvvvLLL_L0_1_enc x0 x1 x2 x3 x4 x5 x6 x7 x8 x9 x10 x11 x12 (slices_Concat_byte_v_GvvvLLL_L0_1_h1_nx x0 x1 x2 s0)) := by
  unfold slices_Concat_byte_v_GvvvLLL_L0_1_h1_sel slices_Concat_byte_v_GvvvLLL_L0_1_h1_nx
  cases h1 : tb (decide ((slices_Concat_byte_v_GvvvLLL_L0_1_h1_e0 x0 x1) < 0))
  · intro _
    exact round_walk [.k true, .b (tbE h1)] (by kernel_rfl)
  · intro g0
    exact absurd g0 ft
theorem slices_Concat_byte_v_GvvvLLL_L0_1_h2_go (x0 : List Int) (x1 : List Int) (x2 : List Int) (x3 : Bool) (x4 : Bool) (x5 : Bool) (x6 : Bool) (x7 : Bool) (x8 : Bool) (x9 : Bool) (x10 : Bool) (x11 : Bool) (x12 : Bool) (s0 : slices_Concat_byte_v_GvvvLLL_L0_1_s2) : slices_Concat_byte_v_GvvvLLL_L0_1_h2_sel x0 x1 x2 s0 = true → (roundG (runC E0 (cl E0) L32_0) [0, 3, 9, 10, 11] [0, 3] 5) (slices_Concat_byte_v_GvvvLLL_L0_1_enc x0 x1 x2 x3 x4 x5 x6 x7 x8 x9 x10 x11 x12 (.h2 s0)) = some (.normal, slices_Concat_byte_v_GvvvLLL_L0_1_enc x0 x1 x2 x3 x4 x5 x6 x7 x8 x9 x10 x11 x12 (slices_Concat_byte_v_GvvvLLL_L0_1_h2_nx x0 x1 x2 s0)) := by
  unfold slices_Concat_byte_v_GvvvLLL_L0_1_h2_sel slices_Concat_byte_v_GvvvLLL_L0_1_h2_nx
  cases h1 : tb (decide ((slices_Concat_byte_v_GvvvLLL_L0_1_h2_e0 x0 x1 x2) < 0))
  · intro _
    exact round_walk [.k true, .b (tbE h1)] (by kernel_rfl)
  · intro g0
    exact absurd g0 ft
theorem slices_Concat_byte_v_GvvvLLL_L0_1_h3_go (x0 : List Int) (x1 : List Int) (x2 : List Int) (x3 : Bool) (x4 : Bool) (x5 : Bool) (x6 : Bool) (x7 : Bool) (x8 : Bool) (x9 : Bool) (x10 : Bool) (x11 : Bool) (x12 : Bool) (s0 : slices_Concat_byte_v_GvvvLLL_L0_1_s3) : slices_Concat_byte_v_GvvvLLL_L0_1_h3_sel x0 x1 x2 s0 = true → (roundG (runC E0 (cl E0) L32_0) [0, 3, 9, 10, 11] [0, 3] 5) (slices_Concat_byte_v_GvvvLLL_L0_1_enc x0 x1 x2 x3 x4 x5 x6 x7 x8 x9 x10 x11 x12 (.h3 s0)) = some (.normal, slices_Concat_byte_v_GvvvLLL_L0_1_enc x0 x1 x2 x3 x4 x5 x6 x7 x8 x9 x10 x11 x12 (slices_Concat_byte_v_GvvvLLL_L0_1_h3_nx x0 x1 x2 s0)) := by
  unfold slices_Concat_byte_v_GvvvLLL_L0_1_h3_sel slices_Concat_byte_v_GvvvLLL_L0_1_h3_nx
  intro g0
  exact absurd g0 ft
theorem slices_Concat_byte_v_GvvvLLL_L0_1_h3_x0 (x0 : List Int) (x1 : List Int) (x2 : List Int) (x3 : Bool) (x4 : Bool) (x5 : Bool) (x6 : Bool) (x7 : Bool) (x8 : Bool) (x9 : Bool) (x10 : Bool) (x11 : Bool) (x12 : Bool) (s0 : slices_Concat_byte_v_GvvvLLL_L0_1_s3) : slices_Concat_byte_v_GvvvLLL_L0_1_h3_sel x0 x1 x2 s0 = false → (roundG (runC E0 (cl E0) L32_0) [0, 3, 9, 10, 11] [0, 3] 5) (slices_Concat_byte_v_GvvvLLL_L0_1_enc x0 x1 x2 x3 x4 x5 x6 x7 x8 x9 x10 x11 x12 (.h3 s0)) = some ((.exit 0), ([(V.so x11 0 3), (V.d (.int .i64 (slices_Concat_byte_v_GvvvLLL_L0_1_h2_e0 x0 x1 x2)))], [(Blk.gen 37 1 [[(V.so x3 1 x0.length)], [(V.so x4 2 x1.length)], [(V.so x5 3 x2.length)]] x6), (Blk.flat 5 1 (List.map (encI .u8) x0) x7), (Blk.flat 5 1 (List.map (encI .u8) x1) x8), (Blk.flat 5 1 (List.map (encI .u8) x2) x9), (Blk.flat 5 1 [] x10)])) := by
  unfold slices_Concat_byte_v_GvvvLLL_L0_1_h3_sel
  intro g0
  exact round_walk [.k false] (by kernel_rfl)
theorem slices_Concat_byte_v_GvvvLLL_L0_1_go (x0 : List Int) (x1 : List Int) (x2 : List Int) (x3 : Bool) (x4 : Bool) (x5 : Bool) (x6 : Bool) (x7 : Bool) (x8 : Bool) (x9 : Bool) (x10 : Bool) (x11 : Bool) (x12 : Bool) : ∀ s, slices_Concat_byte_v_GvvvLLL_L0_1_sel x0 x1 x2 s = true → (roundG (runC E0 (cl E0) L32_0) [0, 3, 9, 10, 11] [0, 3] 5) (slices_Concat_byte_v_GvvvLLL_L0_1_enc x0 x1 x2 x3 x4 x5 x6 x7 x8 x9 x10 x11 x12 s) = some (.normal, slices_Concat_byte_v_GvvvLLL_L0_1_enc x0 x1 x2 x3 x4 x5 x6 x7 x8 x9 x10 x11 x12 (slices_Concat_byte_v_GvvvLLL_L0_1_nx x0 x1 x2 s))
  | .h0 s0, h => slices_Concat_byte_v_GvvvLLL_L0_1_h0_go x0 x1 x2 x3 x4 x5 x6 x7 x8 x9 x10 x11 x12 s0 h
  | .h1 s0, h => slices_Concat_byte_v_GvvvLLL_L0_1_h1_go x0 x1 x2 x3 x4 x5 x6 x7 x8 x9 x10 x11 x12 s0 h
  | .h2 s0, h => slices_Concat_byte_v_GvvvLLL_L0_1_h2_go x0 x1 x2 x3 x4 x5 x6 x7 x8 x9 x10 x11 x12 s0 h
  | .h3 s0, h => slices_Concat_byte_v_GvvvLLL_L0_1_h3_go x0 x1 x2 x3 x4 x5 x6 x7 x8 x9 x10 x11 x12 s0 h
theorem slices_Concat_byte_v_GvvvLLL_L0_1_f3_0 (x0 : List Int) (x1 : List Int) (x2 : List Int) (x3 : Bool) (x4 : Bool) (x5 : Bool) (x6 : Bool) (x7 : Bool) (x8 : Bool) (x9 : Bool) (x10 : Bool) (x11 : Bool) (x12 : Bool) (s : slices_Concat_byte_v_GvvvLLL_L0_1_S) (hok : slices_Concat_byte_v_GvvvLLL_L0_1_ok x0 x1 x2 s = true) (k0 : slices_Concat_byte_v_GvvvLLL_L0_1_is0 (slices_Concat_byte_v_GvvvLLL_L0_1_end x0 x1 x2 s) = false) (k1 : slices_Concat_byte_v_GvvvLLL_L0_1_is1 (slices_Concat_byte_v_GvvvLLL_L0_1_end x0 x1 x2 s) = false) (k2 : slices_Concat_byte_v_GvvvLLL_L0_1_is2 (slices_Concat_byte_v_GvvvLLL_L0_1_end x0 x1 x2 s) = false) : loopG (roundG (runC E0 (cl E0) L32_0) [0, 3, 9, 10, 11] [0, 3] 5) bound (slices_Concat_byte_v_GvvvLLL_L0_1_enc x0 x1 x2 x3 x4 x5 x6 x7 x8 x9 x10 x11 x12 s) = some ((.exit 0), ([(V.so x11 0 3), (V.d (.int .i64 (slices_Concat_byte_v_GvvvLLL_L0_1_h2_e0 x0 x1 x2)))], [(Blk.gen 37 1 [[(V.so x3 1 x0.length)], [(V.so x4 2 x1.length)], [(V.so x5 3 x2.length)]] x6), (Blk.flat 5 1 (List.map (encI .u8) x0) x7), (Blk.flat 5 1 (List.map (encI .u8) x1) x8), (Blk.flat 5 1 (List.map (encI .u8) x2) x9), (Blk.flat 5 1 [] x10)])) := by
  have e : itS (slices_Concat_byte_v_GvvvLLL_L0_1_sel x0 x1 x2) (slices_Concat_byte_v_GvvvLLL_L0_1_nx x0 x1 x2) bound s = some (slices_Concat_byte_v_GvvvLLL_L0_1_end x0 x1 x2 s) := itS_get hok
  have f := itS_false e
  have a : (slices_Concat_byte_v_GvvvLLL_L0_1_end x0 x1 x2 s) = .h3 (slices_Concat_byte_v_GvvvLLL_L0_1_get3 (slices_Concat_byte_v_GvvvLLL_L0_1_end x0 x1 x2 s)) := by
    revert k0 k1 k2
    cases (slices_Concat_byte_v_GvvvLLL_L0_1_end x0 x1 x2 s) with
    | h0 w => intros; contradiction
    | h1 w => intros; contradiction
    | h2 w => intros; contradiction
    | h3 w => intros; rfl
  have g := slices_Concat_byte_v_GvvvLLL_L0_1_h3_x0 x0 x1 x2 x3 x4 x5 x6 x7 x8 x9 x10 x11 x12 (slices_Concat_byte_v_GvvvLLL_L0_1_get3 (slices_Concat_byte_v_GvvvLLL_L0_1_end x0 x1 x2 s)) (by rw [a] at f; exact f)
  exact loop_it (slices_Concat_byte_v_GvvvLLL_L0_1_go x0 x1 x2 x3 x4 x5 x6 x7 x8 x9 x10 x11 x12) bound s _ _ _ e (fun h => by cases h) (by rw [a]; exact g)
def slices_Concat_byte_v_GvvvLLL_S1_e0 (x0 : List Int) (x1 : List Int) (x2 : List Int) : slices_Concat_byte_v_GvvvLLL_L0_1_S := slices_Concat_byte_v_GvvvLLL_L0_1_end x0 x1 x2 (.h0 ⟨⟩ : slices_Concat_byte_v_GvvvLLL_L0_1_S)
def slices_Concat_byte_v_GvvvLLL_S1_c0 (x0 : List Int) (x1 : List Int) (x2 : List Int) : Bool := (bif tb (slices_Concat_byte_v_GvvvLLL_L0_1_ok x0 x1 x2 (.h0 ⟨⟩ : slices_Concat_byte_v_GvvvLLL_L0_1_S)) then (bif tb (slices_Concat_byte_v_GvvvLLL_L0_1_is0 (slices_Concat_byte_v_GvvvLLL_S1_e0 x0 x1 x2)) then false else (bif tb (slices_Concat_byte_v_GvvvLLL_L0_1_is1 (slices_Concat_byte_v_GvvvLLL_S1_e0 x0 x1 x2)) then false else (bif tb (slices_Concat_byte_v_GvvvLLL_L0_1_is2 (slices_Concat_byte_v_GvvvLLL_S1_e0 x0 x1 x2)) then false else true))) else false)
theorem slices_Concat_byte_v_GvvvLLL_S1_t0 (x0 : List Int) (x1 : List Int) (x2 : List Int) (x3 : Bool) (x4 : Bool) (x5 : Bool) (x6 : Bool) (x7 : Bool) (x8 : Bool) (x9 : Bool) (x10 : Bool) (x11 : Bool) : slices_Concat_byte_v_GvvvLLL_S1_c0 x0 x1 x2 = true → segG (runC E0 (cl E0) S32_1) [0, 3] [] [0, 3] 5 ([(V.so x11 0 3), (V.d (.int .i64 0))], [(Blk.gen 37 1 [[(V.so x3 1 x0.length)], [(V.so x4 2 x1.length)], [(V.so x5 3 x2.length)]] x6), (Blk.flat 5 1 (List.map (encI .u8) x0) x7), (Blk.flat 5 1 (List.map (encI .u8) x1) x8), (Blk.flat 5 1 (List.map (encI .u8) x2) x9), (Blk.flat 5 1 [] x10)]) = some (.normal, ([(V.so x11 0 3), (V.d (.int .i64 (slices_Concat_byte_v_GvvvLLL_L0_1_h2_e0 x0 x1 x2)))], [(Blk.gen 37 1 [[(V.so x3 1 x0.length)], [(V.so x4 2 x1.length)], [(V.so x5 3 x2.length)]] x6), (Blk.flat 5 1 (List.map (encI .u8) x0) x7), (Blk.flat 5 1 (List.map (encI .u8) x1) x8), (Blk.flat 5 1 (List.map (encI .u8) x2) x9), (Blk.flat 5 1 [] x10)])) := by
  unfold slices_Concat_byte_v_GvvvLLL_S1_c0
  cases h1 : tb (slices_Concat_byte_v_GvvvLLL_L0_1_ok x0 x1 x2 (.h0 ⟨⟩ : slices_Concat_byte_v_GvvvLLL_L0_1_S))
  · intro g0
    exact absurd g0 ft
  · cases h2 : tb (slices_Concat_byte_v_GvvvLLL_L0_1_is0 (slices_Concat_byte_v_GvvvLLL_S1_e0 x0 x1 x2))
    · cases h3 : tb (slices_Concat_byte_v_GvvvLLL_L0_1_is1 (slices_Concat_byte_v_GvvvLLL_S1_e0 x0 x1 x2))
      · cases h4 : tb (slices_Concat_byte_v_GvvvLLL_L0_1_is2 (slices_Concat_byte_v_GvvvLLL_S1_e0 x0 x1 x2))
        · intro g0
          exact seg_walk [.l (slices_Concat_byte_v_GvvvLLL_L0_1_f3_0 x0 x1 x2 x3 x4 x5 x6 x7 x8 x9 x10 x11 x11 (.h0 ⟨⟩ : slices_Concat_byte_v_GvvvLLL_L0_1_S) (tbE h1) (tbE h2) (tbE h3) (tbE h4))] (by kernel_rfl)
        · intro g0
          exact absurd g0 ft
      · intro g0
        exact absurd g0 ft
    · intro g0
      exact absurd g0 ft
structure slices_Concat_byte_v_GvvvLLL_L2_1_s0 where mk ::
  deriving Inhabited
structure slices_Concat_byte_v_GvvvLLL_L2_1_s1 where mk ::
  deriving Inhabited
structure slices_Concat_byte_v_GvvvLLL_L2_1_s2 where mk ::
  deriving Inhabited
structure slices_Concat_byte_v_GvvvLLL_L2_1_s3 where mk ::
  deriving Inhabited
inductive slices_Concat_byte_v_GvvvLLL_L2_1_S where
  | h0 (v : slices_Concat_byte_v_GvvvLLL_L2_1_s0)
  | h1 (v : slices_Concat_byte_v_GvvvLLL_L2_1_s1)
  | h2 (v : slices_Concat_byte_v_GvvvLLL_L2_1_s2)
  | h3 (v : slices_Concat_byte_v_GvvvLLL_L2_1_s3)
  deriving Inhabited
def slices_Concat_byte_v_GvvvLLL_L2_1_is0 : slices_Concat_byte_v_GvvvLLL_L2_1_S → Bool
  | .h0 _ => true
  | _ => false
def slices_Concat_byte_v_GvvvLLL_L2_1_is1 : slices_Concat_byte_v_GvvvLLL_L2_1_S → Bool
  | .h1 _ => true
  | _ => false
def slices_Concat_byte_v_GvvvLLL_L2_1_is2 : slices_Concat_byte_v_GvvvLLL_L2_1_S → Bool
  | .h2 _ => true
  | _ => false
def slices_Concat_byte_v_GvvvLLL_L2_1_get3 : slices_Concat_byte_v_GvvvLLL_L2_1_S → slices_Concat_byte_v_GvvvLLL_L2_1_s3
  | .h3 v => v
  | _ => default
def slices_Concat_byte_v_GvvvLLL_L2_1_enc (x0 : List Int) (x1 : List Int) (x2 : List Int) (x3 : Bool) (x4 : Bool) (x5 : Bool) (x6 : Bool) (x7 : Bool) (x8 : Bool) (x9 : Bool) (x10 : Bool) (x11 : Bool) (x12 : Bool) (x13 : Bool) : slices_Concat_byte_v_GvvvLLL_L2_1_S → List V × Mem
  | .h0 s0 => ([(V.so x12 5 0), (V.so x13 0 3), (V.d (.int .i64 3)), (V.d (.int .i64 0))], [(Blk.gen 37 1 [[(V.so x3 1 x0.length)], [(V.so x4 2 x1.length)], [(V.so x5 3 x2.length)]] x6), (Blk.flat 5 1 (List.map (encI .u8) x0) x7), (Blk.flat 5 1 (List.map (encI .u8) x1) x8), (Blk.flat 5 1 (List.map (encI .u8) x2) x9), (Blk.flat 5 1 [] x10), (Blk.flat 5 1 [] false)])
  | .h1 s0 => ([(V.so (x0.isEmpty && x12) 5 x0.length), (V.so x13 0 3), (V.d (.int .i64 3)), (V.d (.int .i64 1))], [(Blk.gen 37 1 [[(V.so x3 1 x0.length)], [(V.so x4 2 x1.length)], [(V.so x5 3 x2.length)]] x6), (Blk.flat 5 1 (List.map (encI .u8) x0) x7), (Blk.flat 5 1 (List.map (encI .u8) x1) x8), (Blk.flat 5 1 (List.map (encI .u8) x2) x9), (Blk.flat 5 1 [] x10), (Blk.flat 5 1 (List.map (encI .u8) x0) false)])
  | .h2 s0 => ([(V.so (x1.isEmpty && (x0.isEmpty && x12)) 5 ((x0 ++ x1).length)), (V.so x13 0 3), (V.d (.int .i64 3)), (V.d (.int .i64 2))], [(Blk.gen 37 1 [[(V.so x3 1 x0.length)], [(V.so x4 2 x1.length)], [(V.so x5 3 x2.length)]] x6), (Blk.flat 5 1 (List.map (encI .u8) x0) x7), (Blk.flat 5 1 (List.map (encI .u8) x1) x8), (Blk.flat 5 1 (List.map (encI .u8) x2) x9), (Blk.flat 5 1 [] x10), (Blk.flat 5 1 (List.map (encI .u8) (x0 ++ x1)) false)])
  | .h3 s0 => ([(V.so (x2.isEmpty && (x1.isEmpty && (x0.isEmpty && x12))) 5 (((x0 ++ x1) ++ x2).length)), (V.so x13 0 3), (V.d (.int .i64 3)), (V.d (.int .i64 3))], [(Blk.gen 37 1 [[(V.so x3 1 x0.length)], [(V.so x4 2 x1.length)], [(V.so x5 3 x2.length)]] x6), (Blk.flat 5 1 (List.map (encI .u8) x0) x7), (Blk.flat 5 1 (List.map (encI .u8) x1) x8), (Blk.flat 5 1 (List.map (encI .u8) x2) x9), (Blk.flat 5 1 [] x10), (Blk.flat 5 1 (List.map (encI .u8) ((x0 ++ x1) ++ x2)) false)])
def slices_Concat_byte_v_GvvvLLL_L2_1_h0_sel (x0 : List Int) (x1 : List Int) (x2 : List Int) (s0 : slices_Concat_byte_v_GvvvLLL_L2_1_s0) : Bool := (bif tb (decide ((([] : List Int).length + x0.length) * 1 ≤ 140737488355328)) then true else false)
def slices_Concat_byte_v_GvvvLLL_L2_1_h0_nx (x0 : List Int) (x1 : List Int) (x2 : List Int) (s0 : slices_Concat_byte_v_GvvvLLL_L2_1_s0) : slices_Concat_byte_v_GvvvLLL_L2_1_S := .h1 ⟨⟩
def slices_Concat_byte_v_GvvvLLL_L2_1_h1_sel (x0 : List Int) (x1 : List Int) (x2 : List Int) (s0 : slices_Concat_byte_v_GvvvLLL_L2_1_s1) : Bool := (bif tb (decide ((x0.length + x1.length) * 1 ≤ 140737488355328)) then true else false)
def slices_Concat_byte_v_GvvvLLL_L2_1_h1_nx (x0 : List Int) (x1 : List Int) (x2 : List Int) (s0 : slices_Concat_byte_v_GvvvLLL_L2_1_s1) : slices_Concat_byte_v_GvvvLLL_L2_1_S := .h2 ⟨⟩
def slices_Concat_byte_v_GvvvLLL_L2_1_h2_sel (x0 : List Int) (x1 : List Int) (x2 : List Int) (s0 : slices_Concat_byte_v_GvvvLLL_L2_1_s2) : Bool := (bif tb (decide (((x0 ++ x1).length + x2.length) * 1 ≤ 140737488355328)) then true else false)
def slices_Concat_byte_v_GvvvLLL_L2_1_h2_nx (x0 : List Int) (x1 : List Int) (x2 : List Int) (s0 : slices_Concat_byte_v_GvvvLLL_L2_1_s2) : slices_Concat_byte_v_GvvvLLL_L2_1_S := .h3 ⟨⟩
def slices_Concat_byte_v_GvvvLLL_L2_1_h3_sel (x0 : List Int) (x1 : List Int) (x2 : List Int) (s0 : slices_Concat_byte_v_GvvvLLL_L2_1_s3) : Bool := false
def slices_Concat_byte_v_GvvvLLL_L2_1_h3_nx (x0 : List Int) (x1 : List Int) (x2 : List Int) (s0 : slices_Concat_byte_v_GvvvLLL_L2_1_s3) : slices_Concat_byte_v_GvvvLLL_L2_1_S := default
def slices_Concat_byte_v_GvvvLLL_L2_1_sel (x0 : List Int) (x1 : List Int) (x2 : List Int) : slices_Concat_byte_v_GvvvLLL_L2_1_S → Bool
  | .h0 v => slices_Concat_byte_v_GvvvLLL_L2_1_h0_sel x0 x1 x2 v
  | .h1 v => slices_Concat_byte_v_GvvvLLL_L2_1_h1_sel x0 x1 x2 v
  | .h2 v => slices_Concat_byte_v_GvvvLLL_L2_1_h2_sel x0 x1 x2 v
  | .h3 v => slices_Concat_byte_v_GvvvLLL_L2_1_h3_sel x0 x1 x2 v
def slices_Concat_byte_v_GvvvLLL_L2_1_nx (x0 : List Int) (x1 : List Int) (x2 : List Int) : slices_Concat_byte_v_GvvvLLL_L2_1_S → slices_Concat_byte_v_GvvvLLL_L2_1_S
  | .h0 v => slices_Concat_byte_v_GvvvLLL_L2_1_h0_nx x0 x1 x2 v
  | .h1 v => slices_Concat_byte_v_GvvvLLL_L2_1_h1_nx x0 x1 x2 v
  | .h2 v => slices_Concat_byte_v_GvvvLLL_L2_1_h2_nx x0 x1 x2 v
  | .h3 v => slices_Concat_byte_v_GvvvLLL_L2_1_h3_nx x0 x1 x2 v
def slices_Concat_byte_v_GvvvLLL_L2_1_ok (x0 : List Int) (x1 : List Int) (x2 : List Int) (s0 : slices_Concat_byte_v_GvvvLLL_L2_1_S) : Bool := (itS (slices_Concat_byte_v_GvvvLLL_L2_1_sel x0 x1 x2) (slices_Concat_byte_v_GvvvLLL_L2_1_nx x0 x1 x2) bound s0).isSome
def slices_Concat_byte_v_GvvvLLL_L2_1_end (x0 : List Int) (x1 : List Int) (x2 : List Int) (s0 : slices_Concat_byte_v_GvvvLLL_L2_1_S) : slices_Concat_byte_v_GvvvLLL_L2_1_S := (itS (slices_Concat_byte_v_GvvvLLL_L2_1_sel x0 x1 x2) (slices_Concat_byte_v_GvvvLLL_L2_1_nx x0 x1 x2) bound s0).getD default
theorem slices_Concat_byte_v_GvvvLLL_L2_1_h0_go (x0 : List Int) (x1 : List Int) (x2 : List Int) (x3 : Bool) (x4 : Bool) (x5 : Bool) (x6 : Bool) (x7 : Bool) (x8 : Bool) (x9 : Bool) (x10 : Bool) (x11 : Bool) (x12 : Bool) (x13 : Bool) (s0 : slices_Concat_byte_v_GvvvLLL_L2_1_s0) : slices_Concat_byte_v_GvvvLLL_L2_1_h0_sel x0 x1 x2 s0 = true → (roundG (runC E0 (cl E0) L32_2) [6, 25, 26, 27] [6] 6) (slices_Concat_byte_v_GvvvLLL_L2_1_enc x0 x1 x2 x3 x4 x5 x6 x7 x8 x9 x10 x11 x12 x13 (.h0 s0)) = some (.normal, slices_Concat_byte_v_GvvvLLL_L2_1_enc x0 x1 x2 x3 x4 x5 x6 x7 x8 x9 x10 x11 x12 x13 (slices_Concat_byte_v_GvvvLLL_L2_1_h0_nx x0 x1 x2 s0)) := by
  unfold slices_Concat_byte_v_GvvvLLL_L2_1_h0_sel slices_Concat_byte_v_GvvvLLL_L2_1_h0_nx
  cases h1 : tb (decide ((([] : List Int).length + x0.length) * 1 ≤ 140737488355328))
  · intro g0
    exact absurd g0 ft
  · intro _
    exact round_walk [.k true, .m 33 (o_app_so (nl := x12) (m := [(Blk.gen 37 1 [[(V.so x3 1 x0.length)], [(V.so x4 2 x1.length)], [(V.so x5 3 x2.length)]] x6), (Blk.flat 5 1 (List.map (encI .u8) x0) x7), (Blk.flat 5 1 (List.map (encI .u8) x1) x8), (Blk.flat 5 1 (List.map (encI .u8) x2) x9), (Blk.flat 5 1 [] x10), (Blk.flat 5 1 [] false)]) (enc := (encI .u8)) (l0 := ([] : List Int)) (l1 := x0) (id := 5) (e := 5) (s := 1) (bytes := 1) (x := (V.so x3 1 x0.length)) (n := 0) (by kernel_rfl) (by kernel_rfl) (flatRowsOf_so' (b := x3) (e := 5) (s := 1) (p := x7) (Nat.beq_refl _) (by kernel_rfl)) (by kernel_rfl) (tbE h1))] (by kernel_rfl)
theorem slices_Concat_byte_v_GvvvLLL_L2_1_h1_go (x0 : List Int) (x1 : List Int) (x2 : List Int) (x3 : Bool) (x4 : Bool) (x5 : Bool) (x6 : Bool) (x7 : Bool) (x8 : Bool) (x9 : Bool) (x10 : Bool) (x11 : Bool) (x12 : Bool) (x13 : Bool) (s0 : slices_Concat_byte_v_GvvvLLL_L2_1_s1) : slices_Concat_byte_v_GvvvLLL_L2_1_h1_sel x0 x1 x2 s0 = true → (roundG (runC E0 (cl E0) L32_2) [6, 25, 26, 27] [6] 6) (slices_Concat_byte_v_GvvvLLL_L2_1_enc x0 x1 x2 x3 x4 x5 x6 x7 x8 x9 x10 x11 x12 x13 (.h1 s0)) = some (.normal, slices_Concat_byte_v_GvvvLLL_L2_1_enc x0 x1 x2 x3 x4 x5 x6 x7 x8 x9 x10 x11 x12 x13 (slices_Concat_byte_v_GvvvLLL_L2_1_h1_nx x0 x1 x2 s0)) := by
  unfold slices_Concat_byte_v_GvvvLLL_L2_1_h1_sel slices_Concat_byte_v_GvvvLLL_L2_1_h1_nx
  cases h1 : tb (decide ((x0.length + x1.length) * 1 ≤ 140737488355328))
  · intro g0
    exact absurd g0 ft
  · intro _
    exact round_walk [.k true, .m 33 (o_app_so (nl := (x0.isEmpty && x12)) (m := [(Blk.gen 37 1 [[(V.so x3 1 x0.length)], [(V.so x4 2 x1.length)], [(V.so x5 3 x2.length)]] x6), (Blk.flat 5 1 (List.map (encI .u8) x0) x7), (Blk.flat 5 1 (List.map (encI .u8) x1) x8), (Blk.flat 5 1 (List.map (encI .u8) x2) x9), (Blk.flat 5 1 [] x10), (Blk.flat 5 1 (List.map (encI .u8) x0) false)]) (enc := (encI .u8)) (l0 := x0) (l1 := x1) (id := 5) (e := 5) (s := 1) (bytes := 1) (x := (V.so x4 2 x1.length)) (n := x0.length) (Nat.beq_refl _) (by kernel_rfl) (flatRowsOf_so' (b := x4) (e := 5) (s := 1) (p := x8) (Nat.beq_refl _) (by kernel_rfl)) (by kernel_rfl) (tbE h1))] (by kernel_rfl)
theorem slices_Concat_byte_v_GvvvLLL_L2_1_h2_go (x0 : List Int) (x1 : List Int) (x2 : List Int) (x3 : Bool) (x4 : Bool) (x5 : Bool) (x6 : Bool) (x7 : Bool) (x8 : Bool) (x9 : Bool) (x10 : Bool) (x11 : Bool) (x12 : Bool) (x13 : Bool) (s0 : slices_Concat_byte_v_GvvvLLL_L2_1_s2) : slices_Concat_byte_v_GvvvLLL_L2_1_h2_sel x0 x1 x2 s0 = true → (roundG (runC E0 (cl E0) L32_2) [6, 25, 26, 27] [6] 6) (slices_Concat_byte_v_GvvvLLL_L2_1_enc x0 x1 x2 x3 x4 x5 x6 x7 x8 x9 x10 x11 x12 x13 (.h2 s0)) = some (.normal, slices_Concat_byte_v_GvvvLLL_L2_1_enc x0 x1 x2 x3 x4 x5 x6 x7 x8 x9 x10 x11 x12 x13 (slices_Concat_byte_v_GvvvLLL_L2_1_h2_nx x0 x1 x2 s0)) := by
  unfold slices_Concat_byte_v_GvvvLLL_L2_1_h2_sel slices_Concat_byte_v_GvvvLLL_L2_1_h2_nx
  cases h1 : tb (decide (((x0 ++ x1).length + x2.length) * 1 ≤ 140737488355328))
  · intro g0
    exact absurd g0 ft
  · intro _
    exact round_walk [.k true, .m 33 (o_app_so (nl := (x1.isEmpty && (x0.isEmpty && x12))) (m := [(Blk.gen 37 1 [[(V.so x3 1 x0.length)], [(V.so x4 2 x1.length)], [(V.so x5 3 x2.length)]] x6), (Blk.flat 5 1 (List.map (encI .u8) x0) x7), (Blk.flat 5 1 (List.map (encI .u8) x1) x8), (Blk.flat 5 1 (List.map (encI .u8) x2) x9), (Blk.flat 5 1 [] x10), (Blk.flat 5 1 (List.map (encI .u8) (x0 ++ x1)) false)]) (enc := (encI .u8)) (l0 := (x0 ++ x1)) (l1 := x2) (id := 5) (e := 5) (s := 1) (bytes := 1) (x := (V.so x5 3 x2.length)) (n := ((x0 ++ x1).length)) (Nat.beq_refl _) (by kernel_rfl) (flatRowsOf_so' (b := x5) (e := 5) (s := 1) (p := x9) (Nat.beq_refl _) (by kernel_rfl)) (by kernel_rfl) (tbE h1))] (by kernel_rfl)
theorem slices_Concat_byte_v_GvvvLLL_L2_1_h3_go (x0 : List Int) (x1 : List Int) (x2 : List Int) (x3 : Bool) (x4 : Bool) (x5 : Bool) (x6 : Bool) (x7 : Bool) (x8 : Bool) (x9 : Bool) (x10 : Bool) (x11 : Bool) (x12 : Bool) (x13 : Bool) (s0 : slices_Concat_byte_v_GvvvLLL_L2_1_s3) : slices_Concat_byte_v_GvvvLLL_L2_1_h3_sel x0 x1 x2 s0 = true → (roundG (runC E0 (cl E0) L32_2) [6, 25, 26, 27] [6] 6) (slices_Concat_byte_v_GvvvLLL_L2_1_enc x0 x1 x2 x3 x4 x5 x6 x7 x8 x9 x10 x11 x12 x13 (.h3 s0)) = some (.normal, slices_Concat_byte_v_GvvvLLL_L2_1_enc x0 x1 x2 x3 x4 x5 x6 x7 x8 x9 x10 x11 x12 x13 (slices_Concat_byte_v_GvvvLLL_L2_1_h3_nx x0 x1 x2 s0)) := by
  unfold slices_Concat_byte_v_GvvvLLL_L2_1_h3_sel slices_Concat_byte_v_GvvvLLL_L2_1_h3_nx
  intro g0
  exact absurd g0 ft
theorem slices_Concat_byte_v_GvvvLLL_L2_1_h3_x0 (x0 : List Int) (x1 : List Int) (x2 : List Int) (x3 : Bool) (x4 : Bool) (x5 : Bool) (x6 : Bool) (x7 : Bool) (x8 : Bool) (x9 : Bool) (x10 : Bool) (x11 : Bool) (x12 : Bool) (x13 : Bool) (s0 : slices_Concat_byte_v_GvvvLLL_L2_1_s3) : slices_Concat_byte_v_GvvvLLL_L2_1_h3_sel x0 x1 x2 s0 = false → (roundG (runC E0 (cl E0) L32_2) [6, 25, 26, 27] [6] 6) (slices_Concat_byte_v_GvvvLLL_L2_1_enc x0 x1 x2 x3 x4 x5 x6 x7 x8 x9 x10 x11 x12 x13 (.h3 s0)) = some ((.exit 2), ([(V.so (x2.isEmpty && (x1.isEmpty && (x0.isEmpty && x12))) 5 (((x0 ++ x1) ++ x2).length))], [(Blk.gen 37 1 [[(V.so x3 1 x0.length)], [(V.so x4 2 x1.length)], [(V.so x5 3 x2.length)]] x6), (Blk.flat 5 1 (List.map (encI .u8) x0) x7), (Blk.flat 5 1 (List.map (encI .u8) x1) x8), (Blk.flat 5 1 (List.map (encI .u8) x2) x9), (Blk.flat 5 1 [] x10), (Blk.flat 5 1 (List.map (encI .u8) ((x0 ++ x1) ++ x2)) false)])) := by
  unfold slices_Concat_byte_v_GvvvLLL_L2_1_h3_sel
  intro g0
  exact round_walk [.k false] (by kernel_rfl)
theorem slices_Concat_byte_v_GvvvLLL_L2_1_go (x0 : List Int) (x1 : List Int) (x2 : List Int) (x3 : Bool) (x4 : Bool) (x5 : Bool) (x6 : Bool) (x7 : Bool) (x8 : Bool) (x9 : Bool) (x10 : Bool) (x11 : Bool) (x12 : Bool) (x13 : Bool) : ∀ s, slices_Concat_byte_v_GvvvLLL_L2_1_sel x0 x1 x2 s = true → (roundG (runC E0 (cl E0) L32_2) [6, 25, 26, 27] [6] 6) (slices_Concat_byte_v_GvvvLLL_L2_1_enc x0 x1 x2 x3 x4 x5 x6 x7 x8 x9 x10 x11 x12 x13 s) = some (.normal, slices_Concat_byte_v_GvvvLLL_L2_1_enc x0 x1 x2 x3 x4 x5 x6 x7 x8 x9 x10 x11 x12 x13 (slices_Concat_byte_v_GvvvLLL_L2_1_nx x0 x1 x2 s))
  | .h0 s0, h => slices_Concat_byte_v_GvvvLLL_L2_1_h0_go x0 x1 x2 x3 x4 x5 x6 x7 x8 x9 x10 x11 x12 x13 s0 h
  | .h1 s0, h => slices_Concat_byte_v_GvvvLLL_L2_1_h1_go x0 x1 x2 x3 x4 x5 x6 x7 x8 x9 x10 x11 x12 x13 s0 h
  | .h2 s0, h => slices_Concat_byte_v_GvvvLLL_L2_1_h2_go x0 x1 x2 x3 x4 x5 x6 x7 x8 x9 x10 x11 x12 x13 s0 h
  | .h3 s0, h => slices_Concat_byte_v_GvvvLLL_L2_1_h3_go x0 x1 x2 x3 x4 x5 x6 x7 x8 x9 x10 x11 x12 x13 s0 h
theorem slices_Concat_byte_v_GvvvLLL_L2_1_f3_0 (x0 : List Int) (x1 : List Int) (x2 : List Int) (x3 : Bool) (x4 : Bool) (x5 : Bool) (x6 : Bool) (x7 : Bool) (x8 : Bool) (x9 : Bool) (x10 : Bool) (x11 : Bool) (x12 : Bool) (x13 : Bool) (s : slices_Concat_byte_v_GvvvLLL_L2_1_S) (hok : slices_Concat_byte_v_GvvvLLL_L2_1_ok x0 x1 x2 s = true) (k0 : slices_Concat_byte_v_GvvvLLL_L2_1_is0 (slices_Concat_byte_v_GvvvLLL_L2_1_end x0 x1 x2 s) = false) (k1 : slices_Concat_byte_v_GvvvLLL_L2_1_is1 (slices_Concat_byte_v_GvvvLLL_L2_1_end x0 x1 x2 s) = false) (k2 : slices_Concat_byte_v_GvvvLLL_L2_1_is2 (slices_Concat_byte_v_GvvvLLL_L2_1_end x0 x1 x2 s) = false) : loopG (roundG (runC E0 (cl E0) L32_2) [6, 25, 26, 27] [6] 6) bound (slices_Concat_byte_v_GvvvLLL_L2_1_enc x0 x1 x2 x3 x4 x5 x6 x7 x8 x9 x10 x11 x12 x13 s) = some ((.exit 2), ([(V.so (x2.isEmpty && (x1.isEmpty && (x0.isEmpty && x12))) 5 (((x0 ++ x1) ++ x2).length))], [(Blk.gen 37 1 [[(V.so x3 1 x0.length)], [(V.so x4 2 x1.length)], [(V.so x5 3 x2.length)]] x6), (Blk.flat 5 1 (List.map (encI .u8) x0) x7), (Blk.flat 5 1 (List.map (encI .u8) x1) x8), (Blk.flat 5 1 (List.map (encI .u8) x2) x9), (Blk.flat 5 1 [] x10), (Blk.flat 5 1 (List.map (encI .u8) ((x0 ++ x1) ++ x2)) false)])) := by
  have e : itS (slices_Concat_byte_v_GvvvLLL_L2_1_sel x0 x1 x2) (slices_Concat_byte_v_GvvvLLL_L2_1_nx x0 x1 x2) bound s = some (slices_Concat_byte_v_GvvvLLL_L2_1_end x0 x1 x2 s) := itS_get hok
  have f := itS_false e
  have a : (slices_Concat_byte_v_GvvvLLL_L2_1_end x0 x1 x2 s) = .h3 (slices_Concat_byte_v_GvvvLLL_L2_1_get3 (slices_Concat_byte_v_GvvvLLL_L2_1_end x0 x1 x2 s)) := by
    revert k0 k1 k2
    cases (slices_Concat_byte_v_GvvvLLL_L2_1_end x0 x1 x2 s) with
    | h0 w => intros; contradiction
    | h1 w => intros; contradiction
    | h2 w => intros; contradiction
    | h3 w => intros; rfl
  have g := slices_Concat_byte_v_GvvvLLL_L2_1_h3_x0 x0 x1 x2 x3 x4 x5 x6 x7 x8 x9 x10 x11 x12 x13 (slices_Concat_byte_v_GvvvLLL_L2_1_get3 (slices_Concat_byte_v_GvvvLLL_L2_1_end x0 x1 x2 s)) (by rw [a] at f; exact f)
  exact loop_it (slices_Concat_byte_v_GvvvLLL_L2_1_go x0 x1 x2 x3 x4 x5 x6 x7 x8 x9 x10 x11 x12 x13) bound s _ _ _ e (fun h => by cases h) (by rw [a]; exact g)
def slices_Concat_byte_v_GvvvLLL_e0 (x0 : List Int) (x1 : List Int) (x2 : List Int) : Bool := (Nat.beq ((slices_Concat_byte_v_GvvvLLL_L0_1_h2_e0 x0 x1 x2) : Int).toNat 0)
def slices_Concat_byte_v_GvvvLLL_e1 (x0 : List Int) (x1 : List Int) (x2 : List Int) : slices_Concat_byte_v_GvvvLLL_L2_1_S := slices_Concat_byte_v_GvvvLLL_L2_1_end x0 x1 x2 (.h0 ⟨⟩ : slices_Concat_byte_v_GvvvLLL_L2_1_S)
def slices_Concat_byte_v_GvvvLLL_c0 (x0 : List Int) (x1 : List Int) (x2 : List Int) : Bool := (bif tb (slices_Concat_byte_v_GvvvLLL_S1_c0 x0 x1 x2) then (bif tb (slices_Grow_byte_ni_c0 (slices_Concat_byte_v_GvvvLLL_L0_1_h2_e0 x0 x1 x2)) then (bif tb (slices_Concat_byte_v_GvvvLLL_L2_1_ok x0 x1 x2 (.h0 ⟨⟩ : slices_Concat_byte_v_GvvvLLL_L2_1_S)) then (bif tb (slices_Concat_byte_v_GvvvLLL_L2_1_is0 (slices_Concat_byte_v_GvvvLLL_e1 x0 x1 x2)) then false else (bif tb (slices_Concat_byte_v_GvvvLLL_L2_1_is1 (slices_Concat_byte_v_GvvvLLL_e1 x0 x1 x2)) then false else (bif tb (slices_Concat_byte_v_GvvvLLL_L2_1_is2 (slices_Concat_byte_v_GvvvLLL_e1 x0 x1 x2)) then false else true))) else false) else false) else false)
theorem slices_Concat_byte_v_GvvvLLL_t0 (x0 : List Int) (x1 : List Int) (x2 : List Int) (x3 : Bool) (x4 : Bool) (x5 : Bool) (x6 : Bool) (x7 : Bool) (x8 : Bool) (x9 : Bool) (x10 : Bool) : slices_Concat_byte_v_GvvvLLL_c0 x0 x1 x2 = true → cl E0 32 [(V.so x10 0 3)] [(Blk.gen 37 1 [[(V.so x3 1 x0.length)], [(V.so x4 2 x1.length)], [(V.so x5 3 x2.length)]] x6), (Blk.flat 5 1 (List.map (encI .u8) x0) x7), (Blk.flat 5 1 (List.map (encI .u8) x1) x8), (Blk.flat 5 1 (List.map (encI .u8) x2) x9)] = some ([(V.so (x2.isEmpty && (x1.isEmpty && (x0.isEmpty && (slices_Concat_byte_v_GvvvLLL_e0 x0 x1 x2)))) 4 (((x0 ++ x1) ++ x2).length))], [(Blk.gen 37 1 [[(V.so x3 1 x0.length)], [(V.so x4 2 x1.length)], [(V.so x5 3 x2.length)]] x6), (Blk.flat 5 1 (List.map (encI .u8) x0) x7), (Blk.flat 5 1 (List.map (encI .u8) x1) x8), (Blk.flat 5 1 (List.map (encI .u8) x2) x9), (Blk.flat 5 1 (List.map (encI .u8) ((x0 ++ x1) ++ x2)) false)]) := by
  unfold slices_Concat_byte_v_GvvvLLL_c0
  cases h1 : tb (slices_Concat_byte_v_GvvvLLL_S1_c0 x0 x1 x2)
  · intro g0
    exact absurd g0 ft
  · cases h2 : tb (slices_Grow_byte_ni_c0 (slices_Concat_byte_v_GvvvLLL_L0_1_h2_e0 x0 x1 x2))
    · intro g0
      exact absurd g0 ft
    · cases h3 : tb (slices_Concat_byte_v_GvvvLLL_L2_1_ok x0 x1 x2 (.h0 ⟨⟩ : slices_Concat_byte_v_GvvvLLL_L2_1_S))
      · intro g0
        exact absurd g0 ft
      · cases h4 : tb (slices_Concat_byte_v_GvvvLLL_L2_1_is0 (slices_Concat_byte_v_GvvvLLL_e1 x0 x1 x2))
        · cases h5 : tb (slices_Concat_byte_v_GvvvLLL_L2_1_is1 (slices_Concat_byte_v_GvvvLLL_e1 x0 x1 x2))
          · cases h6 : tb (slices_Concat_byte_v_GvvvLLL_L2_1_is2 (slices_Concat_byte_v_GvvvLLL_e1 x0 x1 x2))
            · intro g0
              exact w32 [.s (slices_Concat_byte_v_GvvvLLL_S1_t0 x0 x1 x2 x3 x4 x5 x6 x7 x8 x9 false x10 (tbE h1)), .c (slices_Grow_byte_ni_t0 (slices_Concat_byte_v_GvvvLLL_L0_1_h2_e0 x0 x1 x2) (tbE h2)), .l (slices_Concat_byte_v_GvvvLLL_L2_1_f3_0 x0 x1 x2 x3 x4 x5 x6 x7 x8 x9 false false (slices_Concat_byte_v_GvvvLLL_e0 x0 x1 x2) x10 (.h0 ⟨⟩ : slices_Concat_byte_v_GvvvLLL_L2_1_S) (tbE h3) (tbE h4) (tbE h5) (tbE h6))] (by kernel_rfl)
            · intro g0
              exact absurd g0 ft
          · intro g0
            exact absurd g0 ft
        · intro g0
          exact absurd g0 ft
end Go.Proofs.Ytkipngagfiaddaa.Den

namespace Go.Proofs.Ytkipngagfiaddaa.Den
open Go Go.Proofs
set_option maxRecDepth 100000
set_option maxHeartbeats 4000000
set_option linter.unusedVariables false
set_option linter.unusedSimpArgs false
def crc_More_io_S0_c0 (x0 : Int) : Bool := (bif tb (decide (x0 < 0)) then true else (bif tb (decide (65535 < x0)) then true else false))
theorem crc_More_io_S0_t0 (x0 : Int) (x1 : Bool) (x2 : Bool) (x3 : List Int) : crc_More_io_S0_c0 x0 = true → segG (runC E0 (cl E0) S73_0) [1, 2] [4] [1, 2] 1 ([(V.d (slD (encI .u8) true 1 x2 x3)), (V.ptr 0 1 0 0)], [(Blk.flat 3 1 [[(.int .i64 x0)]] x1)]) = some (.ret, ([(V.d (.int .i64 0))], [(Blk.flat 3 1 [[(.int .i64 x0)]] x1)])) := by
  unfold crc_More_io_S0_c0
  cases h1 : tb (decide (x0 < 0))
  · cases h2 : tb (decide (65535 < x0))
    · intro g0
      exact absurd g0 ft
    · intro g0
      exact seg_walk [.b (tbE h1), .b (tbE h2)] (by kernel_rfl)
  · intro g0
    exact seg_walk [.b (tbE h1)] (by kernel_rfl)
theorem crc_More_io_S0_t1 (x0 : Int) (x1 : Bool) (x2 : Bool) (x3 : List Int) : crc_More_io_S0_c0 x0 = false → segG (runC E0 (cl E0) S73_0) [1, 2] [4] [1, 2] 1 ([(V.d (slD (encI .u8) true 1 x2 x3)), (V.ptr 0 1 0 0)], [(Blk.flat 3 1 [[(.int .i64 x0)]] x1)]) = some (.normal, ([(V.d (slD (encI .u8) true 1 x2 x3)), (V.ptr 0 1 0 0)], [(Blk.flat 3 1 [[(.int .i64 x0)]] x1)])) := by
  unfold crc_More_io_S0_c0
  cases h1 : tb (decide (x0 < 0))
  · cases h2 : tb (decide (65535 < x0))
    · intro g0
      exact seg_walk [.b (tbE h1), .b (tbE h2)] (by kernel_rfl)
    · intro g0
      exact absurd g0 tf
  · intro g0
    exact absurd g0 tf
def crc_More_c1_p_Fi_r0_0 (x0 : Int) : Int := (bif tb (((andI .i64 x0 32768) : Int) != 0) then (xorI .i64 (andI .i64 (shlI .i64 x0 1) 65535) 4129) else (andI .i64 (shlI .i64 x0 1) 65535))
theorem crc_More_c1_p_Fi_t0 (x0 : Int) : cl E0 77 [(V.ptr 0 1 0 0)] [(Blk.flat 3 1 [[(.int .i64 x0)]] false)] = some ([], [(Blk.flat 3 1 [[(.int .i64 (crc_More_c1_p_Fi_r0_0 x0))]] false)]) := by
  unfold crc_More_c1_p_Fi_r0_0
  cases h1 : tb (((andI .i64 x0 32768) : Int) != 0)
  · exact w77 [.o 6 (fun _ => o_shl (k := .i64) (k2 := .u64) (x := x0) (y := 1) rfl), .b (tbE h1)] (by kernel_rfl)
  · exact w77 [.o 6 (fun _ => o_shl (k := .i64) (k2 := .u64) (x := x0) (y := 1) rfl), .b (tbE h1)] (by kernel_rfl)
structure crc_More_io_L1_s0 where
  c4 : Int
  c5 : Int
  deriving Inhabited
def crc_More_io_L1_enc (x0 : Int) (x1 : Bool) (x2 : Bool) (x3 : List Int) (x4 : Int) (x5 : Int) (x6 : Int) (s0 : crc_More_io_L1_s0) : List V × Mem := ([(V.ptr 0 1 0 0), (V.fn (.func 77) [] [(V.ptr 0 1 0 0)]), (V.d (slD (encI .u8) true 1 x2 x3)), (V.d (.int .i64 x4)), (V.d (.int .i64 x5)), (V.d (.int .i64 s0.c4))], [(Blk.flat 3 1 [[(.int .i64 s0.c5)]] false)])
def crc_More_io_L1_sel  (s0 : crc_More_io_L1_s0) : Bool := (bif tb (decide (s0.c4 < 8)) then true else false)
def crc_More_io_L1_nx  (s0 : crc_More_io_L1_s0) : crc_More_io_L1_s0 := ⟨(wi (s0.c4 + 1)), (crc_More_c1_p_Fi_r0_0 s0.c5)⟩
def crc_More_io_L1_ok  (s0 : crc_More_io_L1_s0) : Bool := (itS (crc_More_io_L1_sel ) (crc_More_io_L1_nx ) bound s0).isSome
def crc_More_io_L1_end  (s0 : crc_More_io_L1_s0) : crc_More_io_L1_s0 := (itS (crc_More_io_L1_sel ) (crc_More_io_L1_nx ) bound s0).getD default
theorem crc_More_io_L1_go (x0 : Int) (x1 : Bool) (x2 : Bool) (x3 : List Int) (x4 : Int) (x5 : Int) (x6 : Int) (s0 : crc_More_io_L1_s0) : crc_More_io_L1_sel  s0 = true → (roundG (runC E0 (cl E0) L73_1) [2, 5, 15, 16, 17, 26] [2, 5, 15, 16, 17] 1) (crc_More_io_L1_enc x0 x1 x2 x3 x4 x5 x6 s0) = some (.normal, crc_More_io_L1_enc x0 x1 x2 x3 x4 x5 x6 (crc_More_io_L1_nx  s0)) := by
  unfold crc_More_io_L1_sel crc_More_io_L1_nx
  cases h1 : tb (decide (s0.c4 < 8))
  · intro g0
    exact absurd g0 ft
  · intro _
    exact round_walk [.b (tbE h1), .c (crc_More_c1_p_Fi_t0 s0.c5)] (by kernel_rfl)
theorem crc_More_io_L1_x0 (x0 : Int) (x1 : Bool) (x2 : Bool) (x3 : List Int) (x4 : Int) (x5 : Int) (x6 : Int) (s0 : crc_More_io_L1_s0) : crc_More_io_L1_sel  s0 = false → (roundG (runC E0 (cl E0) L73_1) [2, 5, 15, 16, 17, 26] [2, 5, 15, 16, 17] 1) (crc_More_io_L1_enc x0 x1 x2 x3 x4 x5 x6 s0) = some ((.exit 2), ([(V.ptr 0 1 0 0), (V.fn (.func 77) [] [(V.ptr 0 1 0 0)]), (V.d (slD (encI .u8) true 1 x2 x3)), (V.d (.int .i64 x4)), (V.d (.int .i64 x5))], [(Blk.flat 3 1 [[(.int .i64 s0.c5)]] false)])) := by
  unfold crc_More_io_L1_sel
  cases h1 : tb (decide (s0.c4 < 8))
  · intro g0
    exact round_walk [.b (tbE h1)] (by kernel_rfl)
  · intro g0
    exact absurd g0 tf
theorem crc_More_io_L1_f0_0 (x0 : Int) (x1 : Bool) (x2 : Bool) (x3 : List Int) (x4 : Int) (x5 : Int) (x6 : Int) (s : crc_More_io_L1_s0) (hok : crc_More_io_L1_ok  s = true) : loopG (roundG (runC E0 (cl E0) L73_1) [2, 5, 15, 16, 17, 26] [2, 5, 15, 16, 17] 1) bound (crc_More_io_L1_enc x0 x1 x2 x3 x4 x5 x6 s) = some ((.exit 2), ([(V.ptr 0 1 0 0), (V.fn (.func 77) [] [(V.ptr 0 1 0 0)]), (V.d (slD (encI .u8) true 1 x2 x3)), (V.d (.int .i64 x4)), (V.d (.int .i64 x5))], [(Blk.flat 3 1 [[(.int .i64 ((crc_More_io_L1_end  s).c5))]] false)])) := by
  have e : itS (crc_More_io_L1_sel ) (crc_More_io_L1_nx ) bound s = some (crc_More_io_L1_end  s) := itS_get hok
  have f := itS_false e
  exact loop_it (crc_More_io_L1_go x0 x1 x2 x3 x4 x5 x6) bound s _ _ _ e (fun h => by cases h) (crc_More_io_L1_x0 x0 x1 x2 x3 x4 x5 x6 (crc_More_io_L1_end  s) f )
structure crc_More_io_L2_s0 where
  c3 : Int
  c4 : Int
  deriving Inhabited
def crc_More_io_L2_h0_e0 (x3 : List Int) (s0 : crc_More_io_L2_s0) : crc_More_io_L1_s0 := crc_More_io_L1_end  (⟨0, (xorI .i64 s0.c4 (shlI .i64 (wi (gt x3 s0.c3)) 8))⟩ : crc_More_io_L1_s0)
def crc_More_io_L2_enc (x0 : Int) (x1 : Bool) (x2 : Bool) (x3 : List Int) (x4 : Int) (x5 : Int) (s0 : crc_More_io_L2_s0) : List V × Mem := ([(V.ptr 0 1 0 0), (V.fn (.func 77) [] [(V.ptr 0 1 0 0)]), (V.d (slD (encI .u8) true 1 x2 x3)), (V.d (.int .i64 x4)), (V.d (.int .i64 s0.c3))], [(Blk.flat 3 1 [[(.int .i64 s0.c4)]] false)])
def crc_More_io_L2_sel (x3 : List Int) (x4 : Int) (s0 : crc_More_io_L2_s0) : Bool := (bif tb (decide (s0.c3 < x4)) then (bif tb (inb x3.length s0.c3) then (bif tb (crc_More_io_L1_ok  (⟨0, (xorI .i64 s0.c4 (shlI .i64 (wi (gt x3 s0.c3)) 8))⟩ : crc_More_io_L1_s0)) then true else false) else false) else false)
def crc_More_io_L2_nx (x3 : List Int) (x4 : Int) (s0 : crc_More_io_L2_s0) : crc_More_io_L2_s0 := ⟨(wi (s0.c3 + 1)), ((crc_More_io_L2_h0_e0 x3 s0).c5)⟩
def crc_More_io_L2_ok (x3 : List Int) (x4 : Int) (s0 : crc_More_io_L2_s0) : Bool := (itS (crc_More_io_L2_sel x3 x4) (crc_More_io_L2_nx x3 x4) bound s0).isSome
def crc_More_io_L2_end (x3 : List Int) (x4 : Int) (s0 : crc_More_io_L2_s0) : crc_More_io_L2_s0 := (itS (crc_More_io_L2_sel x3 x4) (crc_More_io_L2_nx x3 x4) bound s0).getD default
theorem crc_More_io_L2_go (x0 : Int) (x1 : Bool) (x2 : Bool) (x3 : List Int) (x4 : Int) (x5 : Int) (s0 : crc_More_io_L2_s0) : crc_More_io_L2_sel x3 x4 s0 = true → (roundG (runC E0 (cl E0) L73_2) [2, 5, 15, 16, 17] [2] 1) (crc_More_io_L2_enc x0 x1 x2 x3 x4 x5 s0) = some (.normal, crc_More_io_L2_enc x0 x1 x2 x3 x4 x5 (crc_More_io_L2_nx x3 x4 s0)) := by
  unfold crc_More_io_L2_sel crc_More_io_L2_nx
  cases h1 : tb (decide (s0.c3 < x4))
  · intro g0
    exact absurd g0 ft
  · cases h2 : tb (inb x3.length s0.c3)
    · intro g0
      exact absurd g0 ft
    · cases h3 : tb (crc_More_io_L1_ok  (⟨0, (xorI .i64 s0.c4 (shlI .i64 (wi (gt x3 s0.c3)) 8))⟩ : crc_More_io_L1_s0))
      · intro g0
        exact absurd g0 ft
      · intro _
        exact round_walk [.b (tbE h1), .o 19 (fun _ => o_idx_os (enc := (encI .u8)) (l := x3) (fl := true) (n := x2) (s := 1) (k := .i64) (tbE h2)), .o 24 (fun _ => o_shl (k := .i64) (k2 := .u64) (x := (wi (gt x3 s0.c3))) (y := 8) rfl), .l (crc_More_io_L1_f0_0 (xorI .i64 s0.c4 (shlI .i64 (wi (gt x3 s0.c3)) 8)) false x2 x3 x4 s0.c3 0 (⟨0, (xorI .i64 s0.c4 (shlI .i64 (wi (gt x3 s0.c3)) 8))⟩ : crc_More_io_L1_s0) (tbE h3))] (by kernel_rfl)
def crc_More_io_L2_c0 (x4 : Int) (s0 : crc_More_io_L2_s0) : Bool := (bif tb (decide (s0.c3 < x4)) then false else true)
theorem crc_More_io_L2_x0 (x0 : Int) (x1 : Bool) (x2 : Bool) (x3 : List Int) (x4 : Int) (x5 : Int) (s0 : crc_More_io_L2_s0) : crc_More_io_L2_sel x3 x4 s0 = false → crc_More_io_L2_c0 x4 s0 = true → (roundG (runC E0 (cl E0) L73_2) [2, 5, 15, 16, 17] [2] 1) (crc_More_io_L2_enc x0 x1 x2 x3 x4 x5 s0) = some ((.exit 0), ([(V.ptr 0 1 0 0)], [(Blk.flat 3 1 [[(.int .i64 s0.c4)]] false)])) := by
  unfold crc_More_io_L2_sel crc_More_io_L2_c0
  cases h1 : tb (decide (s0.c3 < x4))
  · intro g0 g1
    exact round_walk [.b (tbE h1)] (by kernel_rfl)
  · cases h2 : tb (inb x3.length s0.c3)
    · intro g0 g1
      exact absurd g1 ft
    · cases h3 : tb (crc_More_io_L1_ok  (⟨0, (xorI .i64 s0.c4 (shlI .i64 (wi (gt x3 s0.c3)) 8))⟩ : crc_More_io_L1_s0))
      · intro g0 g1
        exact absurd g1 ft
      · intro g0 g1
        exact absurd g0 tf
theorem crc_More_io_L2_f0_0 (x0 : Int) (x1 : Bool) (x2 : Bool) (x3 : List Int) (x4 : Int) (x5 : Int) (s : crc_More_io_L2_s0) (hok : crc_More_io_L2_ok x3 x4 s = true) (c0 : crc_More_io_L2_c0 x4 (crc_More_io_L2_end x3 x4 s) = true) : loopG (roundG (runC E0 (cl E0) L73_2) [2, 5, 15, 16, 17] [2] 1) bound (crc_More_io_L2_enc x0 x1 x2 x3 x4 x5 s) = some ((.exit 0), ([(V.ptr 0 1 0 0)], [(Blk.flat 3 1 [[(.int .i64 ((crc_More_io_L2_end x3 x4 s).c4))]] false)])) := by
  have e : itS (crc_More_io_L2_sel x3 x4) (crc_More_io_L2_nx x3 x4) bound s = some (crc_More_io_L2_end x3 x4 s) := itS_get hok
  have f := itS_false e
  exact loop_it (crc_More_io_L2_go x0 x1 x2 x3 x4 x5) bound s _ _ _ e (fun h => by cases h) (crc_More_io_L2_x0 x0 x1 x2 x3 x4 x5 (crc_More_io_L2_end x3 x4 s) f c0)
def crc_More_io_S3_e0 (x0 : Int) (x3 : List Int) : crc_More_io_L2_s0 := crc_More_io_L2_end x3 ((x3.length : Nat) : Int) (⟨0, x0⟩ : crc_More_io_L2_s0)
def crc_More_io_S3_c0 (x0 : Int) (x3 : List Int) : Bool := (bif tb (crc_More_io_L2_ok x3 ((x3.length : Nat) : Int) (⟨0, x0⟩ : crc_More_io_L2_s0)) then (bif tb (crc_More_io_L2_c0 ((x3.length : Nat) : Int) (crc_More_io_S3_e0 x0 x3)) then true else false) else false)
theorem crc_More_io_S3_t0 (x0 : Int) (x2 : Bool) (x3 : List Int) : crc_More_io_S3_c0 x0 x3 = true → segG (runC E0 (cl E0) S73_3) [1, 2, 5] [] [2] 1 ([(V.d (slD (encI .u8) true 1 x2 x3)), (V.ptr 0 1 0 0), (V.fn (.func 77) [] [(V.ptr 0 1 0 0)])], [(Blk.flat 3 1 [[(.int .i64 x0)]] false)]) = some (.normal, ([(V.ptr 0 1 0 0)], [(Blk.flat 3 1 [[(.int .i64 ((crc_More_io_S3_e0 x0 x3).c4))]] false)])) := by
  unfold crc_More_io_S3_c0
  cases h1 : tb (crc_More_io_L2_ok x3 ((x3.length : Nat) : Int) (⟨0, x0⟩ : crc_More_io_L2_s0))
  · intro g0
    exact absurd g0 ft
  · cases h2 : tb (crc_More_io_L2_c0 ((x3.length : Nat) : Int) (crc_More_io_S3_e0 x0 x3))
    · intro g0
      exact absurd g0 ft
    · intro g0
      exact seg_walk [.o 16 (fun _ => o_len_os (enc := (encI .u8)) (l := x3) (fl := true) (n := x2) (s := 1)), .l (crc_More_io_L2_f0_0 x0 false x2 x3 ((x3.length : Nat) : Int) 0 (⟨0, x0⟩ : crc_More_io_L2_s0) (tbE h1) (tbE h2))] (by kernel_rfl)
def crc_More_io_c0 (x0 : Int) (x2 : List Int) : Bool := (bif tb (crc_More_io_S0_c0 x0) then true else (bif tb (crc_More_io_S3_c0 x0 x2) then true else false))
def crc_More_io_r0_0 (x0 : Int) (x2 : List Int) : Int := (bif tb (crc_More_io_S0_c0 x0) then 0 else ((crc_More_io_S3_e0 x0 x2).c4))
theorem crc_More_io_t0 (x0 : Int) (x1 : Bool) (x2 : List Int) : crc_More_io_c0 x0 x2 = true → cl E0 73 [(V.d (.int .i64 x0)), (V.d (slD (encI .u8) true 1 x1 x2))] [] = some ([(V.d (.int .i64 (crc_More_io_r0_0 x0 x2)))], []) := by
  unfold crc_More_io_c0 crc_More_io_r0_0
  cases h1 : tb (crc_More_io_S0_c0 x0)
  · cases h2 : tb (crc_More_io_S3_c0 x0 x2)
    · intro g0
      exact absurd g0 ft
    · intro g0
      exact w73 [.s (crc_More_io_S0_t1 x0 false x1 x2 (tbE h1)), .s (crc_More_io_S3_t0 x0 x1 x2 (tbE h2))] (by kernel_rfl)
  · intro g0
    exact w73 [.s (crc_More_io_S0_t0 x0 false x1 x2 (tbE h1))] (by kernel_rfl)
def crc_Sum_o_c0 (x1 : List Int) : Bool := (bif tb (crc_More_io_c0 65535 x1) then true else false)
theorem crc_Sum_o_t0 (x0 : Bool) (x1 : List Int) : crc_Sum_o_c0 x1 = true → cl E0 58 [(V.d (slD (encI .u8) true 1 x0 x1))] [] = some ([(V.d (.int .i64 (crc_More_io_r0_0 65535 x1)))], []) := by
  unfold crc_Sum_o_c0
  cases h1 : tb (crc_More_io_c0 65535 x1)
  · intro g0
    exact absurd g0 ft
  · intro g0
    exact w58 [.c (crc_More_io_t0 65535 x0 x1 (tbE h1))] (by kernel_rfl)
def crc_Seal_o_e0 (x0 : Bool) (x1 : List Int) : List Int := ((slices_Clone_byte_o_r0_1 x0 x1) ++ [(IntKind.u8.wrap (shrI .i64 (crc_More_io_r0_0 65535 x1) 8)), (IntKind.u8.wrap ((crc_More_io_r0_0 65535 x1)))])
def crc_Seal_o_c0 (x0 : Bool) (x1 : List Int) : Bool := (bif tb (crc_Sum_o_c0 x1) then (bif tb (slices_Clone_byte_o_c0 x0 x1) then (bif tb (decide (((slices_Clone_byte_o_r0_1 x0 x1).length + [(IntKind.u8.wrap (shrI .i64 (crc_More_io_r0_0 65535 x1) 8)), (IntKind.u8.wrap ((crc_More_io_r0_0 65535 x1)))].length) * 1 ≤ 140737488355328)) then true else false) else false) else false)
theorem crc_Seal_o_t0 (x0 : Bool) (x1 : List Int) : crc_Seal_o_c0 x0 x1 = true → cl E0 31 [(V.d (slD (encI .u8) true 1 x0 x1))] [] = some ([(V.so false 0 ((crc_Seal_o_e0 x0 x1).length))], [(Blk.flat 5 1 (List.map (encI .u8) (crc_Seal_o_e0 x0 x1)) false)]) := by
  unfold crc_Seal_o_c0
  cases h1 : tb (crc_Sum_o_c0 x1)
  · intro g0
    exact absurd g0 ft
  · cases h2 : tb (slices_Clone_byte_o_c0 x0 x1)
    · intro g0
      exact absurd g0 ft
    · cases h3 : tb (decide (((slices_Clone_byte_o_r0_1 x0 x1).length + [(IntKind.u8.wrap (shrI .i64 (crc_More_io_r0_0 65535 x1) 8)), (IntKind.u8.wrap ((crc_More_io_r0_0 65535 x1)))].length) * 1 ≤ 140737488355328))
      · intro g0
        exact absurd g0 ft
      · intro g0
        exact w31 [.c (crc_Sum_o_t0 x0 x1 (tbE h1)), .c (slices_Clone_byte_o_t0 x0 x1 (tbE h2)), .o 9 (fun _ => o_shr (k := .i64) (k2 := .u64) (x := (crc_More_io_r0_0 65535 x1)) (y := 8) rfl), .m 14 (o_app_so (nl := (slices_Clone_byte_o_r0_0 x0 x1)) (m := [(Blk.flat 5 1 [] false), (Blk.flat 5 1 (List.map (encI .u8) (slices_Clone_byte_o_r0_1 x0 x1)) false), (Blk.flat 5 1 [[(.int .u8 (IntKind.u8.wrap (shrI .i64 (crc_More_io_r0_0 65535 x1) 8)))], [(.int .u8 (IntKind.u8.wrap ((crc_More_io_r0_0 65535 x1))))]] false)]) (enc := (encI .u8)) (l0 := (slices_Clone_byte_o_r0_1 x0 x1)) (l1 := [(IntKind.u8.wrap (shrI .i64 (crc_More_io_r0_0 65535 x1) 8)), (IntKind.u8.wrap ((crc_More_io_r0_0 65535 x1)))]) (id := 1) (e := 5) (s := 1) (bytes := 1) (x := (V.so false 2 2)) (n := ((slices_Clone_byte_o_r0_1 x0 x1).length)) (Nat.beq_refl _) (by kernel_rfl) (by kernel_rfl) (by kernel_rfl) (tbE h3))] (by kernel_rfl)
def crc_Open_o_e0 (x0 : Bool) (x1 : List Int) : List Int := (crc_Seal_o_e0 (x0 && x1.isEmpty) (sub x1 0 (wi (((x1.length : Nat) : Int) - 2))))
def crc_Open_o_c0 (x0 : Bool) (x1 : List Int) : Bool := (bif tb (decide ((wi (((x1.length : Nat) : Int) - 2)) < 0)) then true else (bif tb (ins x1.length 0 (wi (((x1.length : Nat) : Int) - 2))) then (bif tb (crc_Seal_o_c0 (x0 && x1.isEmpty) (sub x1 0 (wi (((x1.length : Nat) : Int) - 2)))) then (bif tb (slices_Equal_byte_oo_c0 (crc_Open_o_e0 x0 x1) x1) then (bif tb (slices_Equal_byte_oo_r0_0 (crc_Open_o_e0 x0 x1) x1) then (bif tb (slices_Clone_byte_o_c0 (x0 && x1.isEmpty) (sub x1 0 (wi (((x1.length : Nat) : Int) - 2)))) then true else false) else true) else false) else false) else false))
def crc_Open_o_r0_0 (x0 : Bool) (x1 : List Int) : Bool := (bif tb (decide ((wi (((x1.length : Nat) : Int) - 2)) < 0)) then true else (bif tb (slices_Equal_byte_oo_r0_0 (crc_Open_o_e0 x0 x1) x1) then (slices_Clone_byte_o_r0_0 (x0 && x1.isEmpty) (sub x1 0 (wi (((x1.length : Nat) : Int) - 2)))) else true))
def crc_Open_o_r0_1 (x0 : Bool) (x1 : List Int) : Bool := (bif tb (decide ((wi (((x1.length : Nat) : Int) - 2)) < 0)) then false else (bif tb (slices_Equal_byte_oo_r0_0 (crc_Open_o_e0 x0 x1) x1) then true else false))
def crc_Open_o_r0_2 (x0 : Bool) (x1 : List Int) : List Int := (bif tb (decide ((wi (((x1.length : Nat) : Int) - 2)) < 0)) then ([] : List Int) else (bif tb (slices_Equal_byte_oo_r0_0 (crc_Open_o_e0 x0 x1) x1) then (slices_Clone_byte_o_r0_1 (x0 && x1.isEmpty) (sub x1 0 (wi (((x1.length : Nat) : Int) - 2)))) else ([] : List Int)))
theorem crc_Open_o_t0 (x0 : Bool) (x1 : List Int) : crc_Open_o_c0 x0 x1 = true → cl E0 72 [(V.d (slD (encI .u8) true 1 x0 x1))] [] = some ([(V.so (crc_Open_o_r0_0 x0 x1) 0 ((crc_Open_o_r0_2 x0 x1).length)), (V.d (.bool (crc_Open_o_r0_1 x0 x1)))], [(Blk.flat 5 1 (List.map (encI .u8) (crc_Open_o_r0_2 x0 x1)) false)]) := by
  unfold crc_Open_o_c0 crc_Open_o_r0_0 crc_Open_o_r0_1 crc_Open_o_r0_2
  cases h1 : tb (decide ((wi (((x1.length : Nat) : Int) - 2)) < 0))
  · cases h2 : tb (ins x1.length 0 (wi (((x1.length : Nat) : Int) - 2)))
    · intro g0
      exact absurd g0 ft
    · cases h3 : tb (crc_Seal_o_c0 (x0 && x1.isEmpty) (sub x1 0 (wi (((x1.length : Nat) : Int) - 2))))
      · intro g0
        exact absurd g0 ft
      · cases h4 : tb (slices_Equal_byte_oo_c0 (crc_Open_o_e0 x0 x1) x1)
        · intro g0
          exact absurd g0 ft
        · cases h5 : tb (slices_Equal_byte_oo_r0_0 (crc_Open_o_e0 x0 x1) x1)
          · intro g0
            exact w72 [.o 6 (fun _ => o_len_os (enc := (encI .u8)) (l := x1) (fl := true) (n := x0) (s := 1)), .b (tbE h1), .o 13 (fun _ => o_slice_os (enc := (encI .u8)) (l := x1) (fl := true) (n := x0) (s := 1) none (some (.i64, (wi (((x1.length : Nat) : Int) - 2)))) (tbE h2)), .c (crc_Seal_o_t0 (x0 && x1.isEmpty) (sub x1 0 (wi (((x1.length : Nat) : Int) - 2))) (tbE h3)), .y (mm := [(Blk.flat 5 1 [] false), (Blk.flat 5 1 (List.map (encI .u8) (crc_Seal_o_e0 (x0 && x1.isEmpty) (sub x1 0 (wi (((x1.length : Nat) : Int) - 2))))) false)]) (args := [(V.so false 1 ((crc_Seal_o_e0 (x0 && x1.isEmpty) (sub x1 0 (wi (((x1.length : Nat) : Int) - 2)))).length)), (V.d (slD (encI .u8) true 1 x0 x1))]) (args1 := [(V.d (.rs true 1 (List.map (encI .u8) (crc_Seal_o_e0 (x0 && x1.isEmpty) (sub x1 0 (wi (((x1.length : Nat) : Int) - 2))))) false)), (V.d (slD (encI .u8) true 1 x0 x1))]) (byvals_cons (byval_so (enc := (encI .u8)) (l := (crc_Seal_o_e0 (x0 && x1.isEmpty) (sub x1 0 (wi (((x1.length : Nat) : Int) - 2))))) (b := false) (e := 5) (s := 1) (p := false) (n := ((crc_Seal_o_e0 (x0 && x1.isEmpty) (sub x1 0 (wi (((x1.length : Nat) : Int) - 2)))).length)) (Nat.beq_refl _) (by kernel_rfl)) (by kernel_rfl)), .c (slices_Equal_byte_oo_t0 false (crc_Open_o_e0 x0 x1) x0 x1 (tbE h4)), .b (notF (tbE h5))] (by kernel_rfl)
          · cases h6 : tb (slices_Clone_byte_o_c0 (x0 && x1.isEmpty) (sub x1 0 (wi (((x1.length : Nat) : Int) - 2))))
            · intro g0
              exact absurd g0 ft
            · intro g0
              exact w72 [.o 6 (fun _ => o_len_os (enc := (encI .u8)) (l := x1) (fl := true) (n := x0) (s := 1)), .b (tbE h1), .o 13 (fun _ => o_slice_os (enc := (encI .u8)) (l := x1) (fl := true) (n := x0) (s := 1) none (some (.i64, (wi (((x1.length : Nat) : Int) - 2)))) (tbE h2)), .c (crc_Seal_o_t0 (x0 && x1.isEmpty) (sub x1 0 (wi (((x1.length : Nat) : Int) - 2))) (tbE h3)), .y (mm := [(Blk.flat 5 1 [] false), (Blk.flat 5 1 (List.map (encI .u8) (crc_Seal_o_e0 (x0 && x1.isEmpty) (sub x1 0 (wi (((x1.length : Nat) : Int) - 2))))) false)]) (args := [(V.so false 1 ((crc_Seal_o_e0 (x0 && x1.isEmpty) (sub x1 0 (wi (((x1.length : Nat) : Int) - 2)))).length)), (V.d (slD (encI .u8) true 1 x0 x1))]) (args1 := [(V.d (.rs true 1 (List.map (encI .u8) (crc_Seal_o_e0 (x0 && x1.isEmpty) (sub x1 0 (wi (((x1.length : Nat) : Int) - 2))))) false)), (V.d (slD (encI .u8) true 1 x0 x1))]) (byvals_cons (byval_so (enc := (encI .u8)) (l := (crc_Seal_o_e0 (x0 && x1.isEmpty) (sub x1 0 (wi (((x1.length : Nat) : Int) - 2))))) (b := false) (e := 5) (s := 1) (p := false) (n := ((crc_Seal_o_e0 (x0 && x1.isEmpty) (sub x1 0 (wi (((x1.length : Nat) : Int) - 2)))).length)) (Nat.beq_refl _) (by kernel_rfl)) (by kernel_rfl)), .c (slices_Equal_byte_oo_t0 false (crc_Open_o_e0 x0 x1) x0 x1 (tbE h4)), .b (notT (tbE h5)), .o 21 (fun _ => o_slice_os (enc := (encI .u8)) (l := x1) (fl := true) (n := x0) (s := 1) none (some (.i64, (wi (((x1.length : Nat) : Int) - 2)))) (tbE h2)), .c (slices_Clone_byte_o_t0 (x0 && x1.isEmpty) (sub x1 0 (wi (((x1.length : Nat) : Int) - 2))) (tbE h6))] (by kernel_rfl)
  · intro g0
    exact w72 [.o 6 (fun _ => o_len_os (enc := (encI .u8)) (l := x1) (fl := true) (n := x0) (s := 1)), .b (tbE h1)] (by kernel_rfl)
end Go.Proofs.Ytkipngagfiaddaa.Den

namespace Go.Proofs.Ytkipngagfiaddaa.Den
open Go Go.Proofs
set_option maxRecDepth 100000
set_option maxHeartbeats 4000000
set_option linter.unusedVariables false
set_option linter.unusedSimpArgs false
structure ref03_cross_ii_L0_s0 where
  c0 : Int
  c1 : Int
  c2 : Int
  c3 : Int
  c4 : Int
  deriving Inhabited
structure ref03_More_io_L1_s0 where
  c2 : Int
  c4 : Int
  deriving Inhabited
structure ref03_More_io_L2_s0 where
  c2 : Int
  c3 : Int
  deriving Inhabited
end Go.Proofs.Ytkipngagfiaddaa.Den

namespace Go.Proofs.Ytkipngagfiaddaa.Den
open Go
set_option linter.unusedVariables false
set_option linter.unusedSimpArgs false
theorem xor16 {a b : Nat} (h1 : a < 65536) (h2 : b < 65536) : a ^^^ b < 65536 := Nat.xor_lt_two_pow (n := 16) h1 h2
def topN (n : Nat) : Nat := n / 32768 % 2
def stepN (n : Nat) : Nat := if topN n = 1 then (2 * n % 65536) ^^^ 4129 else 2 * n % 65536
theorem stepN_lt (n : Nat) : stepN n < 65536 := by
  unfold stepN
  split
  · exact xor16 (by omega) (by omega)
  · omega
def itN : Nat → Nat → Nat
  | 0, c => c
  | k + 1, c => stepN (itN k c)
theorem itN_lt (k : Nat) {c : Nat} (h : c < 65536) : itN k c < 65536 := by
  cases k with
  | zero => exact h
  | succ k => exact stepN_lt _
def byteN (c b : Nat) : Nat := itN 8 (c ^^^ (256 * b))
theorem byteN_lt {c b : Nat} (hc : c < 65536) (hb : b < 256) : byteN c b < 65536 := itN_lt 8 (xor16 hc (by omega))
def crcN (c : Nat) (l : List Nat) : Nat := l.foldl byteN c
theorem crcN_lt {l : List Nat} : ∀ {c : Nat}, c < 65536 → (∀ b ∈ l, b < 256) → crcN c l < 65536 := by
  induction l with
  | nil => intro c h _; exact h
  | cons b l ih => intro c h hl; exact ih (byteN_lt h (hl b (by simp))) (fun x hx => hl x (by simp [hx]))
theorem crcN_app (c : Nat) (l k : List Nat) : crcN c (l ++ k) = crcN (crcN c l) k := by simp [crcN]
theorem bv_nat {a : Nat} (h : a < 9223372036854775808) : BitVec.ofInt 64 (a : Int) = BitVec.ofNat 64 a := by
  apply BitVec.eq_of_toNat_eq
  rw [BitVec.toNat_ofInt, BitVec.toNat_ofNat]
  omega
theorem andI_nat {a b : Nat} (ha : a < 9223372036854775808) (hb : b < 9223372036854775808) : andI .i64 (a : Int) (b : Int) = ((a &&& b : Nat) : Int) := by
  show IntKind.i64.wrap ((BitVec.ofInt 64 (a : Int) &&& BitVec.ofInt 64 (b : Int)).toNat : Int) = _
  rw [bv_nat ha, bv_nat hb, BitVec.toNat_and, BitVec.toNat_ofNat, BitVec.toNat_ofNat, Nat.mod_eq_of_lt (a := a) (by omega), Nat.mod_eq_of_lt (a := b) (by omega)]
  have := @Nat.and_le_left a b
  exact wrap64 (by omega) (by omega)
theorem xorI_nat {a b : Nat} (ha : a < 9223372036854775808) (hb : b < 9223372036854775808) : xorI .i64 (a : Int) (b : Int) = ((a ^^^ b : Nat) : Int) := by
  show IntKind.i64.wrap ((BitVec.ofInt 64 (a : Int) ^^^ BitVec.ofInt 64 (b : Int)).toNat : Int) = _
  rw [bv_nat ha, bv_nat hb, BitVec.toNat_xor, BitVec.toNat_ofNat, BitVec.toNat_ofNat, Nat.mod_eq_of_lt (a := a) (by omega), Nat.mod_eq_of_lt (a := b) (by omega)]
  have : a ^^^ b < 2 ^ 63 := Nat.xor_lt_two_pow (by omega) (by omega)
  exact wrap64 (by omega) (by omega)
theorem and_top (n : Nat) : n &&& 32768 = 32768 * topN n := by
  apply Nat.eq_of_testBit_eq
  intro j
  rw [Nat.testBit_and, show (32768 : Nat) = 2 ^ 15 from rfl, Nat.testBit_two_pow, Nat.testBit_two_pow_mul]
  by_cases h : 15 = j
  · subst h
    simp [topN, Nat.testBit_eq_decide_div_mod_eq]
  · simp only [h, decide_false, Bool.and_false]
    by_cases h2 : 15 ≤ j
    · have h3 : topN n < 2 ^ (j - 15) := by
        have : topN n < 2 ^ 1 := by unfold topN; omega
        exact Nat.lt_of_lt_of_le this (Nat.pow_le_pow_right (by omega) (by omega))
      rw [Nat.testBit_lt_two_pow h3]; simp
    · simp [h2]
theorem and_mask (n : Nat) : n &&& 65535 = n % 65536 := Nat.and_two_pow_sub_one_eq_mod n 16
def nats (l : List Int) : List Nat := l.map Int.toNat
theorem nats_lt {l : List Int} (h : ∀ z ∈ l, WfI .u8 z) : ∀ b ∈ nats l, b < 256 := by
  intro b hb
  obtain ⟨z, hz, rfl⟩ := List.mem_map.1 hb
  have := wfI_u8 (h z hz)
  omega
def crcI (c : Nat) (l : List Int) : Nat := crcN c (nats l)
end Go.Proofs.Ytkipngagfiaddaa.Den

namespace Go.Proofs.Ytkipngagfiaddaa.Den
open Go
set_option linter.unusedVariables false
set_option linter.unusedSimpArgs false
theorem shl8_nat {n : Nat} (h : n < 4294967296) : shlI .i64 (n : Int) 8 = ((256 * n : Nat) : Int) := by
  show IntKind.i64.wrap ((n : Int) * 2 ^ (min (8 : Int).toNat 64)) = _
  have : (2 : Int) ^ (min (8 : Int).toNat 64) = 256 := by decide
  rw [this, wrap64 (by omega) (by omega)]; omega
theorem shl1_nat {n : Nat} (h : n < 4294967296) : shlI .i64 (n : Int) 1 = ((2 * n : Nat) : Int) := by
  show IntKind.i64.wrap ((n : Int) * 2 ^ (min (1 : Int).toNat 64)) = _
  have : (2 : Int) ^ (min (1 : Int).toNat 64) = 2 := by decide
  rw [this, wrap64 (by omega) (by omega)]; omega
theorem step_eq {n : Nat} (h : n < 65536) : crc_More_c1_p_Fi_r0_0 (n : Int) = (stepN n : Int) := by
  have e1 : andI .i64 (n : Int) 32768 = ((32768 * topN n : Nat) : Int) := by rw [← and_top]; exact andI_nat (b := 32768) (by omega) (by omega)
  have e2 : andI .i64 (shlI .i64 (n : Int) 1) 65535 = ((2 * n % 65536 : Nat) : Int) := by rw [shl1_nat (by omega), ← and_mask]; exact andI_nat (b := 65535) (by omega) (by omega)
  have e3 : xorI .i64 ((2 * n % 65536 : Nat) : Int) 4129 = (((2 * n % 65536) ^^^ 4129 : Nat) : Int) := xorI_nat (b := 4129) (by omega) (by omega)
  have ht : topN n < 2 := by unfold topN; omega
  unfold crc_More_c1_p_Fi_r0_0 stepN
  rw [e1, e2, e3]
  by_cases h1 : topN n = 1
  · simp [h1]
  · have : topN n = 0 := by omega
    simp [this]
theorem crcL0 {c : Nat} (h : c < 65536) : crc_More_io_L1_ok ⟨0, (c : Int)⟩ = true ∧ (crc_More_io_L1_end ⟨0, (c : Int)⟩).c5 = (itN 8 c : Int) := by
  obtain ⟨s1, e, ⟨k, h1, h2⟩, h3⟩ := idx_loop (sel := crc_More_io_L1_sel) (nx := crc_More_io_L1_nx) (s0 := ⟨0, (c : Int)⟩) 8 (fun s => s.c4) (fun s => ∃ k : Nat, s.c4 = k ∧ s.c5 = (itN k c : Int)) (by omega) ⟨0, rfl, rfl⟩ (by simp) (by simp)
    (fun s ⟨k, h1, h2⟩ g1 g2 => by
      have e : (wi (s.c4 + 1)) = s.c4 + 1 := wi_eq (by omega) (by omega)
      refine ⟨by simp [crc_More_io_L1_sel, g2], ⟨k + 1, ?_, ?_⟩, e⟩
      · simp only [crc_More_io_L1_nx, e]; omega
      · simp only [crc_More_io_L1_nx, h2]; exact step_eq (itN_lt k h))
    (fun s _ g => by simp [crc_More_io_L1_sel, g])
  have hk : k = 8 := by omega
  subst hk
  simp [crc_More_io_L1_ok, crc_More_io_L1_end, e, h2]
theorem take_nats {l : List Int} {k : Nat} (h : k < l.length) (c : Nat) : crcI c (l.take (k + 1)) = byteN (crcI c (l.take k)) (l[k]).toNat := by
  unfold crcI nats
  rw [List.take_succ_eq_append_getElem h, List.map_append, crcN_app]
  rfl
def Byt (l : List Int) : Prop := ∀ z ∈ l, WfI .u8 z
theorem Byt.take {l : List Int} (h : Byt l) (k : Nat) : Byt (l.take k) := fun z hz => h z (List.mem_of_mem_take hz)
theorem Byt.drop {l : List Int} (h : Byt l) (k : Nat) : Byt (l.drop k) := fun z hz => h z (List.mem_of_mem_drop hz)
theorem crcI_lt {c : Nat} {l : List Int} (hc : c < 65536) (h : Byt l) : crcI c l < 65536 := crcN_lt hc (nats_lt h)
theorem crcL1 {c : Nat} {l : List Int} (h : c < 65536) (hl : Byt l) (hn : l.length < 1152921504606846976) : ∃ s1, itS (crc_More_io_L2_sel l l.length) (crc_More_io_L2_nx l l.length) bound ⟨0, (c : Int)⟩ = some s1 ∧ s1.c3 = l.length ∧ s1.c4 = (crcI c l : Int) := by
  obtain ⟨s1, e, ⟨k, h1, h2, h4⟩, h3⟩ := idx_loop (sel := crc_More_io_L2_sel l l.length) (nx := crc_More_io_L2_nx l l.length) (s0 := ⟨0, (c : Int)⟩) l.length (fun s => s.c3) (fun s => ∃ k : Nat, s.c3 = k ∧ k ≤ l.length ∧ s.c4 = (crcI c (l.take k) : Int)) (by omega) ⟨0, rfl, by omega, rfl⟩ (by simp) (by simp)
    (fun s ⟨k, h1, h2, h4⟩ g1 g2 => by
      have e : (wi (s.c3 + 1)) = s.c3 + 1 := wi_eq (by omega) (by omega)
      have hk : k < l.length := by omega
      have hg : gt l s.c3 = ((l[k]).toNat : Int) := by
        rw [h1, gt_nat hk]; have := wfI_u8 (hl _ (List.getElem_mem hk)); omega
      have hb : (l[k]).toNat < 256 := by have := wfI_u8 (hl _ (List.getElem_mem hk)); omega
      have hc := crcI_lt h (hl.take k)
      have hx : xorI .i64 s.c4 (shlI .i64 (wi (gt l s.c3)) 8) = ((crcI c (l.take k) ^^^ (256 * (l[k]).toNat) : Nat) : Int) := by
        rw [hg, wi_eq (x := ((l[k]).toNat : Int)) (by omega) (by omega), shl8_nat (by omega), h4]; exact xorI_nat (by omega) (by omega)
      obtain ⟨q1, q2⟩ := crcL0 (xor16 hc (by omega : 256 * (l[k]).toNat < 65536))
      refine ⟨by simp [crc_More_io_L2_sel, g2, inb_of g1 g2, hx, q1], ⟨k + 1, ?_, by omega, ?_⟩, e⟩
      · simp only [crc_More_io_L2_nx, e]; omega
      · simp only [crc_More_io_L2_nx, crc_More_io_L2_h0_e0, hx, q2, take_nats hk]; rfl)
    (fun s _ g => by simp [crc_More_io_L2_sel, g])
  have hk : k = l.length := by omega
  subst hk
  exact ⟨s1, e, h1, by rw [h4, List.take_length]⟩
def moreI (x : Int) (l : List Int) : Int := if 0 ≤ x ∧ x ≤ 65535 then (crcI x.toNat l : Int) else 0
theorem more_eq (x : Int) {l : List Int} (hl : Byt l) (hn : l.length < 1152921504606846976) : crc_More_io_c0 x l = true ∧ crc_More_io_r0_0 x l = moreI x l := by
  by_cases h1 : x < 0
  · simp [crc_More_io_c0, crc_More_io_r0_0, crc_More_io_S0_c0, h1, moreI]; omega
  by_cases h2 : 65535 < x
  · simp [crc_More_io_c0, crc_More_io_r0_0, crc_More_io_S0_c0, h1, h2, moreI]; omega
  obtain ⟨s1, e, g1, g2⟩ := crcL1 (c := x.toNat) (by omega) hl hn
  rw [show ((x.toNat : Nat) : Int) = x by omega] at e
  have h3 : 0 ≤ x ∧ x ≤ 65535 := by omega
  simp [crc_More_io_c0, crc_More_io_r0_0, crc_More_io_S0_c0, crc_More_io_S3_c0, crc_More_io_S3_e0, h1, h2, moreI, h3, crc_More_io_L2_ok, crc_More_io_L2_end, e, crc_More_io_L2_c0, g1, g2]
theorem equal_eq {l k : List Int} (hl : l.length < 1152921504606846976) : slices_Equal_byte_oo_c0 l k = true ∧ slices_Equal_byte_oo_r0_0 l k = decide (l = k) := by
  by_cases h : l.length = k.length
  · obtain ⟨s1, e, g0, g⟩ := eq_loop (sel := slices_Equal_byte_oo_L0_sel l k l.length) (nx := slices_Equal_byte_oo_L0_nx l k l.length) (s0 := ⟨0⟩) h (fun s => s.c5) hl rfl
      (fun s a1 a2 => by show wi _ = _; exact wi_eq (by omega) (by omega))
      (fun s a1 a2 => by
        by_cases hi : s.c5 < l.length
        · have i1 := inb_of a1 hi
          have i2 : inb k.length s.c5 = true := by rw [← h]; exact i1
          by_cases q : gt l s.c5 = gt k s.c5
          · simp [slices_Equal_byte_oo_L0_sel, hi, i1, i2, q]
          · simp [slices_Equal_byte_oo_L0_sel, hi, i1, i2, q, bne]
        · simp [slices_Equal_byte_oo_L0_sel, hi])
    have hne : ((((l.length : Nat) : Int) : Int) != ((k.length : Nat) : Int)) = false := by simp [h]
    simp only [slices_Equal_byte_oo_c0, slices_Equal_byte_oo_r0_0, slices_Equal_byte_oo_e0, slices_Equal_byte_oo_L0_ok, slices_Equal_byte_oo_L0_end, e, hne, tb_eq, cond_false, Option.isSome_some, cond_true, Option.getD_some]
    rcases g with ⟨a, b⟩ | ⟨a, b, c⟩
    · simp [slices_Equal_byte_oo_L0_c0, slices_Equal_byte_oo_L0_c1, a, b]
    · have i1 := inb_of g0 a
      have i2 : inb k.length s1.c5 = true := by rw [← h]; exact i1
      simp [slices_Equal_byte_oo_L0_c0, slices_Equal_byte_oo_L0_c1, a, c, i1, i2]
  · have hne : ((((l.length : Nat) : Int) : Int) != ((k.length : Nat) : Int)) = true := by simp; omega
    have : l ≠ k := fun e => h (by rw [e])
    simp [slices_Equal_byte_oo_c0, slices_Equal_byte_oo_r0_0, hne, this]
structure Sm (l : List Int) : Prop where
  b : Byt l
  n : l.length ≤ 1000
theorem Sm.n' {l : List Int} (h : Sm l) : l.length < 1152921504606846976 := by have := h.n; omega
def tail2 (l : List Int) : List Int := [((crcI 65535 l / 256 : Nat) : Int), ((crcI 65535 l % 256 : Nat) : Int)]
def sealed (l : List Int) : List Int := l ++ tail2 l
theorem u8_wrap {n : Nat} : IntKind.u8.wrap (n : Int) = ((n % 256 : Nat) : Int) := by
  unfold IntKind.wrap; simp [IntKind.bits, IntKind.signed]
theorem more_f {l : List Int} (h : Sm l) : crc_More_io_r0_0 65535 l = (crcI 65535 l : Int) := by
  rw [(more_eq 65535 h.b h.n').2]; simp [moreI]
theorem sumc {l : List Int} (h : Sm l) : crc_Sum_o_c0 l = true := by simp [crc_Sum_o_c0, (more_eq 65535 h.b h.n').1]
theorem Sm.crc {l : List Int} (h : Sm l) : crcI 65535 l < 65536 := crcI_lt (by omega) h.b
theorem tail_eq {l : List Int} (h : Sm l) : [(IntKind.u8.wrap (shrI .i64 (crc_More_io_r0_0 65535 l) 8)), (IntKind.u8.wrap ((crc_More_io_r0_0 65535 l)))] = tail2 l := by
  have hc := h.crc
  have e : shrI .i64 (crcI 65535 l : Int) 8 = ((crcI 65535 l / 256 : Nat) : Int) := by
    show (crcI 65535 l : Int).fdiv (2 ^ (min (8 : Int).toNat 64)) = _
    rw [show (2 : Int) ^ (min (8 : Int).toNat 64) = 256 by decide, Int.fdiv_eq_ediv_of_nonneg _ (by omega)]; omega
  rw [more_f h, e, u8_wrap, u8_wrap, Nat.mod_eq_of_lt (a := crcI 65535 l / 256) (by omega)]
  rfl
theorem clone_r (a : Bool) {l : List Int} (h : Sm l) : slices_Clone_byte_o_c0 a l = true ∧ slices_Clone_byte_o_r0_0 a l = (a && l.isEmpty) ∧ slices_Clone_byte_o_r0_1 a l = l := by
  have h1 : ((([] : List Int).length + l.length) * 1 ≤ 140737488355328) := by have := h.n; simp; omega
  cases l with
  | nil => cases a <;> simp [slices_Clone_byte_o_c0, slices_Clone_byte_o_r0_0, slices_Clone_byte_o_r0_1]
  | cons x l =>
    simp only [slices_Clone_byte_o_c0, slices_Clone_byte_o_r0_0, slices_Clone_byte_o_r0_1, h1, tb_eq]
    simp
theorem seal_r (a : Bool) {l : List Int} (h : Sm l) : crc_Seal_o_c0 a l = true ∧ crc_Seal_o_e0 a l = sealed l := by
  obtain ⟨c1, c2, c3⟩ := clone_r a h
  have h1 : (l.length + (tail2 l).length) * 1 ≤ 140737488355328 := by have := h.n; show (l.length + 2) * 1 ≤ _; omega
  constructor
  · simp only [crc_Seal_o_c0, sumc h, c1, c3, tail_eq h, h1, decide_true, tb_eq, cond_true]
  · unfold crc_Seal_o_e0; rw [c3, tail_eq h]; rfl
def okS (l : List Int) : Bool := decide (2 ≤ l.length) && decide (sealed (l.take (l.length - 2)) = l)
theorem Sm.take {l : List Int} (h : Sm l) (k : Nat) : Sm (l.take k) := ⟨h.b.take k, by have := h.n; rw [List.length_take]; omega⟩
theorem cut_eq {l : List Int} (h : Sm l) (h2 : 2 ≤ l.length) : wi (((l.length : Nat) : Int) - 2) = ((l.length - 2 : Nat) : Int) ∧ sub l 0 (wi (((l.length : Nat) : Int) - 2)) = l.take (l.length - 2) ∧ ins l.length 0 (wi (((l.length : Nat) : Int) - 2)) = true := by
  have hn := h.n
  have e : wi (((l.length : Nat) : Int) - 2) = ((l.length - 2 : Nat) : Int) := by rw [wi_eq (x := (l.length : Int) - 2) (by omega) (by omega)]; omega
  refine ⟨e, ?_, ?_⟩
  · rw [e]; simp [sub]
  · rw [e]; simp [ins]
theorem sealed_short {l : List Int} (h : (l.length : Nat) ≤ 1000) : (sealed l).length < 1152921504606846976 := by simp [sealed, tail2]; omega
theorem open_r {l : List Int} (h : Sm l) (a : Bool) : crc_Open_o_c0 a l = true ∧ crc_Open_o_r0_0 a l = !(okS l) ∧ crc_Open_o_r0_1 a l = okS l ∧ crc_Open_o_r0_2 a l = if okS l then l.take (l.length - 2) else [] := by
  by_cases h2 : l.length < 2
  · have e : wi (((l.length : Nat) : Int) - 2) < 0 := by rw [wi_eq (x := (l.length : Int) - 2) (by omega) (by omega)]; omega
    have e3 : ¬ 2 ≤ l.length := by omega
    simp [okS, crc_Open_o_c0, crc_Open_o_r0_0, crc_Open_o_r0_1, crc_Open_o_r0_2, e, e3]
  have h3 : 2 ≤ l.length := by omega
  obtain ⟨c1, c2, c3⟩ := cut_eq h h3
  have hp := h.take (l.length - 2)
  have hne : l.isEmpty = false := by cases l <;> simp_all
  have hneg : ¬ (wi (((l.length : Nat) : Int) - 2) < 0) := by rw [c1]; omega
  have hE : crc_Open_o_e0 a l = sealed (l.take (l.length - 2)) := by unfold crc_Open_o_e0; rw [c2, (seal_r _ hp).2]
  have eq := equal_eq (l := sealed (l.take (l.length - 2))) (k := l) (sealed_short hp.n)
  obtain ⟨d1, d2, d3⟩ := clone_r false hp
  simp only [crc_Open_o_c0, crc_Open_o_r0_0, crc_Open_o_r0_1, crc_Open_o_r0_2, hneg, c3, c2, hE, (seal_r _ hp).1, d1, d2, d3, hne, eq.1, eq.2, okS, h3, Bool.and_false, Bool.false_and, decide_true, decide_false, tb_eq, cond_true, cond_false, Bool.true_and]
  cases decide (sealed (l.take (l.length - 2)) = l) <;> simp
end Go.Proofs.Ytkipngagfiaddaa.Den

namespace Go.Proofs.Ytkipngagfiaddaa.Den
open Go Go.Proofs
set_option maxRecDepth 100000
set_option maxHeartbeats 4000000
set_option linter.unusedVariables false
set_option linter.unusedSimpArgs false
def frame_Decode_iabo_S0_c0 (x1 : Bool) (x3 : List Int) (x6 : Int) : Bool := (bif tb (x1) then (bif tb ((((x3.length : Nat) : Int) : Int) != 38) then true else (bif tb (inb x3.length 0) then (bif tb (((gt x3 0) : Int) != 165) then true else (bif tb (inb x3.length 1) then (bif tb (((wi (gt x3 1)) : Int) != x6) then true else false) else false)) else false)) else true)
def frame_Decode_iabo_S0_r0_0 (x1 : Bool) (x3 : List Int) : Int := (bif tb (x1) then (bif tb ((((x3.length : Nat) : Int) : Int) != 38) then 2 else (bif tb (((gt x3 0) : Int) != 165) then 3 else 4)) else 1)
def frame_Decode_iabo_S0_c1 (x1 : Bool) (x3 : List Int) (x6 : Int) : Bool := (bif tb (x1) then (bif tb ((((x3.length : Nat) : Int) : Int) != 38) then false else (bif tb (inb x3.length 0) then (bif tb (((gt x3 0) : Int) != 165) then false else (bif tb (inb x3.length 1) then (bif tb (((wi (gt x3 1)) : Int) != x6) then false else true) else false)) else false)) else false)
theorem frame_Decode_iabo_S0_t0 (x0 : List Int) (x1 : Bool) (x2 : Bool) (x3 : List Int) (x4 : Bool) (x6 : Int) : frame_Decode_iabo_S0_c0 x1 x3 x6 = true → segG (runC E0 (cl E0) S56_0) [0, 3, 4] [4, 5] [3, 4] 2 ([(V.d (.int .i64 x6)), (V.ptr 0 1 0 0), (V.ptr 1 1 0 0)], [(Blk.gen 39 2 [[(V.d (.bool x1)), (V.d (slD (encI .u8) true 1 x2 x3))]] x4), (Blk.flat 33 9 [([(.int .i64 0)] ++ arrD .i64 x0 8)] false)]) = some (.ret, ([(V.ptr 1 1 0 0), (V.d (.int .i64 (frame_Decode_iabo_S0_r0_0 x1 x3)))], [(Blk.gen 39 2 [[(V.d (.bool x1)), (V.d (slD (encI .u8) true 1 x2 x3))]] x4), (Blk.flat 33 9 [([(.int .i64 0)] ++ arrD .i64 [0, 0, 0, 0, 0, 0, 0, 0] 8)] false)])) := by
  unfold frame_Decode_iabo_S0_c0 frame_Decode_iabo_S0_r0_0
  cases h1 : tb (x1)
  · intro g0
    exact seg_walk [.b (notF (tbE h1))] (by kernel_rfl)
  · cases h2 : tb ((((x3.length : Nat) : Int) : Int) != 38)
    · cases h3 : tb (inb x3.length 0)
      · intro g0
        exact absurd g0 ft
      · cases h4 : tb (((gt x3 0) : Int) != 165)
        · cases h5 : tb (inb x3.length 1)
          · intro g0
            exact absurd g0 ft
          · cases h6 : tb (((wi (gt x3 1)) : Int) != x6)
            · intro g0
              exact absurd g0 ft
            · intro g0
              exact seg_walk [.b (notT (tbE h1)), .o 19 (fun _ => o_len_os (enc := (encI .u8)) (l := x3) (fl := true) (n := x2) (s := 1)), .b (tbE h2), .o 25 (fun _ => o_idx_os (enc := (encI .u8)) (l := x3) (fl := true) (n := x2) (s := 1) (k := .i64) (tbE h3)), .b (tbE h4), .o 32 (fun _ => o_idx_os (enc := (encI .u8)) (l := x3) (fl := true) (n := x2) (s := 1) (k := .i64) (tbE h5)), .b (tbE h6)] (by kernel_rfl)
        · intro g0
          exact seg_walk [.b (notT (tbE h1)), .o 19 (fun _ => o_len_os (enc := (encI .u8)) (l := x3) (fl := true) (n := x2) (s := 1)), .b (tbE h2), .o 25 (fun _ => o_idx_os (enc := (encI .u8)) (l := x3) (fl := true) (n := x2) (s := 1) (k := .i64) (tbE h3)), .b (tbE h4)] (by kernel_rfl)
    · intro g0
      exact seg_walk [.b (notT (tbE h1)), .o 19 (fun _ => o_len_os (enc := (encI .u8)) (l := x3) (fl := true) (n := x2) (s := 1)), .b (tbE h2)] (by kernel_rfl)
theorem frame_Decode_iabo_S0_t1 (x0 : List Int) (x1 : Bool) (x2 : Bool) (x3 : List Int) (x4 : Bool) (x6 : Int) : frame_Decode_iabo_S0_c0 x1 x3 x6 = false → frame_Decode_iabo_S0_c1 x1 x3 x6 = true → segG (runC E0 (cl E0) S56_0) [0, 3, 4] [4, 5] [3, 4] 2 ([(V.d (.int .i64 x6)), (V.ptr 0 1 0 0), (V.ptr 1 1 0 0)], [(Blk.gen 39 2 [[(V.d (.bool x1)), (V.d (slD (encI .u8) true 1 x2 x3))]] x4), (Blk.flat 33 9 [([(.int .i64 0)] ++ arrD .i64 x0 8)] false)]) = some (.normal, ([(V.ptr 0 1 0 0), (V.ptr 1 1 0 0)], [(Blk.gen 39 2 [[(V.d (.bool x1)), (V.d (slD (encI .u8) true 1 x2 x3))]] x4), (Blk.flat 33 9 [([(.int .i64 0)] ++ arrD .i64 x0 8)] false)])) := by
  unfold frame_Decode_iabo_S0_c0 frame_Decode_iabo_S0_c1
  cases h1 : tb (x1)
  · intro g0 g1
    exact absurd g0 tf
  · cases h2 : tb ((((x3.length : Nat) : Int) : Int) != 38)
    · cases h3 : tb (inb x3.length 0)
      · intro g0 g1
        exact absurd g1 ft
      · cases h4 : tb (((gt x3 0) : Int) != 165)
        · cases h5 : tb (inb x3.length 1)
          · intro g0 g1
            exact absurd g1 ft
          · cases h6 : tb (((wi (gt x3 1)) : Int) != x6)
            · intro g0 g1
              exact seg_walk [.b (notT (tbE h1)), .o 19 (fun _ => o_len_os (enc := (encI .u8)) (l := x3) (fl := true) (n := x2) (s := 1)), .b (tbE h2), .o 25 (fun _ => o_idx_os (enc := (encI .u8)) (l := x3) (fl := true) (n := x2) (s := 1) (k := .i64) (tbE h3)), .b (tbE h4), .o 32 (fun _ => o_idx_os (enc := (encI .u8)) (l := x3) (fl := true) (n := x2) (s := 1) (k := .i64) (tbE h5)), .b (tbE h6)] (by kernel_rfl)
            · intro g0 g1
              exact absurd g0 tf
        · intro g0 g1
          exact absurd g0 tf
    · intro g0 g1
      exact absurd g0 tf
def frame_Decode_iabo_S1_e0 (x2 : Bool) (x3 : List Int) : List Int := (sub (crc_Open_o_r0_2 x2 x3) 4 ((((crc_Open_o_r0_2 x2 x3).length) : Nat) : Int))
def frame_Decode_iabo_S1_c0 (x2 : Bool) (x3 : List Int) : Bool := (bif tb (crc_Open_o_c0 x2 x3) then (bif tb (crc_Open_o_r0_1 x2 x3) then (bif tb (ins ((crc_Open_o_r0_2 x2 x3).length) 2 4) then (bif tb (decide (2 < 4)) then (bif tb (word_Get2_o_c0 (sub (crc_Open_o_r0_2 x2 x3) 2 4)) then (bif tb (ins ((crc_Open_o_r0_2 x2 x3).length) 4 ((((crc_Open_o_r0_2 x2 x3).length) : Nat) : Int)) then (bif tb (decide (4 < ((((crc_Open_o_r0_2 x2 x3).length) : Nat) : Int))) then (bif tb (word_GetAll_o_c0 false (frame_Decode_iabo_S1_e0 x2 x3)) then (bif tb (word_GetAll_o_r0_0 false (frame_Decode_iabo_S1_e0 x2 x3)) then false else (bif tb (Nat.ble 8 ((word_GetAll_o_r0_2 false (frame_Decode_iabo_S1_e0 x2 x3)).length)) then true else false)) else false) else false) else false) else false) else (bif tb (crc_Open_o_r0_0 x2 x3) then false else (bif tb (ins ((crc_Open_o_r0_2 x2 x3).length) 4 ((((crc_Open_o_r0_2 x2 x3).length) : Nat) : Int)) then (bif tb (decide (4 < ((((crc_Open_o_r0_2 x2 x3).length) : Nat) : Int))) then (bif tb (word_GetAll_o_c0 false (frame_Decode_iabo_S1_e0 x2 x3)) then (bif tb (word_GetAll_o_r0_0 false (frame_Decode_iabo_S1_e0 x2 x3)) then false else (bif tb (Nat.ble 8 ((word_GetAll_o_r0_2 false (frame_Decode_iabo_S1_e0 x2 x3)).length)) then true else false)) else false) else false) else false))) else false) else false) else false)
def frame_Decode_iabo_S1_r0_5 (x2 : Bool) (x3 : List Int) : Int := (bif tb (decide (2 < 4)) then (word_Get2_o_r0_0 (sub (crc_Open_o_r0_2 x2 x3) 2 4)) else 0)
def frame_Decode_iabo_S1_c1 (x2 : Bool) (x3 : List Int) : Bool := (bif tb (crc_Open_o_c0 x2 x3) then (bif tb (crc_Open_o_r0_1 x2 x3) then false else true) else false)
theorem frame_Decode_iabo_S1_t0 (x0 : List Int) (x1 : Bool) (x2 : Bool) (x3 : List Int) (x4 : Bool) : frame_Decode_iabo_S1_c0 x2 x3 = true → segG (runC E0 (cl E0) S56_1) [3, 4] [4, 5] [4, 5] 2 ([(V.ptr 0 1 0 0), (V.ptr 1 1 0 0)], [(Blk.gen 39 2 [[(V.d (.bool x1)), (V.d (slD (encI .u8) true 1 x2 x3))]] x4), (Blk.flat 33 9 [([(.int .i64 0)] ++ arrD .i64 x0 8)] false)]) = some (.normal, ([(V.ptr 1 1 0 0), (V.d (.int .i64 0))], [(Blk.gen 39 2 [[(V.d (.bool x1)), (V.d (slD (encI .u8) true 1 x2 x3))]] x4), (Blk.flat 33 9 [([(.int .i64 (frame_Decode_iabo_S1_r0_5 x2 x3))] ++ arrD .i64 (word_GetAll_o_r0_2 false (frame_Decode_iabo_S1_e0 x2 x3)) 8)] false)])) := by
  unfold frame_Decode_iabo_S1_c0 frame_Decode_iabo_S1_r0_5
  cases h1 : tb (crc_Open_o_c0 x2 x3)
  · intro g0
    exact absurd g0 ft
  · cases h2 : tb (crc_Open_o_r0_1 x2 x3)
    · intro g0
      exact absurd g0 ft
    · cases h3 : tb (ins ((crc_Open_o_r0_2 x2 x3).length) 2 4)
      · intro g0
        exact absurd g0 ft
      · cases h4 : tb (decide (2 < 4))
        · cases h5 : tb (crc_Open_o_r0_0 x2 x3)
          · cases h6 : tb (ins ((crc_Open_o_r0_2 x2 x3).length) 4 ((((crc_Open_o_r0_2 x2 x3).length) : Nat) : Int))
            · intro g0
              exact absurd g0 ft
            · cases h7 : tb (decide (4 < ((((crc_Open_o_r0_2 x2 x3).length) : Nat) : Int)))
              · cases h8 : tb (word_GetAll_z_c0)
                · intro g0
                  exact absurd g0 ft
                · intro g0
                  exact absurd g0 ft
              · cases h8 : tb (word_GetAll_o_c0 false (frame_Decode_iabo_S1_e0 x2 x3))
                · intro g0
                  exact absurd g0 ft
                · cases h9 : tb (word_GetAll_o_r0_0 false (frame_Decode_iabo_S1_e0 x2 x3))
                  · cases h10 : tb (Nat.ble 8 ((word_GetAll_o_r0_2 false (frame_Decode_iabo_S1_e0 x2 x3)).length))
                    · intro g0
                      exact absurd g0 ft
                    · intro g0
                      exact seg_walk [.c (crc_Open_o_t0 x2 x3 (tbE h1)), .b (notT (tbE h2)), .m 49 (o_slice_sp0 (m := [(Blk.gen 39 2 [[(V.d (.bool x1)), (V.d (slD (encI .u8) true 1 x2 x3))]] x4), (Blk.flat 33 9 [([(.int .i64 0)] ++ arrD .i64 x0 8)] false), (Blk.flat 5 1 (List.map (encI .u8) (crc_Open_o_r0_2 x2 x3)) false), (Blk.flat 33 9 [[(.int .i64 0), (.int .i64 0), (.int .i64 0), (.int .i64 0), (.int .i64 0), (.int .i64 0), (.int .i64 0), (.int .i64 0), (.int .i64 0)]] false)]) (enc := (encI .u8)) (l := (crc_Open_o_r0_2 x2 x3)) (id := 2) (e := 5) (s := 1) (n := ((crc_Open_o_r0_2 x2 x3).length)) (p := false) (some (.i64, 2)) (some (.i64, 4)) (deSo_f (tbE h5)) (Nat.beq_refl _) (by kernel_rfl) (tbE h3) (tbE h4)), .c (word_Get2_z_t0), .m 56 (o_slice_spo (nl := (crc_Open_o_r0_0 x2 x3)) (m := [(Blk.gen 39 2 [[(V.d (.bool x1)), (V.d (slD (encI .u8) true 1 x2 x3))]] x4), (Blk.flat 33 9 [([(.int .i64 0)] ++ arrD .i64 x0 8)] false), (Blk.flat 5 1 (List.map (encI .u8) (crc_Open_o_r0_2 x2 x3)) false), (Blk.flat 33 9 [[(.int .i64 0), (.int .i64 0), (.int .i64 0), (.int .i64 0), (.int .i64 0), (.int .i64 0), (.int .i64 0), (.int .i64 0), (.int .i64 0)]] false)]) (enc := (encI .u8)) (l := (crc_Open_o_r0_2 x2 x3)) (id := 2) (e := 5) (s := 1) (n := ((crc_Open_o_r0_2 x2 x3).length)) (p := false) (some (.i64, 4)) none (by kernel_rfl) (tbE h6) (tbE h7)), .y (mm := [(Blk.gen 39 2 [[(V.d (.bool x1)), (V.d (slD (encI .u8) true 1 x2 x3))]] x4), (Blk.flat 33 9 [([(.int .i64 0)] ++ arrD .i64 x0 8)] false), (Blk.flat 5 1 (List.map (encI .u8) (crc_Open_o_r0_2 x2 x3)) false), (Blk.flat 33 9 [[(.int .i64 0), (.int .i64 0), (.int .i64 0), (.int .i64 0), (.int .i64 0), (.int .i64 0), (.int .i64 0), (.int .i64 0), (.int .i64 0)]] false)]) (args := [(V.sl 2 ((crc_Open_o_r0_2 x2 x3).length) (4 : Int).toNat ((((((crc_Open_o_r0_2 x2 x3).length) : Nat) : Int) : Int).toNat - (4 : Int).toNat))]) (args1 := [(V.d (.rs true 1 (List.map (encI .u8) (sub (crc_Open_o_r0_2 x2 x3) 4 ((((crc_Open_o_r0_2 x2 x3).length) : Nat) : Int))) false))]) (byvals_cons (byval_sp (enc := (encI .u8)) (l := (crc_Open_o_r0_2 x2 x3)) (e := 5) (s := 1) (p := false) (n := ((crc_Open_o_r0_2 x2 x3).length)) (lo := 4) (hi := ((((crc_Open_o_r0_2 x2 x3).length) : Nat) : Int)) (Nat.beq_refl _) (by kernel_rfl) (tbE h6)) (by kernel_rfl)), .c (word_GetAll_o_t0 false (frame_Decode_iabo_S1_e0 x2 x3) (tbE h8)), .m 61 (o_arrP (m := [(Blk.gen 39 2 [[(V.d (.bool x1)), (V.d (slD (encI .u8) true 1 x2 x3))]] x4), (Blk.flat 33 9 [([(.int .i64 0)] ++ arrD .i64 x0 8)] false), (Blk.flat 5 1 (List.map (encI .u8) (crc_Open_o_r0_2 x2 x3)) false), (Blk.flat 33 9 [[(.int .i64 0), (.int .i64 0), (.int .i64 0), (.int .i64 0), (.int .i64 0), (.int .i64 0), (.int .i64 0), (.int .i64 0), (.int .i64 0)]] false), (Blk.flat 3 1 (List.map (encI .i64) (word_GetAll_o_r0_2 false (frame_Decode_iabo_S1_e0 x2 x3))) false)]) (nl := (word_GetAll_o_r0_0 false (frame_Decode_iabo_S1_e0 x2 x3))) (id := 4) (n := ((word_GetAll_o_r0_2 false (frame_Decode_iabo_S1_e0 x2 x3)).length)) (k := 8) (s := 1) (tbE h9) (by kernel_rfl) (tbE h10)), .m 62 (o_load_pa (m := [(Blk.gen 39 2 [[(V.d (.bool x1)), (V.d (slD (encI .u8) true 1 x2 x3))]] x4), (Blk.flat 33 9 [([(.int .i64 0)] ++ arrD .i64 x0 8)] false), (Blk.flat 5 1 (List.map (encI .u8) (crc_Open_o_r0_2 x2 x3)) false), (Blk.flat 33 9 [[(.int .i64 0), (.int .i64 0), (.int .i64 0), (.int .i64 0), (.int .i64 0), (.int .i64 0), (.int .i64 0), (.int .i64 0), (.int .i64 0)]] false), (Blk.flat 3 1 (List.map (encI .i64) (word_GetAll_o_r0_2 false (frame_Decode_iabo_S1_e0 x2 x3))) false)]) (kd := .i64) (l := (word_GetAll_o_r0_2 false (frame_Decode_iabo_S1_e0 x2 x3))) (id := 4) (n := ((word_GetAll_o_r0_2 false (frame_Decode_iabo_S1_e0 x2 x3)).length)) (k := 8) (e := 3) (p := false) (Nat.beq_refl _) (by kernel_rfl) (tbE h10))] (by kernel_rfl)
                  · intro g0
                    exact absurd g0 ft
          · intro g0
            exact absurd g0 ft
        · cases h5 : tb (word_Get2_o_c0 (sub (crc_Open_o_r0_2 x2 x3) 2 4))
          · intro g0
            exact absurd g0 ft
          · cases h6 : tb (ins ((crc_Open_o_r0_2 x2 x3).length) 4 ((((crc_Open_o_r0_2 x2 x3).length) : Nat) : Int))
            · intro g0
              exact absurd g0 ft
            · cases h7 : tb (decide (4 < ((((crc_Open_o_r0_2 x2 x3).length) : Nat) : Int)))
              · cases h8 : tb (crc_Open_o_r0_0 x2 x3)
                · cases h9 : tb (word_GetAll_z_c0)
                  · intro g0
                    exact absurd g0 ft
                  · intro g0
                    exact absurd g0 ft
                · intro g0
                  exact absurd g0 ft
              · cases h8 : tb (word_GetAll_o_c0 false (frame_Decode_iabo_S1_e0 x2 x3))
                · intro g0
                  exact absurd g0 ft
                · cases h9 : tb (word_GetAll_o_r0_0 false (frame_Decode_iabo_S1_e0 x2 x3))
                  · cases h10 : tb (Nat.ble 8 ((word_GetAll_o_r0_2 false (frame_Decode_iabo_S1_e0 x2 x3)).length))
                    · intro g0
                      exact absurd g0 ft
                    · intro g0
                      exact seg_walk [.c (crc_Open_o_t0 x2 x3 (tbE h1)), .b (notT (tbE h2)), .m 49 (o_slice_spo (nl := (crc_Open_o_r0_0 x2 x3)) (m := [(Blk.gen 39 2 [[(V.d (.bool x1)), (V.d (slD (encI .u8) true 1 x2 x3))]] x4), (Blk.flat 33 9 [([(.int .i64 0)] ++ arrD .i64 x0 8)] false), (Blk.flat 5 1 (List.map (encI .u8) (crc_Open_o_r0_2 x2 x3)) false), (Blk.flat 33 9 [[(.int .i64 0), (.int .i64 0), (.int .i64 0), (.int .i64 0), (.int .i64 0), (.int .i64 0), (.int .i64 0), (.int .i64 0), (.int .i64 0)]] false)]) (enc := (encI .u8)) (l := (crc_Open_o_r0_2 x2 x3)) (id := 2) (e := 5) (s := 1) (n := ((crc_Open_o_r0_2 x2 x3).length)) (p := false) (some (.i64, 2)) (some (.i64, 4)) (by kernel_rfl) (tbE h3) (tbE h4)), .y (mm := [(Blk.gen 39 2 [[(V.d (.bool x1)), (V.d (slD (encI .u8) true 1 x2 x3))]] x4), (Blk.flat 33 9 [([(.int .i64 0)] ++ arrD .i64 x0 8)] false), (Blk.flat 5 1 (List.map (encI .u8) (crc_Open_o_r0_2 x2 x3)) false), (Blk.flat 33 9 [[(.int .i64 0), (.int .i64 0), (.int .i64 0), (.int .i64 0), (.int .i64 0), (.int .i64 0), (.int .i64 0), (.int .i64 0), (.int .i64 0)]] false)]) (args := [(V.sl 2 ((crc_Open_o_r0_2 x2 x3).length) (2 : Int).toNat ((4 : Int).toNat - (2 : Int).toNat))]) (args1 := [(V.d (.rs true 1 (List.map (encI .u8) (sub (crc_Open_o_r0_2 x2 x3) 2 4)) false))]) (byvals_cons (byval_sp (enc := (encI .u8)) (l := (crc_Open_o_r0_2 x2 x3)) (e := 5) (s := 1) (p := false) (n := ((crc_Open_o_r0_2 x2 x3).length)) (lo := 2) (hi := 4) (Nat.beq_refl _) (by kernel_rfl) (tbE h3)) (by kernel_rfl)), .c (word_Get2_o_t0 false (sub (crc_Open_o_r0_2 x2 x3) 2 4) (tbE h5)), .m 56 (o_slice_spo (nl := (crc_Open_o_r0_0 x2 x3)) (m := [(Blk.gen 39 2 [[(V.d (.bool x1)), (V.d (slD (encI .u8) true 1 x2 x3))]] x4), (Blk.flat 33 9 [([(.int .i64 0)] ++ arrD .i64 x0 8)] false), (Blk.flat 5 1 (List.map (encI .u8) (crc_Open_o_r0_2 x2 x3)) false), (Blk.flat 33 9 [[(.int .i64 (word_Get2_o_r0_0 (sub (crc_Open_o_r0_2 x2 x3) 2 4))), (.int .i64 0), (.int .i64 0), (.int .i64 0), (.int .i64 0), (.int .i64 0), (.int .i64 0), (.int .i64 0), (.int .i64 0)]] false)]) (enc := (encI .u8)) (l := (crc_Open_o_r0_2 x2 x3)) (id := 2) (e := 5) (s := 1) (n := ((crc_Open_o_r0_2 x2 x3).length)) (p := false) (some (.i64, 4)) none (by kernel_rfl) (tbE h6) (tbE h7)), .y (mm := [(Blk.gen 39 2 [[(V.d (.bool x1)), (V.d (slD (encI .u8) true 1 x2 x3))]] x4), (Blk.flat 33 9 [([(.int .i64 0)] ++ arrD .i64 x0 8)] false), (Blk.flat 5 1 (List.map (encI .u8) (crc_Open_o_r0_2 x2 x3)) false), (Blk.flat 33 9 [[(.int .i64 (word_Get2_o_r0_0 (sub (crc_Open_o_r0_2 x2 x3) 2 4))), (.int .i64 0), (.int .i64 0), (.int .i64 0), (.int .i64 0), (.int .i64 0), (.int .i64 0), (.int .i64 0), (.int .i64 0)]] false)]) (args := [(V.sl 2 ((crc_Open_o_r0_2 x2 x3).length) (4 : Int).toNat ((((((crc_Open_o_r0_2 x2 x3).length) : Nat) : Int) : Int).toNat - (4 : Int).toNat))]) (args1 := [(V.d (.rs true 1 (List.map (encI .u8) (sub (crc_Open_o_r0_2 x2 x3) 4 ((((crc_Open_o_r0_2 x2 x3).length) : Nat) : Int))) false))]) (byvals_cons (byval_sp (enc := (encI .u8)) (l := (crc_Open_o_r0_2 x2 x3)) (e := 5) (s := 1) (p := false) (n := ((crc_Open_o_r0_2 x2 x3).length)) (lo := 4) (hi := ((((crc_Open_o_r0_2 x2 x3).length) : Nat) : Int)) (Nat.beq_refl _) (by kernel_rfl) (tbE h6)) (by kernel_rfl)), .c (word_GetAll_o_t0 false (frame_Decode_iabo_S1_e0 x2 x3) (tbE h8)), .m 61 (o_arrP (m := [(Blk.gen 39 2 [[(V.d (.bool x1)), (V.d (slD (encI .u8) true 1 x2 x3))]] x4), (Blk.flat 33 9 [([(.int .i64 0)] ++ arrD .i64 x0 8)] false), (Blk.flat 5 1 (List.map (encI .u8) (crc_Open_o_r0_2 x2 x3)) false), (Blk.flat 33 9 [[(.int .i64 (word_Get2_o_r0_0 (sub (crc_Open_o_r0_2 x2 x3) 2 4))), (.int .i64 0), (.int .i64 0), (.int .i64 0), (.int .i64 0), (.int .i64 0), (.int .i64 0), (.int .i64 0), (.int .i64 0)]] false), (Blk.flat 3 1 (List.map (encI .i64) (word_GetAll_o_r0_2 false (frame_Decode_iabo_S1_e0 x2 x3))) false)]) (nl := (word_GetAll_o_r0_0 false (frame_Decode_iabo_S1_e0 x2 x3))) (id := 4) (n := ((word_GetAll_o_r0_2 false (frame_Decode_iabo_S1_e0 x2 x3)).length)) (k := 8) (s := 1) (tbE h9) (by kernel_rfl) (tbE h10)), .m 62 (o_load_pa (m := [(Blk.gen 39 2 [[(V.d (.bool x1)), (V.d (slD (encI .u8) true 1 x2 x3))]] x4), (Blk.flat 33 9 [([(.int .i64 0)] ++ arrD .i64 x0 8)] false), (Blk.flat 5 1 (List.map (encI .u8) (crc_Open_o_r0_2 x2 x3)) false), (Blk.flat 33 9 [[(.int .i64 (word_Get2_o_r0_0 (sub (crc_Open_o_r0_2 x2 x3) 2 4))), (.int .i64 0), (.int .i64 0), (.int .i64 0), (.int .i64 0), (.int .i64 0), (.int .i64 0), (.int .i64 0), (.int .i64 0)]] false), (Blk.flat 3 1 (List.map (encI .i64) (word_GetAll_o_r0_2 false (frame_Decode_iabo_S1_e0 x2 x3))) false)]) (kd := .i64) (l := (word_GetAll_o_r0_2 false (frame_Decode_iabo_S1_e0 x2 x3))) (id := 4) (n := ((word_GetAll_o_r0_2 false (frame_Decode_iabo_S1_e0 x2 x3)).length)) (k := 8) (e := 3) (p := false) (Nat.beq_refl _) (by kernel_rfl) (tbE h10))] (by kernel_rfl)
                  · intro g0
                    exact absurd g0 ft
theorem frame_Decode_iabo_S1_t1 (x0 : List Int) (x1 : Bool) (x2 : Bool) (x3 : List Int) (x4 : Bool) : frame_Decode_iabo_S1_c0 x2 x3 = false → frame_Decode_iabo_S1_c1 x2 x3 = true → segG (runC E0 (cl E0) S56_1) [3, 4] [4, 5] [4, 5] 2 ([(V.ptr 0 1 0 0), (V.ptr 1 1 0 0)], [(Blk.gen 39 2 [[(V.d (.bool x1)), (V.d (slD (encI .u8) true 1 x2 x3))]] x4), (Blk.flat 33 9 [([(.int .i64 0)] ++ arrD .i64 x0 8)] false)]) = some (.ret, ([(V.ptr 1 1 0 0), (V.d (.int .i64 5))], [(Blk.gen 39 2 [[(V.d (.bool x1)), (V.d (slD (encI .u8) true 1 x2 x3))]] x4), (Blk.flat 33 9 [([(.int .i64 0)] ++ arrD .i64 [0, 0, 0, 0, 0, 0, 0, 0] 8)] false)])) := by
  unfold frame_Decode_iabo_S1_c0 frame_Decode_iabo_S1_c1
  cases h1 : tb (crc_Open_o_c0 x2 x3)
  · intro g0 g1
    exact absurd g1 ft
  · cases h2 : tb (crc_Open_o_r0_1 x2 x3)
    · intro g0 g1
      exact seg_walk [.c (crc_Open_o_t0 x2 x3 (tbE h1)), .b (notF (tbE h2))] (by kernel_rfl)
    · cases h3 : tb (ins ((crc_Open_o_r0_2 x2 x3).length) 2 4)
      · intro g0 g1
        exact absurd g1 ft
      · cases h4 : tb (decide (2 < 4))
        · cases h5 : tb (crc_Open_o_r0_0 x2 x3)
          · cases h6 : tb (ins ((crc_Open_o_r0_2 x2 x3).length) 4 ((((crc_Open_o_r0_2 x2 x3).length) : Nat) : Int))
            · intro g0 g1
              exact absurd g1 ft
            · cases h7 : tb (decide (4 < ((((crc_Open_o_r0_2 x2 x3).length) : Nat) : Int)))
              · cases h8 : tb (word_GetAll_z_c0)
                · intro g0 g1
                  exact absurd g1 ft
                · intro g0 g1
                  exact absurd g1 ft
              · cases h8 : tb (word_GetAll_o_c0 false (frame_Decode_iabo_S1_e0 x2 x3))
                · intro g0 g1
                  exact absurd g1 ft
                · cases h9 : tb (word_GetAll_o_r0_0 false (frame_Decode_iabo_S1_e0 x2 x3))
                  · cases h10 : tb (Nat.ble 8 ((word_GetAll_o_r0_2 false (frame_Decode_iabo_S1_e0 x2 x3)).length))
                    · intro g0 g1
                      exact absurd g1 ft
                    · intro g0 g1
                      exact absurd g0 tf
                  · intro g0 g1
                    exact absurd g1 ft
          · intro g0 g1
            exact absurd g1 ft
        · cases h5 : tb (word_Get2_o_c0 (sub (crc_Open_o_r0_2 x2 x3) 2 4))
          · intro g0 g1
            exact absurd g1 ft
          · cases h6 : tb (ins ((crc_Open_o_r0_2 x2 x3).length) 4 ((((crc_Open_o_r0_2 x2 x3).length) : Nat) : Int))
            · intro g0 g1
              exact absurd g1 ft
            · cases h7 : tb (decide (4 < ((((crc_Open_o_r0_2 x2 x3).length) : Nat) : Int)))
              · cases h8 : tb (crc_Open_o_r0_0 x2 x3)
                · cases h9 : tb (word_GetAll_z_c0)
                  · intro g0 g1
                    exact absurd g1 ft
                  · intro g0 g1
                    exact absurd g1 ft
                · intro g0 g1
                  exact absurd g1 ft
              · cases h8 : tb (word_GetAll_o_c0 false (frame_Decode_iabo_S1_e0 x2 x3))
                · intro g0 g1
                  exact absurd g1 ft
                · cases h9 : tb (word_GetAll_o_r0_0 false (frame_Decode_iabo_S1_e0 x2 x3))
                  · cases h10 : tb (Nat.ble 8 ((word_GetAll_o_r0_2 false (frame_Decode_iabo_S1_e0 x2 x3)).length))
                    · intro g0 g1
                      exact absurd g1 ft
                    · intro g0 g1
                      exact absurd g0 tf
                  · intro g0 g1
                    exact absurd g1 ft
def frame_Decode_iabo_c0 (x0 : Int) (x1 : Bool) (x2 : Bool) (x3 : List Int) : Bool := (bif tb (frame_Decode_iabo_S0_c0 x1 x3 x0) then true else (bif tb (frame_Decode_iabo_S0_c1 x1 x3 x0) then (bif tb (frame_Decode_iabo_S1_c0 x2 x3) then true else (bif tb (frame_Decode_iabo_S1_c1 x2 x3) then true else false)) else false))
def frame_Decode_iabo_r0_0 (x0 : Int) (x1 : Bool) (x2 : Bool) (x3 : List Int) : Int := (bif tb (frame_Decode_iabo_S0_c0 x1 x3 x0) then 0 else (bif tb (frame_Decode_iabo_S1_c0 x2 x3) then (frame_Decode_iabo_S1_r0_5 x2 x3) else 0))
def frame_Decode_iabo_r0_1 (x0 : Int) (x1 : Bool) (x2 : Bool) (x3 : List Int) : List Int := (bif tb (frame_Decode_iabo_S0_c0 x1 x3 x0) then [0, 0, 0, 0, 0, 0, 0, 0] else (bif tb (frame_Decode_iabo_S1_c0 x2 x3) then (word_GetAll_o_r0_2 false (frame_Decode_iabo_S1_e0 x2 x3)) else [0, 0, 0, 0, 0, 0, 0, 0]))
def frame_Decode_iabo_r0_2 (x0 : Int) (x1 : Bool) (x2 : Bool) (x3 : List Int) : Int := (bif tb (frame_Decode_iabo_S0_c0 x1 x3 x0) then (frame_Decode_iabo_S0_r0_0 x1 x3) else (bif tb (frame_Decode_iabo_S1_c0 x2 x3) then 0 else 5))
theorem frame_Decode_iabo_t0 (x0 : Int) (x1 : Bool) (x2 : Bool) (x3 : List Int) : frame_Decode_iabo_c0 x0 x1 x2 x3 = true → cl E0 56 [(V.d (.int .i64 x0)), (V.agg [(V.d (.bool x1)), (V.d (slD (encI .u8) true 1 x2 x3))])] [] = some ([(V.agg [(V.d (.int .i64 (frame_Decode_iabo_r0_0 x0 x1 x2 x3))), (V.d (.int .i64 (gt (frame_Decode_iabo_r0_1 x0 x1 x2 x3) 0))), (V.d (.int .i64 (gt (frame_Decode_iabo_r0_1 x0 x1 x2 x3) 1))), (V.d (.int .i64 (gt (frame_Decode_iabo_r0_1 x0 x1 x2 x3) 2))), (V.d (.int .i64 (gt (frame_Decode_iabo_r0_1 x0 x1 x2 x3) 3))), (V.d (.int .i64 (gt (frame_Decode_iabo_r0_1 x0 x1 x2 x3) 4))), (V.d (.int .i64 (gt (frame_Decode_iabo_r0_1 x0 x1 x2 x3) 5))), (V.d (.int .i64 (gt (frame_Decode_iabo_r0_1 x0 x1 x2 x3) 6))), (V.d (.int .i64 (gt (frame_Decode_iabo_r0_1 x0 x1 x2 x3) 7)))]), (V.d (.int .i64 (frame_Decode_iabo_r0_2 x0 x1 x2 x3)))], []) := by
  unfold frame_Decode_iabo_c0 frame_Decode_iabo_r0_0 frame_Decode_iabo_r0_1 frame_Decode_iabo_r0_2
  cases h1 : tb (frame_Decode_iabo_S0_c0 x1 x3 x0)
  · cases h2 : tb (frame_Decode_iabo_S0_c1 x1 x3 x0)
    · intro g0
      exact absurd g0 ft
    · cases h3 : tb (frame_Decode_iabo_S1_c0 x2 x3)
      · cases h4 : tb (frame_Decode_iabo_S1_c1 x2 x3)
        · intro g0
          exact absurd g0 ft
        · intro g0
          exact w56 [.s (frame_Decode_iabo_S0_t1 [0, 0, 0, 0, 0, 0, 0, 0] x1 x2 x3 false x0 (tbE h1) (tbE h2)), .s (frame_Decode_iabo_S1_t1 [0, 0, 0, 0, 0, 0, 0, 0] x1 x2 x3 false (tbE h3) (tbE h4))] (by kernel_rfl)
      · intro g0
        exact w56 [.s (frame_Decode_iabo_S0_t1 [0, 0, 0, 0, 0, 0, 0, 0] x1 x2 x3 false x0 (tbE h1) (tbE h2)), .s (frame_Decode_iabo_S1_t0 [0, 0, 0, 0, 0, 0, 0, 0] x1 x2 x3 false (tbE h3))] (by kernel_rfl)
  · intro g0
    exact w56 [.s (frame_Decode_iabo_S0_t0 [0, 0, 0, 0, 0, 0, 0, 0] x1 x2 x3 false x0 (tbE h1))] (by kernel_rfl)
def frame_Right_c1_i_r0_0 (x0 : Int) : Bool := (bif tb (decide (x0 < (-2147483648))) then true else (decide (2147483647 < x0)))
theorem frame_Right_c1_i_t0 (x0 : Int) : cl E0 57 [(V.d (.int .i64 x0))] [] = some ([(V.d (.bool (frame_Right_c1_i_r0_0 x0)))], []) := by
  unfold frame_Right_c1_i_r0_0
  cases h1 : tb (decide (x0 < (-2147483648)))
  · exact w57 [.b (tbE h1)] (by kernel_rfl)
  · exact w57 [.b (tbE h1)] (by kernel_rfl)
structure slices_IndexFunc_int_o_frame_Right_c1_L0_s0 where
  c3 : Int
  deriving Inhabited
def slices_IndexFunc_int_o_frame_Right_c1_L0_enc (x0 : Bool) (x1 : List Int) (x2 : Int) (x3 : Int) (s0 : slices_IndexFunc_int_o_frame_Right_c1_L0_s0) : List V × Mem := ([(V.d (slD (encI .i64) true 1 x0 x1)), (V.fn (.func 57) [] []), (V.d (.int .i64 x2)), (V.d (.int .i64 s0.c3))], [])
def slices_IndexFunc_int_o_frame_Right_c1_L0_sel (x1 : List Int) (x2 : Int) (s0 : slices_IndexFunc_int_o_frame_Right_c1_L0_s0) : Bool := (bif tb (decide (s0.c3 < x2)) then (bif tb (inb x1.length s0.c3) then (bif tb (frame_Right_c1_i_r0_0 (gt x1 s0.c3)) then false else true) else false) else false)
def slices_IndexFunc_int_o_frame_Right_c1_L0_nx (x1 : List Int) (x2 : Int) (s0 : slices_IndexFunc_int_o_frame_Right_c1_L0_s0) : slices_IndexFunc_int_o_frame_Right_c1_L0_s0 := ⟨(wi (s0.c3 + 1))⟩
def slices_IndexFunc_int_o_frame_Right_c1_L0_ok (x1 : List Int) (x2 : Int) (s0 : slices_IndexFunc_int_o_frame_Right_c1_L0_s0) : Bool := (itS (slices_IndexFunc_int_o_frame_Right_c1_L0_sel x1 x2) (slices_IndexFunc_int_o_frame_Right_c1_L0_nx x1 x2) bound s0).isSome
def slices_IndexFunc_int_o_frame_Right_c1_L0_end (x1 : List Int) (x2 : Int) (s0 : slices_IndexFunc_int_o_frame_Right_c1_L0_s0) : slices_IndexFunc_int_o_frame_Right_c1_L0_s0 := (itS (slices_IndexFunc_int_o_frame_Right_c1_L0_sel x1 x2) (slices_IndexFunc_int_o_frame_Right_c1_L0_nx x1 x2) bound s0).getD default
theorem slices_IndexFunc_int_o_frame_Right_c1_L0_go (x0 : Bool) (x1 : List Int) (x2 : Int) (x3 : Int) (s0 : slices_IndexFunc_int_o_frame_Right_c1_L0_s0) : slices_IndexFunc_int_o_frame_Right_c1_L0_sel x1 x2 s0 = true → (roundG (runC E0 (cl E0) L69_0) [0, 1, 7, 8] [4] 0) (slices_IndexFunc_int_o_frame_Right_c1_L0_enc x0 x1 x2 x3 s0) = some (.normal, slices_IndexFunc_int_o_frame_Right_c1_L0_enc x0 x1 x2 x3 (slices_IndexFunc_int_o_frame_Right_c1_L0_nx x1 x2 s0)) := by
  unfold slices_IndexFunc_int_o_frame_Right_c1_L0_sel slices_IndexFunc_int_o_frame_Right_c1_L0_nx
  cases h1 : tb (decide (s0.c3 < x2))
  · intro g0
    exact absurd g0 ft
  · cases h2 : tb (inb x1.length s0.c3)
    · intro g0
      exact absurd g0 ft
    · cases h3 : tb (frame_Right_c1_i_r0_0 (gt x1 s0.c3))
      · intro _
        exact round_walk [.b (tbE h1), .o 14 (fun _ => o_idx_os (enc := (encI .i64)) (l := x1) (fl := true) (n := x0) (s := 1) (k := .i64) (tbE h2)), .c (frame_Right_c1_i_t0 (gt x1 s0.c3)), .b (tbE h3)] (by kernel_rfl)
      · intro g0
        exact absurd g0 ft
def slices_IndexFunc_int_o_frame_Right_c1_L0_c0 (x1 : List Int) (x2 : Int) (s0 : slices_IndexFunc_int_o_frame_Right_c1_L0_s0) : Bool := (bif tb (decide (s0.c3 < x2)) then (bif tb (inb x1.length s0.c3) then true else false) else false)
def slices_IndexFunc_int_o_frame_Right_c1_L0_c1 (x2 : Int) (s0 : slices_IndexFunc_int_o_frame_Right_c1_L0_s0) : Bool := (bif tb (decide (s0.c3 < x2)) then false else true)
theorem slices_IndexFunc_int_o_frame_Right_c1_L0_x0 (x0 : Bool) (x1 : List Int) (x2 : Int) (x3 : Int) (s0 : slices_IndexFunc_int_o_frame_Right_c1_L0_s0) : slices_IndexFunc_int_o_frame_Right_c1_L0_sel x1 x2 s0 = false → slices_IndexFunc_int_o_frame_Right_c1_L0_c0 x1 x2 s0 = true → (roundG (runC E0 (cl E0) L69_0) [0, 1, 7, 8] [4] 0) (slices_IndexFunc_int_o_frame_Right_c1_L0_enc x0 x1 x2 x3 s0) = some (.ret, ([(V.d (.int .i64 s0.c3))], [])) := by
  unfold slices_IndexFunc_int_o_frame_Right_c1_L0_sel slices_IndexFunc_int_o_frame_Right_c1_L0_c0
  cases h1 : tb (decide (s0.c3 < x2))
  · intro g0 g1
    exact absurd g1 ft
  · cases h2 : tb (inb x1.length s0.c3)
    · intro g0 g1
      exact absurd g1 ft
    · cases h3 : tb (frame_Right_c1_i_r0_0 (gt x1 s0.c3))
      · intro g0 g1
        exact absurd g0 tf
      · intro g0 g1
        exact round_walk [.b (tbE h1), .o 14 (fun _ => o_idx_os (enc := (encI .i64)) (l := x1) (fl := true) (n := x0) (s := 1) (k := .i64) (tbE h2)), .c (frame_Right_c1_i_t0 (gt x1 s0.c3)), .b (tbE h3)] (by kernel_rfl)
theorem slices_IndexFunc_int_o_frame_Right_c1_L0_x1 (x0 : Bool) (x1 : List Int) (x2 : Int) (x3 : Int) (s0 : slices_IndexFunc_int_o_frame_Right_c1_L0_s0) : slices_IndexFunc_int_o_frame_Right_c1_L0_sel x1 x2 s0 = false → slices_IndexFunc_int_o_frame_Right_c1_L0_c0 x1 x2 s0 = false → slices_IndexFunc_int_o_frame_Right_c1_L0_c1 x2 s0 = true → (roundG (runC E0 (cl E0) L69_0) [0, 1, 7, 8] [4] 0) (slices_IndexFunc_int_o_frame_Right_c1_L0_enc x0 x1 x2 x3 s0) = some ((.exit 0), ([V.un], [])) := by
  unfold slices_IndexFunc_int_o_frame_Right_c1_L0_sel slices_IndexFunc_int_o_frame_Right_c1_L0_c0 slices_IndexFunc_int_o_frame_Right_c1_L0_c1
  cases h1 : tb (decide (s0.c3 < x2))
  · intro g0 g1 g2
    exact round_walk [.b (tbE h1)] (by kernel_rfl)
  · cases h2 : tb (inb x1.length s0.c3)
    · intro g0 g1 g2
      exact absurd g2 ft
    · cases h3 : tb (frame_Right_c1_i_r0_0 (gt x1 s0.c3))
      · intro g0 g1 g2
        exact absurd g0 tf
      · intro g0 g1 g2
        exact absurd g1 tf
theorem slices_IndexFunc_int_o_frame_Right_c1_L0_f0_0 (x0 : Bool) (x1 : List Int) (x2 : Int) (x3 : Int) (s : slices_IndexFunc_int_o_frame_Right_c1_L0_s0) (hok : slices_IndexFunc_int_o_frame_Right_c1_L0_ok x1 x2 s = true) (c0 : slices_IndexFunc_int_o_frame_Right_c1_L0_c0 x1 x2 (slices_IndexFunc_int_o_frame_Right_c1_L0_end x1 x2 s) = true) : loopG (roundG (runC E0 (cl E0) L69_0) [0, 1, 7, 8] [4] 0) bound (slices_IndexFunc_int_o_frame_Right_c1_L0_enc x0 x1 x2 x3 s) = some (.ret, ([(V.d (.int .i64 ((slices_IndexFunc_int_o_frame_Right_c1_L0_end x1 x2 s).c3)))], [])) := by
  have e : itS (slices_IndexFunc_int_o_frame_Right_c1_L0_sel x1 x2) (slices_IndexFunc_int_o_frame_Right_c1_L0_nx x1 x2) bound s = some (slices_IndexFunc_int_o_frame_Right_c1_L0_end x1 x2 s) := itS_get hok
  have f := itS_false e
  exact loop_it (slices_IndexFunc_int_o_frame_Right_c1_L0_go x0 x1 x2 x3) bound s _ _ _ e (fun h => by cases h) (slices_IndexFunc_int_o_frame_Right_c1_L0_x0 x0 x1 x2 x3 (slices_IndexFunc_int_o_frame_Right_c1_L0_end x1 x2 s) f c0)
theorem slices_IndexFunc_int_o_frame_Right_c1_L0_f0_1 (x0 : Bool) (x1 : List Int) (x2 : Int) (x3 : Int) (s : slices_IndexFunc_int_o_frame_Right_c1_L0_s0) (hok : slices_IndexFunc_int_o_frame_Right_c1_L0_ok x1 x2 s = true) (c0 : slices_IndexFunc_int_o_frame_Right_c1_L0_c0 x1 x2 (slices_IndexFunc_int_o_frame_Right_c1_L0_end x1 x2 s) = false) (c1 : slices_IndexFunc_int_o_frame_Right_c1_L0_c1 x2 (slices_IndexFunc_int_o_frame_Right_c1_L0_end x1 x2 s) = true) : loopG (roundG (runC E0 (cl E0) L69_0) [0, 1, 7, 8] [4] 0) bound (slices_IndexFunc_int_o_frame_Right_c1_L0_enc x0 x1 x2 x3 s) = some ((.exit 0), ([V.un], [])) := by
  have e : itS (slices_IndexFunc_int_o_frame_Right_c1_L0_sel x1 x2) (slices_IndexFunc_int_o_frame_Right_c1_L0_nx x1 x2) bound s = some (slices_IndexFunc_int_o_frame_Right_c1_L0_end x1 x2 s) := itS_get hok
  have f := itS_false e
  exact loop_it (slices_IndexFunc_int_o_frame_Right_c1_L0_go x0 x1 x2 x3) bound s _ _ _ e (fun h => by cases h) (slices_IndexFunc_int_o_frame_Right_c1_L0_x1 x0 x1 x2 x3 (slices_IndexFunc_int_o_frame_Right_c1_L0_end x1 x2 s) f c0 c1)
def slices_IndexFunc_int_o_frame_Right_c1_e0 (x1 : List Int) : slices_IndexFunc_int_o_frame_Right_c1_L0_s0 := slices_IndexFunc_int_o_frame_Right_c1_L0_end x1 ((x1.length : Nat) : Int) (⟨0⟩ : slices_IndexFunc_int_o_frame_Right_c1_L0_s0)
def slices_IndexFunc_int_o_frame_Right_c1_c0 (x1 : List Int) : Bool := (bif tb (slices_IndexFunc_int_o_frame_Right_c1_L0_ok x1 ((x1.length : Nat) : Int) (⟨0⟩ : slices_IndexFunc_int_o_frame_Right_c1_L0_s0)) then (bif tb (slices_IndexFunc_int_o_frame_Right_c1_L0_c0 x1 ((x1.length : Nat) : Int) (slices_IndexFunc_int_o_frame_Right_c1_e0 x1)) then true else (bif tb (slices_IndexFunc_int_o_frame_Right_c1_L0_c1 ((x1.length : Nat) : Int) (slices_IndexFunc_int_o_frame_Right_c1_e0 x1)) then true else false)) else false)
def slices_IndexFunc_int_o_frame_Right_c1_r0_0 (x1 : List Int) : Int := (bif tb (slices_IndexFunc_int_o_frame_Right_c1_L0_c0 x1 ((x1.length : Nat) : Int) (slices_IndexFunc_int_o_frame_Right_c1_e0 x1)) then ((slices_IndexFunc_int_o_frame_Right_c1_e0 x1).c3) else (-1))
theorem slices_IndexFunc_int_o_frame_Right_c1_t0 (x0 : Bool) (x1 : List Int) : slices_IndexFunc_int_o_frame_Right_c1_c0 x1 = true → cl E0 69 [(V.d (slD (encI .i64) true 1 x0 x1)), (V.fn (.func 57) [] [])] [] = some ([(V.d (.int .i64 (slices_IndexFunc_int_o_frame_Right_c1_r0_0 x1)))], []) := by
  unfold slices_IndexFunc_int_o_frame_Right_c1_c0 slices_IndexFunc_int_o_frame_Right_c1_r0_0
  cases h1 : tb (slices_IndexFunc_int_o_frame_Right_c1_L0_ok x1 ((x1.length : Nat) : Int) (⟨0⟩ : slices_IndexFunc_int_o_frame_Right_c1_L0_s0))
  · intro g0
    exact absurd g0 ft
  · cases h2 : tb (slices_IndexFunc_int_o_frame_Right_c1_L0_c0 x1 ((x1.length : Nat) : Int) (slices_IndexFunc_int_o_frame_Right_c1_e0 x1))
    · cases h3 : tb (slices_IndexFunc_int_o_frame_Right_c1_L0_c1 ((x1.length : Nat) : Int) (slices_IndexFunc_int_o_frame_Right_c1_e0 x1))
      · intro g0
        exact absurd g0 ft
      · intro g0
        exact w69 [.o 7 (fun _ => o_len_os (enc := (encI .i64)) (l := x1) (fl := true) (n := x0) (s := 1)), .l (slices_IndexFunc_int_o_frame_Right_c1_L0_f0_1 x0 x1 ((x1.length : Nat) : Int) 0 (⟨0⟩ : slices_IndexFunc_int_o_frame_Right_c1_L0_s0) (tbE h1) (tbE h2) (tbE h3))] (by kernel_rfl)
    · intro g0
      exact w69 [.o 7 (fun _ => o_len_os (enc := (encI .i64)) (l := x1) (fl := true) (n := x0) (s := 1)), .l (slices_IndexFunc_int_o_frame_Right_c1_L0_f0_0 x0 x1 ((x1.length : Nat) : Int) 0 (⟨0⟩ : slices_IndexFunc_int_o_frame_Right_c1_L0_s0) (tbE h1) (tbE h2))] (by kernel_rfl)
def slices_ContainsFunc_int_o_frame_Right_c1_c0 (x1 : List Int) : Bool := (bif tb (slices_IndexFunc_int_o_frame_Right_c1_c0 x1) then true else false)
theorem slices_ContainsFunc_int_o_frame_Right_c1_t0 (x0 : Bool) (x1 : List Int) : slices_ContainsFunc_int_o_frame_Right_c1_c0 x1 = true → cl E0 53 [(V.d (slD (encI .i64) true 1 x0 x1)), (V.fn (.func 57) [] [])] [] = some ([(V.d (.bool (decide (0 ≤ (slices_IndexFunc_int_o_frame_Right_c1_r0_0 x1)))))], []) := by
  unfold slices_ContainsFunc_int_o_frame_Right_c1_c0
  cases h1 : tb (slices_IndexFunc_int_o_frame_Right_c1_c0 x1)
  · intro g0
    exact absurd g0 ft
  · intro g0
    exact w53 [.c (slices_IndexFunc_int_o_frame_Right_c1_t0 x0 x1 (tbE h1))] (by kernel_rfl)
def frame_Right_ai9_e0 (x1 : List Int) : List Int := [(gt x1 0), (gt x1 1), (gt x1 2), (gt x1 3), (gt x1 4), (gt x1 5), (gt x1 6), (gt x1 7)]
def frame_Right_ai9_c0 (x0 : Int) (x1 : List Int) : Bool := (bif tb (decide (0 ≤ x0)) then (bif tb (decide (x0 < 65536)) then (bif tb (slices_ContainsFunc_int_o_frame_Right_c1_c0 (frame_Right_ai9_e0 x1)) then true else false) else true) else true)
def frame_Right_ai9_r0_0 (x0 : Int) (x1 : List Int) : Bool := (bif tb (decide (0 ≤ x0)) then (bif tb (decide (x0 < 65536)) then (!(decide (0 ≤ (slices_IndexFunc_int_o_frame_Right_c1_r0_0 (frame_Right_ai9_e0 x1))))) else false) else false)
theorem frame_Right_ai9_t0 (x0 : Int) (x1 : List Int) : frame_Right_ai9_c0 x0 x1 = true → cl E0 30 [(V.agg [(V.d (.int .i64 x0)), (V.d (.int .i64 (gt x1 0))), (V.d (.int .i64 (gt x1 1))), (V.d (.int .i64 (gt x1 2))), (V.d (.int .i64 (gt x1 3))), (V.d (.int .i64 (gt x1 4))), (V.d (.int .i64 (gt x1 5))), (V.d (.int .i64 (gt x1 6))), (V.d (.int .i64 (gt x1 7)))])] [] = some ([(V.d (.bool (frame_Right_ai9_r0_0 x0 x1)))], []) := by
  unfold frame_Right_ai9_c0 frame_Right_ai9_r0_0
  cases h1 : tb (decide (0 ≤ x0))
  · intro g0
    exact w30 [.b (tbE h1)] (by kernel_rfl)
  · cases h2 : tb (decide (x0 < 65536))
    · intro g0
      exact w30 [.b (tbE h1), .b (tbE h2)] (by kernel_rfl)
    · cases h3 : tb (slices_ContainsFunc_int_o_frame_Right_c1_c0 (frame_Right_ai9_e0 x1))
      · intro g0
        exact absurd g0 ft
      · intro g0
        exact w30 [.b (tbE h1), .b (tbE h2), .c (slices_ContainsFunc_int_o_frame_Right_c1_t0 false (frame_Right_ai9_e0 x1) (tbE h3))] (by kernel_rfl)
def frame_Encode_iai9_S0_c0 (x0 : Int) (x1 : List Int) (x4 : Int) : Bool := (bif tb (decide (x4 < 0)) then true else (bif tb (decide (4 ≤ x4)) then true else (bif tb (frame_Right_ai9_c0 x0 x1) then (bif tb (frame_Right_ai9_r0_0 x0 x1) then false else true) else false)))
def frame_Encode_iai9_S0_c1 (x0 : Int) (x1 : List Int) (x4 : Int) : Bool := (bif tb (decide (x4 < 0)) then false else (bif tb (decide (4 ≤ x4)) then false else (bif tb (frame_Right_ai9_c0 x0 x1) then (bif tb (frame_Right_ai9_r0_0 x0 x1) then true else false) else false)))
theorem frame_Encode_iai9_S0_t0 (x0 : Int) (x1 : List Int) (x2 : Bool) (x3 : Bool) (x4 : Int) : frame_Encode_iai9_S0_c0 x0 x1 x4 = true → segG (runC E0 (cl E0) S15_0) [0, 3] [4, 5] [0, 3] 2 ([(V.d (.int .i64 x4)), (V.ptr 0 1 0 0)], [(Blk.flat 33 9 [([(.int .i64 x0)] ++ arrD .i64 x1 8)] x2), (Blk.flat 5 1 [] x3)]) = some (.ret, ([(V.so true 2 0), (V.d (.int .i64 1))], [(Blk.flat 33 9 [([(.int .i64 x0)] ++ arrD .i64 x1 8)] x2), (Blk.flat 5 1 [] x3), (Blk.flat 5 1 [] false)])) := by
  unfold frame_Encode_iai9_S0_c0
  cases h1 : tb (decide (x4 < 0))
  · cases h2 : tb (decide (4 ≤ x4))
    · cases h3 : tb (frame_Right_ai9_c0 x0 x1)
      · intro g0
        exact absurd g0 ft
      · cases h4 : tb (frame_Right_ai9_r0_0 x0 x1)
        · intro g0
          exact seg_walk [.b (tbE h1), .b (tbE h2), .c (frame_Right_ai9_t0 x0 x1 (tbE h3)), .b (notF (tbE h4))] (by kernel_rfl)
        · intro g0
          exact absurd g0 ft
    · intro g0
      exact seg_walk [.b (tbE h1), .b (tbE h2)] (by kernel_rfl)
  · intro g0
    exact seg_walk [.b (tbE h1)] (by kernel_rfl)
theorem frame_Encode_iai9_S0_t1 (x0 : Int) (x1 : List Int) (x2 : Bool) (x3 : Bool) (x4 : Int) : frame_Encode_iai9_S0_c0 x0 x1 x4 = false → frame_Encode_iai9_S0_c1 x0 x1 x4 = true → segG (runC E0 (cl E0) S15_0) [0, 3] [4, 5] [0, 3] 2 ([(V.d (.int .i64 x4)), (V.ptr 0 1 0 0)], [(Blk.flat 33 9 [([(.int .i64 x0)] ++ arrD .i64 x1 8)] x2), (Blk.flat 5 1 [] x3)]) = some (.normal, ([(V.d (.int .i64 x4)), (V.ptr 0 1 0 0)], [(Blk.flat 33 9 [([(.int .i64 x0)] ++ arrD .i64 x1 8)] x2), (Blk.flat 5 1 [] x3)])) := by
  unfold frame_Encode_iai9_S0_c0 frame_Encode_iai9_S0_c1
  cases h1 : tb (decide (x4 < 0))
  · cases h2 : tb (decide (4 ≤ x4))
    · cases h3 : tb (frame_Right_ai9_c0 x0 x1)
      · intro g0 g1
        exact absurd g1 ft
      · cases h4 : tb (frame_Right_ai9_r0_0 x0 x1)
        · intro g0 g1
          exact absurd g0 tf
        · intro g0 g1
          exact seg_walk [.b (tbE h1), .b (tbE h2), .c (frame_Right_ai9_t0 x0 x1 (tbE h3)), .b (notT (tbE h4))] (by kernel_rfl)
    · intro g0 g1
      exact absurd g0 tf
  · intro g0 g1
    exact absurd g0 tf
def frame_Encode_iai9_e0 (x2 : List Int) : List Int := [(gt x2 0), (gt x2 1), (gt x2 2), (gt x2 3), (gt x2 4), (gt x2 5), (gt x2 6), (gt x2 7)]
def frame_Encode_iai9_e1 (x0 : Int) (x1 : Int) (x2 : List Int) : Bool := ((word_PutAll_o_r0_1 (frame_Encode_iai9_e0 x2)).isEmpty && ((word_Put2_i_r0_1 x1).isEmpty && ([165, (IntKind.u8.wrap (x0))].isEmpty && (slices_Concat_byte_v_GvvvLLL_e0 [165, (IntKind.u8.wrap (x0))] (word_Put2_i_r0_1 x1) (word_PutAll_o_r0_1 (frame_Encode_iai9_e0 x2))))))
def frame_Encode_iai9_e2 (x0 : Int) (x1 : Int) (x2 : List Int) : List Int := (([165, (IntKind.u8.wrap (x0))] ++ (word_Put2_i_r0_1 x1)) ++ (word_PutAll_o_r0_1 (frame_Encode_iai9_e0 x2)))
def frame_Encode_iai9_c0 (x0 : Int) (x1 : Int) (x2 : List Int) : Bool := (bif tb (frame_Encode_iai9_S0_c0 x1 x2 x0) then true else (bif tb (frame_Encode_iai9_S0_c1 x1 x2 x0) then (bif tb (word_PutAll_o_c0 (frame_Encode_iai9_e0 x2)) then (bif tb (slices_Concat_byte_v_GvvvLLL_c0 [165, (IntKind.u8.wrap (x0))] (word_Put2_i_r0_1 x1) (word_PutAll_o_r0_1 (frame_Encode_iai9_e0 x2))) then (bif tb (crc_Seal_o_c0 (frame_Encode_iai9_e1 x0 x1 x2) (frame_Encode_iai9_e2 x0 x1 x2)) then true else false) else false) else false) else false))
def frame_Encode_iai9_r0_0 (x0 : Int) (x1 : Int) (x2 : List Int) : Bool := (bif tb (frame_Encode_iai9_S0_c0 x1 x2 x0) then true else false)
def frame_Encode_iai9_r0_1 (x0 : Int) (x1 : Int) (x2 : List Int) : Int := (bif tb (frame_Encode_iai9_S0_c0 x1 x2 x0) then 1 else 0)
def frame_Encode_iai9_r0_2 (x0 : Int) (x1 : Int) (x2 : List Int) : List Int := (bif tb (frame_Encode_iai9_S0_c0 x1 x2 x0) then ([] : List Int) else (crc_Seal_o_e0 (frame_Encode_iai9_e1 x0 x1 x2) (frame_Encode_iai9_e2 x0 x1 x2)))
theorem frame_Encode_iai9_t0 (x0 : Int) (x1 : Int) (x2 : List Int) : frame_Encode_iai9_c0 x0 x1 x2 = true → cl E0 15 [(V.d (.int .i64 x0)), (V.agg [(V.d (.int .i64 x1)), (V.d (.int .i64 (gt x2 0))), (V.d (.int .i64 (gt x2 1))), (V.d (.int .i64 (gt x2 2))), (V.d (.int .i64 (gt x2 3))), (V.d (.int .i64 (gt x2 4))), (V.d (.int .i64 (gt x2 5))), (V.d (.int .i64 (gt x2 6))), (V.d (.int .i64 (gt x2 7)))])] [] = some ([(V.so (frame_Encode_iai9_r0_0 x0 x1 x2) 0 ((frame_Encode_iai9_r0_2 x0 x1 x2).length)), (V.d (.int .i64 (frame_Encode_iai9_r0_1 x0 x1 x2)))], [(Blk.flat 5 1 (List.map (encI .u8) (frame_Encode_iai9_r0_2 x0 x1 x2)) false)]) := by
  unfold frame_Encode_iai9_c0 frame_Encode_iai9_r0_0 frame_Encode_iai9_r0_1 frame_Encode_iai9_r0_2
  cases h1 : tb (frame_Encode_iai9_S0_c0 x1 x2 x0)
  · cases h2 : tb (frame_Encode_iai9_S0_c1 x1 x2 x0)
    · intro g0
      exact absurd g0 ft
    · cases h3 : tb (word_PutAll_o_c0 (frame_Encode_iai9_e0 x2))
      · intro g0
        exact absurd g0 ft
      · cases h4 : tb (slices_Concat_byte_v_GvvvLLL_c0 [165, (IntKind.u8.wrap (x0))] (word_Put2_i_r0_1 x1) (word_PutAll_o_r0_1 (frame_Encode_iai9_e0 x2)))
        · intro g0
          exact absurd g0 ft
        · cases h5 : tb (crc_Seal_o_c0 (frame_Encode_iai9_e1 x0 x1 x2) (frame_Encode_iai9_e2 x0 x1 x2))
          · intro g0
            exact absurd g0 ft
          · intro g0
            exact w15 [.s (frame_Encode_iai9_S0_t1 x1 x2 false false x0 (tbE h1) (tbE h2)), .c (word_Put2_i_t0 x1), .c (word_PutAll_o_t0 false (frame_Encode_iai9_e0 x2) (tbE h3)), .c (slices_Concat_byte_v_GvvvLLL_t0 [165, (IntKind.u8.wrap (x0))] (word_Put2_i_r0_1 x1) (word_PutAll_o_r0_1 (frame_Encode_iai9_e0 x2)) false (word_Put2_i_r0_0 x1) (word_PutAll_o_r0_0 (frame_Encode_iai9_e0 x2)) false false false false false (tbE h4)), .y (mm := [(Blk.flat 33 9 [([(.int .i64 x1)] ++ arrD .i64 x2 8)] false), (Blk.flat 5 1 [] false), (Blk.flat 5 1 (List.map (encI .u8) [165, (IntKind.u8.wrap (x0))]) false), (Blk.flat 5 1 (List.map (encI .u8) (word_Put2_i_r0_1 x1)) false), (Blk.flat 5 1 (List.map (encI .u8) (word_PutAll_o_r0_1 (frame_Encode_iai9_e0 x2))) false), (Blk.gen 37 1 [[(V.so false 2 ([165, (IntKind.u8.wrap (x0))].length))], [(V.so (word_Put2_i_r0_0 x1) 3 ((word_Put2_i_r0_1 x1).length))], [(V.so (word_PutAll_o_r0_0 (frame_Encode_iai9_e0 x2)) 4 ((word_PutAll_o_r0_1 (frame_Encode_iai9_e0 x2)).length))]] false), (Blk.flat 5 1 (List.map (encI .u8) (([165, (IntKind.u8.wrap (x0))] ++ (word_Put2_i_r0_1 x1)) ++ (word_PutAll_o_r0_1 (frame_Encode_iai9_e0 x2)))) false)]) (args := [(V.so ((word_PutAll_o_r0_1 (frame_Encode_iai9_e0 x2)).isEmpty && ((word_Put2_i_r0_1 x1).isEmpty && ([165, (IntKind.u8.wrap (x0))].isEmpty && (slices_Concat_byte_v_GvvvLLL_e0 [165, (IntKind.u8.wrap (x0))] (word_Put2_i_r0_1 x1) (word_PutAll_o_r0_1 (frame_Encode_iai9_e0 x2)))))) 6 ((([165, (IntKind.u8.wrap (x0))] ++ (word_Put2_i_r0_1 x1)) ++ (word_PutAll_o_r0_1 (frame_Encode_iai9_e0 x2))).length))]) (args1 := [(V.d (slD (encI .u8) true 1 ((word_PutAll_o_r0_1 (frame_Encode_iai9_e0 x2)).isEmpty && ((word_Put2_i_r0_1 x1).isEmpty && ([165, (IntKind.u8.wrap (x0))].isEmpty && (slices_Concat_byte_v_GvvvLLL_e0 [165, (IntKind.u8.wrap (x0))] (word_Put2_i_r0_1 x1) (word_PutAll_o_r0_1 (frame_Encode_iai9_e0 x2)))))) (([165, (IntKind.u8.wrap (x0))] ++ (word_Put2_i_r0_1 x1)) ++ (word_PutAll_o_r0_1 (frame_Encode_iai9_e0 x2)))))]) (byvals_cons (byval_so (enc := (encI .u8)) (l := (([165, (IntKind.u8.wrap (x0))] ++ (word_Put2_i_r0_1 x1)) ++ (word_PutAll_o_r0_1 (frame_Encode_iai9_e0 x2)))) (b := ((word_PutAll_o_r0_1 (frame_Encode_iai9_e0 x2)).isEmpty && ((word_Put2_i_r0_1 x1).isEmpty && ([165, (IntKind.u8.wrap (x0))].isEmpty && (slices_Concat_byte_v_GvvvLLL_e0 [165, (IntKind.u8.wrap (x0))] (word_Put2_i_r0_1 x1) (word_PutAll_o_r0_1 (frame_Encode_iai9_e0 x2))))))) (e := 5) (s := 1) (p := false) (n := ((([165, (IntKind.u8.wrap (x0))] ++ (word_Put2_i_r0_1 x1)) ++ (word_PutAll_o_r0_1 (frame_Encode_iai9_e0 x2))).length)) (Nat.beq_refl _) (by kernel_rfl)) (by kernel_rfl)), .c (crc_Seal_o_t0 (frame_Encode_iai9_e1 x0 x1 x2) (frame_Encode_iai9_e2 x0 x1 x2) (tbE h5))] (by kernel_rfl)
  · intro g0
    exact w15 [.s (frame_Encode_iai9_S0_t0 x1 x2 false false x0 (tbE h1))] (by kernel_rfl)
def frame_Decode_iabn_S0_r0_0 (x1 : Bool) : Int := (bif tb (x1) then 2 else 1)
theorem frame_Decode_iabn_S0_t0 (x0 : List Int) (x1 : Bool) (x2 : Bool) (x4 : Int) : segG (runC E0 (cl E0) S56_0) [0, 3, 4] [4, 5] [3, 4] 2 ([(V.d (.int .i64 x4)), (V.ptr 0 1 0 0), (V.ptr 1 1 0 0)], [(Blk.gen 39 2 [[(V.d (.bool x1)), (V.d .nils)]] x2), (Blk.flat 33 9 [([(.int .i64 0)] ++ arrD .i64 x0 8)] false)]) = some (.ret, ([(V.ptr 1 1 0 0), (V.d (.int .i64 (frame_Decode_iabn_S0_r0_0 x1)))], [(Blk.gen 39 2 [[(V.d (.bool x1)), (V.d .nils)]] x2), (Blk.flat 33 9 [([(.int .i64 0)] ++ arrD .i64 [0, 0, 0, 0, 0, 0, 0, 0] 8)] false)])) := by
  unfold frame_Decode_iabn_S0_r0_0
  cases h1 : tb (x1)
  · exact seg_walk [.b (notF (tbE h1))] (by kernel_rfl)
  · exact seg_walk [.b (notT (tbE h1)), .k true] (by kernel_rfl)
theorem frame_Decode_iabn_t0 (x0 : Int) (x1 : Bool) : cl E0 56 [(V.d (.int .i64 x0)), (V.agg [(V.d (.bool x1)), (V.d .nils)])] [] = some ([(V.agg [(V.d (.int .i64 0)), (V.d (.int .i64 (gt [0, 0, 0, 0, 0, 0, 0, 0] 0))), (V.d (.int .i64 (gt [0, 0, 0, 0, 0, 0, 0, 0] 1))), (V.d (.int .i64 (gt [0, 0, 0, 0, 0, 0, 0, 0] 2))), (V.d (.int .i64 (gt [0, 0, 0, 0, 0, 0, 0, 0] 3))), (V.d (.int .i64 (gt [0, 0, 0, 0, 0, 0, 0, 0] 4))), (V.d (.int .i64 (gt [0, 0, 0, 0, 0, 0, 0, 0] 5))), (V.d (.int .i64 (gt [0, 0, 0, 0, 0, 0, 0, 0] 6))), (V.d (.int .i64 (gt [0, 0, 0, 0, 0, 0, 0, 0] 7)))]), (V.d (.int .i64 (frame_Decode_iabn_S0_r0_0 x1)))], []) := by
  exact w56 [.s (frame_Decode_iabn_S0_t0 [0, 0, 0, 0, 0, 0, 0, 0] x1 false x0)] (by kernel_rfl)
end Go.Proofs.Ytkipngagfiaddaa.Den

namespace Go.Proofs.Ytkipngagfiaddaa.Den
open Go Go.Proofs
set_option maxRecDepth 100000
set_option maxHeartbeats 4000000
set_option linter.unusedVariables false
set_option linter.unusedSimpArgs false
structure ref05_Decode_iabo_L4_s0 where
  c1 : Int
  c10 : List Int
  deriving Inhabited
end Go.Proofs.Ytkipngagfiaddaa.Den

namespace Go.Proofs.Ytkipngagfiaddaa.Den
open Go Go.Proofs
set_option linter.unusedVariables false
set_option linter.unusedSimpArgs false
theorem GetAll_n {b : List Int} (hb : Byts b) (hl : b.length ≤ 1000000) (x : Bool) : word_GetAll_o_r0_0 x b = (if b.length % 4 = 0 then b.length / 4 == 0 else true) := by
  have hrun := fours_run hb hl x
  have he : word_fours_c1_yp_Y43_1pGvLGo_e0 [] true x b = ⟨b.length / 4 == 0, fours b (b.length / 4), (b.length / 4 == 0) && x, b.drop (4 * (b.length / 4))⟩ := by
    simp only [word_fours_c1_yp_Y43_1pGvLGo_e0, word_fours_c1_yp_Y43_1pGvLGo_L0_end, hrun]; rfl
  simp only [word_GetAll_o_r0_0, rem4, he, tb_eq]
  by_cases h : b.length % 4 = 0
  · simp [h]
  · have : (((b.length % 4 : Nat) : Int) != 0) = true := by simp; omega
    simp only [this, cond_true, h, if_false]
def z8 : List Int := [0, 0, 0, 0, 0, 0, 0, 0]
def rejOf (ch : Int) (is : Bool) (l : List Int) : Int := if is = true then (if l.length = 38 then (if gt l 0 = 165 then (if gt l 1 = ch then (if okS l = true then 0 else 5) else 4) else 3) else 2) else 1
def seqOf (l : List Int) : Int := g2 (((l.take 36).drop 2).take 2)
def valsOf (l : List Int) : List Int := fours ((l.take 36).drop 4) 8
theorem byt_byts {l : List Int} (h : Byt l) : Byts l := byts_of h
theorem decode_S0 {ch : Int} {is : Bool} {l : List Int} (h : Byt l) :
    frame_Decode_iabo_S0_c0 is l ch = !(is && decide (l.length = 38) && decide (gt l 0 = 165) && decide (gt l 1 = ch)) ∧
    frame_Decode_iabo_S0_c1 is l ch = (is && decide (l.length = 38) && decide (gt l 0 = 165) && decide (gt l 1 = ch)) ∧
    frame_Decode_iabo_S0_r0_0 is l = (if is = true then (if l.length = 38 then (if gt l 0 = 165 then 4 else 3) else 2) else 1) := by
  cases is with
  | false => simp [frame_Decode_iabo_S0_c0, frame_Decode_iabo_S0_c1, frame_Decode_iabo_S0_r0_0]
  | true =>
    by_cases h1 : l.length = 38
    · have e1 : ((((l.length : Nat) : Int) : Int) != 38) = false := by simp [h1]
      have i0 : inb l.length 0 = true := inb_of (by omega) (by omega)
      have i1 : inb l.length 1 = true := inb_of (by omega) (by omega)
      have i0' : inb 38 0 = true := rfl
      have i1' : inb 38 1 = true := rfl
      have b1 := wfI_u8 (h _ (gt_mem (l := l) (i := 1) (by omega) (by omega)))
      have w1 : wi (gt l 1) = gt l 1 := wi_eq (by omega) (by omega)
      by_cases h2 : gt l 0 = 165
      · have e2 : ((gt l 0 : Int) != 165) = false := by simp [h2]
        by_cases h3 : gt l 1 = ch
        · have w1' : wi ch = ch := by rw [← h3]; exact w1
          have e3 : ((gt l 1 : Int) != ch) = false := by simp [h3]
          simp [frame_Decode_iabo_S0_c0, frame_Decode_iabo_S0_c1, frame_Decode_iabo_S0_r0_0, e1, e2, e3, i0, i1, i0', i1', w1, w1', h1, h2, h3]
        · have e3 : ((gt l 1 : Int) != ch) = true := by simp [h3]
          simp [frame_Decode_iabo_S0_c0, frame_Decode_iabo_S0_c1, frame_Decode_iabo_S0_r0_0, e1, e2, e3, i0, i1, i0', i1', w1, h1, h2, h3]
      · have e2 : ((gt l 0 : Int) != 165) = true := by simp [h2]
        simp [frame_Decode_iabo_S0_c0, frame_Decode_iabo_S0_c1, frame_Decode_iabo_S0_r0_0, e1, e2, i0, i0', h1, h2]
    · have e1 : ((((l.length : Nat) : Int) : Int) != 38) = true := by simp; omega
      simp [frame_Decode_iabo_S0_c0, frame_Decode_iabo_S0_c1, frame_Decode_iabo_S0_r0_0, e1, h1]
theorem sub_24 {b : List Int} : sub b 2 4 = (b.drop 2).take 2 := by unfold sub; rfl
theorem sub_4e {b : List Int} (h : b.length = 36) : sub b 4 ((b.length : Nat) : Int) = b.drop 4 := by
  unfold sub; rw [h]
  show (b.drop 4).take 32 = _
  rw [List.take_of_length_le (by simp; omega)]
theorem decode_eq (ch : Int) (is nl : Bool) {l : List Int} (h : Sm l) : frame_Decode_iabo_c0 ch is nl l = true ∧ frame_Decode_iabo_r0_2 ch is nl l = rejOf ch is l ∧
    frame_Decode_iabo_r0_0 ch is nl l = (if rejOf ch is l = 0 then seqOf l else 0) ∧ frame_Decode_iabo_r0_1 ch is nl l = (if rejOf ch is l = 0 then valsOf l else z8) := by
  obtain ⟨s1, s2, s3⟩ := decode_S0 (ch := ch) (is := is) h.b
  by_cases hok : (is && decide (l.length = 38) && decide (gt l 0 = 165) && decide (gt l 1 = ch)) = true
  · rw [hok] at s1 s2
    simp only [Bool.and_eq_true, decide_eq_true_eq] at hok
    obtain ⟨⟨⟨hi, h1⟩, h2⟩, h3⟩ := hok
    have hr : rejOf ch is l = if okS l = true then 0 else 5 := by simp [rejOf, hi, h1, h2, h3]
    obtain ⟨o1, o2, o3, o4⟩ := open_r h nl
    cases ho : okS l with
    | true =>
      rw [ho] at o2 o3 o4 hr
      rw [if_pos rfl, h1] at o4
      have o4 : crc_Open_o_r0_2 nl l = l.take 36 := o4
      simp only [if_true] at hr
      have hl : (l.take 36).length = 36 := by simp [h1]
      have hby : Byts (l.take 36) := byt_byts (h.b.take 36)
      have i1 : ins (l.take 36).length 2 4 = true := by rw [hl]; rfl
      have i2 : ins (l.take 36).length 4 (((l.take 36).length : Nat) : Int) = true := by rw [hl]; rfl
      have i3 : decide ((4 : Int) < (((l.take 36).length : Nat) : Int)) = true := by rw [hl]; rfl
      obtain ⟨q1, _, q3, _⟩ := Get2_eq (l := sub (l.take 36) 2 4) (by rw [sub_24]; exact byts_take (byts_drop hby 2) 2)
      have e0 : frame_Decode_iabo_S1_e0 nl l = (l.take 36).drop 4 := by unfold frame_Decode_iabo_S1_e0; rw [o4]; exact sub_4e hl
      have hl4 : ((l.take 36).drop 4).length = 32 := by simp [h1]
      obtain ⟨g1, g2', g3⟩ := GetAll_r (byts_drop hby 4) (by omega) false
      have g4 := GetAll_n (byts_drop hby 4) (by omega) false
      rw [hl4] at g4
      have ga : getAll ((l.take 36).drop 4) = valsOf l := by unfold getAll; rw [hl4]; rfl
      have g5 : Nat.ble 8 (getAll ((l.take 36).drop 4)).length = true := by rw [ga]; simp [valsOf, fours_len]
      have c1 : frame_Decode_iabo_S1_c0 nl l = true := by
        simp only [frame_Decode_iabo_S1_c0, o1, o2, o3, o4, i1, i2, i3, q1, e0, g1, g3, g4, g5, tb_eq, cond_true, show decide (2 < 4) = true from rfl]
        rfl
      have r5 : frame_Decode_iabo_S1_r0_5 nl l = seqOf l := by
        simp only [frame_Decode_iabo_S1_r0_5, o4, tb_eq, show decide (2 < 4) = true from rfl, cond_true]; rw [q3, sub_24]; rfl
      simp only [frame_Decode_iabo_c0, frame_Decode_iabo_r0_0, frame_Decode_iabo_r0_1, frame_Decode_iabo_r0_2, s1, s2, c1, r5, e0, g3, ga, hr, tb_eq, Bool.not_true, cond_true, cond_false, if_true, and_self]
    | false =>
      rw [ho] at o2 o3 o4 hr
      simp only [Bool.false_eq_true, if_false] at hr
      have c0 : frame_Decode_iabo_S1_c0 nl l = false := by
        simp only [frame_Decode_iabo_S1_c0, o1, o2, o3, tb_eq, cond_true]
        cases tb (ins (crc_Open_o_r0_2 nl l).length 2 4) <;> simp
      have c1 : frame_Decode_iabo_S1_c1 nl l = true := by simp only [frame_Decode_iabo_S1_c1, o1, o3, tb_eq]; rfl
      have hz : (if (5 : Int) = 0 then valsOf l else z8) = z8 := by simp
      have hz2 : (if (5 : Int) = 0 then seqOf l else 0) = 0 := by simp
      simp only [frame_Decode_iabo_c0, frame_Decode_iabo_r0_0, frame_Decode_iabo_r0_1, frame_Decode_iabo_r0_2, s1, s2, c0, c1, hr, hz, hz2, tb_eq, Bool.not_true, cond_true, cond_false, true_and]
      trivial
  · have hf : (is && decide (l.length = 38) && decide (gt l 0 = 165) && decide (gt l 1 = ch)) = false := by simpa using hok
    rw [hf] at s1 s2
    have hr : rejOf ch is l = frame_Decode_iabo_S0_r0_0 is l ∧ rejOf ch is l ≠ 0 := by
      rw [s3]
      unfold rejOf
      cases is with
      | false => simp
      | true =>
        by_cases h1 : l.length = 38
        · by_cases h2 : gt l 0 = 165
          · have h3 : ¬ gt l 1 = ch := by intro h3; simp [h1, h2, h3] at hf
            simp [h1, h2, h3]
          · simp [h1, h2]
        · simp [h1]
    simp only [frame_Decode_iabo_c0, frame_Decode_iabo_r0_0, frame_Decode_iabo_r0_1, frame_Decode_iabo_r0_2, s1, tb_eq, Bool.not_false, cond_true, hr.2, if_false, hr.1, true_and]
    rw [if_neg (by rw [← hr.1]; exact hr.2), if_neg (by rw [← hr.1]; exact hr.2)]
    exact ⟨rfl, rfl⟩
end Go.Proofs.Ytkipngagfiaddaa.Den

namespace Go.Proofs.Ytkipngagfiaddaa.Den
open Go Go.Proofs
set_option linter.unusedVariables false
set_option linter.unusedSimpArgs false
theorem arr8 {x : List Int} (h : x.length = 8) : [(gt x 0), (gt x 1), (gt x 2), (gt x 3), (gt x 4), (gt x 5), (gt x 6), (gt x 7)] = x := by
  match x, h with
  | [a, b, c, d, e, f, g, i], _ => rfl
theorem bad_eq (n : Int) : frame_Right_c1_i_r0_0 n = !(n32 n) := by
  simp only [frame_Right_c1_i_r0_0, n32, tb_eq]
  by_cases h1 : n < -2147483648
  · have : ¬ (-2147483648 ≤ n) := by omega
    simp [h1, this]
  · have h2 : -2147483648 ≤ n := by omega
    by_cases h3 : 2147483647 < n
    · have : ¬ (n ≤ 2147483647) := by omega
      simp [h1, h2, h3, this]
    · have : n ≤ 2147483647 := by omega
      simp [h1, h2, h3, this]
theorem index_bad {l : List Int} (hl : l.length < 1152921504606846976) : slices_IndexFunc_int_o_frame_Right_c1_c0 l = true ∧ decide (0 ≤ slices_IndexFunc_int_o_frame_Right_c1_r0_0 l) = !(all32 l) := by
  obtain ⟨s1, e, _, a1, a2⟩ := all_loop (sel := slices_IndexFunc_int_o_frame_Right_c1_L0_sel l l.length) (nx := slices_IndexFunc_int_o_frame_Right_c1_L0_nx l l.length) (s0 := ⟨0⟩) l (fun s => s.c3) n32 (fun _ => True) hl rfl trivial
    (fun s _ b1 b2 _ => ⟨by show wi _ = _; exact wi_eq (by omega) (by omega), trivial⟩)
    (fun s _ b1 b2 => by
      by_cases hi : s.c3 < l.length
      · have i1 := inb_of b1 hi
        simp only [slices_IndexFunc_int_o_frame_Right_c1_L0_sel, i1, hi, bad_eq, tb_eq, decide_true, cond_true, Bool.true_and]
        cases n32 (gt l s.c3) <;> rfl
      · simp [slices_IndexFunc_int_o_frame_Right_c1_L0_sel, hi])
  have he : slices_IndexFunc_int_o_frame_Right_c1_e0 l = s1 := by simp only [slices_IndexFunc_int_o_frame_Right_c1_e0, slices_IndexFunc_int_o_frame_Right_c1_L0_end, e, Option.getD_some]
  simp only [slices_IndexFunc_int_o_frame_Right_c1_c0, slices_IndexFunc_int_o_frame_Right_c1_r0_0, slices_IndexFunc_int_o_frame_Right_c1_L0_ok, e, he, tb_eq, Option.isSome_some, cond_true]
  rcases a2 with ⟨b1, b2⟩ | ⟨b1, b2, b3⟩
  · have h0 : slices_IndexFunc_int_o_frame_Right_c1_L0_c0 l l.length s1 = false := by simp [slices_IndexFunc_int_o_frame_Right_c1_L0_c0, b1]
    have h1 : slices_IndexFunc_int_o_frame_Right_c1_L0_c1 l.length s1 = true := by simp [slices_IndexFunc_int_o_frame_Right_c1_L0_c1, b1]
    have : all32 l = true := b2
    rw [h0, h1, this]; simp
  · have i1 := inb_of a1 b1
    have h0 : slices_IndexFunc_int_o_frame_Right_c1_L0_c0 l l.length s1 = true := by simp [slices_IndexFunc_int_o_frame_Right_c1_L0_c0, b1, i1]
    have : all32 l = false := b3
    rw [h0, this]; simp [a1]
theorem right_eq (s : Int) {x : List Int} (h : x.length = 8) : frame_Right_ai9_c0 s x = true ∧ frame_Right_ai9_r0_0 s x = (n16 s && all32 x) := by
  obtain ⟨i1, i2⟩ := index_bad (l := x) (by omega)
  simp only [frame_Right_ai9_c0, frame_Right_ai9_r0_0, frame_Right_ai9_e0, arr8 h, slices_ContainsFunc_int_o_frame_Right_c1_c0, i1, i2, n16, tb_eq]
  by_cases h1 : 0 ≤ s
  · by_cases h2 : s < 65536 <;> simp [h1, h2]
  · simp [h1]
def c3st0 : Nat → slices_Concat_byte_v_GvvvLLL_L0_1_S
  | 0 => .h0 ⟨⟩
  | 1 => .h1 ⟨⟩
  | 2 => .h2 ⟨⟩
  | _ => .h3 ⟨⟩
def c3st2 : Nat → slices_Concat_byte_v_GvvvLLL_L2_1_S
  | 0 => .h0 ⟨⟩
  | 1 => .h1 ⟨⟩
  | 2 => .h2 ⟨⟩
  | _ => .h3 ⟨⟩
theorem concat_c {a b c : List Int} (ha : a.length ≤ 1000) (hb : b.length ≤ 1000) (hc : c.length ≤ 1000) : slices_Concat_byte_v_GvvvLLL_c0 a b c = true := by
  have w0 : wi (0 + ((a.length : Nat) : Int)) = ((a.length : Nat) : Int) := by rw [wi_eq (by omega) (by omega)]; omega
  have w1 : slices_Concat_byte_v_GvvvLLL_L0_1_h1_e0 a b = ((a.length + b.length : Nat) : Int) := by unfold slices_Concat_byte_v_GvvvLLL_L0_1_h1_e0; rw [w0, wi_eq (by omega) (by omega)]; omega
  have w2 : slices_Concat_byte_v_GvvvLLL_L0_1_h2_e0 a b c = ((a.length + b.length + c.length : Nat) : Int) := by unfold slices_Concat_byte_v_GvvvLLL_L0_1_h2_e0; rw [w1, wi_eq (by omega) (by omega)]; omega
  have r0 : itS (slices_Concat_byte_v_GvvvLLL_L0_1_sel a b c) (slices_Concat_byte_v_GvvvLLL_L0_1_nx a b c) bound (c3st0 0) = some (c3st0 3) := by
    refine loop_seq c3st0 3 (by omega) (fun k hk => ?_) rfl
    rcases (by omega : k = 0 ∨ k = 1 ∨ k = 2) with rfl | rfl | rfl
    · refine ⟨?_, rfl⟩
      simp only [c3st0, slices_Concat_byte_v_GvvvLLL_L0_1_sel, slices_Concat_byte_v_GvvvLLL_L0_1_h0_sel, w0, tb_eq]
      rw [decide_eq_false (by omega)]; rfl
    · refine ⟨?_, rfl⟩
      simp only [c3st0, slices_Concat_byte_v_GvvvLLL_L0_1_sel, slices_Concat_byte_v_GvvvLLL_L0_1_h1_sel, w1, tb_eq]
      rw [decide_eq_false (by omega)]; rfl
    · refine ⟨?_, rfl⟩
      simp only [c3st0, slices_Concat_byte_v_GvvvLLL_L0_1_sel, slices_Concat_byte_v_GvvvLLL_L0_1_h2_sel, w2, tb_eq]
      rw [decide_eq_false (by omega)]; rfl
  have r2 : itS (slices_Concat_byte_v_GvvvLLL_L2_1_sel a b c) (slices_Concat_byte_v_GvvvLLL_L2_1_nx a b c) bound (c3st2 0) = some (c3st2 3) := by
    refine loop_seq c3st2 3 (by omega) (fun k hk => ?_) rfl
    rcases (by omega : k = 0 ∨ k = 1 ∨ k = 2) with rfl | rfl | rfl
    · refine ⟨?_, rfl⟩
      simp only [c3st2, slices_Concat_byte_v_GvvvLLL_L2_1_sel, slices_Concat_byte_v_GvvvLLL_L2_1_h0_sel, tb_eq]
      rw [decide_eq_true (by simp; omega)]; rfl
    · refine ⟨?_, rfl⟩
      simp only [c3st2, slices_Concat_byte_v_GvvvLLL_L2_1_sel, slices_Concat_byte_v_GvvvLLL_L2_1_h1_sel, tb_eq]
      rw [decide_eq_true (by omega)]; rfl
    · refine ⟨?_, rfl⟩
      simp only [c3st2, slices_Concat_byte_v_GvvvLLL_L2_1_sel, slices_Concat_byte_v_GvvvLLL_L2_1_h2_sel, tb_eq]
      rw [decide_eq_true (by simp; omega)]; rfl
  have z0 : c3st0 0 = .h0 ⟨⟩ := rfl
  have z2 : c3st2 0 = .h0 ⟨⟩ := rfl
  rw [z0] at r0
  rw [z2] at r2
  have e0 : slices_Concat_byte_v_GvvvLLL_S1_e0 a b c = .h3 ⟨⟩ := by simp only [slices_Concat_byte_v_GvvvLLL_S1_e0, slices_Concat_byte_v_GvvvLLL_L0_1_end, r0]; rfl
  have e1 : slices_Concat_byte_v_GvvvLLL_e1 a b c = .h3 ⟨⟩ := by simp only [slices_Concat_byte_v_GvvvLLL_e1, slices_Concat_byte_v_GvvvLLL_L2_1_end, r2]; rfl
  have s1 : slices_Concat_byte_v_GvvvLLL_S1_c0 a b c = true := by
    simp only [slices_Concat_byte_v_GvvvLLL_S1_c0, slices_Concat_byte_v_GvvvLLL_L0_1_ok, r0, e0, tb_eq]; rfl
  have gr : slices_Grow_byte_ni_c0 ((a.length + b.length + c.length : Nat) : Int) = true := by
    simp only [slices_Grow_byte_ni_c0, Bool.and_eq_true, decide_eq_true_eq]; omega
  simp only [slices_Concat_byte_v_GvvvLLL_c0, s1, w2, gr, slices_Concat_byte_v_GvvvLLL_L2_1_ok, r2, e1, tb_eq]; rfl
def bodyF (ch s : Int) (x : List Int) : List Int := [165, ch] ++ p2 s ++ x.flatMap p4
theorem wf_u8 {z : Int} (h : 0 ≤ z ∧ z ≤ 255) : WfI .u8 z := by
  simp [WfI, Lit.wf, IntKind.min, IntKind.max, IntKind.signed, IntKind.bits]; omega
theorem bodyF_len {ch s : Int} {x : List Int} (h : x.length = 8) : (bodyF ch s x).length = 36 := by
  simp only [bodyF, List.length_append, flat_len, h]; rfl
theorem bodyF_sm {ch s : Int} {x : List Int} (hc : 0 ≤ ch ∧ ch ≤ 3) (h : x.length = 8) : Sm (bodyF ch s x) := by
  refine ⟨fun z hz => wf_u8 ?_, by rw [bodyF_len h]; omega⟩
  simp only [bodyF, List.mem_append] at hz
  rcases hz with (hz | hz) | hz
  · simp at hz; omega
  · exact p2_byts s z hz
  · exact flat_byts x z hz
def okF (ch s : Int) (x : List Int) : Bool := decide (0 ≤ ch) && decide (ch ≤ 3) && n16 s && all32 x
theorem encode_eq (ch s : Int) {x : List Int} (h : x.length = 8) : frame_Encode_iai9_c0 ch s x = true ∧ frame_Encode_iai9_r0_0 ch s x = !(okF ch s x) ∧ frame_Encode_iai9_r0_1 ch s x = (if okF ch s x = true then 0 else 1) ∧
    frame_Encode_iai9_r0_2 ch s x = (if okF ch s x = true then sealed (bodyF ch s x) else []) := by
  obtain ⟨r1, r2⟩ := right_eq s h
  have s0 : frame_Encode_iai9_S0_c0 s x ch = !(okF ch s x) ∧ frame_Encode_iai9_S0_c1 s x ch = okF ch s x := by
    simp only [frame_Encode_iai9_S0_c0, frame_Encode_iai9_S0_c1, r1, r2, okF, tb_eq]
    by_cases h1 : ch < 0
    · have : ¬ 0 ≤ ch := by omega
      simp [h1, this]
    · have h1' : 0 ≤ ch := by omega
      by_cases h2 : 4 ≤ ch
      · have : ¬ ch ≤ 3 := by omega
        simp [h1, h1', h2, this]
      · have h2' : ch ≤ 3 := by omega
        cases n16 s <;> cases all32 x <;> simp [h1, h1', h2, h2']
  cases hk : okF ch s x with
  | false =>
    rw [hk] at s0
    simp only [frame_Encode_iai9_c0, frame_Encode_iai9_r0_0, frame_Encode_iai9_r0_1, frame_Encode_iai9_r0_2, s0.1, tb_eq, Bool.not_false, cond_true]
    simp
  | true =>
    rw [hk] at s0
    have hk' := hk
    simp only [okF, Bool.and_eq_true, decide_eq_true_eq] at hk'
    obtain ⟨⟨⟨k1, k2⟩, k3⟩, k4⟩ := hk'
    obtain ⟨p1, p2'⟩ := PutAll_r (l := x) (by omega)
    have hw : IntKind.u8.wrap ch = ch := by rw [u8w]; omega
    have hpa : putAll x = x.flatMap p4 := by simp [putAll, k4]
    have hq : q2 s = p2 s := by simp [q2, k3]
    have e2 : frame_Encode_iai9_e2 ch s x = bodyF ch s x := by simp only [frame_Encode_iai9_e2, frame_Encode_iai9_e0, arr8 h, hw, Put2_r, p2', hpa, hq]; rfl
    have cc : slices_Concat_byte_v_GvvvLLL_c0 [165, ch] (p2 s) (x.flatMap p4) = true := concat_c (by simp) (by simp [p2]) (by rw [flat_len]; omega)
    obtain ⟨t1, t2⟩ := seal_r (frame_Encode_iai9_e1 ch s x) (bodyF_sm (s := s) ⟨k1, k2⟩ h)
    simp only [frame_Encode_iai9_c0, frame_Encode_iai9_r0_0, frame_Encode_iai9_r0_1, frame_Encode_iai9_r0_2, s0.1, s0.2, frame_Encode_iai9_e0, arr8 h, p1, p2', hpa, hw, Put2_r, hq, cc, e2, t1, t2, tb_eq, Bool.not_true, cond_true, cond_false]
    simp
theorem back_F {ch s : Int} {x : List Int} (h : x.length = 8) (hk : okF ch s x = true) : Sm (sealed (bodyF ch s x)) ∧ rejOf ch true (sealed (bodyF ch s x)) = 0 ∧ seqOf (sealed (bodyF ch s x)) = s ∧ valsOf (sealed (bodyF ch s x)) = x := by
  have hk' := hk
  simp only [okF, Bool.and_eq_true, decide_eq_true_eq] at hk'
  obtain ⟨⟨⟨k1, k2⟩, k3⟩, k4⟩ := hk'
  have hb := bodyF_sm (ch := ch) (s := s) ⟨k1, k2⟩ h
  have hbl := bodyF_len (ch := ch) (s := s) h
  have hsl : (sealed (bodyF ch s x)).length = 38 := by simp [sealed, tail2, hbl]
  have ht : (sealed (bodyF ch s x)).take 36 = bodyF ch s x := by unfold sealed; rw [List.take_append_of_le_length (by omega), List.take_of_length_le (by omega)]
  have hok : okS (sealed (bodyF ch s x)) = true := by
    simp only [okS, hsl, Bool.and_eq_true, decide_eq_true_eq]
    exact ⟨by omega, by rw [show 38 - 2 = 36 from rfl, ht]⟩
  have hcrc := hb.crc
  refine ⟨⟨fun z hz => ?_, by omega⟩, ?_, ?_, ?_⟩
  · rcases List.mem_append.1 hz with hz | hz
    · exact hb.b z hz
    · simp only [tail2, List.mem_cons, List.not_mem_nil, or_false] at hz
      exact wf_u8 (by rcases hz with rfl | rfl <;> omega)
  · have g0 : gt (sealed (bodyF ch s x)) 0 = 165 := rfl
    have g1 : gt (sealed (bodyF ch s x)) 1 = ch := rfl
    simp [rejOf, hsl, g0, g1, hok]
  · unfold seqOf
    rw [ht]
    have : ((bodyF ch s x).drop 2).take 2 = p2 s := rfl
    rw [this, g2_p2 k3]
  · unfold valsOf
    rw [ht]
    have : (bodyF ch s x).drop 4 = x.flatMap p4 := rfl
    rw [this, ← h]; exact fours_flat x k4
end Go.Proofs.Ytkipngagfiaddaa.Den

namespace Go.Proofs.Ytkipngagfiaddaa.Den
open Go Go.Proofs
set_option maxRecDepth 100000
set_option maxHeartbeats 4000000
set_option linter.unusedVariables false
set_option linter.unusedSimpArgs false
def fresh_New_i_c0 (x0 : Int) : Bool := (bif tb (decide (x0 < 0)) then true else (bif tb (decide (4 ≤ x0)) then true else false))
theorem fresh_New_i_t0 (x0 : Int) : fresh_New_i_c0 x0 = true → cl E0 9 [(V.d (.int .i64 x0))] [] = some ([(V.d .nilp), (V.d (.int .i64 1))], []) := by
  unfold fresh_New_i_c0
  cases h1 : tb (decide (x0 < 0))
  · cases h2 : tb (decide (4 ≤ x0))
    · intro g0
      exact absurd g0 ft
    · intro g0
      exact w9 [.b (tbE h1), .b (tbE h2)] (by kernel_rfl)
  · intro g0
    exact w9 [.b (tbE h1)] (by kernel_rfl)
theorem fresh_New_i_t1 (x0 : Int) : fresh_New_i_c0 x0 = false → cl E0 9 [(V.d (.int .i64 x0))] [] = some ([(V.ptr 0 1 0 0), (V.d (.int .i64 0))], [(Blk.flat 67 10 [([(.int .i64 x0), (.int .i64 0), (.bool false)] ++ arrD .i64 [0, 0, 0, 0, 0, 0, 0] 7)] false)]) := by
  unfold fresh_New_i_c0
  cases h1 : tb (decide (x0 < 0))
  · cases h2 : tb (decide (4 ≤ x0))
    · intro g0
      exact w9 [.b (tbE h1), .b (tbE h2)] (by kernel_rfl)
    · intro g0
      exact absurd g0 tf
  · intro g0
    exact absurd g0 tf
def fresh_Track_take_pabo_Fi2bi7_c0 (x0 : Int) (x5 : Bool) (x6 : Bool) (x7 : List Int) : Bool := (bif tb (frame_Decode_iabo_c0 x0 x5 x6 x7) then true else false)
def fresh_Track_take_pabo_Fi2bi7_r0_0 (x0 : Int) (x1 : Int) (x2 : Bool) (x5 : Bool) (x6 : Bool) (x7 : List Int) : Int := (bif tb (((frame_Decode_iabo_r0_2 x0 x5 x6 x7) : Int) != 0) then 0 else (bif tb (x2) then (bif tb (((frame_Decode_iabo_r0_0 x0 x5 x6 x7) : Int) == (word_Next_i_r0_0 x1)) then (frame_Decode_iabo_r0_0 x0 x5 x6 x7) else 0) else (frame_Decode_iabo_r0_0 x0 x5 x6 x7)))
def fresh_Track_take_pabo_Fi2bi7_r0_1 (x0 : Int) (x1 : Int) (x2 : Bool) (x5 : Bool) (x6 : Bool) (x7 : List Int) : List Int := (bif tb (((frame_Decode_iabo_r0_2 x0 x5 x6 x7) : Int) != 0) then [0, 0, 0, 0, 0, 0, 0, 0] else (bif tb (x2) then (bif tb (((frame_Decode_iabo_r0_0 x0 x5 x6 x7) : Int) == (word_Next_i_r0_0 x1)) then (frame_Decode_iabo_r0_1 x0 x5 x6 x7) else [0, 0, 0, 0, 0, 0, 0, 0]) else (frame_Decode_iabo_r0_1 x0 x5 x6 x7)))
def fresh_Track_take_pabo_Fi2bi7_r0_2 (x0 : Int) (x1 : Int) (x2 : Bool) (x5 : Bool) (x6 : Bool) (x7 : List Int) : Int := (bif tb (((frame_Decode_iabo_r0_2 x0 x5 x6 x7) : Int) != 0) then (frame_Decode_iabo_r0_2 x0 x5 x6 x7) else (bif tb (x2) then (bif tb (((frame_Decode_iabo_r0_0 x0 x5 x6 x7) : Int) == (word_Next_i_r0_0 x1)) then 0 else 6) else 0))
def fresh_Track_take_pabo_Fi2bi7_r0_4 (x0 : Int) (x1 : Int) (x5 : Bool) (x6 : Bool) (x7 : List Int) : Int := (bif tb (((frame_Decode_iabo_r0_2 x0 x5 x6 x7) : Int) != 0) then x1 else (frame_Decode_iabo_r0_0 x0 x5 x6 x7))
def fresh_Track_take_pabo_Fi2bi7_r0_5 (x0 : Int) (x2 : Bool) (x5 : Bool) (x6 : Bool) (x7 : List Int) : Bool := (bif tb (((frame_Decode_iabo_r0_2 x0 x5 x6 x7) : Int) != 0) then x2 else true)
theorem fresh_Track_take_pabo_Fi2bi7_t0 (x0 : Int) (x1 : Int) (x2 : Bool) (x3 : List Int) (x5 : Bool) (x6 : Bool) (x7 : List Int) : fresh_Track_take_pabo_Fi2bi7_c0 x0 x5 x6 x7 = true → cl E0 27 [(V.ptr 0 1 0 0), (V.agg [(V.d (.bool x5)), (V.d (slD (encI .u8) true 1 x6 x7))])] [(Blk.flat 67 10 [([(.int .i64 x0), (.int .i64 x1), (.bool x2)] ++ arrD .i64 x3 7)] false)] = some ([(V.agg [(V.d (.int .i64 (fresh_Track_take_pabo_Fi2bi7_r0_0 x0 x1 x2 x5 x6 x7))), (V.d (.int .i64 (gt (fresh_Track_take_pabo_Fi2bi7_r0_1 x0 x1 x2 x5 x6 x7) 0))), (V.d (.int .i64 (gt (fresh_Track_take_pabo_Fi2bi7_r0_1 x0 x1 x2 x5 x6 x7) 1))), (V.d (.int .i64 (gt (fresh_Track_take_pabo_Fi2bi7_r0_1 x0 x1 x2 x5 x6 x7) 2))), (V.d (.int .i64 (gt (fresh_Track_take_pabo_Fi2bi7_r0_1 x0 x1 x2 x5 x6 x7) 3))), (V.d (.int .i64 (gt (fresh_Track_take_pabo_Fi2bi7_r0_1 x0 x1 x2 x5 x6 x7) 4))), (V.d (.int .i64 (gt (fresh_Track_take_pabo_Fi2bi7_r0_1 x0 x1 x2 x5 x6 x7) 5))), (V.d (.int .i64 (gt (fresh_Track_take_pabo_Fi2bi7_r0_1 x0 x1 x2 x5 x6 x7) 6))), (V.d (.int .i64 (gt (fresh_Track_take_pabo_Fi2bi7_r0_1 x0 x1 x2 x5 x6 x7) 7)))]), (V.d (.int .i64 (fresh_Track_take_pabo_Fi2bi7_r0_2 x0 x1 x2 x5 x6 x7)))], [(Blk.flat 67 10 [([(.int .i64 x0), (.int .i64 (fresh_Track_take_pabo_Fi2bi7_r0_4 x0 x1 x5 x6 x7)), (.bool (fresh_Track_take_pabo_Fi2bi7_r0_5 x0 x2 x5 x6 x7))] ++ arrD .i64 x3 7)] false)]) := by
  unfold fresh_Track_take_pabo_Fi2bi7_c0 fresh_Track_take_pabo_Fi2bi7_r0_0 fresh_Track_take_pabo_Fi2bi7_r0_1 fresh_Track_take_pabo_Fi2bi7_r0_2 fresh_Track_take_pabo_Fi2bi7_r0_4 fresh_Track_take_pabo_Fi2bi7_r0_5
  cases h1 : tb (frame_Decode_iabo_c0 x0 x5 x6 x7)
  · intro g0
    exact absurd g0 ft
  · cases h2 : tb (((frame_Decode_iabo_r0_2 x0 x5 x6 x7) : Int) != 0)
    · cases h3 : tb (x2)
      · intro g0
        exact w27 [.c (frame_Decode_iabo_t0 x0 x5 x6 x7 (tbE h1)), .b (tbE h2), .b (notF (tbE h3))] (by kernel_rfl)
      · cases h4 : tb (((frame_Decode_iabo_r0_0 x0 x5 x6 x7) : Int) == (word_Next_i_r0_0 x1))
        · intro g0
          exact w27 [.c (frame_Decode_iabo_t0 x0 x5 x6 x7 (tbE h1)), .b (tbE h2), .b (notT (tbE h3)), .c (word_Next_i_t0 x1), .b (notF (tbE h4))] (by kernel_rfl)
        · intro g0
          exact w27 [.c (frame_Decode_iabo_t0 x0 x5 x6 x7 (tbE h1)), .b (tbE h2), .b (notT (tbE h3)), .c (word_Next_i_t0 x1), .b (notT (tbE h4))] (by kernel_rfl)
    · intro g0
      exact w27 [.c (frame_Decode_iabo_t0 x0 x5 x6 x7 (tbE h1)), .b (tbE h2)] (by kernel_rfl)
def fresh_Track_Take_pabo_Fi2bi7_e0 (x0 : Int) (x1 : Int) (x2 : Bool) (x3 : List Int) (x5 : Bool) (x6 : Bool) (x7 : List Int) : Int := wi ((gt x3 (fresh_Track_take_pabo_Fi2bi7_r0_2 x0 x1 x2 x5 x6 x7)) + 1)
def fresh_Track_Take_pabo_Fi2bi7_e1 (x0 : Int) (x1 : Int) (x2 : Bool) (x3 : List Int) (x5 : Bool) (x6 : Bool) (x7 : List Int) : List Int := sta x3 7 (fresh_Track_take_pabo_Fi2bi7_r0_2 x0 x1 x2 x5 x6 x7) (fresh_Track_Take_pabo_Fi2bi7_e0 x0 x1 x2 x3 x5 x6 x7)
def fresh_Track_Take_pabo_Fi2bi7_c0 (x0 : Int) (x1 : Int) (x2 : Bool) (x5 : Bool) (x6 : Bool) (x7 : List Int) : Bool := (bif tb (fresh_Track_take_pabo_Fi2bi7_c0 x0 x5 x6 x7) then (bif tb (inb 7 (fresh_Track_take_pabo_Fi2bi7_r0_2 x0 x1 x2 x5 x6 x7)) then true else false) else false)
theorem fresh_Track_Take_pabo_Fi2bi7_t0 (x0 : Int) (x1 : Int) (x2 : Bool) (x3 : List Int) (x5 : Bool) (x6 : Bool) (x7 : List Int) : fresh_Track_Take_pabo_Fi2bi7_c0 x0 x1 x2 x5 x6 x7 = true → cl E0 11 [(V.ptr 0 1 0 0), (V.agg [(V.d (.bool x5)), (V.d (slD (encI .u8) true 1 x6 x7))])] [(Blk.flat 67 10 [([(.int .i64 x0), (.int .i64 x1), (.bool x2)] ++ arrD .i64 x3 7)] false)] = some ([(V.agg [(V.d (.int .i64 (fresh_Track_take_pabo_Fi2bi7_r0_0 x0 x1 x2 x5 x6 x7))), (V.d (.int .i64 (gt (fresh_Track_take_pabo_Fi2bi7_r0_1 x0 x1 x2 x5 x6 x7) 0))), (V.d (.int .i64 (gt (fresh_Track_take_pabo_Fi2bi7_r0_1 x0 x1 x2 x5 x6 x7) 1))), (V.d (.int .i64 (gt (fresh_Track_take_pabo_Fi2bi7_r0_1 x0 x1 x2 x5 x6 x7) 2))), (V.d (.int .i64 (gt (fresh_Track_take_pabo_Fi2bi7_r0_1 x0 x1 x2 x5 x6 x7) 3))), (V.d (.int .i64 (gt (fresh_Track_take_pabo_Fi2bi7_r0_1 x0 x1 x2 x5 x6 x7) 4))), (V.d (.int .i64 (gt (fresh_Track_take_pabo_Fi2bi7_r0_1 x0 x1 x2 x5 x6 x7) 5))), (V.d (.int .i64 (gt (fresh_Track_take_pabo_Fi2bi7_r0_1 x0 x1 x2 x5 x6 x7) 6))), (V.d (.int .i64 (gt (fresh_Track_take_pabo_Fi2bi7_r0_1 x0 x1 x2 x5 x6 x7) 7)))]), (V.d (.int .i64 (fresh_Track_take_pabo_Fi2bi7_r0_2 x0 x1 x2 x5 x6 x7)))], [(Blk.flat 67 10 [([(.int .i64 x0), (.int .i64 (fresh_Track_take_pabo_Fi2bi7_r0_4 x0 x1 x5 x6 x7)), (.bool (fresh_Track_take_pabo_Fi2bi7_r0_5 x0 x2 x5 x6 x7))] ++ arrD .i64 (fresh_Track_Take_pabo_Fi2bi7_e1 x0 x1 x2 x3 x5 x6 x7) 7)] false)]) := by
  unfold fresh_Track_Take_pabo_Fi2bi7_c0
  cases h1 : tb (fresh_Track_take_pabo_Fi2bi7_c0 x0 x5 x6 x7)
  · intro g0
    exact absurd g0 ft
  · cases h2 : tb (inb 7 (fresh_Track_take_pabo_Fi2bi7_r0_2 x0 x1 x2 x5 x6 x7))
    · intro g0
      exact absurd g0 ft
    · intro g0
      exact w11 [.k false, .c (fresh_Track_take_pabo_Fi2bi7_t0 x0 x1 x2 x3 x5 x6 x7 (tbE h1)), .o 21 (fun _ => o_idxAA (id := 0) (nn := 1) (row := 0) (off := 3) (n := 7) (s := 1) (k := .i64) (i := (fresh_Track_take_pabo_Fi2bi7_r0_2 x0 x1 x2 x5 x6 x7)) (tbE h2)), .m 22 (o_load_arr (m := [(Blk.flat 67 10 [([(.int .i64 x0), (.int .i64 (fresh_Track_take_pabo_Fi2bi7_r0_4 x0 x1 x5 x6 x7)), (.bool (fresh_Track_take_pabo_Fi2bi7_r0_5 x0 x2 x5 x6 x7))] ++ arrD .i64 x3 7)] true), (Blk.gen 39 2 [[(V.d (.bool x5)), (V.d (slD (encI .u8) true 1 x6 x7))]] true), (Blk.flat 33 9 [[(.int .i64 0), (.int .i64 0), (.int .i64 0), (.int .i64 0), (.int .i64 0), (.int .i64 0), (.int .i64 0), (.int .i64 0), (.int .i64 0)]] true), (Blk.flat 33 9 [([(.int .i64 (fresh_Track_take_pabo_Fi2bi7_r0_0 x0 x1 x2 x5 x6 x7))] ++ arrD .i64 (fresh_Track_take_pabo_Fi2bi7_r0_1 x0 x1 x2 x5 x6 x7) 8)] true)]) (id := 0) (nn := 1) (row := 0) (off := 3) (n := 7) (k := .i64) (T := x3) (i := (fresh_Track_take_pabo_Fi2bi7_r0_2 x0 x1 x2 x5 x6 x7)) (by kernel_rfl) (tbE h2)), .o 26 (fun _ => o_idxAA (id := 0) (nn := 1) (row := 0) (off := 3) (n := 7) (s := 1) (k := .i64) (i := (fresh_Track_take_pabo_Fi2bi7_r0_2 x0 x1 x2 x5 x6 x7)) (tbE h2)), .m 100026 (o_store_arr (m := [(Blk.flat 67 10 [([(.int .i64 x0), (.int .i64 (fresh_Track_take_pabo_Fi2bi7_r0_4 x0 x1 x5 x6 x7)), (.bool (fresh_Track_take_pabo_Fi2bi7_r0_5 x0 x2 x5 x6 x7))] ++ arrD .i64 x3 7)] false), (Blk.gen 39 2 [[(V.d (.bool x5)), (V.d (slD (encI .u8) true 1 x6 x7))]] false), (Blk.flat 33 9 [[(.int .i64 0), (.int .i64 0), (.int .i64 0), (.int .i64 0), (.int .i64 0), (.int .i64 0), (.int .i64 0), (.int .i64 0), (.int .i64 0)]] false), (Blk.flat 33 9 [([(.int .i64 (fresh_Track_take_pabo_Fi2bi7_r0_0 x0 x1 x2 x5 x6 x7))] ++ arrD .i64 (fresh_Track_take_pabo_Fi2bi7_r0_1 x0 x1 x2 x5 x6 x7) 8)] false)]) (id := 0) (nn := 1) (row := 0) (off := 3) (n := 7) (s := 10) (e := 67) (rows := [([(.int .i64 x0), (.int .i64 (fresh_Track_take_pabo_Fi2bi7_r0_4 x0 x1 x5 x6 x7)), (.bool (fresh_Track_take_pabo_Fi2bi7_r0_5 x0 x2 x5 x6 x7))] ++ arrD .i64 x3 7)]) (cs := ([(.int .i64 x0), (.int .i64 (fresh_Track_take_pabo_Fi2bi7_r0_4 x0 x1 x5 x6 x7)), (.bool (fresh_Track_take_pabo_Fi2bi7_r0_5 x0 x2 x5 x6 x7))] ++ arrD .i64 x3 7)) (k := .i64) (T := x3) (i := (fresh_Track_take_pabo_Fi2bi7_r0_2 x0 x1 x2 x5 x6 x7)) (v := (fresh_Track_Take_pabo_Fi2bi7_e0 x0 x1 x2 x3 x5 x6 x7)) (by kernel_rfl) (by kernel_rfl) (by kernel_rfl) (by kernel_rfl) (tbE h2))] (by kernel_rfl)
theorem fresh_Track_Last_p_Fi2bi7_t0 (x0 : Int) (x1 : Int) (x2 : Bool) (x3 : List Int) (x4 : Bool) : cl E0 13 [(V.ptr 0 1 0 0)] [(Blk.flat 67 10 [([(.int .i64 x0), (.int .i64 x1), (.bool x2)] ++ arrD .i64 x3 7)] x4)] = some ([(V.d (.int .i64 x1)), (V.d (.bool x2))], [(Blk.flat 67 10 [([(.int .i64 x0), (.int .i64 x1), (.bool x2)] ++ arrD .i64 x3 7)] x4)]) := by
  exact w13 [.k false] (by kernel_rfl)
theorem fresh_Track_Counts_p_Fi2bi7_t0 (x0 : Int) (x1 : Int) (x2 : Bool) (x3 : List Int) (x4 : Bool) : cl E0 14 [(V.ptr 0 1 0 0)] [(Blk.flat 67 10 [([(.int .i64 x0), (.int .i64 x1), (.bool x2)] ++ arrD .i64 x3 7)] x4)] = some ([(V.agg [(V.d (.int .i64 (gt x3 0))), (V.d (.int .i64 (gt x3 1))), (V.d (.int .i64 (gt x3 2))), (V.d (.int .i64 (gt x3 3))), (V.d (.int .i64 (gt x3 4))), (V.d (.int .i64 (gt x3 5))), (V.d (.int .i64 (gt x3 6)))])], [(Blk.flat 67 10 [([(.int .i64 x0), (.int .i64 x1), (.bool x2)] ++ arrD .i64 x3 7)] x4)]) := by
  exact w14 [.k false] (by kernel_rfl)
def fresh_Track_take_pabn_Fi2bi7_r0_2 (x1 : Int) (x2 : Bool) (x5 : Bool) : Int := (bif tb (((frame_Decode_iabn_S0_r0_0 x5) : Int) != 0) then (frame_Decode_iabn_S0_r0_0 x5) else (bif tb (x2) then (bif tb ((0 : Int) == (word_Next_i_r0_0 x1)) then 0 else 6) else 0))
def fresh_Track_take_pabn_Fi2bi7_r0_4 (x1 : Int) (x5 : Bool) : Int := (bif tb (((frame_Decode_iabn_S0_r0_0 x5) : Int) != 0) then x1 else 0)
def fresh_Track_take_pabn_Fi2bi7_r0_5 (x2 : Bool) (x5 : Bool) : Bool := (bif tb (((frame_Decode_iabn_S0_r0_0 x5) : Int) != 0) then x2 else true)
theorem fresh_Track_take_pabn_Fi2bi7_t0 (x0 : Int) (x1 : Int) (x2 : Bool) (x3 : List Int) (x5 : Bool) : cl E0 27 [(V.ptr 0 1 0 0), (V.agg [(V.d (.bool x5)), (V.d .nils)])] [(Blk.flat 67 10 [([(.int .i64 x0), (.int .i64 x1), (.bool x2)] ++ arrD .i64 x3 7)] false)] = some ([(V.agg [(V.d (.int .i64 0)), (V.d (.int .i64 (gt [0, 0, 0, 0, 0, 0, 0, 0] 0))), (V.d (.int .i64 (gt [0, 0, 0, 0, 0, 0, 0, 0] 1))), (V.d (.int .i64 (gt [0, 0, 0, 0, 0, 0, 0, 0] 2))), (V.d (.int .i64 (gt [0, 0, 0, 0, 0, 0, 0, 0] 3))), (V.d (.int .i64 (gt [0, 0, 0, 0, 0, 0, 0, 0] 4))), (V.d (.int .i64 (gt [0, 0, 0, 0, 0, 0, 0, 0] 5))), (V.d (.int .i64 (gt [0, 0, 0, 0, 0, 0, 0, 0] 6))), (V.d (.int .i64 (gt [0, 0, 0, 0, 0, 0, 0, 0] 7)))]), (V.d (.int .i64 (fresh_Track_take_pabn_Fi2bi7_r0_2 x1 x2 x5)))], [(Blk.flat 67 10 [([(.int .i64 x0), (.int .i64 (fresh_Track_take_pabn_Fi2bi7_r0_4 x1 x5)), (.bool (fresh_Track_take_pabn_Fi2bi7_r0_5 x2 x5))] ++ arrD .i64 x3 7)] false)]) := by
  unfold fresh_Track_take_pabn_Fi2bi7_r0_2 fresh_Track_take_pabn_Fi2bi7_r0_4 fresh_Track_take_pabn_Fi2bi7_r0_5
  cases h1 : tb (((frame_Decode_iabn_S0_r0_0 x5) : Int) != 0)
  · cases h2 : tb (x2)
    · exact w27 [.c (frame_Decode_iabn_t0 x0 x5), .b (tbE h1), .b (notF (tbE h2))] (by kernel_rfl)
    · cases h3 : tb ((0 : Int) == (word_Next_i_r0_0 x1))
      · exact w27 [.c (frame_Decode_iabn_t0 x0 x5), .b (tbE h1), .b (notT (tbE h2)), .c (word_Next_i_t0 x1), .b (notF (tbE h3))] (by kernel_rfl)
      · exact w27 [.c (frame_Decode_iabn_t0 x0 x5), .b (tbE h1), .b (notT (tbE h2)), .c (word_Next_i_t0 x1), .b (notT (tbE h3))] (by kernel_rfl)
  · exact w27 [.c (frame_Decode_iabn_t0 x0 x5), .b (tbE h1)] (by kernel_rfl)
def fresh_Track_Take_pabn_Fi2bi7_e0 (x1 : Int) (x2 : Bool) (x3 : List Int) (x5 : Bool) : Int := wi ((gt x3 (fresh_Track_take_pabn_Fi2bi7_r0_2 x1 x2 x5)) + 1)
def fresh_Track_Take_pabn_Fi2bi7_e1 (x1 : Int) (x2 : Bool) (x3 : List Int) (x5 : Bool) : List Int := sta x3 7 (fresh_Track_take_pabn_Fi2bi7_r0_2 x1 x2 x5) (fresh_Track_Take_pabn_Fi2bi7_e0 x1 x2 x3 x5)
def fresh_Track_Take_pabn_Fi2bi7_c0 (x1 : Int) (x2 : Bool) (x5 : Bool) : Bool := (bif tb (inb 7 (fresh_Track_take_pabn_Fi2bi7_r0_2 x1 x2 x5)) then true else false)
theorem fresh_Track_Take_pabn_Fi2bi7_t0 (x0 : Int) (x1 : Int) (x2 : Bool) (x3 : List Int) (x5 : Bool) : fresh_Track_Take_pabn_Fi2bi7_c0 x1 x2 x5 = true → cl E0 11 [(V.ptr 0 1 0 0), (V.agg [(V.d (.bool x5)), (V.d .nils)])] [(Blk.flat 67 10 [([(.int .i64 x0), (.int .i64 x1), (.bool x2)] ++ arrD .i64 x3 7)] false)] = some ([(V.agg [(V.d (.int .i64 0)), (V.d (.int .i64 (gt [0, 0, 0, 0, 0, 0, 0, 0] 0))), (V.d (.int .i64 (gt [0, 0, 0, 0, 0, 0, 0, 0] 1))), (V.d (.int .i64 (gt [0, 0, 0, 0, 0, 0, 0, 0] 2))), (V.d (.int .i64 (gt [0, 0, 0, 0, 0, 0, 0, 0] 3))), (V.d (.int .i64 (gt [0, 0, 0, 0, 0, 0, 0, 0] 4))), (V.d (.int .i64 (gt [0, 0, 0, 0, 0, 0, 0, 0] 5))), (V.d (.int .i64 (gt [0, 0, 0, 0, 0, 0, 0, 0] 6))), (V.d (.int .i64 (gt [0, 0, 0, 0, 0, 0, 0, 0] 7)))]), (V.d (.int .i64 (fresh_Track_take_pabn_Fi2bi7_r0_2 x1 x2 x5)))], [(Blk.flat 67 10 [([(.int .i64 x0), (.int .i64 (fresh_Track_take_pabn_Fi2bi7_r0_4 x1 x5)), (.bool (fresh_Track_take_pabn_Fi2bi7_r0_5 x2 x5))] ++ arrD .i64 (fresh_Track_Take_pabn_Fi2bi7_e1 x1 x2 x3 x5) 7)] false)]) := by
  unfold fresh_Track_Take_pabn_Fi2bi7_c0
  cases h1 : tb (inb 7 (fresh_Track_take_pabn_Fi2bi7_r0_2 x1 x2 x5))
  · intro g0
    exact absurd g0 ft
  · intro g0
    exact w11 [.k false, .c (fresh_Track_take_pabn_Fi2bi7_t0 x0 x1 x2 x3 x5), .o 21 (fun _ => o_idxAA (id := 0) (nn := 1) (row := 0) (off := 3) (n := 7) (s := 1) (k := .i64) (i := (fresh_Track_take_pabn_Fi2bi7_r0_2 x1 x2 x5)) (tbE h1)), .m 22 (o_load_arr (m := [(Blk.flat 67 10 [([(.int .i64 x0), (.int .i64 (fresh_Track_take_pabn_Fi2bi7_r0_4 x1 x5)), (.bool (fresh_Track_take_pabn_Fi2bi7_r0_5 x2 x5))] ++ arrD .i64 x3 7)] true), (Blk.gen 39 2 [[(V.d (.bool x5)), (V.d .nils)]] true), (Blk.flat 33 9 [[(.int .i64 0), (.int .i64 0), (.int .i64 0), (.int .i64 0), (.int .i64 0), (.int .i64 0), (.int .i64 0), (.int .i64 0), (.int .i64 0)]] true), (Blk.flat 33 9 [([(.int .i64 0)] ++ arrD .i64 [0, 0, 0, 0, 0, 0, 0, 0] 8)] true)]) (id := 0) (nn := 1) (row := 0) (off := 3) (n := 7) (k := .i64) (T := x3) (i := (fresh_Track_take_pabn_Fi2bi7_r0_2 x1 x2 x5)) (by kernel_rfl) (tbE h1)), .o 26 (fun _ => o_idxAA (id := 0) (nn := 1) (row := 0) (off := 3) (n := 7) (s := 1) (k := .i64) (i := (fresh_Track_take_pabn_Fi2bi7_r0_2 x1 x2 x5)) (tbE h1)), .m 100026 (o_store_arr (m := [(Blk.flat 67 10 [([(.int .i64 x0), (.int .i64 (fresh_Track_take_pabn_Fi2bi7_r0_4 x1 x5)), (.bool (fresh_Track_take_pabn_Fi2bi7_r0_5 x2 x5))] ++ arrD .i64 x3 7)] false), (Blk.gen 39 2 [[(V.d (.bool x5)), (V.d .nils)]] false), (Blk.flat 33 9 [[(.int .i64 0), (.int .i64 0), (.int .i64 0), (.int .i64 0), (.int .i64 0), (.int .i64 0), (.int .i64 0), (.int .i64 0), (.int .i64 0)]] false), (Blk.flat 33 9 [([(.int .i64 0)] ++ arrD .i64 [0, 0, 0, 0, 0, 0, 0, 0] 8)] false)]) (id := 0) (nn := 1) (row := 0) (off := 3) (n := 7) (s := 10) (e := 67) (rows := [([(.int .i64 x0), (.int .i64 (fresh_Track_take_pabn_Fi2bi7_r0_4 x1 x5)), (.bool (fresh_Track_take_pabn_Fi2bi7_r0_5 x2 x5))] ++ arrD .i64 x3 7)]) (cs := ([(.int .i64 x0), (.int .i64 (fresh_Track_take_pabn_Fi2bi7_r0_4 x1 x5)), (.bool (fresh_Track_take_pabn_Fi2bi7_r0_5 x2 x5))] ++ arrD .i64 x3 7)) (k := .i64) (T := x3) (i := (fresh_Track_take_pabn_Fi2bi7_r0_2 x1 x2 x5)) (v := (fresh_Track_Take_pabn_Fi2bi7_e0 x1 x2 x3 x5)) (by kernel_rfl) (by kernel_rfl) (by kernel_rfl) (by kernel_rfl) (tbE h1))] (by kernel_rfl)
end Go.Proofs.Ytkipngagfiaddaa.Den

namespace Go.Proofs.Ytkipngagfiaddaa.Den
open Go Go.Proofs
set_option maxRecDepth 100000
set_option maxHeartbeats 4000000
set_option linter.unusedVariables false
set_option linter.unusedSimpArgs false
structure law06_Fits_L0_s0 where
  c2 : Int
  deriving Inhabited
def law06_Fits_L0_enc (x0 : Bool) (x1 : List R_bool_Su811) (x2 : Int) (s0 : law06_Fits_L0_s0) : List V × Mem := ([(V.d (slD enc_R_bool_Su811 false 2 x0 x1)), (V.d (.int .i64 s0.c2))], [])
def law06_Fits_L0_sel (x1 : List R_bool_Su811) (s0 : law06_Fits_L0_s0) : Bool := (bif tb (decide (s0.c2 < ((x1.length : Nat) : Int))) then (bif tb (inb x1.length s0.c2) then (bif tb (decide (100 < ((((gt x1 s0.c2).c2).length : Nat) : Int))) then false else true) else false) else false)
def law06_Fits_L0_nx (x1 : List R_bool_Su811) (s0 : law06_Fits_L0_s0) : law06_Fits_L0_s0 := ⟨(wi (s0.c2 + 1))⟩
def law06_Fits_L0_ok (x1 : List R_bool_Su811) (s0 : law06_Fits_L0_s0) : Bool := (itS (law06_Fits_L0_sel x1) (law06_Fits_L0_nx x1) bound s0).isSome
def law06_Fits_L0_end (x1 : List R_bool_Su811) (s0 : law06_Fits_L0_s0) : law06_Fits_L0_s0 := (itS (law06_Fits_L0_sel x1) (law06_Fits_L0_nx x1) bound s0).getD default
theorem law06_Fits_L0_go (x0 : Bool) (x1 : List R_bool_Su811) (x2 : Int) (s0 : law06_Fits_L0_s0) : law06_Fits_L0_sel x1 s0 = true → (roundG (runC E0 (cl E0) L7_0) [0, 3] [2] 0) (law06_Fits_L0_enc x0 x1 x2 s0) = some (.normal, law06_Fits_L0_enc x0 x1 x2 (law06_Fits_L0_nx x1 s0)) := by
  unfold law06_Fits_L0_sel law06_Fits_L0_nx
  cases h1 : tb (decide (s0.c2 < ((x1.length : Nat) : Int)))
  · intro g0
    exact absurd g0 ft
  · cases h2 : tb (inb x1.length s0.c2)
    · intro g0
      exact absurd g0 ft
    · cases h3 : tb (decide (100 < ((((gt x1 s0.c2).c2).length : Nat) : Int)))
      · intro _
        exact round_walk [.o 9 (fun _ => o_len_os (enc := enc_R_bool_Su811) (l := x1) (fl := false) (n := x0) (s := 2)), .b (tbE h1), .o 15 (fun _ => o_idx_os (enc := enc_R_bool_Su811) (l := x1) (fl := false) (n := x0) (s := 2) (k := .i64) (tbE h2)), .o 18 (fun _ => o_len_os (enc := (encI .u8)) (l := ((gt x1 s0.c2).c2)) (fl := true) (n := ((gt x1 s0.c2).c1)) (s := 1)), .b (tbE h3)] (by kernel_rfl)
      · intro g0
        exact absurd g0 ft
def law06_Fits_L0_c0 (x1 : List R_bool_Su811) (s0 : law06_Fits_L0_s0) : Bool := (bif tb (decide (s0.c2 < ((x1.length : Nat) : Int))) then (bif tb (inb x1.length s0.c2) then true else false) else false)
def law06_Fits_L0_c1 (x1 : List R_bool_Su811) (s0 : law06_Fits_L0_s0) : Bool := (bif tb (decide (s0.c2 < ((x1.length : Nat) : Int))) then false else true)
theorem law06_Fits_L0_x0 (x0 : Bool) (x1 : List R_bool_Su811) (x2 : Int) (s0 : law06_Fits_L0_s0) : law06_Fits_L0_sel x1 s0 = false → law06_Fits_L0_c0 x1 s0 = true → (roundG (runC E0 (cl E0) L7_0) [0, 3] [2] 0) (law06_Fits_L0_enc x0 x1 x2 s0) = some (.ret, ([(V.d (.bool false))], [])) := by
  unfold law06_Fits_L0_sel law06_Fits_L0_c0
  cases h1 : tb (decide (s0.c2 < ((x1.length : Nat) : Int)))
  · intro g0 g1
    exact absurd g1 ft
  · cases h2 : tb (inb x1.length s0.c2)
    · intro g0 g1
      exact absurd g1 ft
    · cases h3 : tb (decide (100 < ((((gt x1 s0.c2).c2).length : Nat) : Int)))
      · intro g0 g1
        exact absurd g0 tf
      · intro g0 g1
        exact round_walk [.o 9 (fun _ => o_len_os (enc := enc_R_bool_Su811) (l := x1) (fl := false) (n := x0) (s := 2)), .b (tbE h1), .o 15 (fun _ => o_idx_os (enc := enc_R_bool_Su811) (l := x1) (fl := false) (n := x0) (s := 2) (k := .i64) (tbE h2)), .o 18 (fun _ => o_len_os (enc := (encI .u8)) (l := ((gt x1 s0.c2).c2)) (fl := true) (n := ((gt x1 s0.c2).c1)) (s := 1)), .b (tbE h3)] (by kernel_rfl)
theorem law06_Fits_L0_x1 (x0 : Bool) (x1 : List R_bool_Su811) (x2 : Int) (s0 : law06_Fits_L0_s0) : law06_Fits_L0_sel x1 s0 = false → law06_Fits_L0_c0 x1 s0 = false → law06_Fits_L0_c1 x1 s0 = true → (roundG (runC E0 (cl E0) L7_0) [0, 3] [2] 0) (law06_Fits_L0_enc x0 x1 x2 s0) = some ((.exit 0), ([V.un], [])) := by
  unfold law06_Fits_L0_sel law06_Fits_L0_c0 law06_Fits_L0_c1
  cases h1 : tb (decide (s0.c2 < ((x1.length : Nat) : Int)))
  · intro g0 g1 g2
    exact round_walk [.o 9 (fun _ => o_len_os (enc := enc_R_bool_Su811) (l := x1) (fl := false) (n := x0) (s := 2)), .b (tbE h1)] (by kernel_rfl)
  · cases h2 : tb (inb x1.length s0.c2)
    · intro g0 g1 g2
      exact absurd g2 ft
    · cases h3 : tb (decide (100 < ((((gt x1 s0.c2).c2).length : Nat) : Int)))
      · intro g0 g1 g2
        exact absurd g0 tf
      · intro g0 g1 g2
        exact absurd g1 tf
theorem law06_Fits_L0_f0_0 (x0 : Bool) (x1 : List R_bool_Su811) (x2 : Int) (s : law06_Fits_L0_s0) (hok : law06_Fits_L0_ok x1 s = true) (c0 : law06_Fits_L0_c0 x1 (law06_Fits_L0_end x1 s) = true) : loopG (roundG (runC E0 (cl E0) L7_0) [0, 3] [2] 0) bound (law06_Fits_L0_enc x0 x1 x2 s) = some (.ret, ([(V.d (.bool false))], [])) := by
  have e : itS (law06_Fits_L0_sel x1) (law06_Fits_L0_nx x1) bound s = some (law06_Fits_L0_end x1 s) := itS_get hok
  have f := itS_false e
  exact loop_it (law06_Fits_L0_go x0 x1 x2) bound s _ _ _ e (fun h => by cases h) (law06_Fits_L0_x0 x0 x1 x2 (law06_Fits_L0_end x1 s) f c0)
theorem law06_Fits_L0_f0_1 (x0 : Bool) (x1 : List R_bool_Su811) (x2 : Int) (s : law06_Fits_L0_s0) (hok : law06_Fits_L0_ok x1 s = true) (c0 : law06_Fits_L0_c0 x1 (law06_Fits_L0_end x1 s) = false) (c1 : law06_Fits_L0_c1 x1 (law06_Fits_L0_end x1 s) = true) : loopG (roundG (runC E0 (cl E0) L7_0) [0, 3] [2] 0) bound (law06_Fits_L0_enc x0 x1 x2 s) = some ((.exit 0), ([V.un], [])) := by
  have e : itS (law06_Fits_L0_sel x1) (law06_Fits_L0_nx x1) bound s = some (law06_Fits_L0_end x1 s) := itS_get hok
  have f := itS_false e
  exact loop_it (law06_Fits_L0_go x0 x1 x2) bound s _ _ _ e (fun h => by cases h) (law06_Fits_L0_x1 x0 x1 x2 (law06_Fits_L0_end x1 s) f c0 c1)
def law06_Fits_c0 (x1 : List R_bool_Su811) : Bool := (bif tb (decide (60 < ((x1.length : Nat) : Int))) then true else (bif tb (law06_Fits_L0_ok x1 (⟨0⟩ : law06_Fits_L0_s0)) then (bif tb (law06_Fits_L0_c0 x1 (law06_Fits_L0_end x1 (⟨0⟩ : law06_Fits_L0_s0))) then true else (bif tb (law06_Fits_L0_c1 x1 (law06_Fits_L0_end x1 (⟨0⟩ : law06_Fits_L0_s0))) then true else false)) else false))
def law06_Fits_r0_0 (x1 : List R_bool_Su811) : Bool := (bif tb (decide (60 < ((x1.length : Nat) : Int))) then false else (bif tb (law06_Fits_L0_c0 x1 (law06_Fits_L0_end x1 (⟨0⟩ : law06_Fits_L0_s0))) then false else true))
theorem law06_Fits_t0 (x0 : Bool) (x1 : List R_bool_Su811) : law06_Fits_c0 x1 = true → cl E0 7 [(V.d (slD enc_R_bool_Su811 false 2 x0 x1))] [] = some ([(V.d (.bool (law06_Fits_r0_0 x1)))], []) := by
  unfold law06_Fits_c0 law06_Fits_r0_0
  cases h1 : tb (decide (60 < ((x1.length : Nat) : Int)))
  · cases h2 : tb (law06_Fits_L0_ok x1 (⟨0⟩ : law06_Fits_L0_s0))
    · intro g0
      exact absurd g0 ft
    · cases h3 : tb (law06_Fits_L0_c0 x1 (law06_Fits_L0_end x1 (⟨0⟩ : law06_Fits_L0_s0)))
      · cases h4 : tb (law06_Fits_L0_c1 x1 (law06_Fits_L0_end x1 (⟨0⟩ : law06_Fits_L0_s0)))
        · intro g0
          exact absurd g0 ft
        · intro g0
          exact w7 [.o 5 (fun _ => o_len_os (enc := enc_R_bool_Su811) (l := x1) (fl := false) (n := x0) (s := 2)), .b (tbE h1), .l (law06_Fits_L0_f0_1 x0 x1 0 (⟨0⟩ : law06_Fits_L0_s0) (tbE h2) (tbE h3) (tbE h4))] (by kernel_rfl)
      · intro g0
        exact w7 [.o 5 (fun _ => o_len_os (enc := enc_R_bool_Su811) (l := x1) (fl := false) (n := x0) (s := 2)), .b (tbE h1), .l (law06_Fits_L0_f0_0 x0 x1 0 (⟨0⟩ : law06_Fits_L0_s0) (tbE h2) (tbE h3))] (by kernel_rfl)
  · intro g0
    exact w7 [.o 5 (fun _ => o_len_os (enc := enc_R_bool_Su811) (l := x1) (fl := false) (n := x0) (s := 2)), .b (tbE h1)] (by kernel_rfl)
end Go.Proofs.Ytkipngagfiaddaa.Den

namespace Go.Proofs.Ytkipngagfiaddaa.Den
open Go Go.Proofs
set_option maxRecDepth 100000
set_option maxHeartbeats 4000000
set_option linter.unusedVariables false
set_option linter.unusedSimpArgs false
theorem law06_alive_t0 : cl E0 8 [] [] = some ([(V.d (.bool true))], []) := cl_of (n := 60) (by kernel_rfl)
end Go.Proofs.Ytkipngagfiaddaa.Den

namespace Go.Proofs.Ytkipngagfiaddaa.Den
open Go Go.Proofs
set_option maxRecDepth 100000
set_option maxHeartbeats 4000000
set_option linter.unusedVariables false
set_option linter.unusedSimpArgs false
end Go.Proofs.Ytkipngagfiaddaa.Den

namespace Go.Proofs.Ytkipngagfiaddaa.Den
open Go Go.Proofs
set_option maxRecDepth 100000
set_option maxHeartbeats 4000000
set_option linter.unusedVariables false
set_option linter.unusedSimpArgs false
structure law06_FreshPlays_L3_s0 where
  c2 : Int
  c4 : Int
  c5 : Bool
  c6 : List Int
  c9 : Int
  c10 : List Int
  deriving Inhabited
end Go.Proofs.Ytkipngagfiaddaa.Den

namespace Go.Proofs.Ytkipngagfiaddaa.Den
open Go Go.Proofs
set_option linter.unusedVariables false
set_option linter.unusedSimpArgs false
theorem rejOf_rng (ch : Int) (is : Bool) (l : List Int) : 0 ≤ rejOf ch is l ∧ rejOf ch is l ≤ 5 := by
  unfold rejOf; repeat' split
  all_goals omega
def rjOf (ch : Int) (last : Int) (begun : Bool) (is : Bool) (l : List Int) : Int :=
  if rejOf ch is l = 0 then (if begun = true then (if seqOf l = word_Next_i_r0_0 last then 0 else 6) else 0) else rejOf ch is l
theorem rjOf_rng (ch last : Int) (begun is : Bool) (l : List Int) : 0 ≤ rjOf ch last begun is l ∧ rjOf ch last begun is l ≤ 6 := by
  have := rejOf_rng ch is l
  unfold rjOf; repeat' split
  all_goals omega
theorem take_eq (ch last : Int) (begun is nl : Bool) {l : List Int} (h : Sm l) :
    fresh_Track_take_pabo_Fi2bi7_c0 ch is nl l = true ∧
    fresh_Track_take_pabo_Fi2bi7_r0_0 ch last begun is nl l = (if rjOf ch last begun is l = 0 then seqOf l else 0) ∧
    fresh_Track_take_pabo_Fi2bi7_r0_1 ch last begun is nl l = (if rjOf ch last begun is l = 0 then valsOf l else z8) ∧
    fresh_Track_take_pabo_Fi2bi7_r0_2 ch last begun is nl l = rjOf ch last begun is l ∧
    fresh_Track_take_pabo_Fi2bi7_r0_4 ch last is nl l = (if rejOf ch is l = 0 then seqOf l else last) ∧
    fresh_Track_take_pabo_Fi2bi7_r0_5 ch begun is nl l = (if rejOf ch is l = 0 then true else begun) := by
  obtain ⟨d1, d2, d3, d4⟩ := decode_eq ch is nl h
  simp only [fresh_Track_take_pabo_Fi2bi7_c0, fresh_Track_take_pabo_Fi2bi7_r0_0, fresh_Track_take_pabo_Fi2bi7_r0_1, fresh_Track_take_pabo_Fi2bi7_r0_2, fresh_Track_take_pabo_Fi2bi7_r0_4, fresh_Track_take_pabo_Fi2bi7_r0_5, d1, d2, d3, d4, rjOf, tb_eq]
  by_cases hd : rejOf ch is l = 0
  · simp only [hd, if_true]
    cases begun with
    | false => simp
    | true =>
      by_cases hq : seqOf l = word_Next_i_r0_0 last
      · simp [hq, z8]
      · have hq' : (seqOf l == word_Next_i_r0_0 last) = false := by simpa using hq
        simp [hq, hq', z8]
  · have hd' : (rejOf ch is l != 0) = true := by simp [hd]
    simp only [hd, hd', if_false, cond_true, z8]
    simp
structure FitsP (l : List R_bool_Su811) : Prop where
  n : l.length ≤ 60
  b : ∀ z ∈ l, Sm z.c2
theorem fits_eq {l : List R_bool_Su811} (w : ∀ z ∈ l, Byt z.c2) (hn : l.length < 1152921504606846976) (hn2 : ∀ z ∈ l, z.c2.length ≤ maxLen) : law06_Fits_c0 l = true ∧ (law06_Fits_r0_0 l = true → FitsP l) := by
  by_cases hl : 60 < l.length
  · have h1 : decide ((60 : Int) < ((l.length : Nat) : Int)) = true := decide_eq_true (by omega)
    simp [law06_Fits_c0, law06_Fits_r0_0, h1]
  · have h1 : decide ((60 : Int) < ((l.length : Nat) : Int)) = false := decide_eq_false (by omega)
    obtain ⟨s1, e, _, a1, a2⟩ := all_loop (sel := law06_Fits_L0_sel l) (nx := law06_Fits_L0_nx l) (s0 := ⟨0⟩) l (fun s => s.c2) (fun z => !decide ((100 : Int) < ((z.c2.length : Nat) : Int))) (fun _ => True) hn rfl trivial
      (fun s _ b1 b2 _ => ⟨by show wi _ = _; exact wi_eq (by omega) (by omega), trivial⟩)
      (fun s _ b1 b2 => by
        by_cases hi : s.c2 < l.length
        · have i1 := inb_of b1 hi
          simp only [law06_Fits_L0_sel, i1, hi, tb_eq, decide_true, cond_true, Bool.true_and]
          cases decide ((100 : Int) < (((gt l s.c2).c2.length : Nat) : Int)) <;> rfl
        · simp [law06_Fits_L0_sel, hi])
    simp only [law06_Fits_c0, law06_Fits_r0_0, law06_Fits_L0_ok, law06_Fits_L0_end, e, h1, tb_eq, cond_false, Option.isSome_some, cond_true, Option.getD_some]
    rcases a2 with ⟨b1, b2⟩ | ⟨b1, b2, b3⟩
    · refine ⟨by simp [law06_Fits_L0_c0, law06_Fits_L0_c1, b1], fun _ => ⟨by omega, fun z hz => ⟨w z hz, ?_⟩⟩⟩
      have := List.all_eq_true.1 b2 z hz
      simp at this; omega
    · have i1 := inb_of a1 b1
      refine ⟨by simp [law06_Fits_L0_c0, b1, i1], fun h => ?_⟩
      simp [law06_Fits_L0_c0, b1, i1] at h
structure FInv (last : Int) (begun : Bool) (N : List Int) (rlast : Int) : Prop where
  len : N.length = 7
  yes : begun = true → rlast = last ∧ 0 ≤ last
  no : begun = false → last = 0 ∧ rlast = -1
theorem FInv.b {last : Int} {begun : Bool} {N : List Int} {rlast : Int} (h : FInv last begun N rlast) : begun = decide (0 ≤ rlast) := by
  cases hb : begun with
  | true => obtain ⟨h1, h2⟩ := h.yes hb; rw [h1]; exact (decide_eq_true h2).symm
  | false => rw [(h.no hb).2]; rfl
end Go.Proofs.Ytkipngagfiaddaa.Den
