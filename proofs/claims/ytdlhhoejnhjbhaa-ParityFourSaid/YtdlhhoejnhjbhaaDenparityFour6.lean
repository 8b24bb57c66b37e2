/- ParityFour: part 6 of what its proof rests on: an evaluator of the program's code, proved sound; plain functions printed from the code by a program of this session, with proofs; plain laws. No condition. -/
import Derived.Test.YtdlhhoejnhjbhaaDenparityFour5
import Derived.Test.YtdlhhoejnhjbhaaRows

namespace Go.Proofs.Ytdlhhoejnhjbhaa.Den
open Go Go.Proofs
set_option maxRecDepth 100000
set_option maxHeartbeats 4000000
set_option linter.unusedVariables false
set_option linter.unusedSimpArgs false
def order_right_c1_i_r0_0 (x0 : Int) : Bool := (bif tb (decide (x0 < (-1099511627776))) then true else (decide (1099511627776 < x0)))
theorem order_right_c1_i_t0 (x0 : Int) : cl E0 78 [(V.d (.int .i64 x0))] [] = some ([(V.d (.bool (order_right_c1_i_r0_0 x0)))], []) := by
  unfold order_right_c1_i_r0_0
  cases h1 : tb (decide (x0 < (-1099511627776)))
  · exact w78 [.b (tbE h1)] (by kernel_rfl)
  · exact w78 [.b (tbE h1)] (by kernel_rfl)
structure slices_IndexFunc_int_o_order_right_c1_L0_s0 where
  c3 : Int
  deriving Inhabited
def slices_IndexFunc_int_o_order_right_c1_L0_enc (x0 : Bool) (x1 : List Int) (x2 : Int) (x3 : Int) (s0 : slices_IndexFunc_int_o_order_right_c1_L0_s0) : List V × Mem := ([(V.d (slD (encI .i64) true 1 x0 x1)), (V.fn (.func 78) [] []), (V.d (.int .i64 x2)), (V.d (.int .i64 s0.c3))], [])
def slices_IndexFunc_int_o_order_right_c1_L0_sel (x1 : List Int) (x2 : Int) (s0 : slices_IndexFunc_int_o_order_right_c1_L0_s0) : Bool := (bif tb (decide (s0.c3 < x2)) then (bif tb (inb x1.length s0.c3) then (bif tb (order_right_c1_i_r0_0 (gt x1 s0.c3)) then false else true) else false) else false)
def slices_IndexFunc_int_o_order_right_c1_L0_nx (x1 : List Int) (x2 : Int) (s0 : slices_IndexFunc_int_o_order_right_c1_L0_s0) : slices_IndexFunc_int_o_order_right_c1_L0_s0 := ⟨(wi (s0.c3 + 1))⟩
def slices_IndexFunc_int_o_order_right_c1_L0_ok (x1 : List Int) (x2 : Int) (s0 : slices_IndexFunc_int_o_order_right_c1_L0_s0) : Bool := (itS (slices_IndexFunc_int_o_order_right_c1_L0_sel x1 x2) (slices_IndexFunc_int_o_order_right_c1_L0_nx x1 x2) bound s0).isSome
def slices_IndexFunc_int_o_order_right_c1_L0_end (x1 : List Int) (x2 : Int) (s0 : slices_IndexFunc_int_o_order_right_c1_L0_s0) : slices_IndexFunc_int_o_order_right_c1_L0_s0 := (itS (slices_IndexFunc_int_o_order_right_c1_L0_sel x1 x2) (slices_IndexFunc_int_o_order_right_c1_L0_nx x1 x2) bound s0).getD default
theorem slices_IndexFunc_int_o_order_right_c1_L0_go (x0 : Bool) (x1 : List Int) (x2 : Int) (x3 : Int) (s0 : slices_IndexFunc_int_o_order_right_c1_L0_s0) : slices_IndexFunc_int_o_order_right_c1_L0_sel x1 x2 s0 = true → (roundG (runC E0 (cl E0) L82_0) [0, 1, 7, 8] [4] 0) (slices_IndexFunc_int_o_order_right_c1_L0_enc x0 x1 x2 x3 s0) = some (.normal, slices_IndexFunc_int_o_order_right_c1_L0_enc x0 x1 x2 x3 (slices_IndexFunc_int_o_order_right_c1_L0_nx x1 x2 s0)) := by
  unfold slices_IndexFunc_int_o_order_right_c1_L0_sel slices_IndexFunc_int_o_order_right_c1_L0_nx
  cases h1 : tb (decide (s0.c3 < x2))
  · intro g0
    exact absurd g0 ft
  · cases h2 : tb (inb x1.length s0.c3)
    · intro g0
      exact absurd g0 ft
    · cases h3 : tb (order_right_c1_i_r0_0 (gt x1 s0.c3))
      · intro _
        exact round_walk [.b (tbE h1), .o 14 (fun _ => o_idx_os (enc := (encI .i64)) (l := x1) (fl := true) (n := x0) (s := 1) (k := .i64) (tbE h2)), .c (order_right_c1_i_t0 (gt x1 s0.c3)), .b (tbE h3)] (by kernel_rfl)
      · intro g0
        exact absurd g0 ft
def slices_IndexFunc_int_o_order_right_c1_L0_c0 (x1 : List Int) (x2 : Int) (s0 : slices_IndexFunc_int_o_order_right_c1_L0_s0) : Bool := (bif tb (decide (s0.c3 < x2)) then (bif tb (inb x1.length s0.c3) then true else false) else false)
def slices_IndexFunc_int_o_order_right_c1_L0_c1 (x2 : Int) (s0 : slices_IndexFunc_int_o_order_right_c1_L0_s0) : Bool := (bif tb (decide (s0.c3 < x2)) then false else true)
theorem slices_IndexFunc_int_o_order_right_c1_L0_x0 (x0 : Bool) (x1 : List Int) (x2 : Int) (x3 : Int) (s0 : slices_IndexFunc_int_o_order_right_c1_L0_s0) : slices_IndexFunc_int_o_order_right_c1_L0_sel x1 x2 s0 = false → slices_IndexFunc_int_o_order_right_c1_L0_c0 x1 x2 s0 = true → (roundG (runC E0 (cl E0) L82_0) [0, 1, 7, 8] [4] 0) (slices_IndexFunc_int_o_order_right_c1_L0_enc x0 x1 x2 x3 s0) = some (.ret, ([(V.d (.int .i64 s0.c3))], [])) := by
  unfold slices_IndexFunc_int_o_order_right_c1_L0_sel slices_IndexFunc_int_o_order_right_c1_L0_c0
  cases h1 : tb (decide (s0.c3 < x2))
  · intro g0 g1
    exact absurd g1 ft
  · cases h2 : tb (inb x1.length s0.c3)
    · intro g0 g1
      exact absurd g1 ft
    · cases h3 : tb (order_right_c1_i_r0_0 (gt x1 s0.c3))
      · intro g0 g1
        exact absurd g0 tf
      · intro g0 g1
        exact round_walk [.b (tbE h1), .o 14 (fun _ => o_idx_os (enc := (encI .i64)) (l := x1) (fl := true) (n := x0) (s := 1) (k := .i64) (tbE h2)), .c (order_right_c1_i_t0 (gt x1 s0.c3)), .b (tbE h3)] (by kernel_rfl)
theorem slices_IndexFunc_int_o_order_right_c1_L0_x1 (x0 : Bool) (x1 : List Int) (x2 : Int) (x3 : Int) (s0 : slices_IndexFunc_int_o_order_right_c1_L0_s0) : slices_IndexFunc_int_o_order_right_c1_L0_sel x1 x2 s0 = false → slices_IndexFunc_int_o_order_right_c1_L0_c0 x1 x2 s0 = false → slices_IndexFunc_int_o_order_right_c1_L0_c1 x2 s0 = true → (roundG (runC E0 (cl E0) L82_0) [0, 1, 7, 8] [4] 0) (slices_IndexFunc_int_o_order_right_c1_L0_enc x0 x1 x2 x3 s0) = some ((.exit 0), ([V.un], [])) := by
  unfold slices_IndexFunc_int_o_order_right_c1_L0_sel slices_IndexFunc_int_o_order_right_c1_L0_c0 slices_IndexFunc_int_o_order_right_c1_L0_c1
  cases h1 : tb (decide (s0.c3 < x2))
  · intro g0 g1 g2
    exact round_walk [.b (tbE h1)] (by kernel_rfl)
  · cases h2 : tb (inb x1.length s0.c3)
    · intro g0 g1 g2
      exact absurd g2 ft
    · cases h3 : tb (order_right_c1_i_r0_0 (gt x1 s0.c3))
      · intro g0 g1 g2
        exact absurd g0 tf
      · intro g0 g1 g2
        exact absurd g1 tf
theorem slices_IndexFunc_int_o_order_right_c1_L0_f0_0 (x0 : Bool) (x1 : List Int) (x2 : Int) (x3 : Int) (s : slices_IndexFunc_int_o_order_right_c1_L0_s0) (hok : slices_IndexFunc_int_o_order_right_c1_L0_ok x1 x2 s = true) (c0 : slices_IndexFunc_int_o_order_right_c1_L0_c0 x1 x2 (slices_IndexFunc_int_o_order_right_c1_L0_end x1 x2 s) = true) : loopG (roundG (runC E0 (cl E0) L82_0) [0, 1, 7, 8] [4] 0) bound (slices_IndexFunc_int_o_order_right_c1_L0_enc x0 x1 x2 x3 s) = some (.ret, ([(V.d (.int .i64 ((slices_IndexFunc_int_o_order_right_c1_L0_end x1 x2 s).c3)))], [])) := by
  have e : itS (slices_IndexFunc_int_o_order_right_c1_L0_sel x1 x2) (slices_IndexFunc_int_o_order_right_c1_L0_nx x1 x2) bound s = some (slices_IndexFunc_int_o_order_right_c1_L0_end x1 x2 s) := itS_get hok
  have f := itS_false e
  exact loop_it (slices_IndexFunc_int_o_order_right_c1_L0_go x0 x1 x2 x3) bound s _ _ _ e (fun h => by cases h) (slices_IndexFunc_int_o_order_right_c1_L0_x0 x0 x1 x2 x3 (slices_IndexFunc_int_o_order_right_c1_L0_end x1 x2 s) f c0)
theorem slices_IndexFunc_int_o_order_right_c1_L0_f0_1 (x0 : Bool) (x1 : List Int) (x2 : Int) (x3 : Int) (s : slices_IndexFunc_int_o_order_right_c1_L0_s0) (hok : slices_IndexFunc_int_o_order_right_c1_L0_ok x1 x2 s = true) (c0 : slices_IndexFunc_int_o_order_right_c1_L0_c0 x1 x2 (slices_IndexFunc_int_o_order_right_c1_L0_end x1 x2 s) = false) (c1 : slices_IndexFunc_int_o_order_right_c1_L0_c1 x2 (slices_IndexFunc_int_o_order_right_c1_L0_end x1 x2 s) = true) : loopG (roundG (runC E0 (cl E0) L82_0) [0, 1, 7, 8] [4] 0) bound (slices_IndexFunc_int_o_order_right_c1_L0_enc x0 x1 x2 x3 s) = some ((.exit 0), ([V.un], [])) := by
  have e : itS (slices_IndexFunc_int_o_order_right_c1_L0_sel x1 x2) (slices_IndexFunc_int_o_order_right_c1_L0_nx x1 x2) bound s = some (slices_IndexFunc_int_o_order_right_c1_L0_end x1 x2 s) := itS_get hok
  have f := itS_false e
  exact loop_it (slices_IndexFunc_int_o_order_right_c1_L0_go x0 x1 x2 x3) bound s _ _ _ e (fun h => by cases h) (slices_IndexFunc_int_o_order_right_c1_L0_x1 x0 x1 x2 x3 (slices_IndexFunc_int_o_order_right_c1_L0_end x1 x2 s) f c0 c1)
def slices_IndexFunc_int_o_order_right_c1_e0 (x1 : List Int) : slices_IndexFunc_int_o_order_right_c1_L0_s0 := slices_IndexFunc_int_o_order_right_c1_L0_end x1 ((x1.length : Nat) : Int) (⟨0⟩ : slices_IndexFunc_int_o_order_right_c1_L0_s0)
def slices_IndexFunc_int_o_order_right_c1_c0 (x1 : List Int) : Bool := (bif tb (slices_IndexFunc_int_o_order_right_c1_L0_ok x1 ((x1.length : Nat) : Int) (⟨0⟩ : slices_IndexFunc_int_o_order_right_c1_L0_s0)) then (bif tb (slices_IndexFunc_int_o_order_right_c1_L0_c0 x1 ((x1.length : Nat) : Int) (slices_IndexFunc_int_o_order_right_c1_e0 x1)) then true else (bif tb (slices_IndexFunc_int_o_order_right_c1_L0_c1 ((x1.length : Nat) : Int) (slices_IndexFunc_int_o_order_right_c1_e0 x1)) then true else false)) else false)
def slices_IndexFunc_int_o_order_right_c1_r0_0 (x1 : List Int) : Int := (bif tb (slices_IndexFunc_int_o_order_right_c1_L0_c0 x1 ((x1.length : Nat) : Int) (slices_IndexFunc_int_o_order_right_c1_e0 x1)) then ((slices_IndexFunc_int_o_order_right_c1_e0 x1).c3) else (-1))
theorem slices_IndexFunc_int_o_order_right_c1_t0 (x0 : Bool) (x1 : List Int) : slices_IndexFunc_int_o_order_right_c1_c0 x1 = true → cl E0 82 [(V.d (slD (encI .i64) true 1 x0 x1)), (V.fn (.func 78) [] [])] [] = some ([(V.d (.int .i64 (slices_IndexFunc_int_o_order_right_c1_r0_0 x1)))], []) := by
  unfold slices_IndexFunc_int_o_order_right_c1_c0 slices_IndexFunc_int_o_order_right_c1_r0_0
  cases h1 : tb (slices_IndexFunc_int_o_order_right_c1_L0_ok x1 ((x1.length : Nat) : Int) (⟨0⟩ : slices_IndexFunc_int_o_order_right_c1_L0_s0))
  · intro g0
    exact absurd g0 ft
  · cases h2 : tb (slices_IndexFunc_int_o_order_right_c1_L0_c0 x1 ((x1.length : Nat) : Int) (slices_IndexFunc_int_o_order_right_c1_e0 x1))
    · cases h3 : tb (slices_IndexFunc_int_o_order_right_c1_L0_c1 ((x1.length : Nat) : Int) (slices_IndexFunc_int_o_order_right_c1_e0 x1))
      · intro g0
        exact absurd g0 ft
      · intro g0
        exact w82 [.o 7 (fun _ => o_len_os (enc := (encI .i64)) (l := x1) (fl := true) (n := x0) (s := 1)), .l (slices_IndexFunc_int_o_order_right_c1_L0_f0_1 x0 x1 ((x1.length : Nat) : Int) 0 (⟨0⟩ : slices_IndexFunc_int_o_order_right_c1_L0_s0) (tbE h1) (tbE h2) (tbE h3))] (by kernel_rfl)
    · intro g0
      exact w82 [.o 7 (fun _ => o_len_os (enc := (encI .i64)) (l := x1) (fl := true) (n := x0) (s := 1)), .l (slices_IndexFunc_int_o_order_right_c1_L0_f0_0 x0 x1 ((x1.length : Nat) : Int) 0 (⟨0⟩ : slices_IndexFunc_int_o_order_right_c1_L0_s0) (tbE h1) (tbE h2))] (by kernel_rfl)
def slices_ContainsFunc_int_o_order_right_c1_c0 (x1 : List Int) : Bool := (bif tb (slices_IndexFunc_int_o_order_right_c1_c0 x1) then true else false)
theorem slices_ContainsFunc_int_o_order_right_c1_t0 (x0 : Bool) (x1 : List Int) : slices_ContainsFunc_int_o_order_right_c1_c0 x1 = true → cl E0 77 [(V.d (slD (encI .i64) true 1 x0 x1)), (V.fn (.func 78) [] [])] [] = some ([(V.d (.bool (decide (0 ≤ (slices_IndexFunc_int_o_order_right_c1_r0_0 x1)))))], []) := by
  unfold slices_ContainsFunc_int_o_order_right_c1_c0
  cases h1 : tb (slices_IndexFunc_int_o_order_right_c1_c0 x1)
  · intro g0
    exact absurd g0 ft
  · intro g0
    exact w77 [.c (slices_IndexFunc_int_o_order_right_c1_t0 x0 x1 (tbE h1))] (by kernel_rfl)
def order_right_o_c0 (x1 : List Int) : Bool := (bif tb (decide (((x1.length : Nat) : Int) ≤ 16)) then (bif tb (slices_ContainsFunc_int_o_order_right_c1_c0 x1) then true else false) else true)
def order_right_o_r0_0 (x1 : List Int) : Bool := (bif tb (decide (((x1.length : Nat) : Int) ≤ 16)) then (!(decide (0 ≤ (slices_IndexFunc_int_o_order_right_c1_r0_0 x1)))) else false)
theorem order_right_o_t0 (x0 : Bool) (x1 : List Int) : order_right_o_c0 x1 = true → cl E0 63 [(V.d (slD (encI .i64) true 1 x0 x1))] [] = some ([(V.d (.bool (order_right_o_r0_0 x1)))], []) := by
  unfold order_right_o_c0 order_right_o_r0_0
  cases h1 : tb (decide (((x1.length : Nat) : Int) ≤ 16))
  · intro g0
    exact w63 [.o 5 (fun _ => o_len_os (enc := (encI .i64)) (l := x1) (fl := true) (n := x0) (s := 1)), .b (tbE h1)] (by kernel_rfl)
  · cases h2 : tb (slices_ContainsFunc_int_o_order_right_c1_c0 x1)
    · intro g0
      exact absurd g0 ft
    · intro g0
      exact w63 [.o 5 (fun _ => o_len_os (enc := (encI .i64)) (l := x1) (fl := true) (n := x0) (s := 1)), .b (tbE h1), .c (slices_ContainsFunc_int_o_order_right_c1_t0 x0 x1 (tbE h2))] (by kernel_rfl)
def order_Sort_o_S0_c0 (x2 : List Int) : Bool := (bif tb (order_right_o_c0 x2) then (bif tb (order_right_o_r0_0 x2) then true else false) else false)
def order_Sort_o_S0_c1 (x2 : List Int) : Bool := (bif tb (order_right_o_c0 x2) then (bif tb (order_right_o_r0_0 x2) then false else true) else false)
theorem order_Sort_o_S0_t0 (x0 : Bool) (x1 : Bool) (x2 : List Int) : order_Sort_o_S0_c0 x2 = true → segG (runC E0 (cl E0) S18_0) [0] [2] [0] 1 ([(V.d (slD (encI .i64) true 1 x1 x2))], [(Blk.flat 3 1 [] x0)]) = some (.normal, ([(V.d (slD (encI .i64) true 1 x1 x2))], [(Blk.flat 3 1 [] x0)])) := by
  unfold order_Sort_o_S0_c0
  cases h1 : tb (order_right_o_c0 x2)
  · intro g0
    exact absurd g0 ft
  · cases h2 : tb (order_right_o_r0_0 x2)
    · intro g0
      exact absurd g0 ft
    · intro g0
      exact seg_walk [.c (order_right_o_t0 x1 x2 (tbE h1)), .b (notT (tbE h2))] (by kernel_rfl)
structure order_Sort_o_L1_s0 where
  c2 : Bool
  c3 : Int
  c7 : List Int
  deriving Inhabited
def order_Sort_o_L1_enc (x0 : List Int) (x1 : Bool) (x2 : Bool) (x3 : Bool) (x4 : Nat) (x5 : Bool) (x6 : Int) (x7 : Int) (x8 : Int) (s0 : order_Sort_o_L1_s0) : List V × Mem := ([(V.so x3 1 x4), (V.d (.bool s0.c2)), (V.d (.int .i64 s0.c3)), (V.d (.int .i64 x7)), (V.d (.int .i64 x8))], [(Blk.flat 3 1 [] x1), (Blk.flat 3 1 (List.map (encI .i64) s0.c7) false)])
def order_Sort_o_L1_h0_e0 (s0 : order_Sort_o_L1_s0) : List Int := st (st s0.c7 (wi (s0.c3 - 1)) (gt s0.c7 s0.c3)) s0.c3 (gt s0.c7 (wi (s0.c3 - 1)))
def order_Sort_o_L1_sel (x4 : Nat) (s0 : order_Sort_o_L1_s0) : Bool := (bif tb (decide (s0.c3 < ((x4 : Nat) : Int))) then (bif tb (inb x4 (wi (s0.c3 - 1))) then (bif tb (Nat.beq x4 s0.c7.length) then (bif tb (inb x4 s0.c3) then (bif tb (decide ((gt s0.c7 s0.c3) < (gt s0.c7 (wi (s0.c3 - 1))))) then (bif tb (Nat.beq x4 (st s0.c7 (wi (s0.c3 - 1)) (gt s0.c7 s0.c3)).length) then true else false) else true) else false) else false) else false) else false)
def order_Sort_o_L1_nx (x4 : Nat) (s0 : order_Sort_o_L1_s0) : order_Sort_o_L1_s0 := (bif tb (decide ((gt s0.c7 s0.c3) < (gt s0.c7 (wi (s0.c3 - 1))))) then ⟨true, (wi (s0.c3 + 1)), (order_Sort_o_L1_h0_e0 s0)⟩ else ⟨s0.c2, (wi (s0.c3 + 1)), s0.c7⟩)
def order_Sort_o_L1_ok (x4 : Nat) (s0 : order_Sort_o_L1_s0) : Bool := (itS (order_Sort_o_L1_sel x4) (order_Sort_o_L1_nx x4) bound s0).isSome
def order_Sort_o_L1_end (x4 : Nat) (s0 : order_Sort_o_L1_s0) : order_Sort_o_L1_s0 := (itS (order_Sort_o_L1_sel x4) (order_Sort_o_L1_nx x4) bound s0).getD default
theorem order_Sort_o_L1_go (x0 : List Int) (x1 : Bool) (x2 : Bool) (x3 : Bool) (x4 : Nat) (x5 : Bool) (x6 : Int) (x7 : Int) (x8 : Int) (s0 : order_Sort_o_L1_s0) : order_Sort_o_L1_sel x4 s0 = true → (roundG (runC E0 (cl E0) L18_1) [3, 4, 5, 16, 17] [3, 4, 16, 17] 2) (order_Sort_o_L1_enc x0 x1 x2 x3 x4 x5 x6 x7 x8 s0) = some (.normal, order_Sort_o_L1_enc x0 x1 x2 x3 x4 x5 x6 x7 x8 (order_Sort_o_L1_nx x4 s0)) := by
  unfold order_Sort_o_L1_sel order_Sort_o_L1_nx
  cases h1 : tb (decide (s0.c3 < ((x4 : Nat) : Int)))
  · intro g0
    exact absurd g0 ft
  · cases h2 : tb (inb x4 (wi (s0.c3 - 1)))
    · intro g0
      exact absurd g0 ft
    · cases h3 : tb (Nat.beq x4 s0.c7.length)
      · intro g0
        exact absurd g0 ft
      · cases h4 : tb (inb x4 s0.c3)
        · intro g0
          exact absurd g0 ft
        · cases h5 : tb (decide ((gt s0.c7 s0.c3) < (gt s0.c7 (wi (s0.c3 - 1)))))
          · intro _
            exact round_walk [.b (tbE h1), .m 28 (o_idx_so (m := [(Blk.flat 3 1 [] true), (Blk.flat 3 1 (List.map (encI .i64) s0.c7) true)]) (b := x3) (id := 1) (n := x4) (s := 1) (k := .i64) (by kernel_rfl) (tbE h2)), .m 29 (o_load_L (m := [(Blk.flat 3 1 [] true), (Blk.flat 3 1 (List.map (encI .i64) s0.c7) true)]) (enc := (encI .i64)) (l := s0.c7) (id := 1) (e := 3) (s := 1) (off := 0) (size := 1) (p := true) (agg := false) (i := (wi (s0.c3 - 1))) (v := (V.d (.int .i64 (gt s0.c7 (wi (s0.c3 - 1)))))) (n := x4) (tbE h3) (by kernel_rfl) (tbE h2) (by kernel_rfl)), .m 32 (o_idx_so (m := [(Blk.flat 3 1 [] true), (Blk.flat 3 1 (List.map (encI .i64) s0.c7) true)]) (b := x3) (id := 1) (n := x4) (s := 1) (k := .i64) (by kernel_rfl) (tbE h4)), .m 33 (o_load_L (m := [(Blk.flat 3 1 [] true), (Blk.flat 3 1 (List.map (encI .i64) s0.c7) true)]) (enc := (encI .i64)) (l := s0.c7) (id := 1) (e := 3) (s := 1) (off := 0) (size := 1) (p := true) (agg := false) (i := s0.c3) (v := (V.d (.int .i64 (gt s0.c7 s0.c3)))) (n := x4) (tbE h3) (by kernel_rfl) (tbE h4) (by kernel_rfl)), .b (tbE h5)] (by kernel_rfl)
          · cases h6 : tb (Nat.beq x4 (st s0.c7 (wi (s0.c3 - 1)) (gt s0.c7 s0.c3)).length)
            · intro g0
              exact absurd g0 ft
            · intro _
              exact round_walk [.b (tbE h1), .m 28 (o_idx_so (m := [(Blk.flat 3 1 [] true), (Blk.flat 3 1 (List.map (encI .i64) s0.c7) true)]) (b := x3) (id := 1) (n := x4) (s := 1) (k := .i64) (by kernel_rfl) (tbE h2)), .m 29 (o_load_L (m := [(Blk.flat 3 1 [] true), (Blk.flat 3 1 (List.map (encI .i64) s0.c7) true)]) (enc := (encI .i64)) (l := s0.c7) (id := 1) (e := 3) (s := 1) (off := 0) (size := 1) (p := true) (agg := false) (i := (wi (s0.c3 - 1))) (v := (V.d (.int .i64 (gt s0.c7 (wi (s0.c3 - 1)))))) (n := x4) (tbE h3) (by kernel_rfl) (tbE h2) (by kernel_rfl)), .m 32 (o_idx_so (m := [(Blk.flat 3 1 [] true), (Blk.flat 3 1 (List.map (encI .i64) s0.c7) true)]) (b := x3) (id := 1) (n := x4) (s := 1) (k := .i64) (by kernel_rfl) (tbE h4)), .m 33 (o_load_L (m := [(Blk.flat 3 1 [] true), (Blk.flat 3 1 (List.map (encI .i64) s0.c7) true)]) (enc := (encI .i64)) (l := s0.c7) (id := 1) (e := 3) (s := 1) (off := 0) (size := 1) (p := true) (agg := false) (i := s0.c3) (v := (V.d (.int .i64 (gt s0.c7 s0.c3)))) (n := x4) (tbE h3) (by kernel_rfl) (tbE h4) (by kernel_rfl)), .b (tbE h5), .m 42 (o_idx_so (m := [(Blk.flat 3 1 [] x1), (Blk.flat 3 1 (List.map (encI .i64) s0.c7) false)]) (b := x3) (id := 1) (n := x4) (s := 1) (k := .i64) (by kernel_rfl) (tbE h4)), .m 43 (o_load_L (m := [(Blk.flat 3 1 [] x1), (Blk.flat 3 1 (List.map (encI .i64) s0.c7) false)]) (enc := (encI .i64)) (l := s0.c7) (id := 1) (e := 3) (s := 1) (off := 0) (size := 1) (p := false) (agg := false) (i := s0.c3) (v := (V.d (.int .i64 (gt s0.c7 s0.c3)))) (n := x4) (tbE h3) (by kernel_rfl) (tbE h4) (by kernel_rfl)), .m 47 (o_idx_so (m := [(Blk.flat 3 1 [] x1), (Blk.flat 3 1 (List.map (encI .i64) s0.c7) false)]) (b := x3) (id := 1) (n := x4) (s := 1) (k := .i64) (by kernel_rfl) (tbE h2)), .m 48 (o_load_L (m := [(Blk.flat 3 1 [] x1), (Blk.flat 3 1 (List.map (encI .i64) s0.c7) false)]) (enc := (encI .i64)) (l := s0.c7) (id := 1) (e := 3) (s := 1) (off := 0) (size := 1) (p := false) (agg := false) (i := (wi (s0.c3 - 1))) (v := (V.d (.int .i64 (gt s0.c7 (wi (s0.c3 - 1)))))) (n := x4) (tbE h3) (by kernel_rfl) (tbE h2) (by kernel_rfl)), .m 49 (o_idx_so (m := [(Blk.flat 3 1 [] x1), (Blk.flat 3 1 (List.map (encI .i64) s0.c7) false)]) (b := x3) (id := 1) (n := x4) (s := 1) (k := .i64) (by kernel_rfl) (tbE h2)), .m 100049 (o_store_L (m := [(Blk.flat 3 1 [] x1), (Blk.flat 3 1 (List.map (encI .i64) s0.c7) false)]) (enc := (encI .i64)) (l := s0.c7) (id := 1) (e := 3) (s := 1) (size := 1) (off := 0) (i := (wi (s0.c3 - 1))) (v := (V.d (.int .i64 (gt s0.c7 s0.c3)))) (x := (gt s0.c7 s0.c3)) (ys := [(.int .i64 (gt s0.c7 s0.c3))]) (n := x4) (tbE h3) (by kernel_rfl) (tbE h2) ⟨by kernel_rfl, by kernel_rfl⟩ (by kernel_rfl) (by kernel_rfl)), .m 50 (o_idx_so (m := [(Blk.flat 3 1 [] x1), (Blk.flat 3 1 (List.map (encI .i64) (st s0.c7 (wi (s0.c3 - 1)) (gt s0.c7 s0.c3))) false)]) (b := x3) (id := 1) (n := x4) (s := 1) (k := .i64) (by kernel_rfl) (tbE h4)), .m 100050 (o_store_L (m := [(Blk.flat 3 1 [] x1), (Blk.flat 3 1 (List.map (encI .i64) (st s0.c7 (wi (s0.c3 - 1)) (gt s0.c7 s0.c3))) false)]) (enc := (encI .i64)) (l := (st s0.c7 (wi (s0.c3 - 1)) (gt s0.c7 s0.c3))) (id := 1) (e := 3) (s := 1) (size := 1) (off := 0) (i := s0.c3) (v := (V.d (.int .i64 (gt s0.c7 (wi (s0.c3 - 1)))))) (x := (gt s0.c7 (wi (s0.c3 - 1)))) (ys := [(.int .i64 (gt s0.c7 (wi (s0.c3 - 1))))]) (n := x4) (tbE h6) (by kernel_rfl) (tbE h4) ⟨by kernel_rfl, by kernel_rfl⟩ (by kernel_rfl) (by kernel_rfl))] (by kernel_rfl)
def order_Sort_o_L1_c0 (x4 : Nat) (s0 : order_Sort_o_L1_s0) : Bool := (bif tb (decide (s0.c3 < ((x4 : Nat) : Int))) then false else true)
theorem order_Sort_o_L1_x0 (x0 : List Int) (x1 : Bool) (x2 : Bool) (x3 : Bool) (x4 : Nat) (x5 : Bool) (x6 : Int) (x7 : Int) (x8 : Int) (s0 : order_Sort_o_L1_s0) : order_Sort_o_L1_sel x4 s0 = false → order_Sort_o_L1_c0 x4 s0 = true → (roundG (runC E0 (cl E0) L18_1) [3, 4, 5, 16, 17] [3, 4, 16, 17] 2) (order_Sort_o_L1_enc x0 x1 x2 x3 x4 x5 x6 x7 x8 s0) = some ((.exit 2), ([(V.so x3 1 x4), (V.d (.bool s0.c2)), (V.d (.int .i64 x7)), (V.d (.int .i64 x8))], [(Blk.flat 3 1 [] x1), (Blk.flat 3 1 (List.map (encI .i64) s0.c7) false)])) := by
  unfold order_Sort_o_L1_sel order_Sort_o_L1_c0
  cases h1 : tb (decide (s0.c3 < ((x4 : Nat) : Int)))
  · intro g0 g1
    exact round_walk [.b (tbE h1)] (by kernel_rfl)
  · cases h2 : tb (inb x4 (wi (s0.c3 - 1)))
    · intro g0 g1
      exact absurd g1 ft
    · cases h3 : tb (Nat.beq x4 s0.c7.length)
      · intro g0 g1
        exact absurd g1 ft
      · cases h4 : tb (inb x4 s0.c3)
        · intro g0 g1
          exact absurd g1 ft
        · cases h5 : tb (decide ((gt s0.c7 s0.c3) < (gt s0.c7 (wi (s0.c3 - 1)))))
          · intro g0 g1
            exact absurd g0 tf
          · cases h6 : tb (Nat.beq x4 (st s0.c7 (wi (s0.c3 - 1)) (gt s0.c7 s0.c3)).length)
            · intro g0 g1
              exact absurd g1 ft
            · intro g0 g1
              exact absurd g0 tf
theorem order_Sort_o_L1_f0_0 (x0 : List Int) (x1 : Bool) (x2 : Bool) (x3 : Bool) (x4 : Nat) (x5 : Bool) (x6 : Int) (x7 : Int) (x8 : Int) (s : order_Sort_o_L1_s0) (hok : order_Sort_o_L1_ok x4 s = true) (c0 : order_Sort_o_L1_c0 x4 (order_Sort_o_L1_end x4 s) = true) : loopG (roundG (runC E0 (cl E0) L18_1) [3, 4, 5, 16, 17] [3, 4, 16, 17] 2) bound (order_Sort_o_L1_enc x0 x1 x2 x3 x4 x5 x6 x7 x8 s) = some ((.exit 2), ([(V.so x3 1 x4), (V.d (.bool ((order_Sort_o_L1_end x4 s).c2))), (V.d (.int .i64 x7)), (V.d (.int .i64 x8))], [(Blk.flat 3 1 [] x1), (Blk.flat 3 1 (List.map (encI .i64) ((order_Sort_o_L1_end x4 s).c7)) false)])) := by
  have e : itS (order_Sort_o_L1_sel x4) (order_Sort_o_L1_nx x4) bound s = some (order_Sort_o_L1_end x4 s) := itS_get hok
  have f := itS_false e
  exact loop_it (order_Sort_o_L1_go x0 x1 x2 x3 x4 x5 x6 x7 x8) bound s _ _ _ e (fun h => by cases h) (order_Sort_o_L1_x0 x0 x1 x2 x3 x4 x5 x6 x7 x8 (order_Sort_o_L1_end x4 s) f c0)
structure order_Sort_o_L2_s0 where
  c3 : Int
  c5 : List Int
  deriving Inhabited
def order_Sort_o_L2_enc (x0 : List Int) (x1 : Bool) (x2 : Bool) (x3 : Bool) (x4 : Nat) (x5 : Int) (x6 : Int) (s0 : order_Sort_o_L2_s0) : List V × Mem := ([(V.so x3 1 x4), (V.d (.int .i64 x5)), (V.d (.int .i64 s0.c3))], [(Blk.flat 3 1 [] x1), (Blk.flat 3 1 (List.map (encI .i64) s0.c5) false)])
def order_Sort_o_L2_h0_e0 (x4 : Nat) (s0 : order_Sort_o_L2_s0) : order_Sort_o_L1_s0 := order_Sort_o_L1_end x4 (⟨false, 1, s0.c5⟩ : order_Sort_o_L1_s0)
def order_Sort_o_L2_sel (x4 : Nat) (x5 : Int) (s0 : order_Sort_o_L2_s0) : Bool := (bif tb (decide (s0.c3 < x5)) then (bif tb (order_Sort_o_L1_ok x4 (⟨false, 1, s0.c5⟩ : order_Sort_o_L1_s0)) then (bif tb (order_Sort_o_L1_c0 x4 (order_Sort_o_L2_h0_e0 x4 s0)) then (bif tb ((order_Sort_o_L2_h0_e0 x4 s0).c2) then true else false) else false) else false) else false)
def order_Sort_o_L2_nx (x4 : Nat) (x5 : Int) (s0 : order_Sort_o_L2_s0) : order_Sort_o_L2_s0 := ⟨(wi (s0.c3 + 1)), ((order_Sort_o_L2_h0_e0 x4 s0).c7)⟩
def order_Sort_o_L2_ok (x4 : Nat) (x5 : Int) (s0 : order_Sort_o_L2_s0) : Bool := (itS (order_Sort_o_L2_sel x4 x5) (order_Sort_o_L2_nx x4 x5) bound s0).isSome
def order_Sort_o_L2_end (x4 : Nat) (x5 : Int) (s0 : order_Sort_o_L2_s0) : order_Sort_o_L2_s0 := (itS (order_Sort_o_L2_sel x4 x5) (order_Sort_o_L2_nx x4 x5) bound s0).getD default
theorem order_Sort_o_L2_go (x0 : List Int) (x1 : Bool) (x2 : Bool) (x3 : Bool) (x4 : Nat) (x5 : Int) (x6 : Int) (s0 : order_Sort_o_L2_s0) : order_Sort_o_L2_sel x4 x5 s0 = true → (roundG (runC E0 (cl E0) L18_2) [3, 16, 17] [3] 2) (order_Sort_o_L2_enc x0 x1 x2 x3 x4 x5 x6 s0) = some (.normal, order_Sort_o_L2_enc x0 x1 x2 x3 x4 x5 x6 (order_Sort_o_L2_nx x4 x5 s0)) := by
  unfold order_Sort_o_L2_sel order_Sort_o_L2_nx
  cases h1 : tb (decide (s0.c3 < x5))
  · intro g0
    exact absurd g0 ft
  · cases h2 : tb (order_Sort_o_L1_ok x4 (⟨false, 1, s0.c5⟩ : order_Sort_o_L1_s0))
    · intro g0
      exact absurd g0 ft
    · cases h3 : tb (order_Sort_o_L1_c0 x4 (order_Sort_o_L2_h0_e0 x4 s0))
      · intro g0
        exact absurd g0 ft
      · cases h4 : tb ((order_Sort_o_L2_h0_e0 x4 s0).c2)
        · intro g0
          exact absurd g0 ft
        · intro _
          exact round_walk [.b (tbE h1), .l (order_Sort_o_L1_f0_0 s0.c5 x1 false x3 x4 false 1 x5 s0.c3 (⟨false, 1, s0.c5⟩ : order_Sort_o_L1_s0) (tbE h2) (tbE h3)), .b (notT (tbE h4))] (by kernel_rfl)
def order_Sort_o_L2_c0 (x4 : Nat) (x5 : Int) (s0 : order_Sort_o_L2_s0) : Bool := (bif tb (decide (s0.c3 < x5)) then (bif tb (order_Sort_o_L1_ok x4 (⟨false, 1, s0.c5⟩ : order_Sort_o_L1_s0)) then (bif tb (order_Sort_o_L1_c0 x4 (order_Sort_o_L2_h0_e0 x4 s0)) then true else false) else false) else true)
def order_Sort_o_L2_r0_3 (x4 : Nat) (x5 : Int) (s0 : order_Sort_o_L2_s0) : List Int := (bif tb (decide (s0.c3 < x5)) then ((order_Sort_o_L2_h0_e0 x4 s0).c7) else s0.c5)
theorem order_Sort_o_L2_x0 (x0 : List Int) (x1 : Bool) (x2 : Bool) (x3 : Bool) (x4 : Nat) (x5 : Int) (x6 : Int) (s0 : order_Sort_o_L2_s0) : order_Sort_o_L2_sel x4 x5 s0 = false → order_Sort_o_L2_c0 x4 x5 s0 = true → (roundG (runC E0 (cl E0) L18_2) [3, 16, 17] [3] 2) (order_Sort_o_L2_enc x0 x1 x2 x3 x4 x5 x6 s0) = some ((.exit 0), ([(V.so x3 1 x4)], [(Blk.flat 3 1 [] x1), (Blk.flat 3 1 (List.map (encI .i64) (order_Sort_o_L2_r0_3 x4 x5 s0)) false)])) := by
  unfold order_Sort_o_L2_sel order_Sort_o_L2_c0 order_Sort_o_L2_r0_3
  cases h1 : tb (decide (s0.c3 < x5))
  · intro g0 g1
    exact round_walk [.b (tbE h1)] (by kernel_rfl)
  · cases h2 : tb (order_Sort_o_L1_ok x4 (⟨false, 1, s0.c5⟩ : order_Sort_o_L1_s0))
    · intro g0 g1
      exact absurd g1 ft
    · cases h3 : tb (order_Sort_o_L1_c0 x4 (order_Sort_o_L2_h0_e0 x4 s0))
      · intro g0 g1
        exact absurd g1 ft
      · cases h4 : tb ((order_Sort_o_L2_h0_e0 x4 s0).c2)
        · intro g0 g1
          exact round_walk [.b (tbE h1), .l (order_Sort_o_L1_f0_0 s0.c5 x1 false x3 x4 false 1 x5 s0.c3 (⟨false, 1, s0.c5⟩ : order_Sort_o_L1_s0) (tbE h2) (tbE h3)), .b (notF (tbE h4))] (by kernel_rfl)
        · intro g0 g1
          exact absurd g0 tf
theorem order_Sort_o_L2_f0_0 (x0 : List Int) (x1 : Bool) (x2 : Bool) (x3 : Bool) (x4 : Nat) (x5 : Int) (x6 : Int) (s : order_Sort_o_L2_s0) (hok : order_Sort_o_L2_ok x4 x5 s = true) (c0 : order_Sort_o_L2_c0 x4 x5 (order_Sort_o_L2_end x4 x5 s) = true) : loopG (roundG (runC E0 (cl E0) L18_2) [3, 16, 17] [3] 2) bound (order_Sort_o_L2_enc x0 x1 x2 x3 x4 x5 x6 s) = some ((.exit 0), ([(V.so x3 1 x4)], [(Blk.flat 3 1 [] x1), (Blk.flat 3 1 (List.map (encI .i64) (order_Sort_o_L2_r0_3 x4 x5 (order_Sort_o_L2_end x4 x5 s))) false)])) := by
  have e : itS (order_Sort_o_L2_sel x4 x5) (order_Sort_o_L2_nx x4 x5) bound s = some (order_Sort_o_L2_end x4 x5 s) := itS_get hok
  have f := itS_false e
  exact loop_it (order_Sort_o_L2_go x0 x1 x2 x3 x4 x5 x6) bound s _ _ _ e (fun h => by cases h) (order_Sort_o_L2_x0 x0 x1 x2 x3 x4 x5 x6 (order_Sort_o_L2_end x4 x5 s) f c0)
def order_Sort_o_S3_e0 (x0 : List Int) (x3 : Nat) : order_Sort_o_L2_s0 := order_Sort_o_L2_end x3 ((x3 : Nat) : Int) (⟨0, x0⟩ : order_Sort_o_L2_s0)
def order_Sort_o_S3_c0 (x0 : List Int) (x3 : Nat) : Bool := (bif tb (order_Sort_o_L2_ok x3 ((x3 : Nat) : Int) (⟨0, x0⟩ : order_Sort_o_L2_s0)) then (bif tb (order_Sort_o_L2_c0 x3 ((x3 : Nat) : Int) (order_Sort_o_S3_e0 x0 x3)) then true else false) else false)
theorem order_Sort_o_S3_t0 (x0 : List Int) (x1 : Bool) (x3 : Nat) : order_Sort_o_S3_c0 x0 x3 = true → segG (runC E0 (cl E0) S18_3) [3] [] [3] 2 ([(V.so false 1 x3)], [(Blk.flat 3 1 [] x1), (Blk.flat 3 1 (List.map (encI .i64) x0) false)]) = some (.normal, ([(V.so false 1 x3)], [(Blk.flat 3 1 [] x1), (Blk.flat 3 1 (List.map (encI .i64) (order_Sort_o_L2_r0_3 x3 ((x3 : Nat) : Int) (order_Sort_o_S3_e0 x0 x3))) false)])) := by
  unfold order_Sort_o_S3_c0
  cases h1 : tb (order_Sort_o_L2_ok x3 ((x3 : Nat) : Int) (⟨0, x0⟩ : order_Sort_o_L2_s0))
  · intro g0
    exact absurd g0 ft
  · cases h2 : tb (order_Sort_o_L2_c0 x3 ((x3 : Nat) : Int) (order_Sort_o_S3_e0 x0 x3))
    · intro g0
      exact absurd g0 ft
    · intro g0
      exact seg_walk [.l (order_Sort_o_L2_f0_0 x0 x1 false false x3 ((x3 : Nat) : Int) 0 (⟨0, x0⟩ : order_Sort_o_L2_s0) (tbE h1) (tbE h2))] (by kernel_rfl)
def order_Sort_o_e0 (x1 : List Int) : List Int := cpL (List.replicate ((x1.length : Nat) : Int).toNat (0 : Int)) x1
def order_Sort_o_e2 (x1 : List Int) : Nat := ((List.replicate ((x1.length : Nat) : Int).toNat (0 : Int)).length)
def order_Sort_o_c0 (x1 : List Int) : Bool := (bif tb (order_Sort_o_S0_c0 x1) then (bif tb (decide (0 ≤ ((x1.length : Nat) : Int)) && decide (((x1.length : Nat) : Int) * 8 ≤ 140737488355328)) then (bif tb (order_Sort_o_S3_c0 (order_Sort_o_e0 x1) (order_Sort_o_e2 x1)) then true else false) else false) else false)
def order_Sort_o_c1 (x1 : List Int) : Bool := (bif tb (order_Sort_o_S0_c0 x1) then false else (bif tb (order_Sort_o_S0_c1 x1) then true else false))
theorem order_Sort_o_t0 (x0 : Bool) (x1 : List Int) : order_Sort_o_c0 x1 = true → cl E0 18 [(V.d (slD (encI .i64) true 1 x0 x1))] [] = some ([(V.so false 0 (order_Sort_o_e2 x1))], [(Blk.flat 3 1 (List.map (encI .i64) (order_Sort_o_L2_r0_3 (order_Sort_o_e2 x1) (((order_Sort_o_e2 x1) : Nat) : Int) (order_Sort_o_S3_e0 (order_Sort_o_e0 x1) (order_Sort_o_e2 x1)))) false)]) := by
  unfold order_Sort_o_c0
  cases h1 : tb (order_Sort_o_S0_c0 x1)
  · cases h2 : tb (order_Sort_o_S0_c1 x1)
    · intro g0
      exact absurd g0 ft
    · intro g0
      exact absurd g0 ft
  · cases h2 : tb (decide (0 ≤ ((x1.length : Nat) : Int)) && decide (((x1.length : Nat) : Int) * 8 ≤ 140737488355328))
    · intro g0
      exact absurd g0 ft
    · cases h3 : tb (order_Sort_o_S3_c0 (order_Sort_o_e0 x1) (order_Sort_o_e2 x1))
      · intro g0
        exact absurd g0 ft
      · intro g0
        exact w18 [.s (order_Sort_o_S0_t0 false x0 x1 (tbE h1)), .o 10 (fun _ => o_len_os (enc := (encI .i64)) (l := x1) (fl := true) (n := x0) (s := 1)), .m 11 (o_mksl (m := [(Blk.flat 3 1 [] false)]) (enc := (encI .i64)) (z := (0 : Int)) (e := 3) (bytes := 8) (zero := [(.int .i64 0)]) (k := .i64) (k2 := .i64) (n := ((x1.length : Nat) : Int)) (by kernel_rfl) (by kernel_rfl) (tbE h2)), .m 14 (o_copy (m := [(Blk.flat 3 1 [] false), (Blk.flat 3 1 (List.map (encI .i64) (List.replicate ((x1.length : Nat) : Int).toNat (0 : Int))) false)]) (enc := (encI .i64)) (l0 := (List.replicate ((x1.length : Nat) : Int).toNat (0 : Int))) (l1 := x1) (id := 1) (e := 3) (s := 1) (x := (V.d (slD (encI .i64) true 1 x0 x1))) (n := ((List.replicate ((x1.length : Nat) : Int).toNat (0 : Int)).length)) (Nat.beq_refl _) (by kernel_rfl) flatRowsOf_os sizeOk_os), .s (order_Sort_o_S3_t0 (order_Sort_o_e0 x1) false (order_Sort_o_e2 x1) (tbE h3))] (by kernel_rfl)
def order_Mid_o_e0 (x1 : List Int) : Int := gt (order_Sort_o_L2_r0_3 (order_Sort_o_e2 x1) (((order_Sort_o_e2 x1) : Nat) : Int) (order_Sort_o_S3_e0 (order_Sort_o_e0 x1) (order_Sort_o_e2 x1))) (quoI .i64 (wi ((((order_Sort_o_e2 x1) : Nat) : Int) - 1)) 2)
def order_Mid_o_e1 (x1 : List Int) : Int := gt (order_Sort_o_L2_r0_3 (order_Sort_o_e2 x1) (((order_Sort_o_e2 x1) : Nat) : Int) (order_Sort_o_S3_e0 (order_Sort_o_e0 x1) (order_Sort_o_e2 x1))) (quoI .i64 (((order_Sort_o_e2 x1) : Nat) : Int) 2)
def order_Mid_o_e2 (x1 : List Int) : Int := shrI .i64 (wi ((order_Mid_o_e0 x1) + (order_Mid_o_e1 x1))) 1
def order_Mid_o_c0 (x1 : List Int) : Bool := (bif tb (order_right_o_c0 x1) then (bif tb (order_right_o_r0_0 x1) then (bif tb (decide (((x1.length : Nat) : Int) < 1)) then true else (bif tb (decide (4 < ((x1.length : Nat) : Int))) then true else (bif tb (order_Sort_o_c0 x1) then (bif tb (inb (order_Sort_o_e2 x1) (quoI .i64 (wi ((((order_Sort_o_e2 x1) : Nat) : Int) - 1)) 2)) then (bif tb (Nat.beq (order_Sort_o_e2 x1) (order_Sort_o_L2_r0_3 (order_Sort_o_e2 x1) (((order_Sort_o_e2 x1) : Nat) : Int) (order_Sort_o_S3_e0 (order_Sort_o_e0 x1) (order_Sort_o_e2 x1))).length) then (bif tb (inb (order_Sort_o_e2 x1) (quoI .i64 (((order_Sort_o_e2 x1) : Nat) : Int) 2)) then true else false) else false) else false) else false))) else true) else false)
def order_Mid_o_r0_0 (x1 : List Int) : Int := (bif tb (order_right_o_r0_0 x1) then (bif tb (decide (((x1.length : Nat) : Int) < 1)) then 0 else (bif tb (decide (4 < ((x1.length : Nat) : Int))) then 0 else (order_Mid_o_e2 x1))) else 0)
def order_Mid_o_r0_1 (x1 : List Int) : Bool := (bif tb (order_right_o_r0_0 x1) then (bif tb (decide (((x1.length : Nat) : Int) < 1)) then false else (bif tb (decide (4 < ((x1.length : Nat) : Int))) then false else true)) else false)
theorem order_Mid_o_t0 (x0 : Bool) (x1 : List Int) : order_Mid_o_c0 x1 = true → cl E0 15 [(V.d (slD (encI .i64) true 1 x0 x1))] [] = some ([(V.d (.int .i64 (order_Mid_o_r0_0 x1))), (V.d (.bool (order_Mid_o_r0_1 x1)))], []) := by
  unfold order_Mid_o_c0 order_Mid_o_r0_0 order_Mid_o_r0_1
  cases h1 : tb (order_right_o_c0 x1)
  · intro g0
    exact absurd g0 ft
  · cases h2 : tb (order_right_o_r0_0 x1)
    · intro g0
      exact w15 [.c (order_right_o_t0 x0 x1 (tbE h1)), .b (notF (tbE h2))] (by kernel_rfl)
    · cases h3 : tb (decide (((x1.length : Nat) : Int) < 1))
      · cases h4 : tb (decide (4 < ((x1.length : Nat) : Int)))
        · cases h5 : tb (order_Sort_o_c0 x1)
          · cases h6 : tb (order_Sort_o_c1 x1)
            · intro g0
              exact absurd g0 ft
            · intro g0
              exact absurd g0 ft
          · cases h6 : tb (inb (order_Sort_o_e2 x1) (quoI .i64 (wi ((((order_Sort_o_e2 x1) : Nat) : Int) - 1)) 2))
            · intro g0
              exact absurd g0 ft
            · cases h7 : tb (Nat.beq (order_Sort_o_e2 x1) (order_Sort_o_L2_r0_3 (order_Sort_o_e2 x1) (((order_Sort_o_e2 x1) : Nat) : Int) (order_Sort_o_S3_e0 (order_Sort_o_e0 x1) (order_Sort_o_e2 x1))).length)
              · intro g0
                exact absurd g0 ft
              · cases h8 : tb (inb (order_Sort_o_e2 x1) (quoI .i64 (((order_Sort_o_e2 x1) : Nat) : Int) 2))
                · intro g0
                  exact absurd g0 ft
                · intro g0
                  exact w15 [.c (order_right_o_t0 x0 x1 (tbE h1)), .b (notT (tbE h2)), .o 11 (fun _ => o_len_os (enc := (encI .i64)) (l := x1) (fl := true) (n := x0) (s := 1)), .b (tbE h3), .o 16 (fun _ => o_len_os (enc := (encI .i64)) (l := x1) (fl := true) (n := x0) (s := 1)), .b (tbE h4), .c (order_Sort_o_t0 x0 x1 (tbE h5)), .m 27 (o_idx_so (m := [(Blk.flat 3 1 (List.map (encI .i64) (order_Sort_o_L2_r0_3 (order_Sort_o_e2 x1) (((order_Sort_o_e2 x1) : Nat) : Int) (order_Sort_o_S3_e0 (order_Sort_o_e0 x1) (order_Sort_o_e2 x1)))) true)]) (b := false) (id := 0) (n := (order_Sort_o_e2 x1)) (s := 1) (k := .i64) (by kernel_rfl) (tbE h6)), .m 28 (o_load_L (m := [(Blk.flat 3 1 (List.map (encI .i64) (order_Sort_o_L2_r0_3 (order_Sort_o_e2 x1) (((order_Sort_o_e2 x1) : Nat) : Int) (order_Sort_o_S3_e0 (order_Sort_o_e0 x1) (order_Sort_o_e2 x1)))) true)]) (enc := (encI .i64)) (l := (order_Sort_o_L2_r0_3 (order_Sort_o_e2 x1) (((order_Sort_o_e2 x1) : Nat) : Int) (order_Sort_o_S3_e0 (order_Sort_o_e0 x1) (order_Sort_o_e2 x1)))) (id := 0) (e := 3) (s := 1) (off := 0) (size := 1) (p := true) (agg := false) (i := (quoI .i64 (wi ((((order_Sort_o_e2 x1) : Nat) : Int) - 1)) 2)) (v := (V.d (.int .i64 (order_Mid_o_e0 x1)))) (n := (order_Sort_o_e2 x1)) (tbE h7) (by kernel_rfl) (tbE h6) (by kernel_rfl)), .m 32 (o_idx_so (m := [(Blk.flat 3 1 (List.map (encI .i64) (order_Sort_o_L2_r0_3 (order_Sort_o_e2 x1) (((order_Sort_o_e2 x1) : Nat) : Int) (order_Sort_o_S3_e0 (order_Sort_o_e0 x1) (order_Sort_o_e2 x1)))) true)]) (b := false) (id := 0) (n := (order_Sort_o_e2 x1)) (s := 1) (k := .i64) (by kernel_rfl) (tbE h8)), .m 33 (o_load_L (m := [(Blk.flat 3 1 (List.map (encI .i64) (order_Sort_o_L2_r0_3 (order_Sort_o_e2 x1) (((order_Sort_o_e2 x1) : Nat) : Int) (order_Sort_o_S3_e0 (order_Sort_o_e0 x1) (order_Sort_o_e2 x1)))) true)]) (enc := (encI .i64)) (l := (order_Sort_o_L2_r0_3 (order_Sort_o_e2 x1) (((order_Sort_o_e2 x1) : Nat) : Int) (order_Sort_o_S3_e0 (order_Sort_o_e0 x1) (order_Sort_o_e2 x1)))) (id := 0) (e := 3) (s := 1) (off := 0) (size := 1) (p := true) (agg := false) (i := (quoI .i64 (((order_Sort_o_e2 x1) : Nat) : Int) 2)) (v := (V.d (.int .i64 (order_Mid_o_e1 x1)))) (n := (order_Sort_o_e2 x1)) (tbE h7) (by kernel_rfl) (tbE h8) (by kernel_rfl)), .o 35 (fun _ => o_shr (k := .i64) (k2 := .u64) (x := (wi ((order_Mid_o_e0 x1) + (order_Mid_o_e1 x1)))) (y := 1) rfl)] (by kernel_rfl)
        · intro g0
          exact w15 [.c (order_right_o_t0 x0 x1 (tbE h1)), .b (notT (tbE h2)), .o 11 (fun _ => o_len_os (enc := (encI .i64)) (l := x1) (fl := true) (n := x0) (s := 1)), .b (tbE h3), .o 16 (fun _ => o_len_os (enc := (encI .i64)) (l := x1) (fl := true) (n := x0) (s := 1)), .b (tbE h4)] (by kernel_rfl)
      · intro g0
        exact w15 [.c (order_right_o_t0 x0 x1 (tbE h1)), .b (notT (tbE h2)), .o 11 (fun _ => o_len_os (enc := (encI .i64)) (l := x1) (fl := true) (n := x0) (s := 1)), .b (tbE h3)] (by kernel_rfl)
def order_Without_oi_c0 (x0 : Bool) (x1 : List Int) (x2 : Int) : Bool := (bif tb (order_right_o_c0 x1) then (bif tb (order_right_o_r0_0 x1) then (bif tb (slices_Clone_int_o_c0 x0 x1) then (bif tb (decide (x2 < 0)) then true else (bif tb (decide (((x1.length : Nat) : Int) ≤ x2)) then true else false)) else false) else true) else false)
def order_Without_oi_r0_0 (x0 : Bool) (x1 : List Int) : Bool := (bif tb (order_right_o_r0_0 x1) then (slices_Clone_int_o_r0_0 x0 x1) else true)
def order_Without_oi_r0_1 (x0 : Bool) (x1 : List Int) : List Int := (bif tb (order_right_o_r0_0 x1) then (slices_Clone_int_o_r0_1 x0 x1) else ([] : List Int))
def order_Without_oi_c1 (x0 : Bool) (x1 : List Int) (x2 : Int) : Bool := (bif tb (order_right_o_c0 x1) then (bif tb (order_right_o_r0_0 x1) then (bif tb (slices_Clone_int_o_c0 x0 x1) then (bif tb (decide (x2 < 0)) then false else (bif tb (decide (((x1.length : Nat) : Int) ≤ x2)) then false else (bif tb (slices_Clone_int_o_r0_0 x0 x1) then false else (bif tb (delB ((slices_Clone_int_o_r0_1 x0 x1).length) x2 (wi (x2 + 1))) then true else false)))) else false) else false) else false)
theorem order_Without_oi_t0 (x0 : Bool) (x1 : List Int) (x2 : Int) : order_Without_oi_c0 x0 x1 x2 = true → cl E0 20 [(V.d (slD (encI .i64) true 1 x0 x1)), (V.d (.int .i64 x2))] [] = some ([(V.so (order_Without_oi_r0_0 x0 x1) 0 ((order_Without_oi_r0_1 x0 x1).length))], [(Blk.flat 3 1 (List.map (encI .i64) (order_Without_oi_r0_1 x0 x1)) false)]) := by
  unfold order_Without_oi_c0 order_Without_oi_r0_0 order_Without_oi_r0_1
  cases h1 : tb (order_right_o_c0 x1)
  · intro g0
    exact absurd g0 ft
  · cases h2 : tb (order_right_o_r0_0 x1)
    · intro g0
      exact w20 [.c (order_right_o_t0 x0 x1 (tbE h1)), .b (notF (tbE h2))] (by kernel_rfl)
    · cases h3 : tb (slices_Clone_int_o_c0 x0 x1)
      · intro g0
        exact absurd g0 ft
      · cases h4 : tb (decide (x2 < 0))
        · cases h5 : tb (decide (((x1.length : Nat) : Int) ≤ x2))
          · cases h6 : tb (slices_Clone_int_o_r0_0 x0 x1)
            · cases h7 : tb (delB ((slices_Clone_int_o_r0_1 x0 x1).length) x2 (wi (x2 + 1)))
              · intro g0
                exact absurd g0 ft
              · intro g0
                exact absurd g0 ft
            · intro g0
              exact absurd g0 ft
          · intro g0
            exact w20 [.c (order_right_o_t0 x0 x1 (tbE h1)), .b (notT (tbE h2)), .c (slices_Clone_int_o_t0 x0 x1 (tbE h3)), .b (tbE h4), .o 16 (fun _ => o_len_os (enc := (encI .i64)) (l := x1) (fl := true) (n := x0) (s := 1)), .b (tbE h5)] (by kernel_rfl)
        · intro g0
          exact w20 [.c (order_right_o_t0 x0 x1 (tbE h1)), .b (notT (tbE h2)), .c (slices_Clone_int_o_t0 x0 x1 (tbE h3)), .b (tbE h4)] (by kernel_rfl)
theorem order_Without_oi_t1 (x0 : Bool) (x1 : List Int) (x2 : Int) : order_Without_oi_c0 x0 x1 x2 = false → order_Without_oi_c1 x0 x1 x2 = true → cl E0 20 [(V.d (slD (encI .i64) true 1 x0 x1)), (V.d (.int .i64 x2))] [] = some ([(V.sl 0 ((dlL (slices_Clone_int_o_r0_1 x0 x1) x2 (wi (x2 + 1))).length) 0 (((dlL (slices_Clone_int_o_r0_1 x0 x1) x2 (wi (x2 + 1))).length) - ((wi (x2 + 1)).toNat - x2.toNat)))], [(Blk.flat 3 1 (List.map (encI .i64) (dlL (slices_Clone_int_o_r0_1 x0 x1) x2 (wi (x2 + 1)))) false)]) := by
  unfold order_Without_oi_c0 order_Without_oi_c1
  cases h1 : tb (order_right_o_c0 x1)
  · intro g0 g1
    exact absurd g1 ft
  · cases h2 : tb (order_right_o_r0_0 x1)
    · intro g0 g1
      exact absurd g0 tf
    · cases h3 : tb (slices_Clone_int_o_c0 x0 x1)
      · intro g0 g1
        exact absurd g1 ft
      · cases h4 : tb (decide (x2 < 0))
        · cases h5 : tb (decide (((x1.length : Nat) : Int) ≤ x2))
          · cases h6 : tb (slices_Clone_int_o_r0_0 x0 x1)
            · cases h7 : tb (delB ((slices_Clone_int_o_r0_1 x0 x1).length) x2 (wi (x2 + 1)))
              · intro g0 g1
                exact absurd g1 ft
              · intro g0 g1
                exact w20 [.c (order_right_o_t0 x0 x1 (tbE h1)), .b (notT (tbE h2)), .c (slices_Clone_int_o_t0 x0 x1 (tbE h3)), .b (tbE h4), .o 16 (fun _ => o_len_os (enc := (encI .i64)) (l := x1) (fl := true) (n := x0) (s := 1)), .b (tbE h5), .m 24 (o_del' (nl := (slices_Clone_int_o_r0_0 x0 x1)) (notF (tbE h6)) (m := [(Blk.flat 3 1 [] false), (Blk.flat 3 1 (List.map (encI .i64) (slices_Clone_int_o_r0_1 x0 x1)) false)]) (f := 66) (l := (slices_Clone_int_o_r0_1 x0 x1)) (id := 1) (e := 3) (n := ((slices_Clone_int_o_r0_1 x0 x1).length)) (a := x2) (b := (wi (x2 + 1))) (by kernel_rfl) (Nat.beq_refl _) (by kernel_rfl) (tbE h7))] (by kernel_rfl)
            · intro g0 g1
              exact absurd g1 ft
          · intro g0 g1
            exact absurd g0 tf
        · intro g0 g1
          exact absurd g0 tf
end Go.Proofs.Ytdlhhoejnhjbhaa.Den

namespace Go.Proofs.Ytdlhhoejnhjbhaa.Den
open Go Go.Proofs
set_option maxRecDepth 100000
set_option maxHeartbeats 4000000
set_option linter.unusedVariables false
set_option linter.unusedSimpArgs false
def parity_Residues_c1_i_r0_0 (x0 : Int) : Bool := (bif tb (decide (x0 < (-4294967296))) then true else (decide (4294967296 < x0)))
theorem parity_Residues_c1_i_t0 (x0 : Int) : cl E0 76 [(V.d (.int .i64 x0))] [] = some ([(V.d (.bool (parity_Residues_c1_i_r0_0 x0)))], []) := by
  unfold parity_Residues_c1_i_r0_0
  cases h1 : tb (decide (x0 < (-4294967296)))
  · exact w76 [.b (tbE h1)] (by kernel_rfl)
  · exact w76 [.b (tbE h1)] (by kernel_rfl)
structure slices_IndexFunc_int_o_parity_Residues_c1_L0_s0 where
  c3 : Int
  deriving Inhabited
def slices_IndexFunc_int_o_parity_Residues_c1_L0_enc (x0 : Bool) (x1 : List Int) (x2 : Int) (x3 : Int) (s0 : slices_IndexFunc_int_o_parity_Residues_c1_L0_s0) : List V × Mem := ([(V.d (slD (encI .i64) true 1 x0 x1)), (V.fn (.func 76) [] []), (V.d (.int .i64 x2)), (V.d (.int .i64 s0.c3))], [])
def slices_IndexFunc_int_o_parity_Residues_c1_L0_sel (x1 : List Int) (x2 : Int) (s0 : slices_IndexFunc_int_o_parity_Residues_c1_L0_s0) : Bool := (bif tb (decide (s0.c3 < x2)) then (bif tb (inb x1.length s0.c3) then (bif tb (parity_Residues_c1_i_r0_0 (gt x1 s0.c3)) then false else true) else false) else false)
def slices_IndexFunc_int_o_parity_Residues_c1_L0_nx (x1 : List Int) (x2 : Int) (s0 : slices_IndexFunc_int_o_parity_Residues_c1_L0_s0) : slices_IndexFunc_int_o_parity_Residues_c1_L0_s0 := ⟨(wi (s0.c3 + 1))⟩
def slices_IndexFunc_int_o_parity_Residues_c1_L0_ok (x1 : List Int) (x2 : Int) (s0 : slices_IndexFunc_int_o_parity_Residues_c1_L0_s0) : Bool := (itS (slices_IndexFunc_int_o_parity_Residues_c1_L0_sel x1 x2) (slices_IndexFunc_int_o_parity_Residues_c1_L0_nx x1 x2) bound s0).isSome
def slices_IndexFunc_int_o_parity_Residues_c1_L0_end (x1 : List Int) (x2 : Int) (s0 : slices_IndexFunc_int_o_parity_Residues_c1_L0_s0) : slices_IndexFunc_int_o_parity_Residues_c1_L0_s0 := (itS (slices_IndexFunc_int_o_parity_Residues_c1_L0_sel x1 x2) (slices_IndexFunc_int_o_parity_Residues_c1_L0_nx x1 x2) bound s0).getD default
theorem slices_IndexFunc_int_o_parity_Residues_c1_L0_go (x0 : Bool) (x1 : List Int) (x2 : Int) (x3 : Int) (s0 : slices_IndexFunc_int_o_parity_Residues_c1_L0_s0) : slices_IndexFunc_int_o_parity_Residues_c1_L0_sel x1 x2 s0 = true → (roundG (runC E0 (cl E0) L82_0) [0, 1, 7, 8] [4] 0) (slices_IndexFunc_int_o_parity_Residues_c1_L0_enc x0 x1 x2 x3 s0) = some (.normal, slices_IndexFunc_int_o_parity_Residues_c1_L0_enc x0 x1 x2 x3 (slices_IndexFunc_int_o_parity_Residues_c1_L0_nx x1 x2 s0)) := by
  unfold slices_IndexFunc_int_o_parity_Residues_c1_L0_sel slices_IndexFunc_int_o_parity_Residues_c1_L0_nx
  cases h1 : tb (decide (s0.c3 < x2))
  · intro g0
    exact absurd g0 ft
  · cases h2 : tb (inb x1.length s0.c3)
    · intro g0
      exact absurd g0 ft
    · cases h3 : tb (parity_Residues_c1_i_r0_0 (gt x1 s0.c3))
      · intro _
        exact round_walk [.b (tbE h1), .o 14 (fun _ => o_idx_os (enc := (encI .i64)) (l := x1) (fl := true) (n := x0) (s := 1) (k := .i64) (tbE h2)), .c (parity_Residues_c1_i_t0 (gt x1 s0.c3)), .b (tbE h3)] (by kernel_rfl)
      · intro g0
        exact absurd g0 ft
def slices_IndexFunc_int_o_parity_Residues_c1_L0_c0 (x1 : List Int) (x2 : Int) (s0 : slices_IndexFunc_int_o_parity_Residues_c1_L0_s0) : Bool := (bif tb (decide (s0.c3 < x2)) then (bif tb (inb x1.length s0.c3) then true else false) else false)
def slices_IndexFunc_int_o_parity_Residues_c1_L0_c1 (x2 : Int) (s0 : slices_IndexFunc_int_o_parity_Residues_c1_L0_s0) : Bool := (bif tb (decide (s0.c3 < x2)) then false else true)
theorem slices_IndexFunc_int_o_parity_Residues_c1_L0_x0 (x0 : Bool) (x1 : List Int) (x2 : Int) (x3 : Int) (s0 : slices_IndexFunc_int_o_parity_Residues_c1_L0_s0) : slices_IndexFunc_int_o_parity_Residues_c1_L0_sel x1 x2 s0 = false → slices_IndexFunc_int_o_parity_Residues_c1_L0_c0 x1 x2 s0 = true → (roundG (runC E0 (cl E0) L82_0) [0, 1, 7, 8] [4] 0) (slices_IndexFunc_int_o_parity_Residues_c1_L0_enc x0 x1 x2 x3 s0) = some (.ret, ([(V.d (.int .i64 s0.c3))], [])) := by
  unfold slices_IndexFunc_int_o_parity_Residues_c1_L0_sel slices_IndexFunc_int_o_parity_Residues_c1_L0_c0
  cases h1 : tb (decide (s0.c3 < x2))
  · intro g0 g1
    exact absurd g1 ft
  · cases h2 : tb (inb x1.length s0.c3)
    · intro g0 g1
      exact absurd g1 ft
    · cases h3 : tb (parity_Residues_c1_i_r0_0 (gt x1 s0.c3))
      · intro g0 g1
        exact absurd g0 tf
      · intro g0 g1
        exact round_walk [.b (tbE h1), .o 14 (fun _ => o_idx_os (enc := (encI .i64)) (l := x1) (fl := true) (n := x0) (s := 1) (k := .i64) (tbE h2)), .c (parity_Residues_c1_i_t0 (gt x1 s0.c3)), .b (tbE h3)] (by kernel_rfl)
theorem slices_IndexFunc_int_o_parity_Residues_c1_L0_x1 (x0 : Bool) (x1 : List Int) (x2 : Int) (x3 : Int) (s0 : slices_IndexFunc_int_o_parity_Residues_c1_L0_s0) : slices_IndexFunc_int_o_parity_Residues_c1_L0_sel x1 x2 s0 = false → slices_IndexFunc_int_o_parity_Residues_c1_L0_c0 x1 x2 s0 = false → slices_IndexFunc_int_o_parity_Residues_c1_L0_c1 x2 s0 = true → (roundG (runC E0 (cl E0) L82_0) [0, 1, 7, 8] [4] 0) (slices_IndexFunc_int_o_parity_Residues_c1_L0_enc x0 x1 x2 x3 s0) = some ((.exit 0), ([V.un], [])) := by
  unfold slices_IndexFunc_int_o_parity_Residues_c1_L0_sel slices_IndexFunc_int_o_parity_Residues_c1_L0_c0 slices_IndexFunc_int_o_parity_Residues_c1_L0_c1
  cases h1 : tb (decide (s0.c3 < x2))
  · intro g0 g1 g2
    exact round_walk [.b (tbE h1)] (by kernel_rfl)
  · cases h2 : tb (inb x1.length s0.c3)
    · intro g0 g1 g2
      exact absurd g2 ft
    · cases h3 : tb (parity_Residues_c1_i_r0_0 (gt x1 s0.c3))
      · intro g0 g1 g2
        exact absurd g0 tf
      · intro g0 g1 g2
        exact absurd g1 tf
theorem slices_IndexFunc_int_o_parity_Residues_c1_L0_f0_0 (x0 : Bool) (x1 : List Int) (x2 : Int) (x3 : Int) (s : slices_IndexFunc_int_o_parity_Residues_c1_L0_s0) (hok : slices_IndexFunc_int_o_parity_Residues_c1_L0_ok x1 x2 s = true) (c0 : slices_IndexFunc_int_o_parity_Residues_c1_L0_c0 x1 x2 (slices_IndexFunc_int_o_parity_Residues_c1_L0_end x1 x2 s) = true) : loopG (roundG (runC E0 (cl E0) L82_0) [0, 1, 7, 8] [4] 0) bound (slices_IndexFunc_int_o_parity_Residues_c1_L0_enc x0 x1 x2 x3 s) = some (.ret, ([(V.d (.int .i64 ((slices_IndexFunc_int_o_parity_Residues_c1_L0_end x1 x2 s).c3)))], [])) := by
  have e : itS (slices_IndexFunc_int_o_parity_Residues_c1_L0_sel x1 x2) (slices_IndexFunc_int_o_parity_Residues_c1_L0_nx x1 x2) bound s = some (slices_IndexFunc_int_o_parity_Residues_c1_L0_end x1 x2 s) := itS_get hok
  have f := itS_false e
  exact loop_it (slices_IndexFunc_int_o_parity_Residues_c1_L0_go x0 x1 x2 x3) bound s _ _ _ e (fun h => by cases h) (slices_IndexFunc_int_o_parity_Residues_c1_L0_x0 x0 x1 x2 x3 (slices_IndexFunc_int_o_parity_Residues_c1_L0_end x1 x2 s) f c0)
theorem slices_IndexFunc_int_o_parity_Residues_c1_L0_f0_1 (x0 : Bool) (x1 : List Int) (x2 : Int) (x3 : Int) (s : slices_IndexFunc_int_o_parity_Residues_c1_L0_s0) (hok : slices_IndexFunc_int_o_parity_Residues_c1_L0_ok x1 x2 s = true) (c0 : slices_IndexFunc_int_o_parity_Residues_c1_L0_c0 x1 x2 (slices_IndexFunc_int_o_parity_Residues_c1_L0_end x1 x2 s) = false) (c1 : slices_IndexFunc_int_o_parity_Residues_c1_L0_c1 x2 (slices_IndexFunc_int_o_parity_Residues_c1_L0_end x1 x2 s) = true) : loopG (roundG (runC E0 (cl E0) L82_0) [0, 1, 7, 8] [4] 0) bound (slices_IndexFunc_int_o_parity_Residues_c1_L0_enc x0 x1 x2 x3 s) = some ((.exit 0), ([V.un], [])) := by
  have e : itS (slices_IndexFunc_int_o_parity_Residues_c1_L0_sel x1 x2) (slices_IndexFunc_int_o_parity_Residues_c1_L0_nx x1 x2) bound s = some (slices_IndexFunc_int_o_parity_Residues_c1_L0_end x1 x2 s) := itS_get hok
  have f := itS_false e
  exact loop_it (slices_IndexFunc_int_o_parity_Residues_c1_L0_go x0 x1 x2 x3) bound s _ _ _ e (fun h => by cases h) (slices_IndexFunc_int_o_parity_Residues_c1_L0_x1 x0 x1 x2 x3 (slices_IndexFunc_int_o_parity_Residues_c1_L0_end x1 x2 s) f c0 c1)
def slices_IndexFunc_int_o_parity_Residues_c1_e0 (x1 : List Int) : slices_IndexFunc_int_o_parity_Residues_c1_L0_s0 := slices_IndexFunc_int_o_parity_Residues_c1_L0_end x1 ((x1.length : Nat) : Int) (⟨0⟩ : slices_IndexFunc_int_o_parity_Residues_c1_L0_s0)
def slices_IndexFunc_int_o_parity_Residues_c1_c0 (x1 : List Int) : Bool := (bif tb (slices_IndexFunc_int_o_parity_Residues_c1_L0_ok x1 ((x1.length : Nat) : Int) (⟨0⟩ : slices_IndexFunc_int_o_parity_Residues_c1_L0_s0)) then (bif tb (slices_IndexFunc_int_o_parity_Residues_c1_L0_c0 x1 ((x1.length : Nat) : Int) (slices_IndexFunc_int_o_parity_Residues_c1_e0 x1)) then true else (bif tb (slices_IndexFunc_int_o_parity_Residues_c1_L0_c1 ((x1.length : Nat) : Int) (slices_IndexFunc_int_o_parity_Residues_c1_e0 x1)) then true else false)) else false)
def slices_IndexFunc_int_o_parity_Residues_c1_r0_0 (x1 : List Int) : Int := (bif tb (slices_IndexFunc_int_o_parity_Residues_c1_L0_c0 x1 ((x1.length : Nat) : Int) (slices_IndexFunc_int_o_parity_Residues_c1_e0 x1)) then ((slices_IndexFunc_int_o_parity_Residues_c1_e0 x1).c3) else (-1))
theorem slices_IndexFunc_int_o_parity_Residues_c1_t0 (x0 : Bool) (x1 : List Int) : slices_IndexFunc_int_o_parity_Residues_c1_c0 x1 = true → cl E0 82 [(V.d (slD (encI .i64) true 1 x0 x1)), (V.fn (.func 76) [] [])] [] = some ([(V.d (.int .i64 (slices_IndexFunc_int_o_parity_Residues_c1_r0_0 x1)))], []) := by
  unfold slices_IndexFunc_int_o_parity_Residues_c1_c0 slices_IndexFunc_int_o_parity_Residues_c1_r0_0
  cases h1 : tb (slices_IndexFunc_int_o_parity_Residues_c1_L0_ok x1 ((x1.length : Nat) : Int) (⟨0⟩ : slices_IndexFunc_int_o_parity_Residues_c1_L0_s0))
  · intro g0
    exact absurd g0 ft
  · cases h2 : tb (slices_IndexFunc_int_o_parity_Residues_c1_L0_c0 x1 ((x1.length : Nat) : Int) (slices_IndexFunc_int_o_parity_Residues_c1_e0 x1))
    · cases h3 : tb (slices_IndexFunc_int_o_parity_Residues_c1_L0_c1 ((x1.length : Nat) : Int) (slices_IndexFunc_int_o_parity_Residues_c1_e0 x1))
      · intro g0
        exact absurd g0 ft
      · intro g0
        exact w82 [.o 7 (fun _ => o_len_os (enc := (encI .i64)) (l := x1) (fl := true) (n := x0) (s := 1)), .l (slices_IndexFunc_int_o_parity_Residues_c1_L0_f0_1 x0 x1 ((x1.length : Nat) : Int) 0 (⟨0⟩ : slices_IndexFunc_int_o_parity_Residues_c1_L0_s0) (tbE h1) (tbE h2) (tbE h3))] (by kernel_rfl)
    · intro g0
      exact w82 [.o 7 (fun _ => o_len_os (enc := (encI .i64)) (l := x1) (fl := true) (n := x0) (s := 1)), .l (slices_IndexFunc_int_o_parity_Residues_c1_L0_f0_0 x0 x1 ((x1.length : Nat) : Int) 0 (⟨0⟩ : slices_IndexFunc_int_o_parity_Residues_c1_L0_s0) (tbE h1) (tbE h2))] (by kernel_rfl)
def slices_ContainsFunc_int_o_parity_Residues_c1_c0 (x1 : List Int) : Bool := (bif tb (slices_IndexFunc_int_o_parity_Residues_c1_c0 x1) then true else false)
theorem slices_ContainsFunc_int_o_parity_Residues_c1_t0 (x0 : Bool) (x1 : List Int) : slices_ContainsFunc_int_o_parity_Residues_c1_c0 x1 = true → cl E0 77 [(V.d (slD (encI .i64) true 1 x0 x1)), (V.fn (.func 76) [] [])] [] = some ([(V.d (.bool (decide (0 ≤ (slices_IndexFunc_int_o_parity_Residues_c1_r0_0 x1)))))], []) := by
  unfold slices_ContainsFunc_int_o_parity_Residues_c1_c0
  cases h1 : tb (slices_IndexFunc_int_o_parity_Residues_c1_c0 x1)
  · intro g0
    exact absurd g0 ft
  · intro g0
    exact w77 [.c (slices_IndexFunc_int_o_parity_Residues_c1_t0 x0 x1 (tbE h1))] (by kernel_rfl)
def parity_Residues_o_S0_c0 (x2 : List Int) : Bool := (bif tb (decide (((x2.length : Nat) : Int) < 2)) then true else (bif tb (decide (4 < ((x2.length : Nat) : Int))) then true else (bif tb (slices_ContainsFunc_int_o_parity_Residues_c1_c0 x2) then (bif tb (decide (0 ≤ (slices_IndexFunc_int_o_parity_Residues_c1_r0_0 x2))) then true else false) else false)))
def parity_Residues_o_S0_c1 (x2 : List Int) : Bool := (bif tb (decide (((x2.length : Nat) : Int) < 2)) then false else (bif tb (decide (4 < ((x2.length : Nat) : Int))) then false else (bif tb (slices_ContainsFunc_int_o_parity_Residues_c1_c0 x2) then (bif tb (decide (0 ≤ (slices_IndexFunc_int_o_parity_Residues_c1_r0_0 x2))) then false else true) else false)))
theorem parity_Residues_o_S0_t0 (x0 : Bool) (x1 : Bool) (x2 : List Int) : parity_Residues_o_S0_c0 x2 = true → segG (runC E0 (cl E0) S59_0) [0, 3] [2] [0] 1 ([(V.d (slD (encI .i64) true 1 x1 x2)), (V.fn (.func 76) [] [])], [(Blk.flat 3 1 [] x0)]) = some (.ret, ([(V.so true 1 0)], [(Blk.flat 3 1 [] x0), (Blk.flat 3 1 [] false)])) := by
  unfold parity_Residues_o_S0_c0
  cases h1 : tb (decide (((x2.length : Nat) : Int) < 2))
  · cases h2 : tb (decide (4 < ((x2.length : Nat) : Int)))
    · cases h3 : tb (slices_ContainsFunc_int_o_parity_Residues_c1_c0 x2)
      · intro g0
        exact absurd g0 ft
      · cases h4 : tb (decide (0 ≤ (slices_IndexFunc_int_o_parity_Residues_c1_r0_0 x2)))
        · intro g0
          exact absurd g0 ft
        · intro g0
          exact seg_walk [.o 9 (fun _ => o_len_os (enc := (encI .i64)) (l := x2) (fl := true) (n := x1) (s := 1)), .b (tbE h1), .o 13 (fun _ => o_len_os (enc := (encI .i64)) (l := x2) (fl := true) (n := x1) (s := 1)), .b (tbE h2), .c (slices_ContainsFunc_int_o_parity_Residues_c1_t0 x1 x2 (tbE h3)), .b (tbE h4)] (by kernel_rfl)
    · intro g0
      exact seg_walk [.o 9 (fun _ => o_len_os (enc := (encI .i64)) (l := x2) (fl := true) (n := x1) (s := 1)), .b (tbE h1), .o 13 (fun _ => o_len_os (enc := (encI .i64)) (l := x2) (fl := true) (n := x1) (s := 1)), .b (tbE h2)] (by kernel_rfl)
  · intro g0
    exact seg_walk [.o 9 (fun _ => o_len_os (enc := (encI .i64)) (l := x2) (fl := true) (n := x1) (s := 1)), .b (tbE h1)] (by kernel_rfl)
theorem parity_Residues_o_S0_t1 (x0 : Bool) (x1 : Bool) (x2 : List Int) : parity_Residues_o_S0_c0 x2 = false → parity_Residues_o_S0_c1 x2 = true → segG (runC E0 (cl E0) S59_0) [0, 3] [2] [0] 1 ([(V.d (slD (encI .i64) true 1 x1 x2)), (V.fn (.func 76) [] [])], [(Blk.flat 3 1 [] x0)]) = some (.normal, ([(V.d (slD (encI .i64) true 1 x1 x2))], [(Blk.flat 3 1 [] x0)])) := by
  unfold parity_Residues_o_S0_c0 parity_Residues_o_S0_c1
  cases h1 : tb (decide (((x2.length : Nat) : Int) < 2))
  · cases h2 : tb (decide (4 < ((x2.length : Nat) : Int)))
    · cases h3 : tb (slices_ContainsFunc_int_o_parity_Residues_c1_c0 x2)
      · intro g0 g1
        exact absurd g1 ft
      · cases h4 : tb (decide (0 ≤ (slices_IndexFunc_int_o_parity_Residues_c1_r0_0 x2)))
        · intro g0 g1
          exact seg_walk [.o 9 (fun _ => o_len_os (enc := (encI .i64)) (l := x2) (fl := true) (n := x1) (s := 1)), .b (tbE h1), .o 13 (fun _ => o_len_os (enc := (encI .i64)) (l := x2) (fl := true) (n := x1) (s := 1)), .b (tbE h2), .c (slices_ContainsFunc_int_o_parity_Residues_c1_t0 x1 x2 (tbE h3)), .b (tbE h4)] (by kernel_rfl)
        · intro g0 g1
          exact absurd g0 tf
    · intro g0 g1
      exact absurd g0 tf
  · intro g0 g1
    exact absurd g0 tf
structure parity_Residues_o_L1_s0 where
  c5 : Int
  c7 : List Int
  deriving Inhabited
def parity_Residues_o_L1_enc (x0 : List Int) (x1 : Bool) (x2 : Bool) (x3 : Bool) (x4 : List Int) (x5 : Bool) (x6 : Int) (x7 : Int) (s0 : parity_Residues_o_L1_s0) : List V × Mem := ([(V.d (slD (encI .i64) true 1 x3 x4)), (V.so x5 1 x0.length), (V.d (.int .i64 x6)), (V.d (.int .i64 s0.c5))], [(Blk.flat 3 1 [] x1), (Blk.flat 3 1 (List.map (encI .i64) s0.c7) false)])
def parity_Residues_o_L1_h0_e0 (x3 : Bool) (x4 : List Int) (s0 : parity_Residues_o_L1_s0) : Int := wi ((gt x4 s0.c5) - (order_Mid_o_r0_0 (order_Without_oi_r0_1 x3 x4)))
def parity_Residues_o_L1_h0_e1 (x3 : Bool) (x4 : List Int) (s0 : parity_Residues_o_L1_s0) : List Int := (List.take (((dlL (slices_Clone_int_o_r0_1 x3 x4) s0.c5 (wi (s0.c5 + 1))).length) - ((wi (s0.c5 + 1)).toNat - s0.c5.toNat)) (dlL (slices_Clone_int_o_r0_1 x3 x4) s0.c5 (wi (s0.c5 + 1))))
def parity_Residues_o_L1_h0_e2 (x3 : Bool) (x4 : List Int) (s0 : parity_Residues_o_L1_s0) : Int := wi ((gt x4 s0.c5) - (order_Mid_o_r0_0 (parity_Residues_o_L1_h0_e1 x3 x4 s0)))
def parity_Residues_o_L1_sel (x0 : List Int) (x3 : Bool) (x4 : List Int) (x6 : Int) (s0 : parity_Residues_o_L1_s0) : Bool := (bif tb (decide (s0.c5 < x6)) then (bif tb (order_Without_oi_c0 x3 x4 s0.c5) then (bif tb (order_Mid_o_c0 (order_Without_oi_r0_1 x3 x4)) then (bif tb (inb x4.length s0.c5) then (bif tb (inb x0.length s0.c5) then (bif tb (Nat.beq x0.length s0.c7.length) then true else false) else false) else false) else false) else (bif tb (order_Without_oi_c1 x3 x4 s0.c5) then (bif tb (order_Mid_o_c0 (parity_Residues_o_L1_h0_e1 x3 x4 s0)) then (bif tb (inb x4.length s0.c5) then (bif tb (inb x0.length s0.c5) then (bif tb (Nat.beq x0.length s0.c7.length) then true else false) else false) else false) else false) else false)) else false)
def parity_Residues_o_L1_nx (x0 : List Int) (x3 : Bool) (x4 : List Int) (x6 : Int) (s0 : parity_Residues_o_L1_s0) : parity_Residues_o_L1_s0 := ⟨(wi (s0.c5 + 1)), (bif tb (order_Without_oi_c0 x3 x4 s0.c5) then (st s0.c7 s0.c5 (parity_Residues_o_L1_h0_e0 x3 x4 s0)) else (st s0.c7 s0.c5 (parity_Residues_o_L1_h0_e2 x3 x4 s0)))⟩
def parity_Residues_o_L1_ok (x0 : List Int) (x3 : Bool) (x4 : List Int) (x6 : Int) (s0 : parity_Residues_o_L1_s0) : Bool := (itS (parity_Residues_o_L1_sel x0 x3 x4 x6) (parity_Residues_o_L1_nx x0 x3 x4 x6) bound s0).isSome
def parity_Residues_o_L1_end (x0 : List Int) (x3 : Bool) (x4 : List Int) (x6 : Int) (s0 : parity_Residues_o_L1_s0) : parity_Residues_o_L1_s0 := (itS (parity_Residues_o_L1_sel x0 x3 x4 x6) (parity_Residues_o_L1_nx x0 x3 x4 x6) bound s0).getD default
theorem parity_Residues_o_L1_go (x0 : List Int) (x1 : Bool) (x2 : Bool) (x3 : Bool) (x4 : List Int) (x5 : Bool) (x6 : Int) (x7 : Int) (s0 : parity_Residues_o_L1_s0) : parity_Residues_o_L1_sel x0 x3 x4 x6 s0 = true → (roundG (runC E0 (cl E0) L59_1) [0, 4, 25, 26] [4] 2) (parity_Residues_o_L1_enc x0 x1 x2 x3 x4 x5 x6 x7 s0) = some (.normal, parity_Residues_o_L1_enc x0 x1 x2 x3 x4 x5 x6 x7 (parity_Residues_o_L1_nx x0 x3 x4 x6 s0)) := by
  unfold parity_Residues_o_L1_sel parity_Residues_o_L1_nx
  cases h1 : tb (decide (s0.c5 < x6))
  · intro g0
    exact absurd g0 ft
  · cases h2 : tb (order_Without_oi_c0 x3 x4 s0.c5)
    · cases h3 : tb (order_Without_oi_c1 x3 x4 s0.c5)
      · intro g0
        exact absurd g0 ft
      · cases h4 : tb (order_Mid_o_c0 (parity_Residues_o_L1_h0_e1 x3 x4 s0))
        · intro g0
          exact absurd g0 ft
        · cases h5 : tb (inb x4.length s0.c5)
          · intro g0
            exact absurd g0 ft
          · cases h6 : tb (inb x0.length s0.c5)
            · intro g0
              exact absurd g0 ft
            · cases h7 : tb (Nat.beq x0.length s0.c7.length)
              · intro g0
                exact absurd g0 ft
              · intro _
                exact round_walk [.b (tbE h1), .c (order_Without_oi_t1 x3 x4 s0.c5 (tbE h2) (tbE h3)), .y (mm := [(Blk.flat 3 1 [] x1), (Blk.flat 3 1 (List.map (encI .i64) s0.c7) false), (Blk.flat 3 1 (List.map (encI .i64) (dlL (slices_Clone_int_o_r0_1 x3 x4) s0.c5 (wi (s0.c5 + 1)))) false)]) (args := [(V.sl 2 ((dlL (slices_Clone_int_o_r0_1 x3 x4) s0.c5 (wi (s0.c5 + 1))).length) 0 (((dlL (slices_Clone_int_o_r0_1 x3 x4) s0.c5 (wi (s0.c5 + 1))).length) - ((wi (s0.c5 + 1)).toNat - s0.c5.toNat)))]) (args1 := [(V.d (.rs true 1 (List.map (encI .i64) (List.take (((dlL (slices_Clone_int_o_r0_1 x3 x4) s0.c5 (wi (s0.c5 + 1))).length) - ((wi (s0.c5 + 1)).toNat - s0.c5.toNat)) (dlL (slices_Clone_int_o_r0_1 x3 x4) s0.c5 (wi (s0.c5 + 1))))) false))]) (byvals_cons (byval_sv (enc := (encI .i64)) (l := (dlL (slices_Clone_int_o_r0_1 x3 x4) s0.c5 (wi (s0.c5 + 1)))) (e := 3) (s := 1) (p := false) (n := ((dlL (slices_Clone_int_o_r0_1 x3 x4) s0.c5 (wi (s0.c5 + 1))).length)) (d := ((wi (s0.c5 + 1)).toNat - s0.c5.toNat)) (Nat.beq_refl _) (by kernel_rfl)) (by kernel_rfl)), .c (order_Mid_o_t0 false (parity_Residues_o_L1_h0_e1 x3 x4 s0) (tbE h4)), .o 40 (fun _ => o_idx_os (enc := (encI .i64)) (l := x4) (fl := true) (n := x3) (s := 1) (k := .i64) (tbE h5)), .m 44 (o_idx_so (m := [(Blk.flat 3 1 [] x1), (Blk.flat 3 1 (List.map (encI .i64) s0.c7) false), (Blk.flat 3 1 (List.map (encI .i64) (dlL (slices_Clone_int_o_r0_1 x3 x4) s0.c5 (wi (s0.c5 + 1)))) false)]) (b := x5) (id := 1) (n := x0.length) (s := 1) (k := .i64) (by kernel_rfl) (tbE h6)), .m 100044 (o_store_L (m := [(Blk.flat 3 1 [] x1), (Blk.flat 3 1 (List.map (encI .i64) s0.c7) false), (Blk.flat 3 1 (List.map (encI .i64) (dlL (slices_Clone_int_o_r0_1 x3 x4) s0.c5 (wi (s0.c5 + 1)))) false)]) (enc := (encI .i64)) (l := s0.c7) (id := 1) (e := 3) (s := 1) (size := 1) (off := 0) (i := s0.c5) (v := (V.d (.int .i64 (parity_Residues_o_L1_h0_e2 x3 x4 s0)))) (x := (parity_Residues_o_L1_h0_e2 x3 x4 s0)) (ys := [(.int .i64 (parity_Residues_o_L1_h0_e2 x3 x4 s0))]) (n := x0.length) (tbE h7) (by kernel_rfl) (tbE h6) ⟨by kernel_rfl, by kernel_rfl⟩ (by kernel_rfl) (by kernel_rfl))] (by kernel_rfl)
    · cases h3 : tb (order_Mid_o_c0 (order_Without_oi_r0_1 x3 x4))
      · intro g0
        exact absurd g0 ft
      · cases h4 : tb (inb x4.length s0.c5)
        · intro g0
          exact absurd g0 ft
        · cases h5 : tb (inb x0.length s0.c5)
          · intro g0
            exact absurd g0 ft
          · cases h6 : tb (Nat.beq x0.length s0.c7.length)
            · intro g0
              exact absurd g0 ft
            · intro _
              exact round_walk [.b (tbE h1), .c (order_Without_oi_t0 x3 x4 s0.c5 (tbE h2)), .y (mm := [(Blk.flat 3 1 [] x1), (Blk.flat 3 1 (List.map (encI .i64) s0.c7) false), (Blk.flat 3 1 (List.map (encI .i64) (order_Without_oi_r0_1 x3 x4)) false)]) (args := [(V.so (order_Without_oi_r0_0 x3 x4) 2 ((order_Without_oi_r0_1 x3 x4).length))]) (args1 := [(V.d (slD (encI .i64) true 1 (order_Without_oi_r0_0 x3 x4) (order_Without_oi_r0_1 x3 x4)))]) (byvals_cons (byval_so (enc := (encI .i64)) (l := (order_Without_oi_r0_1 x3 x4)) (b := (order_Without_oi_r0_0 x3 x4)) (e := 3) (s := 1) (p := false) (n := ((order_Without_oi_r0_1 x3 x4).length)) (Nat.beq_refl _) (by kernel_rfl)) (by kernel_rfl)), .c (order_Mid_o_t0 (order_Without_oi_r0_0 x3 x4) (order_Without_oi_r0_1 x3 x4) (tbE h3)), .o 40 (fun _ => o_idx_os (enc := (encI .i64)) (l := x4) (fl := true) (n := x3) (s := 1) (k := .i64) (tbE h4)), .m 44 (o_idx_so (m := [(Blk.flat 3 1 [] x1), (Blk.flat 3 1 (List.map (encI .i64) s0.c7) false), (Blk.flat 3 1 (List.map (encI .i64) (order_Without_oi_r0_1 x3 x4)) false)]) (b := x5) (id := 1) (n := x0.length) (s := 1) (k := .i64) (by kernel_rfl) (tbE h5)), .m 100044 (o_store_L (m := [(Blk.flat 3 1 [] x1), (Blk.flat 3 1 (List.map (encI .i64) s0.c7) false), (Blk.flat 3 1 (List.map (encI .i64) (order_Without_oi_r0_1 x3 x4)) false)]) (enc := (encI .i64)) (l := s0.c7) (id := 1) (e := 3) (s := 1) (size := 1) (off := 0) (i := s0.c5) (v := (V.d (.int .i64 (parity_Residues_o_L1_h0_e0 x3 x4 s0)))) (x := (parity_Residues_o_L1_h0_e0 x3 x4 s0)) (ys := [(.int .i64 (parity_Residues_o_L1_h0_e0 x3 x4 s0))]) (n := x0.length) (tbE h6) (by kernel_rfl) (tbE h5) ⟨by kernel_rfl, by kernel_rfl⟩ (by kernel_rfl) (by kernel_rfl))] (by kernel_rfl)
def parity_Residues_o_L1_c0 (x6 : Int) (s0 : parity_Residues_o_L1_s0) : Bool := (bif tb (decide (s0.c5 < x6)) then false else true)
theorem parity_Residues_o_L1_x0 (x0 : List Int) (x1 : Bool) (x2 : Bool) (x3 : Bool) (x4 : List Int) (x5 : Bool) (x6 : Int) (x7 : Int) (s0 : parity_Residues_o_L1_s0) : parity_Residues_o_L1_sel x0 x3 x4 x6 s0 = false → parity_Residues_o_L1_c0 x6 s0 = true → (roundG (runC E0 (cl E0) L59_1) [0, 4, 25, 26] [4] 2) (parity_Residues_o_L1_enc x0 x1 x2 x3 x4 x5 x6 x7 s0) = some ((.exit 0), ([(V.so x5 1 x0.length)], [(Blk.flat 3 1 [] x1), (Blk.flat 3 1 (List.map (encI .i64) s0.c7) false)])) := by
  unfold parity_Residues_o_L1_sel parity_Residues_o_L1_c0
  cases h1 : tb (decide (s0.c5 < x6))
  · intro g0 g1
    exact round_walk [.b (tbE h1)] (by kernel_rfl)
  · cases h2 : tb (order_Without_oi_c0 x3 x4 s0.c5)
    · cases h3 : tb (order_Without_oi_c1 x3 x4 s0.c5)
      · intro g0 g1
        exact absurd g1 ft
      · cases h4 : tb (order_Mid_o_c0 (parity_Residues_o_L1_h0_e1 x3 x4 s0))
        · intro g0 g1
          exact absurd g1 ft
        · cases h5 : tb (inb x4.length s0.c5)
          · intro g0 g1
            exact absurd g1 ft
          · cases h6 : tb (inb x0.length s0.c5)
            · intro g0 g1
              exact absurd g1 ft
            · cases h7 : tb (Nat.beq x0.length s0.c7.length)
              · intro g0 g1
                exact absurd g1 ft
              · intro g0 g1
                exact absurd g0 tf
    · cases h3 : tb (order_Mid_o_c0 (order_Without_oi_r0_1 x3 x4))
      · intro g0 g1
        exact absurd g1 ft
      · cases h4 : tb (inb x4.length s0.c5)
        · intro g0 g1
          exact absurd g1 ft
        · cases h5 : tb (inb x0.length s0.c5)
          · intro g0 g1
            exact absurd g1 ft
          · cases h6 : tb (Nat.beq x0.length s0.c7.length)
            · intro g0 g1
              exact absurd g1 ft
            · intro g0 g1
              exact absurd g0 tf
theorem parity_Residues_o_L1_f0_0 (x0 : List Int) (x1 : Bool) (x2 : Bool) (x3 : Bool) (x4 : List Int) (x5 : Bool) (x6 : Int) (x7 : Int) (s : parity_Residues_o_L1_s0) (hok : parity_Residues_o_L1_ok x0 x3 x4 x6 s = true) (c0 : parity_Residues_o_L1_c0 x6 (parity_Residues_o_L1_end x0 x3 x4 x6 s) = true) : loopG (roundG (runC E0 (cl E0) L59_1) [0, 4, 25, 26] [4] 2) bound (parity_Residues_o_L1_enc x0 x1 x2 x3 x4 x5 x6 x7 s) = some ((.exit 0), ([(V.so x5 1 x0.length)], [(Blk.flat 3 1 [] x1), (Blk.flat 3 1 (List.map (encI .i64) ((parity_Residues_o_L1_end x0 x3 x4 x6 s).c7)) false)])) := by
  have e : itS (parity_Residues_o_L1_sel x0 x3 x4 x6) (parity_Residues_o_L1_nx x0 x3 x4 x6) bound s = some (parity_Residues_o_L1_end x0 x3 x4 x6 s) := itS_get hok
  have f := itS_false e
  exact loop_it (parity_Residues_o_L1_go x0 x1 x2 x3 x4 x5 x6 x7) bound s _ _ _ e (fun h => by cases h) (parity_Residues_o_L1_x0 x0 x1 x2 x3 x4 x5 x6 x7 (parity_Residues_o_L1_end x0 x3 x4 x6 s) f c0)
def parity_Residues_o_S2_e0 (x0 : List Int) (x3 : Bool) (x4 : List Int) : parity_Residues_o_L1_s0 := parity_Residues_o_L1_end x0 x3 x4 ((x4.length : Nat) : Int) (⟨0, x0⟩ : parity_Residues_o_L1_s0)
def parity_Residues_o_S2_c0 (x0 : List Int) (x3 : Bool) (x4 : List Int) : Bool := (bif tb (parity_Residues_o_L1_ok x0 x3 x4 ((x4.length : Nat) : Int) (⟨0, x0⟩ : parity_Residues_o_L1_s0)) then (bif tb (parity_Residues_o_L1_c0 ((x4.length : Nat) : Int) (parity_Residues_o_S2_e0 x0 x3 x4)) then true else false) else false)
theorem parity_Residues_o_S2_t0 (x0 : List Int) (x1 : Bool) (x3 : Bool) (x4 : List Int) : parity_Residues_o_S2_c0 x0 x3 x4 = true → segG (runC E0 (cl E0) S59_2) [0, 4] [] [4] 2 ([(V.d (slD (encI .i64) true 1 x3 x4)), (V.so false 1 x0.length)], [(Blk.flat 3 1 [] x1), (Blk.flat 3 1 (List.map (encI .i64) x0) false)]) = some (.normal, ([(V.so false 1 x0.length)], [(Blk.flat 3 1 [] x1), (Blk.flat 3 1 (List.map (encI .i64) ((parity_Residues_o_S2_e0 x0 x3 x4).c7)) false)])) := by
  unfold parity_Residues_o_S2_c0
  cases h1 : tb (parity_Residues_o_L1_ok x0 x3 x4 ((x4.length : Nat) : Int) (⟨0, x0⟩ : parity_Residues_o_L1_s0))
  · intro g0
    exact absurd g0 ft
  · cases h2 : tb (parity_Residues_o_L1_c0 ((x4.length : Nat) : Int) (parity_Residues_o_S2_e0 x0 x3 x4))
    · intro g0
      exact absurd g0 ft
    · intro g0
      exact seg_walk [.o 25 (fun _ => o_len_os (enc := (encI .i64)) (l := x4) (fl := true) (n := x3) (s := 1)), .l (parity_Residues_o_L1_f0_0 x0 x1 false x3 x4 false ((x4.length : Nat) : Int) 0 (⟨0, x0⟩ : parity_Residues_o_L1_s0) (tbE h1) (tbE h2))] (by kernel_rfl)
def parity_Residues_o_c0 (x1 : List Int) : Bool := (bif tb (parity_Residues_o_S0_c0 x1) then true else false)
def parity_Residues_o_c1 (x0 : Bool) (x1 : List Int) : Bool := (bif tb (parity_Residues_o_S0_c0 x1) then false else (bif tb (parity_Residues_o_S0_c1 x1) then (bif tb (decide (0 ≤ ((x1.length : Nat) : Int)) && decide (((x1.length : Nat) : Int) * 8 ≤ 140737488355328)) then (bif tb (parity_Residues_o_S2_c0 (List.replicate ((x1.length : Nat) : Int).toNat (0 : Int)) x0 x1) then true else false) else false) else false))
theorem parity_Residues_o_t0 (x0 : Bool) (x1 : List Int) : parity_Residues_o_c0 x1 = true → cl E0 59 [(V.d (slD (encI .i64) true 1 x0 x1))] [] = some ([(V.so true 0 0)], [(Blk.flat 3 1 [] false)]) := by
  unfold parity_Residues_o_c0
  cases h1 : tb (parity_Residues_o_S0_c0 x1)
  · cases h2 : tb (parity_Residues_o_S0_c1 x1)
    · intro g0
      exact absurd g0 ft
    · cases h3 : tb (decide (0 ≤ ((x1.length : Nat) : Int)) && decide (((x1.length : Nat) : Int) * 8 ≤ 140737488355328))
      · intro g0
        exact absurd g0 ft
      · cases h4 : tb (parity_Residues_o_S2_c0 (List.replicate ((x1.length : Nat) : Int).toNat (0 : Int)) x0 x1)
        · intro g0
          exact absurd g0 ft
        · intro g0
          exact absurd g0 ft
  · intro g0
    exact w59 [.s (parity_Residues_o_S0_t0 false x0 x1 (tbE h1))] (by kernel_rfl)
theorem parity_Residues_o_t1 (x0 : Bool) (x1 : List Int) : parity_Residues_o_c0 x1 = false → parity_Residues_o_c1 x0 x1 = true → cl E0 59 [(V.d (slD (encI .i64) true 1 x0 x1))] [] = some ([(V.so false 0 ((List.replicate ((x1.length : Nat) : Int).toNat (0 : Int)).length))], [(Blk.flat 3 1 (List.map (encI .i64) ((parity_Residues_o_S2_e0 (List.replicate ((x1.length : Nat) : Int).toNat (0 : Int)) x0 x1).c7)) false)]) := by
  unfold parity_Residues_o_c0 parity_Residues_o_c1
  cases h1 : tb (parity_Residues_o_S0_c0 x1)
  · cases h2 : tb (parity_Residues_o_S0_c1 x1)
    · intro g0 g1
      exact absurd g1 ft
    · cases h3 : tb (decide (0 ≤ ((x1.length : Nat) : Int)) && decide (((x1.length : Nat) : Int) * 8 ≤ 140737488355328))
      · intro g0 g1
        exact absurd g1 ft
      · cases h4 : tb (parity_Residues_o_S2_c0 (List.replicate ((x1.length : Nat) : Int).toNat (0 : Int)) x0 x1)
        · intro g0 g1
          exact absurd g1 ft
        · intro g0 g1
          exact w59 [.s (parity_Residues_o_S0_t1 false x0 x1 (tbE h1) (tbE h2)), .o 22 (fun _ => o_len_os (enc := (encI .i64)) (l := x1) (fl := true) (n := x0) (s := 1)), .m 23 (o_mksl (m := [(Blk.flat 3 1 [] false)]) (enc := (encI .i64)) (z := (0 : Int)) (e := 3) (bytes := 8) (zero := [(.int .i64 0)]) (k := .i64) (k2 := .i64) (n := ((x1.length : Nat) : Int)) (by kernel_rfl) (by kernel_rfl) (tbE h3)), .s (parity_Residues_o_S2_t0 (List.replicate ((x1.length : Nat) : Int).toNat (0 : Int)) false x0 x1 (tbE h4))] (by kernel_rfl)
  · intro g0 g1
    exact absurd g0 tf
structure parity_Suspect_oi_L0_s0 where
  c1 : Int
  c4 : Int
  deriving Inhabited
def parity_Suspect_oi_L0_enc (x0 : List Int) (x1 : Bool) (x2 : Int) (x3 : Int) (x4 : Bool) (x5 : Int) (x6 : Int) (s0 : parity_Suspect_oi_L0_s0) : List V × Mem := ([(V.d (.int .i64 x2)), (V.d (.int .i64 s0.c1)), (V.so x4 0 x0.length), (V.d (.int .i64 x5)), (V.d (.int .i64 s0.c4))], [(Blk.flat 3 1 (List.map (encI .i64) x0) x1)])
def parity_Suspect_oi_L0_sel (x0 : List Int) (x2 : Int) (x5 : Int) (s0 : parity_Suspect_oi_L0_s0) : Bool := (bif tb (decide (s0.c4 < x5)) then (bif tb (inb x0.length s0.c4) then (bif tb (fix_Apart_ii_c0 (gt x0 s0.c4) 0) then (bif tb (decide ((fix_Apart_ii_r0_0 (gt x0 s0.c4) 0) ≤ x2)) then true else (bif tb (decide (0 ≤ s0.c1)) then false else true)) else false) else false) else false)
def parity_Suspect_oi_L0_nx (x0 : List Int) (x2 : Int) (x5 : Int) (s0 : parity_Suspect_oi_L0_s0) : parity_Suspect_oi_L0_s0 := ⟨(bif tb (decide ((fix_Apart_ii_r0_0 (gt x0 s0.c4) 0) ≤ x2)) then s0.c1 else s0.c4), (wi (s0.c4 + 1))⟩
def parity_Suspect_oi_L0_ok (x0 : List Int) (x2 : Int) (x5 : Int) (s0 : parity_Suspect_oi_L0_s0) : Bool := (itS (parity_Suspect_oi_L0_sel x0 x2 x5) (parity_Suspect_oi_L0_nx x0 x2 x5) bound s0).isSome
def parity_Suspect_oi_L0_end (x0 : List Int) (x2 : Int) (x5 : Int) (s0 : parity_Suspect_oi_L0_s0) : parity_Suspect_oi_L0_s0 := (itS (parity_Suspect_oi_L0_sel x0 x2 x5) (parity_Suspect_oi_L0_nx x0 x2 x5) bound s0).getD default
theorem parity_Suspect_oi_L0_go (x0 : List Int) (x1 : Bool) (x2 : Int) (x3 : Int) (x4 : Bool) (x5 : Int) (x6 : Int) (s0 : parity_Suspect_oi_L0_s0) : parity_Suspect_oi_L0_sel x0 x2 x5 s0 = true → (roundG (runC E0 (cl E0) L61_0) [1, 5, 11, 12, 13] [4, 5] 1) (parity_Suspect_oi_L0_enc x0 x1 x2 x3 x4 x5 x6 s0) = some (.normal, parity_Suspect_oi_L0_enc x0 x1 x2 x3 x4 x5 x6 (parity_Suspect_oi_L0_nx x0 x2 x5 s0)) := by
  unfold parity_Suspect_oi_L0_sel parity_Suspect_oi_L0_nx
  cases h1 : tb (decide (s0.c4 < x5))
  · intro g0
    exact absurd g0 ft
  · cases h2 : tb (inb x0.length s0.c4)
    · intro g0
      exact absurd g0 ft
    · cases h3 : tb (fix_Apart_ii_c0 (gt x0 s0.c4) 0)
      · intro g0
        exact absurd g0 ft
      · cases h4 : tb (decide ((fix_Apart_ii_r0_0 (gt x0 s0.c4) 0) ≤ x2))
        · cases h5 : tb (decide (0 ≤ s0.c1))
          · intro _
            exact round_walk [.b (tbE h1), .m 16 (o_idx_so (m := [(Blk.flat 3 1 (List.map (encI .i64) x0) x1)]) (b := x4) (id := 0) (n := x0.length) (s := 1) (k := .i64) (by kernel_rfl) (tbE h2)), .m 17 (o_load_L (m := [(Blk.flat 3 1 (List.map (encI .i64) x0) x1)]) (enc := (encI .i64)) (l := x0) (id := 0) (e := 3) (s := 1) (off := 0) (size := 1) (p := x1) (agg := false) (i := s0.c4) (v := (V.d (.int .i64 (gt x0 s0.c4)))) (n := x0.length) (Nat.beq_refl _) (by kernel_rfl) (tbE h2) (by kernel_rfl)), .c (fix_Apart_ii_t0 (gt x0 s0.c4) 0 (tbE h3)), .b (tbE h4), .b (tbE h5)] (by kernel_rfl)
          · intro g0
            exact absurd g0 ft
        · intro _
          exact round_walk [.b (tbE h1), .m 16 (o_idx_so (m := [(Blk.flat 3 1 (List.map (encI .i64) x0) x1)]) (b := x4) (id := 0) (n := x0.length) (s := 1) (k := .i64) (by kernel_rfl) (tbE h2)), .m 17 (o_load_L (m := [(Blk.flat 3 1 (List.map (encI .i64) x0) x1)]) (enc := (encI .i64)) (l := x0) (id := 0) (e := 3) (s := 1) (off := 0) (size := 1) (p := x1) (agg := false) (i := s0.c4) (v := (V.d (.int .i64 (gt x0 s0.c4)))) (n := x0.length) (Nat.beq_refl _) (by kernel_rfl) (tbE h2) (by kernel_rfl)), .c (fix_Apart_ii_t0 (gt x0 s0.c4) 0 (tbE h3)), .b (tbE h4)] (by kernel_rfl)
def parity_Suspect_oi_L0_c0 (x0 : List Int) (x5 : Int) (s0 : parity_Suspect_oi_L0_s0) : Bool := (bif tb (decide (s0.c4 < x5)) then (bif tb (inb x0.length s0.c4) then (bif tb (fix_Apart_ii_c0 (gt x0 s0.c4) 0) then true else false) else false) else false)
def parity_Suspect_oi_L0_c1 (x5 : Int) (s0 : parity_Suspect_oi_L0_s0) : Bool := (bif tb (decide (s0.c4 < x5)) then false else true)
theorem parity_Suspect_oi_L0_x0 (x0 : List Int) (x1 : Bool) (x2 : Int) (x3 : Int) (x4 : Bool) (x5 : Int) (x6 : Int) (s0 : parity_Suspect_oi_L0_s0) : parity_Suspect_oi_L0_sel x0 x2 x5 s0 = false → parity_Suspect_oi_L0_c0 x0 x5 s0 = true → (roundG (runC E0 (cl E0) L61_0) [1, 5, 11, 12, 13] [4, 5] 1) (parity_Suspect_oi_L0_enc x0 x1 x2 x3 x4 x5 x6 s0) = some (.ret, ([(V.d (.int .i64 (-1))), (V.d (.int .i64 s0.c1))], [(Blk.flat 3 1 (List.map (encI .i64) x0) x1)])) := by
  unfold parity_Suspect_oi_L0_sel parity_Suspect_oi_L0_c0
  cases h1 : tb (decide (s0.c4 < x5))
  · intro g0 g1
    exact absurd g1 ft
  · cases h2 : tb (inb x0.length s0.c4)
    · intro g0 g1
      exact absurd g1 ft
    · cases h3 : tb (fix_Apart_ii_c0 (gt x0 s0.c4) 0)
      · intro g0 g1
        exact absurd g1 ft
      · cases h4 : tb (decide ((fix_Apart_ii_r0_0 (gt x0 s0.c4) 0) ≤ x2))
        · cases h5 : tb (decide (0 ≤ s0.c1))
          · intro g0 g1
            exact absurd g0 tf
          · intro g0 g1
            exact round_walk [.b (tbE h1), .m 16 (o_idx_so (m := [(Blk.flat 3 1 (List.map (encI .i64) x0) x1)]) (b := x4) (id := 0) (n := x0.length) (s := 1) (k := .i64) (by kernel_rfl) (tbE h2)), .m 17 (o_load_L (m := [(Blk.flat 3 1 (List.map (encI .i64) x0) x1)]) (enc := (encI .i64)) (l := x0) (id := 0) (e := 3) (s := 1) (off := 0) (size := 1) (p := x1) (agg := false) (i := s0.c4) (v := (V.d (.int .i64 (gt x0 s0.c4)))) (n := x0.length) (Nat.beq_refl _) (by kernel_rfl) (tbE h2) (by kernel_rfl)), .c (fix_Apart_ii_t0 (gt x0 s0.c4) 0 (tbE h3)), .b (tbE h4), .b (tbE h5)] (by kernel_rfl)
        · intro g0 g1
          exact absurd g0 tf
theorem parity_Suspect_oi_L0_x1 (x0 : List Int) (x1 : Bool) (x2 : Int) (x3 : Int) (x4 : Bool) (x5 : Int) (x6 : Int) (s0 : parity_Suspect_oi_L0_s0) : parity_Suspect_oi_L0_sel x0 x2 x5 s0 = false → parity_Suspect_oi_L0_c0 x0 x5 s0 = false → parity_Suspect_oi_L0_c1 x5 s0 = true → (roundG (runC E0 (cl E0) L61_0) [1, 5, 11, 12, 13] [4, 5] 1) (parity_Suspect_oi_L0_enc x0 x1 x2 x3 x4 x5 x6 s0) = some ((.exit 0), ([V.un, (V.d (.int .i64 s0.c1))], [(Blk.flat 3 1 (List.map (encI .i64) x0) x1)])) := by
  unfold parity_Suspect_oi_L0_sel parity_Suspect_oi_L0_c0 parity_Suspect_oi_L0_c1
  cases h1 : tb (decide (s0.c4 < x5))
  · intro g0 g1 g2
    exact round_walk [.b (tbE h1)] (by kernel_rfl)
  · cases h2 : tb (inb x0.length s0.c4)
    · intro g0 g1 g2
      exact absurd g2 ft
    · cases h3 : tb (fix_Apart_ii_c0 (gt x0 s0.c4) 0)
      · intro g0 g1 g2
        exact absurd g2 ft
      · cases h4 : tb (decide ((fix_Apart_ii_r0_0 (gt x0 s0.c4) 0) ≤ x2))
        · cases h5 : tb (decide (0 ≤ s0.c1))
          · intro g0 g1 g2
            exact absurd g0 tf
          · intro g0 g1 g2
            exact absurd g1 tf
        · intro g0 g1 g2
          exact absurd g0 tf
theorem parity_Suspect_oi_L0_f0_0 (x0 : List Int) (x1 : Bool) (x2 : Int) (x3 : Int) (x4 : Bool) (x5 : Int) (x6 : Int) (s : parity_Suspect_oi_L0_s0) (hok : parity_Suspect_oi_L0_ok x0 x2 x5 s = true) (c0 : parity_Suspect_oi_L0_c0 x0 x5 (parity_Suspect_oi_L0_end x0 x2 x5 s) = true) : loopG (roundG (runC E0 (cl E0) L61_0) [1, 5, 11, 12, 13] [4, 5] 1) bound (parity_Suspect_oi_L0_enc x0 x1 x2 x3 x4 x5 x6 s) = some (.ret, ([(V.d (.int .i64 (-1))), (V.d (.int .i64 ((parity_Suspect_oi_L0_end x0 x2 x5 s).c1)))], [(Blk.flat 3 1 (List.map (encI .i64) x0) x1)])) := by
  have e : itS (parity_Suspect_oi_L0_sel x0 x2 x5) (parity_Suspect_oi_L0_nx x0 x2 x5) bound s = some (parity_Suspect_oi_L0_end x0 x2 x5 s) := itS_get hok
  have f := itS_false e
  exact loop_it (parity_Suspect_oi_L0_go x0 x1 x2 x3 x4 x5 x6) bound s _ _ _ e (fun h => by cases h) (parity_Suspect_oi_L0_x0 x0 x1 x2 x3 x4 x5 x6 (parity_Suspect_oi_L0_end x0 x2 x5 s) f c0)
theorem parity_Suspect_oi_L0_f0_1 (x0 : List Int) (x1 : Bool) (x2 : Int) (x3 : Int) (x4 : Bool) (x5 : Int) (x6 : Int) (s : parity_Suspect_oi_L0_s0) (hok : parity_Suspect_oi_L0_ok x0 x2 x5 s = true) (c0 : parity_Suspect_oi_L0_c0 x0 x5 (parity_Suspect_oi_L0_end x0 x2 x5 s) = false) (c1 : parity_Suspect_oi_L0_c1 x5 (parity_Suspect_oi_L0_end x0 x2 x5 s) = true) : loopG (roundG (runC E0 (cl E0) L61_0) [1, 5, 11, 12, 13] [4, 5] 1) bound (parity_Suspect_oi_L0_enc x0 x1 x2 x3 x4 x5 x6 s) = some ((.exit 0), ([V.un, (V.d (.int .i64 ((parity_Suspect_oi_L0_end x0 x2 x5 s).c1)))], [(Blk.flat 3 1 (List.map (encI .i64) x0) x1)])) := by
  have e : itS (parity_Suspect_oi_L0_sel x0 x2 x5) (parity_Suspect_oi_L0_nx x0 x2 x5) bound s = some (parity_Suspect_oi_L0_end x0 x2 x5 s) := itS_get hok
  have f := itS_false e
  exact loop_it (parity_Suspect_oi_L0_go x0 x1 x2 x3 x4 x5 x6) bound s _ _ _ e (fun h => by cases h) (parity_Suspect_oi_L0_x1 x0 x1 x2 x3 x4 x5 x6 (parity_Suspect_oi_L0_end x0 x2 x5 s) f c0 c1)
structure parity_Suspect_oi_L0_1_s0 where
  c1 : Int
  c5 : Int
  deriving Inhabited
def parity_Suspect_oi_L0_1_enc (x0 : List Int) (x1 : Bool) (x2 : Int) (x3 : Int) (x4 : Bool) (x5 : Nat) (x6 : Int) (x7 : Int) (s0 : parity_Suspect_oi_L0_1_s0) : List V × Mem := ([(V.d (.int .i64 x2)), (V.d (.int .i64 s0.c1)), (V.so x4 0 x5), (V.d (.int .i64 x6)), (V.d (.int .i64 s0.c5))], [(Blk.flat 3 1 (List.map (encI .i64) x0) x1)])
def parity_Suspect_oi_L0_1_sel (x0 : List Int) (x2 : Int) (x5 : Nat) (x6 : Int) (s0 : parity_Suspect_oi_L0_1_s0) : Bool := (bif tb (decide (s0.c5 < x6)) then (bif tb (inb x5 s0.c5) then (bif tb (Nat.beq x5 x0.length) then (bif tb (fix_Apart_ii_c0 (gt x0 s0.c5) 0) then (bif tb (decide ((fix_Apart_ii_r0_0 (gt x0 s0.c5) 0) ≤ x2)) then true else (bif tb (decide (0 ≤ s0.c1)) then false else true)) else false) else false) else false) else false)
def parity_Suspect_oi_L0_1_nx (x0 : List Int) (x2 : Int) (x5 : Nat) (x6 : Int) (s0 : parity_Suspect_oi_L0_1_s0) : parity_Suspect_oi_L0_1_s0 := ⟨(bif tb (decide ((fix_Apart_ii_r0_0 (gt x0 s0.c5) 0) ≤ x2)) then s0.c1 else s0.c5), (wi (s0.c5 + 1))⟩
def parity_Suspect_oi_L0_1_ok (x0 : List Int) (x2 : Int) (x5 : Nat) (x6 : Int) (s0 : parity_Suspect_oi_L0_1_s0) : Bool := (itS (parity_Suspect_oi_L0_1_sel x0 x2 x5 x6) (parity_Suspect_oi_L0_1_nx x0 x2 x5 x6) bound s0).isSome
def parity_Suspect_oi_L0_1_end (x0 : List Int) (x2 : Int) (x5 : Nat) (x6 : Int) (s0 : parity_Suspect_oi_L0_1_s0) : parity_Suspect_oi_L0_1_s0 := (itS (parity_Suspect_oi_L0_1_sel x0 x2 x5 x6) (parity_Suspect_oi_L0_1_nx x0 x2 x5 x6) bound s0).getD default
theorem parity_Suspect_oi_L0_1_go (x0 : List Int) (x1 : Bool) (x2 : Int) (x3 : Int) (x4 : Bool) (x5 : Nat) (x6 : Int) (x7 : Int) (s0 : parity_Suspect_oi_L0_1_s0) : parity_Suspect_oi_L0_1_sel x0 x2 x5 x6 s0 = true → (roundG (runC E0 (cl E0) L61_0) [1, 5, 11, 12, 13] [4, 5] 1) (parity_Suspect_oi_L0_1_enc x0 x1 x2 x3 x4 x5 x6 x7 s0) = some (.normal, parity_Suspect_oi_L0_1_enc x0 x1 x2 x3 x4 x5 x6 x7 (parity_Suspect_oi_L0_1_nx x0 x2 x5 x6 s0)) := by
  unfold parity_Suspect_oi_L0_1_sel parity_Suspect_oi_L0_1_nx
  cases h1 : tb (decide (s0.c5 < x6))
  · intro g0
    exact absurd g0 ft
  · cases h2 : tb (inb x5 s0.c5)
    · intro g0
      exact absurd g0 ft
    · cases h3 : tb (Nat.beq x5 x0.length)
      · intro g0
        exact absurd g0 ft
      · cases h4 : tb (fix_Apart_ii_c0 (gt x0 s0.c5) 0)
        · intro g0
          exact absurd g0 ft
        · cases h5 : tb (decide ((fix_Apart_ii_r0_0 (gt x0 s0.c5) 0) ≤ x2))
          · cases h6 : tb (decide (0 ≤ s0.c1))
            · intro _
              exact round_walk [.b (tbE h1), .m 16 (o_idx_so (m := [(Blk.flat 3 1 (List.map (encI .i64) x0) x1)]) (b := x4) (id := 0) (n := x5) (s := 1) (k := .i64) (by kernel_rfl) (tbE h2)), .m 17 (o_load_L (m := [(Blk.flat 3 1 (List.map (encI .i64) x0) x1)]) (enc := (encI .i64)) (l := x0) (id := 0) (e := 3) (s := 1) (off := 0) (size := 1) (p := x1) (agg := false) (i := s0.c5) (v := (V.d (.int .i64 (gt x0 s0.c5)))) (n := x5) (tbE h3) (by kernel_rfl) (tbE h2) (by kernel_rfl)), .c (fix_Apart_ii_t0 (gt x0 s0.c5) 0 (tbE h4)), .b (tbE h5), .b (tbE h6)] (by kernel_rfl)
            · intro g0
              exact absurd g0 ft
          · intro _
            exact round_walk [.b (tbE h1), .m 16 (o_idx_so (m := [(Blk.flat 3 1 (List.map (encI .i64) x0) x1)]) (b := x4) (id := 0) (n := x5) (s := 1) (k := .i64) (by kernel_rfl) (tbE h2)), .m 17 (o_load_L (m := [(Blk.flat 3 1 (List.map (encI .i64) x0) x1)]) (enc := (encI .i64)) (l := x0) (id := 0) (e := 3) (s := 1) (off := 0) (size := 1) (p := x1) (agg := false) (i := s0.c5) (v := (V.d (.int .i64 (gt x0 s0.c5)))) (n := x5) (tbE h3) (by kernel_rfl) (tbE h2) (by kernel_rfl)), .c (fix_Apart_ii_t0 (gt x0 s0.c5) 0 (tbE h4)), .b (tbE h5)] (by kernel_rfl)
def parity_Suspect_oi_L0_1_c0 (x0 : List Int) (x5 : Nat) (x6 : Int) (s0 : parity_Suspect_oi_L0_1_s0) : Bool := (bif tb (decide (s0.c5 < x6)) then (bif tb (inb x5 s0.c5) then (bif tb (Nat.beq x5 x0.length) then (bif tb (fix_Apart_ii_c0 (gt x0 s0.c5) 0) then true else false) else false) else false) else false)
def parity_Suspect_oi_L0_1_c1 (x6 : Int) (s0 : parity_Suspect_oi_L0_1_s0) : Bool := (bif tb (decide (s0.c5 < x6)) then false else true)
theorem parity_Suspect_oi_L0_1_x0 (x0 : List Int) (x1 : Bool) (x2 : Int) (x3 : Int) (x4 : Bool) (x5 : Nat) (x6 : Int) (x7 : Int) (s0 : parity_Suspect_oi_L0_1_s0) : parity_Suspect_oi_L0_1_sel x0 x2 x5 x6 s0 = false → parity_Suspect_oi_L0_1_c0 x0 x5 x6 s0 = true → (roundG (runC E0 (cl E0) L61_0) [1, 5, 11, 12, 13] [4, 5] 1) (parity_Suspect_oi_L0_1_enc x0 x1 x2 x3 x4 x5 x6 x7 s0) = some (.ret, ([(V.d (.int .i64 (-1))), (V.d (.int .i64 s0.c1))], [(Blk.flat 3 1 (List.map (encI .i64) x0) x1)])) := by
  unfold parity_Suspect_oi_L0_1_sel parity_Suspect_oi_L0_1_c0
  cases h1 : tb (decide (s0.c5 < x6))
  · intro g0 g1
    exact absurd g1 ft
  · cases h2 : tb (inb x5 s0.c5)
    · intro g0 g1
      exact absurd g1 ft
    · cases h3 : tb (Nat.beq x5 x0.length)
      · intro g0 g1
        exact absurd g1 ft
      · cases h4 : tb (fix_Apart_ii_c0 (gt x0 s0.c5) 0)
        · intro g0 g1
          exact absurd g1 ft
        · cases h5 : tb (decide ((fix_Apart_ii_r0_0 (gt x0 s0.c5) 0) ≤ x2))
          · cases h6 : tb (decide (0 ≤ s0.c1))
            · intro g0 g1
              exact absurd g0 tf
            · intro g0 g1
              exact round_walk [.b (tbE h1), .m 16 (o_idx_so (m := [(Blk.flat 3 1 (List.map (encI .i64) x0) x1)]) (b := x4) (id := 0) (n := x5) (s := 1) (k := .i64) (by kernel_rfl) (tbE h2)), .m 17 (o_load_L (m := [(Blk.flat 3 1 (List.map (encI .i64) x0) x1)]) (enc := (encI .i64)) (l := x0) (id := 0) (e := 3) (s := 1) (off := 0) (size := 1) (p := x1) (agg := false) (i := s0.c5) (v := (V.d (.int .i64 (gt x0 s0.c5)))) (n := x5) (tbE h3) (by kernel_rfl) (tbE h2) (by kernel_rfl)), .c (fix_Apart_ii_t0 (gt x0 s0.c5) 0 (tbE h4)), .b (tbE h5), .b (tbE h6)] (by kernel_rfl)
          · intro g0 g1
            exact absurd g0 tf
theorem parity_Suspect_oi_L0_1_x1 (x0 : List Int) (x1 : Bool) (x2 : Int) (x3 : Int) (x4 : Bool) (x5 : Nat) (x6 : Int) (x7 : Int) (s0 : parity_Suspect_oi_L0_1_s0) : parity_Suspect_oi_L0_1_sel x0 x2 x5 x6 s0 = false → parity_Suspect_oi_L0_1_c0 x0 x5 x6 s0 = false → parity_Suspect_oi_L0_1_c1 x6 s0 = true → (roundG (runC E0 (cl E0) L61_0) [1, 5, 11, 12, 13] [4, 5] 1) (parity_Suspect_oi_L0_1_enc x0 x1 x2 x3 x4 x5 x6 x7 s0) = some ((.exit 0), ([V.un, (V.d (.int .i64 s0.c1))], [(Blk.flat 3 1 (List.map (encI .i64) x0) x1)])) := by
  unfold parity_Suspect_oi_L0_1_sel parity_Suspect_oi_L0_1_c0 parity_Suspect_oi_L0_1_c1
  cases h1 : tb (decide (s0.c5 < x6))
  · intro g0 g1 g2
    exact round_walk [.b (tbE h1)] (by kernel_rfl)
  · cases h2 : tb (inb x5 s0.c5)
    · intro g0 g1 g2
      exact absurd g2 ft
    · cases h3 : tb (Nat.beq x5 x0.length)
      · intro g0 g1 g2
        exact absurd g2 ft
      · cases h4 : tb (fix_Apart_ii_c0 (gt x0 s0.c5) 0)
        · intro g0 g1 g2
          exact absurd g2 ft
        · cases h5 : tb (decide ((fix_Apart_ii_r0_0 (gt x0 s0.c5) 0) ≤ x2))
          · cases h6 : tb (decide (0 ≤ s0.c1))
            · intro g0 g1 g2
              exact absurd g0 tf
            · intro g0 g1 g2
              exact absurd g1 tf
          · intro g0 g1 g2
            exact absurd g0 tf
theorem parity_Suspect_oi_L0_1_f0_0 (x0 : List Int) (x1 : Bool) (x2 : Int) (x3 : Int) (x4 : Bool) (x5 : Nat) (x6 : Int) (x7 : Int) (s : parity_Suspect_oi_L0_1_s0) (hok : parity_Suspect_oi_L0_1_ok x0 x2 x5 x6 s = true) (c0 : parity_Suspect_oi_L0_1_c0 x0 x5 x6 (parity_Suspect_oi_L0_1_end x0 x2 x5 x6 s) = true) : loopG (roundG (runC E0 (cl E0) L61_0) [1, 5, 11, 12, 13] [4, 5] 1) bound (parity_Suspect_oi_L0_1_enc x0 x1 x2 x3 x4 x5 x6 x7 s) = some (.ret, ([(V.d (.int .i64 (-1))), (V.d (.int .i64 ((parity_Suspect_oi_L0_1_end x0 x2 x5 x6 s).c1)))], [(Blk.flat 3 1 (List.map (encI .i64) x0) x1)])) := by
  have e : itS (parity_Suspect_oi_L0_1_sel x0 x2 x5 x6) (parity_Suspect_oi_L0_1_nx x0 x2 x5 x6) bound s = some (parity_Suspect_oi_L0_1_end x0 x2 x5 x6 s) := itS_get hok
  have f := itS_false e
  exact loop_it (parity_Suspect_oi_L0_1_go x0 x1 x2 x3 x4 x5 x6 x7) bound s _ _ _ e (fun h => by cases h) (parity_Suspect_oi_L0_1_x0 x0 x1 x2 x3 x4 x5 x6 x7 (parity_Suspect_oi_L0_1_end x0 x2 x5 x6 s) f c0)
theorem parity_Suspect_oi_L0_1_f0_1 (x0 : List Int) (x1 : Bool) (x2 : Int) (x3 : Int) (x4 : Bool) (x5 : Nat) (x6 : Int) (x7 : Int) (s : parity_Suspect_oi_L0_1_s0) (hok : parity_Suspect_oi_L0_1_ok x0 x2 x5 x6 s = true) (c0 : parity_Suspect_oi_L0_1_c0 x0 x5 x6 (parity_Suspect_oi_L0_1_end x0 x2 x5 x6 s) = false) (c1 : parity_Suspect_oi_L0_1_c1 x6 (parity_Suspect_oi_L0_1_end x0 x2 x5 x6 s) = true) : loopG (roundG (runC E0 (cl E0) L61_0) [1, 5, 11, 12, 13] [4, 5] 1) bound (parity_Suspect_oi_L0_1_enc x0 x1 x2 x3 x4 x5 x6 x7 s) = some ((.exit 0), ([V.un, (V.d (.int .i64 ((parity_Suspect_oi_L0_1_end x0 x2 x5 x6 s).c1)))], [(Blk.flat 3 1 (List.map (encI .i64) x0) x1)])) := by
  have e : itS (parity_Suspect_oi_L0_1_sel x0 x2 x5 x6) (parity_Suspect_oi_L0_1_nx x0 x2 x5 x6) bound s = some (parity_Suspect_oi_L0_1_end x0 x2 x5 x6 s) := itS_get hok
  have f := itS_false e
  exact loop_it (parity_Suspect_oi_L0_1_go x0 x1 x2 x3 x4 x5 x6 x7) bound s _ _ _ e (fun h => by cases h) (parity_Suspect_oi_L0_1_x1 x0 x1 x2 x3 x4 x5 x6 x7 (parity_Suspect_oi_L0_1_end x0 x2 x5 x6 s) f c0 c1)
def parity_Suspect_oi_S1_e0 (x2 : Int) : parity_Suspect_oi_L0_s0 := parity_Suspect_oi_L0_end ([] : List Int) x2 0 (⟨(-1), 0⟩ : parity_Suspect_oi_L0_s0)
def parity_Suspect_oi_S1_e1 (x0 : Bool) (x1 : List Int) : List Int := ((parity_Residues_o_S2_e0 (List.replicate ((x1.length : Nat) : Int).toNat (0 : Int)) x0 x1).c7)
def parity_Suspect_oi_S1_e2 (x1 : List Int) : Nat := ((List.replicate ((x1.length : Nat) : Int).toNat (0 : Int)).length)
def parity_Suspect_oi_S1_e3 (x1 : List Int) : Int := ((((List.replicate ((x1.length : Nat) : Int).toNat (0 : Int)).length) : Nat) : Int)
def parity_Suspect_oi_S1_e4 (x0 : Bool) (x1 : List Int) (x2 : Int) : parity_Suspect_oi_L0_1_s0 := parity_Suspect_oi_L0_1_end (parity_Suspect_oi_S1_e1 x0 x1) x2 (parity_Suspect_oi_S1_e2 x1) (parity_Suspect_oi_S1_e3 x1) (⟨(-1), 0⟩ : parity_Suspect_oi_L0_1_s0)
def parity_Suspect_oi_S1_c0 (x0 : Bool) (x1 : List Int) (x2 : Int) : Bool := (bif tb (parity_Residues_o_c0 x1) then (bif tb (parity_Suspect_oi_L0_ok ([] : List Int) x2 0 (⟨(-1), 0⟩ : parity_Suspect_oi_L0_s0)) then (bif tb (parity_Suspect_oi_L0_c0 ([] : List Int) 0 (parity_Suspect_oi_S1_e0 x2)) then true else false) else false) else (bif tb (parity_Residues_o_c1 x0 x1) then (bif tb (parity_Suspect_oi_L0_1_ok (parity_Suspect_oi_S1_e1 x0 x1) x2 (parity_Suspect_oi_S1_e2 x1) (parity_Suspect_oi_S1_e3 x1) (⟨(-1), 0⟩ : parity_Suspect_oi_L0_1_s0)) then (bif tb (parity_Suspect_oi_L0_1_c0 (parity_Suspect_oi_S1_e1 x0 x1) (parity_Suspect_oi_S1_e2 x1) (parity_Suspect_oi_S1_e3 x1) (parity_Suspect_oi_S1_e4 x0 x1 x2)) then true else false) else false) else false))
def parity_Suspect_oi_S1_c1 (x0 : Bool) (x1 : List Int) (x2 : Int) : Bool := (bif tb (parity_Residues_o_c0 x1) then (bif tb (parity_Suspect_oi_L0_ok ([] : List Int) x2 0 (⟨(-1), 0⟩ : parity_Suspect_oi_L0_s0)) then (bif tb (parity_Suspect_oi_L0_c0 ([] : List Int) 0 (parity_Suspect_oi_S1_e0 x2)) then false else (bif tb (parity_Suspect_oi_L0_c1 0 (parity_Suspect_oi_S1_e0 x2)) then true else false)) else false) else (bif tb (parity_Residues_o_c1 x0 x1) then (bif tb (parity_Suspect_oi_L0_1_ok (parity_Suspect_oi_S1_e1 x0 x1) x2 (parity_Suspect_oi_S1_e2 x1) (parity_Suspect_oi_S1_e3 x1) (⟨(-1), 0⟩ : parity_Suspect_oi_L0_1_s0)) then (bif tb (parity_Suspect_oi_L0_1_c0 (parity_Suspect_oi_S1_e1 x0 x1) (parity_Suspect_oi_S1_e2 x1) (parity_Suspect_oi_S1_e3 x1) (parity_Suspect_oi_S1_e4 x0 x1 x2)) then false else (bif tb (parity_Suspect_oi_L0_1_c1 (parity_Suspect_oi_S1_e3 x1) (parity_Suspect_oi_S1_e4 x0 x1 x2)) then true else false)) else false) else false))
def parity_Suspect_oi_S1_r1_0 (x0 : Bool) (x1 : List Int) (x2 : Int) : Int := (bif tb (parity_Residues_o_c0 x1) then ((parity_Suspect_oi_S1_e0 x2).c1) else ((parity_Suspect_oi_S1_e4 x0 x1 x2).c1))
theorem parity_Suspect_oi_S1_t0 (x0 : Bool) (x1 : List Int) (x2 : Int) : parity_Suspect_oi_S1_c0 x0 x1 x2 = true → segG (runC E0 (cl E0) S61_1) [0, 1, 5] [4] [5] 0 ([(V.d (slD (encI .i64) true 1 x0 x1)), (V.d (.int .i64 x2)), (V.d (.int .i64 (-1)))], []) = some (.ret, ([(V.d (.int .i64 (-1)))], [])) := by
  unfold parity_Suspect_oi_S1_c0
  cases h1 : tb (parity_Residues_o_c0 x1)
  · cases h2 : tb (parity_Residues_o_c1 x0 x1)
    · intro g0
      exact absurd g0 ft
    · cases h3 : tb (parity_Suspect_oi_L0_1_ok (parity_Suspect_oi_S1_e1 x0 x1) x2 (parity_Suspect_oi_S1_e2 x1) (parity_Suspect_oi_S1_e3 x1) (⟨(-1), 0⟩ : parity_Suspect_oi_L0_1_s0))
      · intro g0
        exact absurd g0 ft
      · cases h4 : tb (parity_Suspect_oi_L0_1_c0 (parity_Suspect_oi_S1_e1 x0 x1) (parity_Suspect_oi_S1_e2 x1) (parity_Suspect_oi_S1_e3 x1) (parity_Suspect_oi_S1_e4 x0 x1 x2))
        · cases h5 : tb (parity_Suspect_oi_L0_1_c1 (parity_Suspect_oi_S1_e3 x1) (parity_Suspect_oi_S1_e4 x0 x1 x2))
          · intro g0
            exact absurd g0 ft
          · intro g0
            exact absurd g0 ft
        · intro g0
          exact seg_walk [.c (parity_Residues_o_t1 x0 x1 (tbE h1) (tbE h2)), .l (parity_Suspect_oi_L0_1_f0_0 (parity_Suspect_oi_S1_e1 x0 x1) false x2 (-1) false (parity_Suspect_oi_S1_e2 x1) (parity_Suspect_oi_S1_e3 x1) 0 (⟨(-1), 0⟩ : parity_Suspect_oi_L0_1_s0) (tbE h3) (tbE h4))] (by kernel_rfl)
  · cases h2 : tb (parity_Suspect_oi_L0_ok ([] : List Int) x2 0 (⟨(-1), 0⟩ : parity_Suspect_oi_L0_s0))
    · intro g0
      exact absurd g0 ft
    · cases h3 : tb (parity_Suspect_oi_L0_c0 ([] : List Int) 0 (parity_Suspect_oi_S1_e0 x2))
      · cases h4 : tb (parity_Suspect_oi_L0_c1 0 (parity_Suspect_oi_S1_e0 x2))
        · intro g0
          exact absurd g0 ft
        · intro g0
          exact absurd g0 ft
      · intro g0
        exact seg_walk [.c (parity_Residues_o_t0 x0 x1 (tbE h1)), .l (parity_Suspect_oi_L0_f0_0 ([] : List Int) false x2 (-1) true 0 0 (⟨(-1), 0⟩ : parity_Suspect_oi_L0_s0) (tbE h2) (tbE h3))] (by kernel_rfl)
theorem parity_Suspect_oi_S1_t1 (x0 : Bool) (x1 : List Int) (x2 : Int) : parity_Suspect_oi_S1_c0 x0 x1 x2 = false → parity_Suspect_oi_S1_c1 x0 x1 x2 = true → segG (runC E0 (cl E0) S61_1) [0, 1, 5] [4] [5] 0 ([(V.d (slD (encI .i64) true 1 x0 x1)), (V.d (.int .i64 x2)), (V.d (.int .i64 (-1)))], []) = some (.normal, ([(V.d (.int .i64 (parity_Suspect_oi_S1_r1_0 x0 x1 x2)))], [])) := by
  unfold parity_Suspect_oi_S1_c0 parity_Suspect_oi_S1_c1 parity_Suspect_oi_S1_r1_0
  cases h1 : tb (parity_Residues_o_c0 x1)
  · cases h2 : tb (parity_Residues_o_c1 x0 x1)
    · intro g0 g1
      exact absurd g1 ft
    · cases h3 : tb (parity_Suspect_oi_L0_1_ok (parity_Suspect_oi_S1_e1 x0 x1) x2 (parity_Suspect_oi_S1_e2 x1) (parity_Suspect_oi_S1_e3 x1) (⟨(-1), 0⟩ : parity_Suspect_oi_L0_1_s0))
      · intro g0 g1
        exact absurd g1 ft
      · cases h4 : tb (parity_Suspect_oi_L0_1_c0 (parity_Suspect_oi_S1_e1 x0 x1) (parity_Suspect_oi_S1_e2 x1) (parity_Suspect_oi_S1_e3 x1) (parity_Suspect_oi_S1_e4 x0 x1 x2))
        · cases h5 : tb (parity_Suspect_oi_L0_1_c1 (parity_Suspect_oi_S1_e3 x1) (parity_Suspect_oi_S1_e4 x0 x1 x2))
          · intro g0 g1
            exact absurd g1 ft
          · intro g0 g1
            exact seg_walk [.c (parity_Residues_o_t1 x0 x1 (tbE h1) (tbE h2)), .l (parity_Suspect_oi_L0_1_f0_1 (parity_Suspect_oi_S1_e1 x0 x1) false x2 (-1) false (parity_Suspect_oi_S1_e2 x1) (parity_Suspect_oi_S1_e3 x1) 0 (⟨(-1), 0⟩ : parity_Suspect_oi_L0_1_s0) (tbE h3) (tbE h4) (tbE h5))] (by kernel_rfl)
        · intro g0 g1
          exact absurd g0 tf
  · cases h2 : tb (parity_Suspect_oi_L0_ok ([] : List Int) x2 0 (⟨(-1), 0⟩ : parity_Suspect_oi_L0_s0))
    · intro g0 g1
      exact absurd g1 ft
    · cases h3 : tb (parity_Suspect_oi_L0_c0 ([] : List Int) 0 (parity_Suspect_oi_S1_e0 x2))
      · cases h4 : tb (parity_Suspect_oi_L0_c1 0 (parity_Suspect_oi_S1_e0 x2))
        · intro g0 g1
          exact absurd g1 ft
        · intro g0 g1
          exact seg_walk [.c (parity_Residues_o_t0 x0 x1 (tbE h1)), .l (parity_Suspect_oi_L0_f0_1 ([] : List Int) false x2 (-1) true 0 0 (⟨(-1), 0⟩ : parity_Suspect_oi_L0_s0) (tbE h2) (tbE h3) (tbE h4))] (by kernel_rfl)
      · intro g0 g1
        exact absurd g0 tf
def parity_Suspect_oi_c0 (x0 : Bool) (x1 : List Int) (x2 : Int) : Bool := (bif tb (decide (x2 < 0)) then true else (bif tb (parity_Suspect_oi_S1_c0 x0 x1 x2) then true else (bif tb (parity_Suspect_oi_S1_c1 x0 x1 x2) then true else false)))
def parity_Suspect_oi_r0_0 (x0 : Bool) (x1 : List Int) (x2 : Int) : Int := (bif tb (decide (x2 < 0)) then (-1) else (bif tb (parity_Suspect_oi_S1_c0 x0 x1 x2) then (-1) else (parity_Suspect_oi_S1_r1_0 x0 x1 x2)))
theorem parity_Suspect_oi_t0 (x0 : Bool) (x1 : List Int) (x2 : Int) : parity_Suspect_oi_c0 x0 x1 x2 = true → cl E0 61 [(V.d (slD (encI .i64) true 1 x0 x1)), (V.d (.int .i64 x2))] [] = some ([(V.d (.int .i64 (parity_Suspect_oi_r0_0 x0 x1 x2)))], []) := by
  unfold parity_Suspect_oi_c0 parity_Suspect_oi_r0_0
  cases h1 : tb (decide (x2 < 0))
  · cases h2 : tb (parity_Suspect_oi_S1_c0 x0 x1 x2)
    · cases h3 : tb (parity_Suspect_oi_S1_c1 x0 x1 x2)
      · intro g0
        exact absurd g0 ft
      · intro g0
        exact w61 [.b (tbE h1), .s (parity_Suspect_oi_S1_t1 x0 x1 x2 (tbE h2) (tbE h3))] (by kernel_rfl)
    · intro g0
      exact w61 [.b (tbE h1), .s (parity_Suspect_oi_S1_t0 x0 x1 x2 (tbE h2))] (by kernel_rfl)
  · intro g0
    exact w61 [.b (tbE h1)] (by kernel_rfl)
end Go.Proofs.Ytdlhhoejnhjbhaa.Den

namespace Go.Proofs.Ytdlhhoejnhjbhaa.Den
open Go Go.Proofs
set_option maxRecDepth 100000
set_option maxHeartbeats 4000000
set_option linter.unusedVariables false
set_option linter.unusedSimpArgs false
def law13_ParityFour_S0_c0 (x5 : Int) (x6 : Int) (x7 : Int) (x11 : Int) (x12 : Int) (x13 : Int) (x14 : Int) (x15 : Int) : Bool := (bif tb ((x14 : Int) == 0) then (bif tb (decide ((wi (x11 + x13)) < x15)) then (bif tb (parity_Suspect_oi_c0 false [x15, x5, x6, x7] x13) then true else false) else (bif tb (decide (x15 < (wi (x12 - x13)))) then (bif tb (parity_Suspect_oi_c0 false [x15, x5, x6, x7] x13) then true else false) else (bif tb (decide ((wi ((mxI x15 x11) - (mnI x15 x12))) ≤ x13)) then (bif tb (parity_Suspect_oi_c0 false [x15, x5, x6, x7] x13) then true else false) else false))) else (bif tb ((x14 : Int) == 1) then (bif tb (decide ((wi (x11 + x13)) < x15)) then (bif tb (parity_Suspect_oi_c0 false [x5, x15, x6, x7] x13) then true else false) else (bif tb (decide (x15 < (wi (x12 - x13)))) then (bif tb (parity_Suspect_oi_c0 false [x5, x15, x6, x7] x13) then true else false) else (bif tb (decide ((wi ((mxI x15 x11) - (mnI x15 x12))) ≤ x13)) then (bif tb (parity_Suspect_oi_c0 false [x5, x15, x6, x7] x13) then true else false) else false))) else (bif tb ((x14 : Int) == 2) then (bif tb (decide ((wi (x11 + x13)) < x15)) then (bif tb (parity_Suspect_oi_c0 false [x5, x6, x15, x7] x13) then true else false) else (bif tb (decide (x15 < (wi (x12 - x13)))) then (bif tb (parity_Suspect_oi_c0 false [x5, x6, x15, x7] x13) then true else false) else (bif tb (decide ((wi ((mxI x15 x11) - (mnI x15 x12))) ≤ x13)) then (bif tb (parity_Suspect_oi_c0 false [x5, x6, x15, x7] x13) then true else false) else false))) else (bif tb ((x14 : Int) == 3) then (bif tb (decide ((wi (x11 + x13)) < x15)) then (bif tb (parity_Suspect_oi_c0 false [x5, x6, x7, x15] x13) then true else false) else (bif tb (decide (x15 < (wi (x12 - x13)))) then (bif tb (parity_Suspect_oi_c0 false [x5, x6, x7, x15] x13) then true else false) else (bif tb (decide ((wi ((mxI x15 x11) - (mnI x15 x12))) ≤ x13)) then (bif tb (parity_Suspect_oi_c0 false [x5, x6, x7, x15] x13) then true else false) else false))) else false))))
def law13_ParityFour_S0_r0_0 (x5 : Int) (x6 : Int) (x7 : Int) (x11 : Int) (x12 : Int) (x13 : Int) (x14 : Int) (x15 : Int) : Bool := (bif tb ((x14 : Int) == 0) then (bif tb (decide ((wi (x11 + x13)) < x15)) then (((parity_Suspect_oi_r0_0 false [x15, x5, x6, x7] x13) : Int) == x14) else (bif tb (decide (x15 < (wi (x12 - x13)))) then (((parity_Suspect_oi_r0_0 false [x15, x5, x6, x7] x13) : Int) == x14) else (((parity_Suspect_oi_r0_0 false [x15, x5, x6, x7] x13) : Int) == (-1)))) else (bif tb ((x14 : Int) == 1) then (bif tb (decide ((wi (x11 + x13)) < x15)) then (((parity_Suspect_oi_r0_0 false [x5, x15, x6, x7] x13) : Int) == x14) else (bif tb (decide (x15 < (wi (x12 - x13)))) then (((parity_Suspect_oi_r0_0 false [x5, x15, x6, x7] x13) : Int) == x14) else (((parity_Suspect_oi_r0_0 false [x5, x15, x6, x7] x13) : Int) == (-1)))) else (bif tb ((x14 : Int) == 2) then (bif tb (decide ((wi (x11 + x13)) < x15)) then (((parity_Suspect_oi_r0_0 false [x5, x6, x15, x7] x13) : Int) == x14) else (bif tb (decide (x15 < (wi (x12 - x13)))) then (((parity_Suspect_oi_r0_0 false [x5, x6, x15, x7] x13) : Int) == x14) else (((parity_Suspect_oi_r0_0 false [x5, x6, x15, x7] x13) : Int) == (-1)))) else (bif tb (decide ((wi (x11 + x13)) < x15)) then (((parity_Suspect_oi_r0_0 false [x5, x6, x7, x15] x13) : Int) == x14) else (bif tb (decide (x15 < (wi (x12 - x13)))) then (((parity_Suspect_oi_r0_0 false [x5, x6, x7, x15] x13) : Int) == x14) else (((parity_Suspect_oi_r0_0 false [x5, x6, x7, x15] x13) : Int) == (-1)))))))
def law13_ParityFour_S0_c1 (x11 : Int) (x12 : Int) (x13 : Int) (x14 : Int) (x15 : Int) : Bool := (bif tb ((x14 : Int) == 0) then (bif tb (decide ((wi (x11 + x13)) < x15)) then false else (bif tb (decide (x15 < (wi (x12 - x13)))) then false else (bif tb (decide ((wi ((mxI x15 x11) - (mnI x15 x12))) ≤ x13)) then false else true))) else (bif tb ((x14 : Int) == 1) then (bif tb (decide ((wi (x11 + x13)) < x15)) then false else (bif tb (decide (x15 < (wi (x12 - x13)))) then false else (bif tb (decide ((wi ((mxI x15 x11) - (mnI x15 x12))) ≤ x13)) then false else true))) else (bif tb ((x14 : Int) == 2) then (bif tb (decide ((wi (x11 + x13)) < x15)) then false else (bif tb (decide (x15 < (wi (x12 - x13)))) then false else (bif tb (decide ((wi ((mxI x15 x11) - (mnI x15 x12))) ≤ x13)) then false else true))) else (bif tb ((x14 : Int) == 3) then (bif tb (decide ((wi (x11 + x13)) < x15)) then false else (bif tb (decide (x15 < (wi (x12 - x13)))) then false else (bif tb (decide ((wi ((mxI x15 x11) - (mnI x15 x12))) ≤ x13)) then false else true))) else false))))
theorem law13_ParityFour_S0_t0 (x0 : Int) (x1 : Int) (x2 : Int) (x3 : Int) (x4 : Int) (x5 : Int) (x6 : Int) (x7 : Int) (x8 : Bool) (x9 : Bool) (x10 : Bool) (x11 : Int) (x12 : Int) (x13 : Int) (x14 : Int) (x15 : Int) : law13_ParityFour_S0_c0 x5 x6 x7 x11 x12 x13 x14 x15 = true → segG (runC E0 (cl E0) S13_0) [10, 11, 12, 13, 14, 15] [6] [] 3 ([(V.so false 2 3), (V.d (.int .i64 x11)), (V.d (.int .i64 x12)), (V.d (.int .i64 x13)), (V.d (.int .i64 x14)), (V.d (.int .i64 x15))], [(Blk.flat 71 3 [[(.int .u16 x0), (.int .u16 x1), (.int .u16 x2)]] x8), (Blk.flat 73 2 [[(.int .i32 x3), (.int .u8 x4)]] x9), (Blk.flat 3 1 [[(.int .i64 x5)], [(.int .i64 x6)], [(.int .i64 x7)]] x10)]) = some (.ret, ([(V.d (.bool (law13_ParityFour_S0_r0_0 x5 x6 x7 x11 x12 x13 x14 x15)))], [(Blk.flat 71 3 [[(.int .u16 x0), (.int .u16 x1), (.int .u16 x2)]] x8), (Blk.flat 73 2 [[(.int .i32 x3), (.int .u8 x4)]] x9), (Blk.flat 3 1 [[(.int .i64 x5)], [(.int .i64 x6)], [(.int .i64 x7)]] x10)])) := by
  unfold law13_ParityFour_S0_c0 law13_ParityFour_S0_r0_0
  cases h1 : tb ((x14 : Int) == 0)
  · cases h2 : tb ((x14 : Int) == 1)
    · cases h3 : tb ((x14 : Int) == 2)
      · cases h4 : tb ((x14 : Int) == 3)
        · intro g0
          exact absurd g0 ft
        · cases h5 : tb (decide ((wi (x11 + x13)) < x15))
          · cases h6 : tb (decide (x15 < (wi (x12 - x13))))
            · cases h7 : tb (decide ((wi ((mxI x15 x11) - (mnI x15 x12))) ≤ x13))
              · intro g0
                exact absurd g0 ft
              · cases h8 : tb (parity_Suspect_oi_c0 false [x5, x6, x7, x15] x13)
                · intro g0
                  exact absurd g0 ft
                · intro g0
                  exact seg_walk [.m 74 (o_slice_sl1 (m := [(Blk.flat 71 3 [[(.int .u16 x0), (.int .u16 x1), (.int .u16 x2)]] x8), (Blk.flat 73 2 [[(.int .i32 x3), (.int .u8 x4)]] x9), (Blk.flat 3 1 [[(.int .i64 x5)], [(.int .i64 x6)], [(.int .i64 x7)]] x10), (Blk.flat 3 1 [] false)]) (x := (V.so false 2 3)) (id := 2) (n := 3) (off := 0) (len := 3) (s := 1) (by kernel_rfl) none (some (.i64, x14)) 0 3 (by kernel_rfl) (tbE h4) (by kernel_rfl) (by kernel_rfl)), .m 81 (o_slice_sl0 (m := [(Blk.flat 71 3 [[(.int .u16 x0), (.int .u16 x1), (.int .u16 x2)]] x8), (Blk.flat 73 2 [[(.int .i32 x3), (.int .u8 x4)]] x9), (Blk.flat 3 1 [[(.int .i64 x5)], [(.int .i64 x6)], [(.int .i64 x7)]] x10), (Blk.flat 3 1 [[(.int .i64 x5)], [(.int .i64 x6)], [(.int .i64 x7)], [(.int .i64 x15)]] false), (Blk.flat 3 1 [[(.int .i64 x15)]] false)]) (x := (V.so false 2 3)) (id := 2) (n := 3) (off := 0) (len := 3) (s := 1) (v := (V.d (.rs false 1 [] false))) (by kernel_rfl) (some (.i64, x14)) none 3 (tbE h4) (by kernel_rfl) (by kernel_rfl) (by kernel_rfl) (by kernel_rfl)), .b (tbE h5), .b (tbE h6), .b (tbE h7), .c (law13_alive_t0), .k true, .c (parity_Suspect_oi_t0 false [x5, x6, x7, x15] x13 (tbE h8))] (by kernel_rfl)
            · cases h7 : tb (parity_Suspect_oi_c0 false [x5, x6, x7, x15] x13)
              · intro g0
                exact absurd g0 ft
              · intro g0
                exact seg_walk [.m 74 (o_slice_sl1 (m := [(Blk.flat 71 3 [[(.int .u16 x0), (.int .u16 x1), (.int .u16 x2)]] x8), (Blk.flat 73 2 [[(.int .i32 x3), (.int .u8 x4)]] x9), (Blk.flat 3 1 [[(.int .i64 x5)], [(.int .i64 x6)], [(.int .i64 x7)]] x10), (Blk.flat 3 1 [] false)]) (x := (V.so false 2 3)) (id := 2) (n := 3) (off := 0) (len := 3) (s := 1) (by kernel_rfl) none (some (.i64, x14)) 0 3 (by kernel_rfl) (tbE h4) (by kernel_rfl) (by kernel_rfl)), .m 81 (o_slice_sl0 (m := [(Blk.flat 71 3 [[(.int .u16 x0), (.int .u16 x1), (.int .u16 x2)]] x8), (Blk.flat 73 2 [[(.int .i32 x3), (.int .u8 x4)]] x9), (Blk.flat 3 1 [[(.int .i64 x5)], [(.int .i64 x6)], [(.int .i64 x7)]] x10), (Blk.flat 3 1 [[(.int .i64 x5)], [(.int .i64 x6)], [(.int .i64 x7)], [(.int .i64 x15)]] false), (Blk.flat 3 1 [[(.int .i64 x15)]] false)]) (x := (V.so false 2 3)) (id := 2) (n := 3) (off := 0) (len := 3) (s := 1) (v := (V.d (.rs false 1 [] false))) (by kernel_rfl) (some (.i64, x14)) none 3 (tbE h4) (by kernel_rfl) (by kernel_rfl) (by kernel_rfl) (by kernel_rfl)), .b (tbE h5), .b (tbE h6), .c (law13_alive_t0), .k true, .c (parity_Suspect_oi_t0 false [x5, x6, x7, x15] x13 (tbE h7))] (by kernel_rfl)
          · cases h6 : tb (parity_Suspect_oi_c0 false [x5, x6, x7, x15] x13)
            · intro g0
              exact absurd g0 ft
            · intro g0
              exact seg_walk [.m 74 (o_slice_sl1 (m := [(Blk.flat 71 3 [[(.int .u16 x0), (.int .u16 x1), (.int .u16 x2)]] x8), (Blk.flat 73 2 [[(.int .i32 x3), (.int .u8 x4)]] x9), (Blk.flat 3 1 [[(.int .i64 x5)], [(.int .i64 x6)], [(.int .i64 x7)]] x10), (Blk.flat 3 1 [] false)]) (x := (V.so false 2 3)) (id := 2) (n := 3) (off := 0) (len := 3) (s := 1) (by kernel_rfl) none (some (.i64, x14)) 0 3 (by kernel_rfl) (tbE h4) (by kernel_rfl) (by kernel_rfl)), .m 81 (o_slice_sl0 (m := [(Blk.flat 71 3 [[(.int .u16 x0), (.int .u16 x1), (.int .u16 x2)]] x8), (Blk.flat 73 2 [[(.int .i32 x3), (.int .u8 x4)]] x9), (Blk.flat 3 1 [[(.int .i64 x5)], [(.int .i64 x6)], [(.int .i64 x7)]] x10), (Blk.flat 3 1 [[(.int .i64 x5)], [(.int .i64 x6)], [(.int .i64 x7)], [(.int .i64 x15)]] false), (Blk.flat 3 1 [[(.int .i64 x15)]] false)]) (x := (V.so false 2 3)) (id := 2) (n := 3) (off := 0) (len := 3) (s := 1) (v := (V.d (.rs false 1 [] false))) (by kernel_rfl) (some (.i64, x14)) none 3 (tbE h4) (by kernel_rfl) (by kernel_rfl) (by kernel_rfl) (by kernel_rfl)), .b (tbE h5), .c (law13_alive_t0), .k true, .c (parity_Suspect_oi_t0 false [x5, x6, x7, x15] x13 (tbE h6))] (by kernel_rfl)
      · cases h4 : tb (decide ((wi (x11 + x13)) < x15))
        · cases h5 : tb (decide (x15 < (wi (x12 - x13))))
          · cases h6 : tb (decide ((wi ((mxI x15 x11) - (mnI x15 x12))) ≤ x13))
            · intro g0
              exact absurd g0 ft
            · cases h7 : tb (parity_Suspect_oi_c0 false [x5, x6, x15, x7] x13)
              · intro g0
                exact absurd g0 ft
              · intro g0
                exact seg_walk [.m 74 (o_slice_sl1 (m := [(Blk.flat 71 3 [[(.int .u16 x0), (.int .u16 x1), (.int .u16 x2)]] x8), (Blk.flat 73 2 [[(.int .i32 x3), (.int .u8 x4)]] x9), (Blk.flat 3 1 [[(.int .i64 x5)], [(.int .i64 x6)], [(.int .i64 x7)]] x10), (Blk.flat 3 1 [] false)]) (x := (V.so false 2 3)) (id := 2) (n := 3) (off := 0) (len := 3) (s := 1) (by kernel_rfl) none (some (.i64, x14)) 0 2 (by kernel_rfl) (tbE h3) (by kernel_rfl) (by kernel_rfl)), .m 81 (o_slice_sl1 (m := [(Blk.flat 71 3 [[(.int .u16 x0), (.int .u16 x1), (.int .u16 x2)]] x8), (Blk.flat 73 2 [[(.int .i32 x3), (.int .u8 x4)]] x9), (Blk.flat 3 1 [[(.int .i64 x5)], [(.int .i64 x6)], [(.int .i64 x7)]] x10), (Blk.flat 3 1 [[(.int .i64 x5)], [(.int .i64 x6)], [(.int .i64 x15)]] false), (Blk.flat 3 1 [[(.int .i64 x15)]] false)]) (x := (V.so false 2 3)) (id := 2) (n := 3) (off := 0) (len := 3) (s := 1) (by kernel_rfl) (some (.i64, x14)) none 2 3 (tbE h3) (by kernel_rfl) (by kernel_rfl) (by kernel_rfl)), .b (tbE h4), .b (tbE h5), .b (tbE h6), .c (law13_alive_t0), .k true, .c (parity_Suspect_oi_t0 false [x5, x6, x15, x7] x13 (tbE h7))] (by kernel_rfl)
          · cases h6 : tb (parity_Suspect_oi_c0 false [x5, x6, x15, x7] x13)
            · intro g0
              exact absurd g0 ft
            · intro g0
              exact seg_walk [.m 74 (o_slice_sl1 (m := [(Blk.flat 71 3 [[(.int .u16 x0), (.int .u16 x1), (.int .u16 x2)]] x8), (Blk.flat 73 2 [[(.int .i32 x3), (.int .u8 x4)]] x9), (Blk.flat 3 1 [[(.int .i64 x5)], [(.int .i64 x6)], [(.int .i64 x7)]] x10), (Blk.flat 3 1 [] false)]) (x := (V.so false 2 3)) (id := 2) (n := 3) (off := 0) (len := 3) (s := 1) (by kernel_rfl) none (some (.i64, x14)) 0 2 (by kernel_rfl) (tbE h3) (by kernel_rfl) (by kernel_rfl)), .m 81 (o_slice_sl1 (m := [(Blk.flat 71 3 [[(.int .u16 x0), (.int .u16 x1), (.int .u16 x2)]] x8), (Blk.flat 73 2 [[(.int .i32 x3), (.int .u8 x4)]] x9), (Blk.flat 3 1 [[(.int .i64 x5)], [(.int .i64 x6)], [(.int .i64 x7)]] x10), (Blk.flat 3 1 [[(.int .i64 x5)], [(.int .i64 x6)], [(.int .i64 x15)]] false), (Blk.flat 3 1 [[(.int .i64 x15)]] false)]) (x := (V.so false 2 3)) (id := 2) (n := 3) (off := 0) (len := 3) (s := 1) (by kernel_rfl) (some (.i64, x14)) none 2 3 (tbE h3) (by kernel_rfl) (by kernel_rfl) (by kernel_rfl)), .b (tbE h4), .b (tbE h5), .c (law13_alive_t0), .k true, .c (parity_Suspect_oi_t0 false [x5, x6, x15, x7] x13 (tbE h6))] (by kernel_rfl)
        · cases h5 : tb (parity_Suspect_oi_c0 false [x5, x6, x15, x7] x13)
          · intro g0
            exact absurd g0 ft
          · intro g0
            exact seg_walk [.m 74 (o_slice_sl1 (m := [(Blk.flat 71 3 [[(.int .u16 x0), (.int .u16 x1), (.int .u16 x2)]] x8), (Blk.flat 73 2 [[(.int .i32 x3), (.int .u8 x4)]] x9), (Blk.flat 3 1 [[(.int .i64 x5)], [(.int .i64 x6)], [(.int .i64 x7)]] x10), (Blk.flat 3 1 [] false)]) (x := (V.so false 2 3)) (id := 2) (n := 3) (off := 0) (len := 3) (s := 1) (by kernel_rfl) none (some (.i64, x14)) 0 2 (by kernel_rfl) (tbE h3) (by kernel_rfl) (by kernel_rfl)), .m 81 (o_slice_sl1 (m := [(Blk.flat 71 3 [[(.int .u16 x0), (.int .u16 x1), (.int .u16 x2)]] x8), (Blk.flat 73 2 [[(.int .i32 x3), (.int .u8 x4)]] x9), (Blk.flat 3 1 [[(.int .i64 x5)], [(.int .i64 x6)], [(.int .i64 x7)]] x10), (Blk.flat 3 1 [[(.int .i64 x5)], [(.int .i64 x6)], [(.int .i64 x15)]] false), (Blk.flat 3 1 [[(.int .i64 x15)]] false)]) (x := (V.so false 2 3)) (id := 2) (n := 3) (off := 0) (len := 3) (s := 1) (by kernel_rfl) (some (.i64, x14)) none 2 3 (tbE h3) (by kernel_rfl) (by kernel_rfl) (by kernel_rfl)), .b (tbE h4), .c (law13_alive_t0), .k true, .c (parity_Suspect_oi_t0 false [x5, x6, x15, x7] x13 (tbE h5))] (by kernel_rfl)
    · cases h3 : tb (decide ((wi (x11 + x13)) < x15))
      · cases h4 : tb (decide (x15 < (wi (x12 - x13))))
        · cases h5 : tb (decide ((wi ((mxI x15 x11) - (mnI x15 x12))) ≤ x13))
          · intro g0
            exact absurd g0 ft
          · cases h6 : tb (parity_Suspect_oi_c0 false [x5, x15, x6, x7] x13)
            · intro g0
              exact absurd g0 ft
            · intro g0
              exact seg_walk [.m 74 (o_slice_sl1 (m := [(Blk.flat 71 3 [[(.int .u16 x0), (.int .u16 x1), (.int .u16 x2)]] x8), (Blk.flat 73 2 [[(.int .i32 x3), (.int .u8 x4)]] x9), (Blk.flat 3 1 [[(.int .i64 x5)], [(.int .i64 x6)], [(.int .i64 x7)]] x10), (Blk.flat 3 1 [] false)]) (x := (V.so false 2 3)) (id := 2) (n := 3) (off := 0) (len := 3) (s := 1) (by kernel_rfl) none (some (.i64, x14)) 0 1 (by kernel_rfl) (tbE h2) (by kernel_rfl) (by kernel_rfl)), .m 81 (o_slice_sl1 (m := [(Blk.flat 71 3 [[(.int .u16 x0), (.int .u16 x1), (.int .u16 x2)]] x8), (Blk.flat 73 2 [[(.int .i32 x3), (.int .u8 x4)]] x9), (Blk.flat 3 1 [[(.int .i64 x5)], [(.int .i64 x6)], [(.int .i64 x7)]] x10), (Blk.flat 3 1 [[(.int .i64 x5)], [(.int .i64 x15)]] false), (Blk.flat 3 1 [[(.int .i64 x15)]] false)]) (x := (V.so false 2 3)) (id := 2) (n := 3) (off := 0) (len := 3) (s := 1) (by kernel_rfl) (some (.i64, x14)) none 1 3 (tbE h2) (by kernel_rfl) (by kernel_rfl) (by kernel_rfl)), .b (tbE h3), .b (tbE h4), .b (tbE h5), .c (law13_alive_t0), .k true, .c (parity_Suspect_oi_t0 false [x5, x15, x6, x7] x13 (tbE h6))] (by kernel_rfl)
        · cases h5 : tb (parity_Suspect_oi_c0 false [x5, x15, x6, x7] x13)
          · intro g0
            exact absurd g0 ft
          · intro g0
            exact seg_walk [.m 74 (o_slice_sl1 (m := [(Blk.flat 71 3 [[(.int .u16 x0), (.int .u16 x1), (.int .u16 x2)]] x8), (Blk.flat 73 2 [[(.int .i32 x3), (.int .u8 x4)]] x9), (Blk.flat 3 1 [[(.int .i64 x5)], [(.int .i64 x6)], [(.int .i64 x7)]] x10), (Blk.flat 3 1 [] false)]) (x := (V.so false 2 3)) (id := 2) (n := 3) (off := 0) (len := 3) (s := 1) (by kernel_rfl) none (some (.i64, x14)) 0 1 (by kernel_rfl) (tbE h2) (by kernel_rfl) (by kernel_rfl)), .m 81 (o_slice_sl1 (m := [(Blk.flat 71 3 [[(.int .u16 x0), (.int .u16 x1), (.int .u16 x2)]] x8), (Blk.flat 73 2 [[(.int .i32 x3), (.int .u8 x4)]] x9), (Blk.flat 3 1 [[(.int .i64 x5)], [(.int .i64 x6)], [(.int .i64 x7)]] x10), (Blk.flat 3 1 [[(.int .i64 x5)], [(.int .i64 x15)]] false), (Blk.flat 3 1 [[(.int .i64 x15)]] false)]) (x := (V.so false 2 3)) (id := 2) (n := 3) (off := 0) (len := 3) (s := 1) (by kernel_rfl) (some (.i64, x14)) none 1 3 (tbE h2) (by kernel_rfl) (by kernel_rfl) (by kernel_rfl)), .b (tbE h3), .b (tbE h4), .c (law13_alive_t0), .k true, .c (parity_Suspect_oi_t0 false [x5, x15, x6, x7] x13 (tbE h5))] (by kernel_rfl)
      · cases h4 : tb (parity_Suspect_oi_c0 false [x5, x15, x6, x7] x13)
        · intro g0
          exact absurd g0 ft
        · intro g0
          exact seg_walk [.m 74 (o_slice_sl1 (m := [(Blk.flat 71 3 [[(.int .u16 x0), (.int .u16 x1), (.int .u16 x2)]] x8), (Blk.flat 73 2 [[(.int .i32 x3), (.int .u8 x4)]] x9), (Blk.flat 3 1 [[(.int .i64 x5)], [(.int .i64 x6)], [(.int .i64 x7)]] x10), (Blk.flat 3 1 [] false)]) (x := (V.so false 2 3)) (id := 2) (n := 3) (off := 0) (len := 3) (s := 1) (by kernel_rfl) none (some (.i64, x14)) 0 1 (by kernel_rfl) (tbE h2) (by kernel_rfl) (by kernel_rfl)), .m 81 (o_slice_sl1 (m := [(Blk.flat 71 3 [[(.int .u16 x0), (.int .u16 x1), (.int .u16 x2)]] x8), (Blk.flat 73 2 [[(.int .i32 x3), (.int .u8 x4)]] x9), (Blk.flat 3 1 [[(.int .i64 x5)], [(.int .i64 x6)], [(.int .i64 x7)]] x10), (Blk.flat 3 1 [[(.int .i64 x5)], [(.int .i64 x15)]] false), (Blk.flat 3 1 [[(.int .i64 x15)]] false)]) (x := (V.so false 2 3)) (id := 2) (n := 3) (off := 0) (len := 3) (s := 1) (by kernel_rfl) (some (.i64, x14)) none 1 3 (tbE h2) (by kernel_rfl) (by kernel_rfl) (by kernel_rfl)), .b (tbE h3), .c (law13_alive_t0), .k true, .c (parity_Suspect_oi_t0 false [x5, x15, x6, x7] x13 (tbE h4))] (by kernel_rfl)
  · cases h2 : tb (decide ((wi (x11 + x13)) < x15))
    · cases h3 : tb (decide (x15 < (wi (x12 - x13))))
      · cases h4 : tb (decide ((wi ((mxI x15 x11) - (mnI x15 x12))) ≤ x13))
        · intro g0
          exact absurd g0 ft
        · cases h5 : tb (parity_Suspect_oi_c0 false [x15, x5, x6, x7] x13)
          · intro g0
            exact absurd g0 ft
          · intro g0
            exact seg_walk [.m 74 (o_slice_sl0 (m := [(Blk.flat 71 3 [[(.int .u16 x0), (.int .u16 x1), (.int .u16 x2)]] x8), (Blk.flat 73 2 [[(.int .i32 x3), (.int .u8 x4)]] x9), (Blk.flat 3 1 [[(.int .i64 x5)], [(.int .i64 x6)], [(.int .i64 x7)]] x10), (Blk.flat 3 1 [] false)]) (x := (V.so false 2 3)) (id := 2) (n := 3) (off := 0) (len := 3) (s := 1) (v := (V.d (.rs false 1 [] false))) (by kernel_rfl) none (some (.i64, x14)) 0 (by kernel_rfl) (tbE h1) (by kernel_rfl) (by kernel_rfl) (by kernel_rfl)), .m 81 (o_slice_sl1 (m := [(Blk.flat 71 3 [[(.int .u16 x0), (.int .u16 x1), (.int .u16 x2)]] x8), (Blk.flat 73 2 [[(.int .i32 x3), (.int .u8 x4)]] x9), (Blk.flat 3 1 [[(.int .i64 x5)], [(.int .i64 x6)], [(.int .i64 x7)]] x10), (Blk.flat 3 1 [[(.int .i64 x15)]] false), (Blk.flat 3 1 [[(.int .i64 x15)]] false)]) (x := (V.so false 2 3)) (id := 2) (n := 3) (off := 0) (len := 3) (s := 1) (by kernel_rfl) (some (.i64, x14)) none 0 3 (tbE h1) (by kernel_rfl) (by kernel_rfl) (by kernel_rfl)), .b (tbE h2), .b (tbE h3), .b (tbE h4), .c (law13_alive_t0), .k true, .c (parity_Suspect_oi_t0 false [x15, x5, x6, x7] x13 (tbE h5))] (by kernel_rfl)
      · cases h4 : tb (parity_Suspect_oi_c0 false [x15, x5, x6, x7] x13)
        · intro g0
          exact absurd g0 ft
        · intro g0
          exact seg_walk [.m 74 (o_slice_sl0 (m := [(Blk.flat 71 3 [[(.int .u16 x0), (.int .u16 x1), (.int .u16 x2)]] x8), (Blk.flat 73 2 [[(.int .i32 x3), (.int .u8 x4)]] x9), (Blk.flat 3 1 [[(.int .i64 x5)], [(.int .i64 x6)], [(.int .i64 x7)]] x10), (Blk.flat 3 1 [] false)]) (x := (V.so false 2 3)) (id := 2) (n := 3) (off := 0) (len := 3) (s := 1) (v := (V.d (.rs false 1 [] false))) (by kernel_rfl) none (some (.i64, x14)) 0 (by kernel_rfl) (tbE h1) (by kernel_rfl) (by kernel_rfl) (by kernel_rfl)), .m 81 (o_slice_sl1 (m := [(Blk.flat 71 3 [[(.int .u16 x0), (.int .u16 x1), (.int .u16 x2)]] x8), (Blk.flat 73 2 [[(.int .i32 x3), (.int .u8 x4)]] x9), (Blk.flat 3 1 [[(.int .i64 x5)], [(.int .i64 x6)], [(.int .i64 x7)]] x10), (Blk.flat 3 1 [[(.int .i64 x15)]] false), (Blk.flat 3 1 [[(.int .i64 x15)]] false)]) (x := (V.so false 2 3)) (id := 2) (n := 3) (off := 0) (len := 3) (s := 1) (by kernel_rfl) (some (.i64, x14)) none 0 3 (tbE h1) (by kernel_rfl) (by kernel_rfl) (by kernel_rfl)), .b (tbE h2), .b (tbE h3), .c (law13_alive_t0), .k true, .c (parity_Suspect_oi_t0 false [x15, x5, x6, x7] x13 (tbE h4))] (by kernel_rfl)
    · cases h3 : tb (parity_Suspect_oi_c0 false [x15, x5, x6, x7] x13)
      · intro g0
        exact absurd g0 ft
      · intro g0
        exact seg_walk [.m 74 (o_slice_sl0 (m := [(Blk.flat 71 3 [[(.int .u16 x0), (.int .u16 x1), (.int .u16 x2)]] x8), (Blk.flat 73 2 [[(.int .i32 x3), (.int .u8 x4)]] x9), (Blk.flat 3 1 [[(.int .i64 x5)], [(.int .i64 x6)], [(.int .i64 x7)]] x10), (Blk.flat 3 1 [] false)]) (x := (V.so false 2 3)) (id := 2) (n := 3) (off := 0) (len := 3) (s := 1) (v := (V.d (.rs false 1 [] false))) (by kernel_rfl) none (some (.i64, x14)) 0 (by kernel_rfl) (tbE h1) (by kernel_rfl) (by kernel_rfl) (by kernel_rfl)), .m 81 (o_slice_sl1 (m := [(Blk.flat 71 3 [[(.int .u16 x0), (.int .u16 x1), (.int .u16 x2)]] x8), (Blk.flat 73 2 [[(.int .i32 x3), (.int .u8 x4)]] x9), (Blk.flat 3 1 [[(.int .i64 x5)], [(.int .i64 x6)], [(.int .i64 x7)]] x10), (Blk.flat 3 1 [[(.int .i64 x15)]] false), (Blk.flat 3 1 [[(.int .i64 x15)]] false)]) (x := (V.so false 2 3)) (id := 2) (n := 3) (off := 0) (len := 3) (s := 1) (by kernel_rfl) (some (.i64, x14)) none 0 3 (tbE h1) (by kernel_rfl) (by kernel_rfl) (by kernel_rfl)), .b (tbE h2), .c (law13_alive_t0), .k true, .c (parity_Suspect_oi_t0 false [x15, x5, x6, x7] x13 (tbE h3))] (by kernel_rfl)
theorem law13_ParityFour_S0_t1 (x0 : Int) (x1 : Int) (x2 : Int) (x3 : Int) (x4 : Int) (x5 : Int) (x6 : Int) (x7 : Int) (x8 : Bool) (x9 : Bool) (x10 : Bool) (x11 : Int) (x12 : Int) (x13 : Int) (x14 : Int) (x15 : Int) : law13_ParityFour_S0_c0 x5 x6 x7 x11 x12 x13 x14 x15 = false → law13_ParityFour_S0_c1 x11 x12 x13 x14 x15 = true → segG (runC E0 (cl E0) S13_0) [10, 11, 12, 13, 14, 15] [6] [] 3 ([(V.so false 2 3), (V.d (.int .i64 x11)), (V.d (.int .i64 x12)), (V.d (.int .i64 x13)), (V.d (.int .i64 x14)), (V.d (.int .i64 x15))], [(Blk.flat 71 3 [[(.int .u16 x0), (.int .u16 x1), (.int .u16 x2)]] x8), (Blk.flat 73 2 [[(.int .i32 x3), (.int .u8 x4)]] x9), (Blk.flat 3 1 [[(.int .i64 x5)], [(.int .i64 x6)], [(.int .i64 x7)]] x10)]) = some (.normal, ([], [(Blk.flat 71 3 [[(.int .u16 x0), (.int .u16 x1), (.int .u16 x2)]] x8), (Blk.flat 73 2 [[(.int .i32 x3), (.int .u8 x4)]] x9), (Blk.flat 3 1 [[(.int .i64 x5)], [(.int .i64 x6)], [(.int .i64 x7)]] x10)])) := by
  unfold law13_ParityFour_S0_c0 law13_ParityFour_S0_c1
  cases h1 : tb ((x14 : Int) == 0)
  · cases h2 : tb ((x14 : Int) == 1)
    · cases h3 : tb ((x14 : Int) == 2)
      · cases h4 : tb ((x14 : Int) == 3)
        · intro g0 g1
          exact absurd g1 ft
        · cases h5 : tb (decide ((wi (x11 + x13)) < x15))
          · cases h6 : tb (decide (x15 < (wi (x12 - x13))))
            · cases h7 : tb (decide ((wi ((mxI x15 x11) - (mnI x15 x12))) ≤ x13))
              · intro g0 g1
                exact seg_walk [.m 74 (o_slice_sl1 (m := [(Blk.flat 71 3 [[(.int .u16 x0), (.int .u16 x1), (.int .u16 x2)]] x8), (Blk.flat 73 2 [[(.int .i32 x3), (.int .u8 x4)]] x9), (Blk.flat 3 1 [[(.int .i64 x5)], [(.int .i64 x6)], [(.int .i64 x7)]] x10), (Blk.flat 3 1 [] false)]) (x := (V.so false 2 3)) (id := 2) (n := 3) (off := 0) (len := 3) (s := 1) (by kernel_rfl) none (some (.i64, x14)) 0 3 (by kernel_rfl) (tbE h4) (by kernel_rfl) (by kernel_rfl)), .m 81 (o_slice_sl0 (m := [(Blk.flat 71 3 [[(.int .u16 x0), (.int .u16 x1), (.int .u16 x2)]] x8), (Blk.flat 73 2 [[(.int .i32 x3), (.int .u8 x4)]] x9), (Blk.flat 3 1 [[(.int .i64 x5)], [(.int .i64 x6)], [(.int .i64 x7)]] x10), (Blk.flat 3 1 [[(.int .i64 x5)], [(.int .i64 x6)], [(.int .i64 x7)], [(.int .i64 x15)]] false), (Blk.flat 3 1 [[(.int .i64 x15)]] false)]) (x := (V.so false 2 3)) (id := 2) (n := 3) (off := 0) (len := 3) (s := 1) (v := (V.d (.rs false 1 [] false))) (by kernel_rfl) (some (.i64, x14)) none 3 (tbE h4) (by kernel_rfl) (by kernel_rfl) (by kernel_rfl) (by kernel_rfl)), .b (tbE h5), .b (tbE h6), .b (tbE h7)] (by kernel_rfl)
              · cases h8 : tb (parity_Suspect_oi_c0 false [x5, x6, x7, x15] x13)
                · intro g0 g1
                  exact absurd g1 ft
                · intro g0 g1
                  exact absurd g0 tf
            · cases h7 : tb (parity_Suspect_oi_c0 false [x5, x6, x7, x15] x13)
              · intro g0 g1
                exact absurd g1 ft
              · intro g0 g1
                exact absurd g0 tf
          · cases h6 : tb (parity_Suspect_oi_c0 false [x5, x6, x7, x15] x13)
            · intro g0 g1
              exact absurd g1 ft
            · intro g0 g1
              exact absurd g0 tf
      · cases h4 : tb (decide ((wi (x11 + x13)) < x15))
        · cases h5 : tb (decide (x15 < (wi (x12 - x13))))
          · cases h6 : tb (decide ((wi ((mxI x15 x11) - (mnI x15 x12))) ≤ x13))
            · intro g0 g1
              exact seg_walk [.m 74 (o_slice_sl1 (m := [(Blk.flat 71 3 [[(.int .u16 x0), (.int .u16 x1), (.int .u16 x2)]] x8), (Blk.flat 73 2 [[(.int .i32 x3), (.int .u8 x4)]] x9), (Blk.flat 3 1 [[(.int .i64 x5)], [(.int .i64 x6)], [(.int .i64 x7)]] x10), (Blk.flat 3 1 [] false)]) (x := (V.so false 2 3)) (id := 2) (n := 3) (off := 0) (len := 3) (s := 1) (by kernel_rfl) none (some (.i64, x14)) 0 2 (by kernel_rfl) (tbE h3) (by kernel_rfl) (by kernel_rfl)), .m 81 (o_slice_sl1 (m := [(Blk.flat 71 3 [[(.int .u16 x0), (.int .u16 x1), (.int .u16 x2)]] x8), (Blk.flat 73 2 [[(.int .i32 x3), (.int .u8 x4)]] x9), (Blk.flat 3 1 [[(.int .i64 x5)], [(.int .i64 x6)], [(.int .i64 x7)]] x10), (Blk.flat 3 1 [[(.int .i64 x5)], [(.int .i64 x6)], [(.int .i64 x15)]] false), (Blk.flat 3 1 [[(.int .i64 x15)]] false)]) (x := (V.so false 2 3)) (id := 2) (n := 3) (off := 0) (len := 3) (s := 1) (by kernel_rfl) (some (.i64, x14)) none 2 3 (tbE h3) (by kernel_rfl) (by kernel_rfl) (by kernel_rfl)), .b (tbE h4), .b (tbE h5), .b (tbE h6)] (by kernel_rfl)
            · cases h7 : tb (parity_Suspect_oi_c0 false [x5, x6, x15, x7] x13)
              · intro g0 g1
                exact absurd g1 ft
              · intro g0 g1
                exact absurd g0 tf
          · cases h6 : tb (parity_Suspect_oi_c0 false [x5, x6, x15, x7] x13)
            · intro g0 g1
              exact absurd g1 ft
            · intro g0 g1
              exact absurd g0 tf
        · cases h5 : tb (parity_Suspect_oi_c0 false [x5, x6, x15, x7] x13)
          · intro g0 g1
            exact absurd g1 ft
          · intro g0 g1
            exact absurd g0 tf
    · cases h3 : tb (decide ((wi (x11 + x13)) < x15))
      · cases h4 : tb (decide (x15 < (wi (x12 - x13))))
        · cases h5 : tb (decide ((wi ((mxI x15 x11) - (mnI x15 x12))) ≤ x13))
          · intro g0 g1
            exact seg_walk [.m 74 (o_slice_sl1 (m := [(Blk.flat 71 3 [[(.int .u16 x0), (.int .u16 x1), (.int .u16 x2)]] x8), (Blk.flat 73 2 [[(.int .i32 x3), (.int .u8 x4)]] x9), (Blk.flat 3 1 [[(.int .i64 x5)], [(.int .i64 x6)], [(.int .i64 x7)]] x10), (Blk.flat 3 1 [] false)]) (x := (V.so false 2 3)) (id := 2) (n := 3) (off := 0) (len := 3) (s := 1) (by kernel_rfl) none (some (.i64, x14)) 0 1 (by kernel_rfl) (tbE h2) (by kernel_rfl) (by kernel_rfl)), .m 81 (o_slice_sl1 (m := [(Blk.flat 71 3 [[(.int .u16 x0), (.int .u16 x1), (.int .u16 x2)]] x8), (Blk.flat 73 2 [[(.int .i32 x3), (.int .u8 x4)]] x9), (Blk.flat 3 1 [[(.int .i64 x5)], [(.int .i64 x6)], [(.int .i64 x7)]] x10), (Blk.flat 3 1 [[(.int .i64 x5)], [(.int .i64 x15)]] false), (Blk.flat 3 1 [[(.int .i64 x15)]] false)]) (x := (V.so false 2 3)) (id := 2) (n := 3) (off := 0) (len := 3) (s := 1) (by kernel_rfl) (some (.i64, x14)) none 1 3 (tbE h2) (by kernel_rfl) (by kernel_rfl) (by kernel_rfl)), .b (tbE h3), .b (tbE h4), .b (tbE h5)] (by kernel_rfl)
          · cases h6 : tb (parity_Suspect_oi_c0 false [x5, x15, x6, x7] x13)
            · intro g0 g1
              exact absurd g1 ft
            · intro g0 g1
              exact absurd g0 tf
        · cases h5 : tb (parity_Suspect_oi_c0 false [x5, x15, x6, x7] x13)
          · intro g0 g1
            exact absurd g1 ft
          · intro g0 g1
            exact absurd g0 tf
      · cases h4 : tb (parity_Suspect_oi_c0 false [x5, x15, x6, x7] x13)
        · intro g0 g1
          exact absurd g1 ft
        · intro g0 g1
          exact absurd g0 tf
  · cases h2 : tb (decide ((wi (x11 + x13)) < x15))
    · cases h3 : tb (decide (x15 < (wi (x12 - x13))))
      · cases h4 : tb (decide ((wi ((mxI x15 x11) - (mnI x15 x12))) ≤ x13))
        · intro g0 g1
          exact seg_walk [.m 74 (o_slice_sl0 (m := [(Blk.flat 71 3 [[(.int .u16 x0), (.int .u16 x1), (.int .u16 x2)]] x8), (Blk.flat 73 2 [[(.int .i32 x3), (.int .u8 x4)]] x9), (Blk.flat 3 1 [[(.int .i64 x5)], [(.int .i64 x6)], [(.int .i64 x7)]] x10), (Blk.flat 3 1 [] false)]) (x := (V.so false 2 3)) (id := 2) (n := 3) (off := 0) (len := 3) (s := 1) (v := (V.d (.rs false 1 [] false))) (by kernel_rfl) none (some (.i64, x14)) 0 (by kernel_rfl) (tbE h1) (by kernel_rfl) (by kernel_rfl) (by kernel_rfl)), .m 81 (o_slice_sl1 (m := [(Blk.flat 71 3 [[(.int .u16 x0), (.int .u16 x1), (.int .u16 x2)]] x8), (Blk.flat 73 2 [[(.int .i32 x3), (.int .u8 x4)]] x9), (Blk.flat 3 1 [[(.int .i64 x5)], [(.int .i64 x6)], [(.int .i64 x7)]] x10), (Blk.flat 3 1 [[(.int .i64 x15)]] false), (Blk.flat 3 1 [[(.int .i64 x15)]] false)]) (x := (V.so false 2 3)) (id := 2) (n := 3) (off := 0) (len := 3) (s := 1) (by kernel_rfl) (some (.i64, x14)) none 0 3 (tbE h1) (by kernel_rfl) (by kernel_rfl) (by kernel_rfl)), .b (tbE h2), .b (tbE h3), .b (tbE h4)] (by kernel_rfl)
        · cases h5 : tb (parity_Suspect_oi_c0 false [x15, x5, x6, x7] x13)
          · intro g0 g1
            exact absurd g1 ft
          · intro g0 g1
            exact absurd g0 tf
      · cases h4 : tb (parity_Suspect_oi_c0 false [x15, x5, x6, x7] x13)
        · intro g0 g1
          exact absurd g1 ft
        · intro g0 g1
          exact absurd g0 tf
    · cases h3 : tb (parity_Suspect_oi_c0 false [x15, x5, x6, x7] x13)
      · intro g0 g1
        exact absurd g1 ft
      · intro g0 g1
        exact absurd g0 tf
def law13_ParityFour_e0 (x0 : Int) (x1 : Int) (x2 : Int) (x3 : Int) : Int := wi ((wi ((wi (x0)) + (mxI (mxI (wi (x1)) (wi (x2))) (wi (x3))))) - (wi ((wi (x0)) + (mnI (mnI (wi (x1)) (wi (x2))) (wi (x3))))))
def law13_ParityFour_e1 (x0 : Int) (x1 : Int) (x2 : Int) (x3 : Int) : Int := (wi ((wi (x0)) + (mxI (mxI (wi (x1)) (wi (x2))) (wi (x3)))))
def law13_ParityFour_e2 (x0 : Int) (x1 : Int) (x2 : Int) (x3 : Int) : Int := (wi ((wi (x0)) + (mnI (mnI (wi (x1)) (wi (x2))) (wi (x3)))))
def law13_ParityFour_c0 (x0 : Int) (x1 : Int) (x2 : Int) (x3 : Int) (x4 : Int) (x5 : Int) : Bool := (bif tb (law13_ParityFour_S0_c0 (wi ((wi (x0)) + (wi (x1)))) (wi ((wi (x0)) + (wi (x2)))) (wi ((wi (x0)) + (wi (x3)))) (law13_ParityFour_e1 x0 x1 x2 x3) (law13_ParityFour_e2 x0 x1 x2 x3) (law13_ParityFour_e0 x0 x1 x2 x3) (remI .i64 (wi (x5)) 4) (wi (x4))) then true else (bif tb (law13_ParityFour_S0_c1 (law13_ParityFour_e1 x0 x1 x2 x3) (law13_ParityFour_e2 x0 x1 x2 x3) (law13_ParityFour_e0 x0 x1 x2 x3) (remI .i64 (wi (x5)) 4) (wi (x4))) then true else false))
def law13_ParityFour_r0_0 (x0 : Int) (x1 : Int) (x2 : Int) (x3 : Int) (x4 : Int) (x5 : Int) : Bool := (bif tb (law13_ParityFour_S0_c0 (wi ((wi (x0)) + (wi (x1)))) (wi ((wi (x0)) + (wi (x2)))) (wi ((wi (x0)) + (wi (x3)))) (law13_ParityFour_e1 x0 x1 x2 x3) (law13_ParityFour_e2 x0 x1 x2 x3) (law13_ParityFour_e0 x0 x1 x2 x3) (remI .i64 (wi (x5)) 4) (wi (x4))) then (law13_ParityFour_S0_r0_0 (wi ((wi (x0)) + (wi (x1)))) (wi ((wi (x0)) + (wi (x2)))) (wi ((wi (x0)) + (wi (x3)))) (law13_ParityFour_e1 x0 x1 x2 x3) (law13_ParityFour_e2 x0 x1 x2 x3) (law13_ParityFour_e0 x0 x1 x2 x3) (remI .i64 (wi (x5)) 4) (wi (x4))) else true)
theorem law13_ParityFour_t0 (x0 : Int) (x1 : Int) (x2 : Int) (x3 : Int) (x4 : Int) (x5 : Int) : law13_ParityFour_c0 x0 x1 x2 x3 x4 x5 = true → cl E0 13 [(V.d (.int .i32 x0)), (V.agg [(V.d (.int .u16 x1)), (V.d (.int .u16 x2)), (V.d (.int .u16 x3))]), (V.agg [(V.d (.int .i32 x4)), (V.d (.int .u8 x5))])] [] = some ([(V.d (.bool (law13_ParityFour_r0_0 x0 x1 x2 x3 x4 x5)))], []) := by
  unfold law13_ParityFour_c0 law13_ParityFour_r0_0
  cases h1 : tb (law13_ParityFour_S0_c0 (wi ((wi (x0)) + (wi (x1)))) (wi ((wi (x0)) + (wi (x2)))) (wi ((wi (x0)) + (wi (x3)))) (law13_ParityFour_e1 x0 x1 x2 x3) (law13_ParityFour_e2 x0 x1 x2 x3) (law13_ParityFour_e0 x0 x1 x2 x3) (remI .i64 (wi (x5)) 4) (wi (x4)))
  · cases h2 : tb (law13_ParityFour_S0_c1 (law13_ParityFour_e1 x0 x1 x2 x3) (law13_ParityFour_e2 x0 x1 x2 x3) (law13_ParityFour_e0 x0 x1 x2 x3) (remI .i64 (wi (x5)) 4) (wi (x4)))
    · intro g0
      exact absurd g0 ft
    · intro g0
      exact w13 [.s (law13_ParityFour_S0_t1 x1 x2 x3 x4 x5 (wi ((wi (x0)) + (wi (x1)))) (wi ((wi (x0)) + (wi (x2)))) (wi ((wi (x0)) + (wi (x3)))) false false false (law13_ParityFour_e1 x0 x1 x2 x3) (law13_ParityFour_e2 x0 x1 x2 x3) (law13_ParityFour_e0 x0 x1 x2 x3) (remI .i64 (wi (x5)) 4) (wi (x4)) (tbE h1) (tbE h2)), .c (law13_alive_t0)] (by kernel_rfl)
  · intro g0
    exact w13 [.s (law13_ParityFour_S0_t0 x1 x2 x3 x4 x5 (wi ((wi (x0)) + (wi (x1)))) (wi ((wi (x0)) + (wi (x2)))) (wi ((wi (x0)) + (wi (x3)))) false false false (law13_ParityFour_e1 x0 x1 x2 x3) (law13_ParityFour_e2 x0 x1 x2 x3) (law13_ParityFour_e0 x0 x1 x2 x3) (remI .i64 (wi (x5)) 4) (wi (x4)) (tbE h1))] (by kernel_rfl)
end Go.Proofs.Ytdlhhoejnhjbhaa.Den

namespace Go.Proofs.Ytdlhhoejnhjbhaa.Den
open Go Go.Proofs
set_option maxRecDepth 100000
set_option maxHeartbeats 4000000
set_option linter.unusedVariables false
set_option linter.unusedSimpArgs false
structure ref01_All_o_L0_s0 where
  c2 : Int
  deriving Inhabited
structure ref01_Shift_ii_L0_s0 where
  c2 : Int
  c3 : Int
  deriving Inhabited
structure ref01_Bits_o_L0_s0 where
  c2 : Int
  c3 : Int
  c4 : Int
  deriving Inhabited
structure ref01_Has_ii_L1_s0 where
  c1 : Int
  c2 : Int
  deriving Inhabited
structure ref01_Count_i_L0_s0 where
  c1 : Int
  c2 : Int
  deriving Inhabited
end Go.Proofs.Ytdlhhoejnhjbhaa.Den

namespace Go.Proofs.Ytdlhhoejnhjbhaa.Den
open Go Go.Proofs
set_option maxRecDepth 100000
set_option maxHeartbeats 4000000
set_option linter.unusedVariables false
set_option linter.unusedSimpArgs false
structure ref02_Sort_o_L2_s0 where
  c4 : Bool
  c5 : Bool
  c6 : Int
  c10 : List Int
  deriving Inhabited
structure ref02_Sort_o_L2_1_s0 where
  c4 : Bool
  c5 : Bool
  c6 : Int
  c12 : List Int
  deriving Inhabited
structure ref02_Sort_o_L3_s0 where mk ::
  deriving Inhabited
structure ref02_Sort_o_L3_s1 where
  c2 : Bool
  c3 : Int
  c7 : List Int
  deriving Inhabited
inductive ref02_Sort_o_L3_S where
  | h0 (v : ref02_Sort_o_L3_s0)
  | h1 (v : ref02_Sort_o_L3_s1)
  deriving Inhabited
structure ref02_Ints_oo_L0_s0 where
  c4 : Int
  deriving Inhabited
structure ref02_Without_oi_L0_s0 where
  c3 : Bool
  c4 : Int
  c6 : List Int
  deriving Inhabited
end Go.Proofs.Ytdlhhoejnhjbhaa.Den

namespace Go.Proofs.Ytdlhhoejnhjbhaa.Den
open Go Go.Proofs
set_option maxRecDepth 100000
set_option maxHeartbeats 4000000
set_option linter.unusedVariables false
set_option linter.unusedSimpArgs false
structure ref13_Residues_o_L1_s0 where
  c2 : Int
  deriving Inhabited
structure ref13_Residues_o_L3_s0 where
  c2 : Bool
  c3 : Int
  c5 : List Int
  deriving Inhabited
structure ref13_Suspect_oi_L0_s0 where
  c2 : Int
  c3 : Int
  c4 : Int
  deriving Inhabited
end Go.Proofs.Ytdlhhoejnhjbhaa.Den

namespace Go.Proofs.Ytdlhhoejnhjbhaa.Den
open Go
set_option linter.unusedVariables false
set_option linter.unusedSimpArgs false
inductive CK where
  | b
  | i (k : IntKind)
  | s
  | l (e : TypeId)
def flatK (P : Program) : Nat → TypeId → Option (List CK)
  | 0, _ => none
  | n + 1, t => match P.underlying t with
    | some .bool => some [.b]
    | some (.int k) => some [.i k]
    | some .string => some [.s]
    | some (.slice e) => some [.l e]
    | some (.struct fs) => (fs.toList.mapM fun f => flatK P n f.type).map List.flatten
    | some (.array m e) => (flatK P n e).map fun l => (List.replicate m l).flatten
    | _ => none
def WfI (k : IntKind) (z : Int) : Prop := (Lit.int k z).wf = true
def CellK (P : Program) : CK → D → Prop
  | .b, d => ∃ b, d = .bool b
  | .i k, d => ∃ z, d = .int k z ∧ WfI k z
  | .s, d => ∃ s, d = .str s ∧ s.size ≤ 140737488351232
  | .l e, d => d = .nils ∨ ∃ rows, d = .rs (isFlat P e) (P.cellsOf e) rows false ∧ rows.length ≤ maxLen ∧ rows.length * P.bytesOf e ≤ 140737488351232 ∧ ∃ n, ∀ r, r ∈ rows → Ty P n e r
def CellsK (P : Program) : List CK → List D → Prop
  | [], ds => ds = []
  | k :: ks, ds => ∃ d r, ds = d :: r ∧ CellK P k d ∧ CellsK P ks r
theorem CellsK.append {P : Program} : ∀ {a b : List CK} {x y : List D}, CellsK P a x → CellsK P b y → CellsK P (a ++ b) (x ++ y)
  | [], _, _, _, h, h' => by simp only [CellsK] at h; subst h; simpa using h'
  | k :: a, b, x, y, h, h' => by
    simp only [CellsK] at h
    obtain ⟨d, r, rfl, h1, h2⟩ := h
    simp only [List.cons_append, CellsK]
    exact ⟨d, _, rfl, h1, CellsK.append h2 h'⟩
theorem flatK_fs {P : Program} {n : Nat} (ih : ∀ t ks ds, flatK P n t = some ks → Ty P n t ds → CellsK P ks ds) : ∀ (fs : List Field) (l : List (List CK)) (ds : List D), fs.mapM (fun f => flatK P n f.type) = some l → TyFs (Ty P n) fs ds → CellsK P l.flatten ds
  | [], l, ds, h, ht => by
    simp at h; subst h
    obtain rfl := tyfs_nil ht
    simp [CellsK]
  | f :: fs, l, ds, h, ht => by
    rw [List.mapM_cons] at h
    simp only [Option.bind_eq_bind, Option.bind_eq_some_iff, Option.pure_def, Option.some.injEq] at h
    obtain ⟨a, h1, b, h2, rfl⟩ := h
    obtain ⟨x, y, rfl, g1, g2⟩ := tyfs_cons ht
    simp only [List.flatten_cons]
    exact (ih _ _ _ h1 g1).append (flatK_fs ih fs b y h2 g2)
theorem flatK_ok {P : Program} : ∀ (n : Nat) (t : TypeId) (ks : List CK) (ds : List D), flatK P n t = some ks → Ty P n t ds → CellsK P ks ds
  | 0, _, _, _, h, _ => by simp [flatK] at h
  | n + 1, t, ks, ds, h, ht => by
    simp only [flatK] at h
    cases hu : P.underlying t with
    | none => simp [hu] at h
    | some u =>
      rw [hu] at h
      cases u with
      | bool => cases h; obtain ⟨b, rfl⟩ := ty_bool ht hu; exact ⟨_, [], rfl, ⟨b, rfl⟩, rfl⟩
      | int k => cases h; obtain ⟨z, rfl, hz⟩ := ty_int ht hu; exact ⟨_, [], rfl, ⟨z, rfl, hz⟩, rfl⟩
      | string => cases h; obtain ⟨z, rfl, hz⟩ := ty_str ht hu; exact ⟨_, [], rfl, ⟨z, rfl, hz⟩, rfl⟩
      | slice e =>
        cases h
        rcases ty_slice ht hu with rfl | ⟨rows, rfl, h1, h1b, h2⟩
        · exact ⟨_, [], rfl, .inl rfl, rfl⟩
        · exact ⟨_, [], rfl, .inr ⟨rows, rfl, h1, h1b, n, h2⟩, rfl⟩
      | struct fs =>
        obtain ⟨l, hl, rfl⟩ := Option.map_eq_some_iff.1 h
        exact flatK_fs (fun t ks ds => flatK_ok n t ks ds) fs.toList l ds hl (ty_struct ht hu)
      | array m e =>
        obtain ⟨l, hl, rfl⟩ := Option.map_eq_some_iff.1 h
        obtain ⟨rows, hr, rfl, hall⟩ := ty_arr ht hu
        have key : ∀ (rows : List (List D)), (∀ r, r ∈ rows → Ty P n e r) → CellsK P (List.replicate rows.length l).flatten rows.flatten := by
          intro rows
          induction rows with
          | nil => intro _; simp [CellsK]
          | cons r rows ih =>
            intro hall
            simp only [List.length_cons, List.replicate_succ, List.flatten_cons]
            exact (flatK_ok n e l r hl (hall r (by simp))).append (ih fun x hx => hall x (by simp [hx]))
        rw [← hr]; exact key rows hall
      | _ => simp at h
end Go.Proofs.Ytdlhhoejnhjbhaa.Den

namespace Go.Proofs.Ytdlhhoejnhjbhaa.Den
open Go
set_option linter.unusedVariables false
set_option linter.unusedSimpArgs false
@[simp] theorem tb_eq (b : Bool) : tb b = b := rfl
theorem wrap64 {x : Int} (h1 : -9223372036854775808 ≤ x) (h2 : x ≤ 9223372036854775807) : IntKind.i64.wrap x = x := by
  unfold IntKind.wrap
  simp [IntKind.bits, IntKind.signed]
  omega
theorem wi_eq {x : Int} (h1 : -9223372036854775808 ≤ x) (h2 : x ≤ 9223372036854775807) : wi x = x := wrap64 h1 h2
theorem mxI_eq (a b : Int) : mxI a b = max a b := by unfold mxI; split <;> omega
theorem inb_iff {n : Nat} {i : Int} : inb n i = true ↔ 0 ≤ i ∧ i < n := by simp [inb]
theorem inb_of {n : Nat} {i : Int} (h1 : 0 ≤ i) (h2 : i < n) : inb n i = true := inb_iff.2 ⟨h1, h2⟩
theorem loop_inv {S : Type} {sel : S → Bool} {nx : S → S} (J : S → Prop) (μ : S → Nat) {s0 : S} (h0 : J s0) (hb : μ s0 < 1152921504606846976) (hn : ∀ s, J s → sel s = true → J (nx s) ∧ μ (nx s) < μ s) :
    ∃ s1, itS sel nx bound s0 = some s1 ∧ J s1 ∧ sel s1 = false := itS_inv J μ hn bound s0 h0 hb
theorem gt_mem {α : Type} [Inhabited α] {l : List α} {i : Int} (h1 : 0 ≤ i) (h2 : i < l.length) : gt l i ∈ l := by
  have h : i.toNat < l.length := by omega
  have : gt l i = l[i.toNat] := by simp [gt, List.getD, h]
  rw [this]; exact List.getElem_mem h
theorem gt_nat {α : Type} [Inhabited α] {l : List α} {k : Nat} (h : k < l.length) : gt l (k : Int) = l[k] := by simp [gt, List.getD, h]
theorem all_loop {S α : Type} [Inhabited α] {sel : S → Bool} {nx : S → S} {s0 : S} (l : List α) (ix : S → Int) (p : α → Bool) (J : S → Prop) (hl : l.length < 1152921504606846976) (h0 : ix s0 = 0) (hJ0 : J s0)
    (hnx : ∀ s, J s → 0 ≤ ix s → ix s < l.length → sel s = true → ix (nx s) = ix s + 1 ∧ J (nx s)) (hsel : ∀ s, J s → 0 ≤ ix s → ix s ≤ l.length → sel s = (decide (ix s < l.length) && p (gt l (ix s)))) :
    ∃ s1, itS sel nx bound s0 = some s1 ∧ J s1 ∧ 0 ≤ ix s1 ∧ ((ix s1 = l.length ∧ l.all p = true) ∨ (ix s1 < l.length ∧ p (gt l (ix s1)) = false ∧ l.all p = false)) := by
  obtain ⟨s1, e, ⟨hJ, a1, a2, a3⟩, hs⟩ := loop_inv (sel := sel) (nx := nx) (fun s => J s ∧ 0 ≤ ix s ∧ ix s ≤ l.length ∧ ∀ j : Nat, (j : Int) < ix s → p (gt l j) = true) (fun s => (l.length - ix s).toNat) (s0 := s0)
    ⟨hJ0, by omega, by omega, fun j hj => by omega⟩ (by omega) (fun s ⟨hJ, b1, b2, b3⟩ hs => by
      have h1 := hsel s hJ b1 b2
      rw [hs] at h1
      have h2 := (Bool.and_eq_true _ _).mp h1.symm
      have h3 : ix s < l.length := by simpa using h2.1
      obtain ⟨h4, h5⟩ := hnx s hJ b1 h3 hs
      refine ⟨⟨h5, by omega, by omega, fun j hj => ?_⟩, by omega⟩
      by_cases hjj : (j : Int) < ix s
      · exact b3 j hjj
      · have : (j : Int) = ix s := by omega
        rw [this]; exact h2.2)
  refine ⟨s1, e, hJ, a1, ?_⟩
  rcases Int.lt_or_eq_of_le a2 with h | h
  · have h1 := hsel s1 hJ a1 a2
    rw [hs] at h1
    have hp : p (gt l (ix s1)) = false := by simpa [h] using h1.symm
    refine .inr ⟨h, hp, ?_⟩
    rw [List.all_eq_false]
    exact ⟨_, gt_mem a1 h, by simp [hp]⟩
  · refine .inl ⟨h, ?_⟩
    rw [List.all_eq_true]
    intro x hx
    obtain ⟨j, hj, rfl⟩ := List.getElem_of_mem hx
    have := a3 j (by omega)
    rwa [gt_nat hj] at this
theorem idx_loop {S : Type} {sel : S → Bool} {nx : S → S} {s0 : S} (n : Int) (ix : S → Int) (J : S → Prop) (hn : n < 1152921504606846976) (h0 : J s0) (h1 : 0 ≤ ix s0) (h2 : ix s0 ≤ n)
    (hr : ∀ s, J s → 0 ≤ ix s → ix s < n → sel s = true ∧ J (nx s) ∧ ix (nx s) = ix s + 1) (he : ∀ s, J s → ix s = n → sel s = false) : ∃ s1, itS sel nx bound s0 = some s1 ∧ J s1 ∧ ix s1 = n := by
  obtain ⟨s1, e, ⟨hJ, a1, a2⟩, hs⟩ := loop_inv (sel := sel) (nx := nx) (fun s => J s ∧ 0 ≤ ix s ∧ ix s ≤ n) (fun s => (n - ix s).toNat) (s0 := s0) ⟨h0, h1, h2⟩ (by omega) (fun s ⟨hJ, b1, b2⟩ hs => by
    by_cases h : ix s = n
    · rw [he s hJ h] at hs; cases hs
    · obtain ⟨_, g1, g2⟩ := hr s hJ b1 (by omega)
      exact ⟨⟨g1, by omega, by omega⟩, by omega⟩)
  refine ⟨s1, e, hJ, ?_⟩
  by_cases h : ix s1 = n
  · exact h
  · rw [(hr s1 hJ a1 (by omega)).1] at hs; cases hs
end Go.Proofs.Ytdlhhoejnhjbhaa.Den

namespace Go.Proofs.Ytdlhhoejnhjbhaa.Den
open Go
set_option linter.unusedVariables false
set_option linter.unusedSimpArgs false
theorem loop_seq {S : Type} {sel : S → Bool} {nx : S → S} (st : Nat → S) (n : Nat) (hb : n < 1152921504606846976) (hn : ∀ k, k < n → sel (st k) = true ∧ nx (st k) = st (k + 1)) (he : sel (st n) = false) : itS sel nx bound (st 0) = some (st n) := by
  have key : ∀ (d N : Nat), d ≤ n → d < N → itS sel nx N (st (n - d)) = some (st n) := by
    intro d
    induction d with
    | zero =>
      intro N _ hN
      obtain ⟨N, rfl⟩ : ∃ M, N = M + 1 := ⟨N - 1, by omega⟩
      simp only [Nat.sub_zero, itS, he]
    | succ d ih =>
      intro N h1 hN
      obtain ⟨N, rfl⟩ : ∃ M, N = M + 1 := ⟨N - 1, by omega⟩
      obtain ⟨g1, g2⟩ := hn (n - (d + 1)) (by omega)
      simp only [itS, g1, g2]
      rw [show n - (d + 1) + 1 = n - d by omega]
      exact ih N (by omega) (by omega)
  have := key n bound (Nat.le_refl _) (by unfold bound; omega)
  rwa [Nat.sub_self] at this
theorem take_succ_gt {α : Type} [Inhabited α] {l : List α} {k : Nat} (h : k < l.length) : l.take (k + 1) = l.take k ++ [gt l (k : Int)] := by
  rw [gt_nat h, List.take_succ_eq_append_getElem h]
theorem shr_i64 (x : Int) (k : Nat) (hk : k ≤ 64) : shrI .i64 x (k : Int) = x / (2 ^ k : Int) := by
  unfold shrI
  have : min (k : Int).toNat IntKind.i64.bits = k := by simp [IntKind.bits]; omega
  rw [this]
  exact Int.fdiv_eq_ediv_of_nonneg _ (by exact_mod_cast Nat.zero_le _)
theorem quo_i64 {x y : Int} (h1 : 0 ≤ x) (h2 : 0 ≤ y) (h3 : x ≤ 9223372036854775807) : quoI .i64 x y = x / y := by
  unfold quoI
  rw [Int.tdiv_eq_ediv_of_nonneg h1]
  have a := Int.ediv_nonneg h1 h2
  have b := Int.ediv_le_self y h1
  exact wrap64 (by omega) (by omega)
theorem rem_i64 {x y : Int} (h1 : 0 ≤ x) : remI .i64 x y = x % y := by
  unfold remI; exact Int.tmod_eq_emod_of_nonneg h1
end Go.Proofs.Ytdlhhoejnhjbhaa.Den

namespace Go.Proofs.Ytdlhhoejnhjbhaa.Den
open Go
set_option linter.unusedVariables false
set_option linter.unusedSimpArgs false
def Srt (l : List Int) : Prop := l.Pairwise (· ≤ ·)
theorem srt_unique : ∀ {a b : List Int}, Srt a → Srt b → a.Perm b → a = b
  | [], b, _, _, h => by simpa using h.symm
  | x :: a, [], _, _, h => by simp at h
  | x :: a, y :: b, ha, hb, h => by
    obtain ⟨a1, a2⟩ := List.pairwise_cons.1 ha
    obtain ⟨b1, b2⟩ := List.pairwise_cons.1 hb
    have hx : x ∈ y :: b := h.mem_iff.1 (by simp)
    have hy : y ∈ x :: a := h.mem_iff.2 (by simp)
    have e : x = y := by
      rcases List.mem_cons.1 hx with h1 | h1
      · exact h1
      · rcases List.mem_cons.1 hy with h2 | h2
        · exact h2.symm
        · have := a1 y h2; have := b1 x h1; omega
    subst e
    rw [srt_unique a2 b2 (List.Perm.cons_inv h)]
def bubc : Int → List Int → List Int
  | m, [] => [m]
  | m, x :: r => if x < m then x :: bubc m r else m :: bubc x r
def bub : List Int → List Int
  | [] => []
  | a :: r => bubc a r
theorem bubc_perm : ∀ (r : List Int) (m : Int), (bubc m r).Perm (m :: r)
  | [], m => List.Perm.refl _
  | x :: r, m => by
    simp only [bubc]
    split
    · exact ((bubc_perm r m).cons x).trans (List.Perm.swap _ _ _)
    · exact (bubc_perm r x).cons m
theorem bub_perm : ∀ (l : List Int), (bub l).Perm l
  | [] => List.Perm.refl _
  | a :: r => bubc_perm r a
theorem bubc_snoc : ∀ (r : List Int) (m : Int), ∃ q M, bubc m r = q ++ [M] ∧ q.length = r.length ∧ (∀ z, z ∈ m :: r → z ≤ M) ∧ ∀ x, bubc m (r ++ [x]) = if x < M then q ++ [x, M] else q ++ [M, x]
  | [], m => ⟨[], m, rfl, rfl, by simp, fun x => by simp only [List.nil_append, bubc]⟩
  | y :: r, m => by
    by_cases h : y < m
    · obtain ⟨q, M, h1, h2, h3, h4⟩ := bubc_snoc r m
      refine ⟨y :: q, M, by simp only [bubc, h, if_true, h1]; rfl, by simp [h2], fun z hz => ?_, fun x => ?_⟩
      · have hm := h3 m (by simp)
        simp only [List.mem_cons] at hz
        rcases hz with rfl | rfl | hz
        · exact hm
        · omega
        · exact h3 z (by simp [hz])
      · simp only [List.cons_append, bubc, h, if_true, h4 x]
        split <;> rfl
    · obtain ⟨q, M, h1, h2, h3, h4⟩ := bubc_snoc r y
      refine ⟨m :: q, M, by simp only [bubc, h, if_false, h1]; rfl, by simp [h2], fun z hz => ?_, fun x => ?_⟩
      · have hy := h3 y (by simp)
        simp only [List.mem_cons] at hz
        rcases hz with rfl | rfl | hz
        · omega
        · exact hy
        · exact h3 z (by simp [hz])
      · simp only [List.cons_append, bubc, h, if_false, h4 x]
        split <;> rfl
theorem bub_snoc {l : List Int} (h : l ≠ []) : ∃ q M, bub l = q ++ [M] ∧ q.length + 1 = l.length ∧ (∀ z, z ∈ l → z ≤ M) ∧ ∀ x, bub (l ++ [x]) = if x < M then q ++ [x, M] else q ++ [M, x] := by
  cases l with
  | nil => exact absurd rfl h
  | cons a r =>
    obtain ⟨q, M, h1, h2, h3, h4⟩ := bubc_snoc r a
    exact ⟨q, M, h1, by simp [h2], h3, fun x => h4 x⟩
theorem bubc_app : ∀ (r : List Int) (m : Int) (s : List Int), (∀ x, x ∈ m :: r → ∀ y, y ∈ s → x ≤ y) → Srt s → bubc m (r ++ s) = bubc m r ++ s
  | [], m, [], _, _ => rfl
  | [], m, y :: s, h, hs => by
    obtain ⟨s1, s2⟩ := List.pairwise_cons.1 hs
    have hy := h m (by simp) y (by simp)
    have ih := bubc_app [] y s (fun x hx z hz => by simp at hx; subst hx; exact s1 z hz) s2
    simp only [List.nil_append, bubc] at ih ⊢
    rw [if_neg (by omega), ih]
    rfl
  | x :: r, m, s, h, hs => by
    simp only [List.cons_append, bubc]
    split
    · rw [bubc_app r m s (fun z hz => h z (by simp only [List.mem_cons] at hz ⊢; rcases hz with h | h; exact .inl h; exact .inr (.inr h))) hs]; rfl
    · rw [bubc_app r x s (fun z hz => h z (by simp only [List.mem_cons] at hz ⊢; exact .inr hz)) hs]; rfl
def Top (k : Nat) (l : List Int) : Prop := ∃ a s, l = a ++ s ∧ s.length = k ∧ Srt s ∧ ∀ x, x ∈ a → ∀ y, y ∈ s → x ≤ y
theorem top_zero (l : List Int) : Top 0 l := ⟨l, [], by simp, rfl, List.Pairwise.nil, by simp⟩
theorem bub_top {k : Nat} {l : List Int} (h : Top k l) (hk : k < l.length) : Top (k + 1) (bub l) := by
  obtain ⟨a, s, rfl, hs, hsrt, hle⟩ := h
  cases a with
  | nil => simp at hk; omega
  | cons m r =>
    obtain ⟨q, M, h1, h2, h3, _⟩ := bubc_snoc r m
    have e : bub (m :: r ++ s) = q ++ (M :: s) := by
      show bubc m (r ++ s) = _
      rw [bubc_app r m s hle hsrt, h1]; simp
    have hp := bubc_perm r m
    rw [h1] at hp
    refine ⟨q, M :: s, e, by simp [hs], List.pairwise_cons.2 ⟨fun y hy => ?_, hsrt⟩, fun x hx y hy => ?_⟩
    · exact hle M (hp.mem_iff.1 (by simp)) y hy
    · have hx' : x ∈ m :: r := hp.mem_iff.1 (by simp [hx])
      rcases List.mem_cons.1 hy with rfl | hy
      · exact h3 x hx'
      · exact hle x hx' y hy
theorem top_all {l : List Int} (h : Top l.length l) : Srt l := by
  obtain ⟨a, s, e, hs, hsrt, _⟩ := h
  have : a = [] := by
    have := congrArg List.length e
    simp at this
    exact List.length_eq_zero_iff.1 (by omega)
  subst this
  rw [e]; simpa using hsrt
def bubn (l : List Int) : Nat → List Int
  | 0 => l
  | k + 1 => bub (bubn l k)
theorem bubn_perm (l : List Int) : ∀ k, (bubn l k).Perm l
  | 0 => List.Perm.refl _
  | k + 1 => (bub_perm _).trans (bubn_perm l k)
theorem bubn_len (l : List Int) (k : Nat) : (bubn l k).length = l.length := (bubn_perm l k).length_eq
theorem bubn_top (l : List Int) : ∀ k, k ≤ l.length → Top k (bubn l k)
  | 0, _ => top_zero l
  | k + 1, h => bub_top (bubn_top l k (by omega)) (by rw [bubn_len]; omega)
theorem bubn_srt (l : List Int) : Srt (bubn l l.length) := top_all (by rw [bubn_len]; exact bubn_top l l.length (Nat.le_refl _))
theorem bubc_fix : ∀ (r : List Int) (m : Int), bubc m r = m :: r → Srt (m :: r)
  | [], m, _ => List.pairwise_singleton _ _
  | x :: r, m, h => by
    simp only [bubc] at h
    split at h
    · rename_i hlt; simp at h; omega
    · rename_i hlt
      have h' := (List.cons.inj h).2
      have ih := bubc_fix r x h'
      refine List.pairwise_cons.2 ⟨fun y hy => ?_, ih⟩
      rcases List.mem_cons.1 hy with rfl | hy
      · omega
      · have := (List.pairwise_cons.1 ih).1 y hy; omega
theorem bub_fix {l : List Int} (h : bub l = l) : Srt l := by
  cases l with
  | nil => exact List.Pairwise.nil
  | cons a r => exact bubc_fix r a h
theorem bubn_stop (l : List Int) : ∃ k, k ≤ l.length ∧ (∀ j, j < k → bub (bubn l j) ≠ bubn l j) ∧ (k = l.length ∨ bub (bubn l k) = bubn l k) ∧ Srt (bubn l k) := by
  have : ∀ n, n ≤ l.length → (∀ j, j < n → bub (bubn l j) ≠ bubn l j) ∨ ∃ k, k < n ∧ (∀ j, j < k → bub (bubn l j) ≠ bubn l j) ∧ bub (bubn l k) = bubn l k := by
    intro n
    induction n with
    | zero => intro _; left; intro j hj; omega
    | succ n ih =>
      intro hn
      rcases ih (by omega) with h | ⟨k, h1, h2, h3⟩
      · by_cases e : bub (bubn l n) = bubn l n
        · exact .inr ⟨n, by omega, h, e⟩
        · left
          intro j hj
          by_cases e' : j = n
          · subst e'; exact e
          · exact h j (by omega)
      · exact .inr ⟨k, by omega, h2, h3⟩
  rcases this l.length (Nat.le_refl _) with h | ⟨k, h1, h2, h3⟩
  · exact ⟨l.length, Nat.le_refl _, h, .inl rfl, bubn_srt l⟩
  · exact ⟨k, by omega, h2, .inr h3, bub_fix h3⟩
def insI (x : Int) (l : List Int) : List Int := l.takeWhile (fun y => decide (y ≤ x)) ++ x :: l.dropWhile (fun y => decide (y ≤ x))
theorem insI_perm (x : Int) (l : List Int) : (insI x l).Perm (x :: l) := by
  unfold insI
  refine List.perm_middle.trans ?_
  rw [List.takeWhile_append_dropWhile]
theorem insI_cons (x y : Int) (l : List Int) : insI x (y :: l) = if y ≤ x then y :: insI x l else x :: y :: l := by
  unfold insI
  by_cases h : y ≤ x <;> simp [h]
theorem insI_srt (x : Int) : ∀ {l : List Int}, Srt l → Srt (insI x l)
  | [], _ => by simp [insI, Srt]
  | y :: l, h => by
    obtain ⟨h1, h2⟩ := List.pairwise_cons.1 h
    rw [insI_cons]
    split
    · rename_i hle
      refine List.pairwise_cons.2 ⟨fun z hz => ?_, insI_srt x h2⟩
      have := (insI_perm x l).mem_iff.1 hz
      rcases List.mem_cons.1 this with rfl | hz'
      · exact hle
      · exact h1 z hz'
    · rename_i hle
      refine List.pairwise_cons.2 ⟨fun z hz => ?_, h⟩
      rcases List.mem_cons.1 hz with rfl | hz'
      · omega
      · have := h1 z hz'; omega
def isort (l : List Int) : List Int := l.foldl (fun out x => insI x out) []
theorem foldl_ins : ∀ (l acc : List Int), Srt acc → Srt (l.foldl (fun out x => insI x out) acc) ∧ (l.foldl (fun out x => insI x out) acc).Perm (acc ++ l)
  | [], acc, h => ⟨h, by simp⟩
  | x :: l, acc, h => by
    obtain ⟨h1, h2⟩ := foldl_ins l (insI x acc) (insI_srt x h)
    refine ⟨h1, h2.trans ?_⟩
    exact ((insI_perm x acc).append_right l).trans (List.perm_middle.symm)
theorem isort_srt (l : List Int) : Srt (isort l) := (foldl_ins l [] List.Pairwise.nil).1
theorem isort_perm (l : List Int) : (isort l).Perm l := by unfold isort; simpa using (foldl_ins l [] List.Pairwise.nil).2
theorem isort_len (l : List Int) : (isort l).length = l.length := (isort_perm l).length_eq
theorem srt_isort {l k : List Int} (h : Srt k) (hp : k.Perm l) : k = isort l := srt_unique h (isort_srt l) (hp.trans (isort_perm l).symm)
end Go.Proofs.Ytdlhhoejnhjbhaa.Den

namespace Go.Proofs.Ytdlhhoejnhjbhaa.Den
open Go
set_option linter.unusedVariables false
set_option linter.unusedSimpArgs false
def sm (z : Int) : Bool := decide (-1099511627776 ≤ z) && decide (z ≤ 1099511627776)
theorem sm_iff {z : Int} : sm z = true ↔ -1099511627776 ≤ z ∧ z ≤ 1099511627776 := by simp [sm]
theorem small_eq (l : List Int) (hl : l.length < 1152921504606846976) : fix_small_o_c0 l = true ∧ fix_small_o_r0_0 l = l.all sm := by
  obtain ⟨s1, e, -, h0, h⟩ := all_loop (sel := fix_small_o_L0_sel l l.length) (nx := fix_small_o_L0_nx l l.length) (s0 := ⟨0⟩) l (fun s => s.c3) sm (fun _ => True) hl rfl trivial
    (fun s _ h1 h2 _ => ⟨by show wi _ = _; exact wi_eq (by omega) (by omega), trivial⟩)
    (fun s _ h1 h2 => by
      by_cases h : s.c3 < l.length
      · have hi := inb_of h1 h
        by_cases g1 : gt l s.c3 < -1099511627776
        · have : sm (gt l s.c3) = false := by simp [sm]; omega
          simp [fix_small_o_L0_sel, h, hi, g1, this]
        · by_cases g2 : 1099511627776 < gt l s.c3
          · have : sm (gt l s.c3) = false := by simp [sm]; omega
            simp [fix_small_o_L0_sel, h, hi, g1, g2, this]
          · have : sm (gt l s.c3) = true := by simp [sm]; omega
            simp [fix_small_o_L0_sel, h, hi, g1, g2, this]
      · simp [fix_small_o_L0_sel, h])
  have hok : fix_small_o_L0_ok l l.length ⟨0⟩ = true := by simp [fix_small_o_L0_ok, e]
  have hend : fix_small_o_e0 l = s1 := by simp [fix_small_o_e0, fix_small_o_L0_end, e]
  simp only [fix_small_o_c0, fix_small_o_r0_0, hok, hend, tb_eq, cond_true]
  rcases h with ⟨h1, h2⟩ | ⟨h1, h2, h3⟩
  · simp [fix_small_o_L0_c0, fix_small_o_L0_c1, h1, h2]
  · simp [fix_small_o_L0_c0, fix_small_o_L0_c1, h1, h3, inb_of h0 h1]
theorem small2 (a b : Int) : fix_small_o_c0 [a, b] = true ∧ fix_small_o_r0_0 [a, b] = (sm a && sm b) := by simpa using small_eq [a, b] (by simp)
end Go.Proofs.Ytdlhhoejnhjbhaa.Den

namespace Go.Proofs.Ytdlhhoejnhjbhaa.Den
open Go
set_option linter.unusedVariables false
set_option linter.unusedSimpArgs false
theorem bigr (z : Int) : order_right_c1_i_r0_0 z = !sm z := by
  simp only [order_right_c1_i_r0_0, tb_eq, sm]
  by_cases h1 : z < -1099511627776
  · have : ¬ (-1099511627776 ≤ z) := by omega
    simp [h1, this]
  · have h2 : -1099511627776 ≤ z := by omega
    by_cases h3 : 1099511627776 < z
    · have : ¬ (z ≤ 1099511627776) := by omega
      simp [h1, h2, h3, this]
    · have : z ≤ 1099511627776 := by omega
      simp [h1, h2, h3, this]
theorem idx_big (l : List Int) (hl : l.length < 1152921504606846976) : slices_IndexFunc_int_o_order_right_c1_c0 l = true ∧ (decide (0 ≤ slices_IndexFunc_int_o_order_right_c1_r0_0 l)) = !(l.all sm) := by
  obtain ⟨s1, e, -, h0, h⟩ := all_loop (sel := slices_IndexFunc_int_o_order_right_c1_L0_sel l l.length) (nx := slices_IndexFunc_int_o_order_right_c1_L0_nx l l.length) (s0 := ⟨0⟩) l (fun s => s.c3) sm (fun _ => True) hl rfl trivial
    (fun s _ h1 h2 _ => ⟨by show wi _ = _; exact wi_eq (by omega) (by omega), trivial⟩)
    (fun s _ h1 h2 => by
      by_cases h : s.c3 < l.length
      · have hi := inb_of h1 h
        simp only [slices_IndexFunc_int_o_order_right_c1_L0_sel, h, hi, bigr, tb_eq, decide_true, cond_true, Bool.true_and]
        cases sm (gt l s.c3) <;> rfl
      · simp [slices_IndexFunc_int_o_order_right_c1_L0_sel, h])
  have hok : slices_IndexFunc_int_o_order_right_c1_L0_ok l l.length ⟨0⟩ = true := by simp [slices_IndexFunc_int_o_order_right_c1_L0_ok, e]
  have hend : slices_IndexFunc_int_o_order_right_c1_e0 l = s1 := by simp [slices_IndexFunc_int_o_order_right_c1_e0, slices_IndexFunc_int_o_order_right_c1_L0_end, e]
  simp only [slices_IndexFunc_int_o_order_right_c1_c0, slices_IndexFunc_int_o_order_right_c1_r0_0, hok, hend, tb_eq, cond_true]
  rcases h with ⟨h1, h2⟩ | ⟨h1, h2, h3⟩
  · simp [slices_IndexFunc_int_o_order_right_c1_L0_c0, slices_IndexFunc_int_o_order_right_c1_L0_c1, h1, h2]
  · have hi := inb_of h0 h1
    simp [slices_IndexFunc_int_o_order_right_c1_L0_c0, slices_IndexFunc_int_o_order_right_c1_L0_c1, h1, h3, hi, h0]
def lst16 (l : List Int) : Bool := decide (l.length ≤ 16) && l.all sm
theorem right_o (l : List Int) (hl : l.length < 1152921504606846976) : order_right_o_c0 l = true ∧ order_right_o_r0_0 l = lst16 l := by
  obtain ⟨h1, h2⟩ := idx_big l hl
  simp only [order_right_o_c0, order_right_o_r0_0, slices_ContainsFunc_int_o_order_right_c1_c0, h1, h2, tb_eq, lst16]
  by_cases h : l.length ≤ 16
  · have : ((l.length : Int) ≤ 16) := by omega
    simp [h, this]
  · have : ¬ ((l.length : Int) ≤ 16) := by omega
    simp [h, this]
theorem set_mid {q r : List Int} {a b : Int} : (q ++ a :: r).set q.length b = q ++ b :: r := by
  rw [List.set_append_right _ _ (Nat.le_refl _)]; simp
theorem gt_mid {q r : List Int} {a : Int} : gt (q ++ a :: r) (q.length : Int) = a := by
  rw [gt_nat (by simp)]; simp
theorem gt_mid1 {q r : List Int} {a b : Int} : gt (q ++ a :: b :: r) ((q.length : Int) + 1) = b := by
  have : ((q.length : Int) + 1) = ((q.length + 1 : Nat) : Int) := by omega
  rw [this, gt_nat (by simp)]
  rw [List.getElem_append_right (by omega)]; simp
theorem st_mid {q r : List Int} {a b : Int} : st (q ++ a :: r) (q.length : Int) b = q ++ b :: r := by
  unfold st; rw [Int.toNat_natCast]; exact set_mid
theorem st_mid1 {q r : List Int} {a b c : Int} : st (q ++ a :: b :: r) ((q.length : Int) + 1) c = q ++ a :: c :: r := by
  unfold st
  have : ((q.length : Int) + 1).toNat = (q ++ [a]).length := by simp
  rw [this]
  have e : q ++ a :: b :: r = (q ++ [a]) ++ b :: r := by simp
  rw [e, set_mid]; simp
def passSt (l : List Int) (i : Nat) : order_Sort_o_L1_s0 := ⟨!(bub (l.take i) == l.take i), i, bub (l.take i) ++ l.drop i⟩
theorem pass_run {l : List Int} (hl : 1 ≤ l.length) (hb : l.length ≤ 1000) : itS (order_Sort_o_L1_sel l.length) (order_Sort_o_L1_nx l.length) bound ⟨false, 1, l⟩ = some ⟨!(bub l == l), l.length, bub l⟩ := by
  have := loop_seq (sel := order_Sort_o_L1_sel l.length) (nx := order_Sort_o_L1_nx l.length) (fun k => passSt l (k + 1)) (l.length - 1) (by omega) (fun k hk => ?_) ?_
  · have e0 : passSt l (0 + 1) = ⟨false, 1, l⟩ := by
      cases l with
      | nil => simp at hl
      | cons a r => simp [passSt, bub, bubc]
    have e1 : passSt l (l.length - 1 + 1) = ⟨!(bub l == l), l.length, bub l⟩ := by
      rw [show l.length - 1 + 1 = l.length by omega]; simp [passSt]
    rw [e0, e1] at this; exact this
  · have hne : l.take (k + 1) ≠ [] := by
      intro h
      rw [List.take_eq_nil_iff] at h
      rcases h with h | h
      · omega
      · subst h; simp at hl
    obtain ⟨q, M, h1, h2, h3, h4⟩ := bub_snoc hne
    have hlk : (l.take (k + 1)).length = k + 1 := by simp; omega
    have hq : q.length = k := by omega
    have hdrop : l.drop (k + 1) = gt l ((k + 1 : Nat) : Int) :: l.drop (k + 2) := by
      rw [gt_nat (show k + 1 < l.length by omega)]; exact List.drop_eq_getElem_cons (by omega)
    have htake : l.take (k + 2) = l.take (k + 1) ++ [gt l ((k + 1 : Nat) : Int)] := take_succ_gt (by omega)
    generalize hx : gt l ((k + 1 : Nat) : Int) = x at *
    have h4x := h4 x
    have elist : bub (l.take (k + 1)) ++ l.drop (k + 1) = q ++ M :: x :: l.drop (k + 2) := by rw [h1, hdrop]; simp
    have w1 : wi (((k + 1 : Nat) : Int) - 1) = (q.length : Int) := by rw [wi_eq (by omega) (by omega)]; omega
    have ek : ((k + 1 : Nat) : Int) = (q.length : Int) + 1 := by omega
    have len : (q ++ M :: x :: l.drop (k + 2)).length = l.length := by simp; omega
    have b1 : inb l.length (q.length : Int) = true := inb_of (by omega) (by omega)
    have b2 : inb l.length ((q.length : Int) + 1) = true := inb_of (by omega) (by omega)
    have lt : ((q.length : Int) + 1) < (l.length : Int) := by omega
    have w2 : wi (((q.length : Int) + 1) - 1) = (q.length : Int) := by rw [wi_eq (by omega) (by omega)]; omega
    have w3 : wi (((q.length : Int) + 1) + 1) = ((k + 2 : Nat) : Int) := by rw [wi_eq (by omega) (by omega)]; omega
    have len1 : (q ++ x :: x :: l.drop (k + 2)).length = l.length := by simp; omega
    constructor
    · simp only [passSt, order_Sort_o_L1_sel, elist, ek, w2, gt_mid, gt_mid1, st_mid, b1, b2, lt, len, len1, Nat.beq_refl, tb_eq, decide_true, cond_true]
      cases decide (x < M) <;> rfl
    · simp only [passSt, order_Sort_o_L1_nx, order_Sort_o_L1_h0_e0, elist, ek, w2, w3, gt_mid, gt_mid1, st_mid, st_mid1, tb_eq]
      by_cases hlt : x < M
      · have hne2 : (bub (l.take (k + 2)) == l.take (k + 2)) = false := by
          rw [htake, h4x, if_pos hlt]
          rw [beq_eq_false_iff_ne]
          intro he
          have := congrArg List.getLast? he
          simp at this; omega
        simp only [hlt, decide_true, cond_true, hne2]
        rw [htake, h4x, if_pos hlt]; simp; omega
      · have heq : (bub (l.take (k + 2)) == l.take (k + 2)) = (bub (l.take (k + 1)) == l.take (k + 1)) := by
          rw [htake, h4x, if_neg hlt]
          have : q ++ [M, x] = bub (l.take (k + 1)) ++ [x] := by rw [h1]; simp
          rw [this, Bool.eq_iff_iff]; simp
        simp only [hlt, decide_false, cond_false]
        rw [heq, htake, h4x, if_neg hlt]; simp; omega
  · have : ¬ (((l.length - 1 + 1 : Nat) : Int) < (l.length : Int)) := by omega
    show (bif decide (((l.length - 1 + 1 : Nat) : Int) < (l.length : Int)) then _ else false) = false
    rw [decide_eq_false this]; rfl
theorem pass_all {l : List Int} (hl : 1 ≤ l.length) (hb : l.length ≤ 1000) : order_Sort_o_L1_ok l.length ⟨false, 1, l⟩ = true ∧ order_Sort_o_L1_end l.length ⟨false, 1, l⟩ = ⟨!(bub l == l), l.length, bub l⟩ ∧ order_Sort_o_L1_c0 l.length ⟨!(bub l == l), l.length, bub l⟩ = true := by
  have h := pass_run hl hb
  refine ⟨by simp only [order_Sort_o_L1_ok, h]; rfl, by simp only [order_Sort_o_L1_end, h]; rfl, by simp [order_Sort_o_L1_c0, tb_eq]⟩
theorem passes {l : List Int} (hb : l.length ≤ 1000) : order_Sort_o_S3_c0 l l.length = true ∧ order_Sort_o_L2_r0_3 l.length (l.length : Int) (order_Sort_o_S3_e0 l l.length) = isort l := by
  obtain ⟨n, hn, h1, h2, h3⟩ := bubn_stop l
  have hs : bubn l n = isort l := srt_isort h3 (bubn_perm l n)
  have hrun : itS (order_Sort_o_L2_sel l.length (l.length : Int)) (order_Sort_o_L2_nx l.length (l.length : Int)) bound ⟨0, l⟩ = some ⟨n, bubn l n⟩ := by
    have := loop_seq (sel := order_Sort_o_L2_sel l.length (l.length : Int)) (nx := order_Sort_o_L2_nx l.length (l.length : Int)) (fun k => ⟨(k : Int), bubn l k⟩) n (by omega) (fun k hk => ?_) ?_
    · exact this
    · have hlen := bubn_len l k
      obtain ⟨a1, a2, a3⟩ := pass_all (l := bubn l k) (by omega) (by omega)
      rw [hlen] at a1 a2 a3
      have hne : (bub (bubn l k) == bubn l k) = false := by rw [beq_eq_false_iff_ne]; exact h1 k hk
      have hlt : (k : Int) < (l.length : Int) := by omega
      rw [hne] at a2 a3
      constructor
      · simp only [order_Sort_o_L2_sel, order_Sort_o_L2_h0_e0, a1, a2, a3, hlt, tb_eq]; simp
      · simp only [order_Sort_o_L2_nx, order_Sort_o_L2_h0_e0, a2]
        rw [wi_eq (by omega) (by omega)]
        simp [bubn]
    · by_cases hlt : n < l.length
      · have hfix : bub (bubn l n) = bubn l n := by rcases h2 with h | h; omega; exact h
        have hlen := bubn_len l n
        obtain ⟨a1, a2, a3⟩ := pass_all (l := bubn l n) (by omega) (by omega)
        rw [hlen] at a1 a2 a3
        rw [hfix] at a2 a3
        have hlt' : (n : Int) < (l.length : Int) := by omega
        simp only [order_Sort_o_L2_sel, order_Sort_o_L2_h0_e0, a1, a2, a3, hlt', tb_eq]
        simp
      · have hlt' : ¬ (n : Int) < (l.length : Int) := by omega
        simp only [order_Sort_o_L2_sel, tb_eq]
        rw [decide_eq_false hlt']; rfl
  have he : order_Sort_o_S3_e0 l l.length = ⟨n, bubn l n⟩ := by simp only [order_Sort_o_S3_e0, order_Sort_o_L2_end, hrun]; rfl
  have hok : order_Sort_o_L2_ok l.length (l.length : Int) ⟨0, l⟩ = true := by simp only [order_Sort_o_L2_ok, hrun]; rfl
  by_cases hlt : n < l.length
  · have hfix : bub (bubn l n) = bubn l n := by rcases h2 with h | h; omega; exact h
    have hlen := bubn_len l n
    obtain ⟨a1, a2, a3⟩ := pass_all (l := bubn l n) (by omega) (by omega)
    rw [hlen] at a1 a2 a3
    rw [hfix] at a2 a3
    have hlt' : (n : Int) < (l.length : Int) := by omega
    constructor
    · simp only [order_Sort_o_S3_c0, hok, he, order_Sort_o_L2_c0, order_Sort_o_L2_h0_e0, a1, a2, a3, hlt', tb_eq]; simp
    · simp only [he, order_Sort_o_L2_r0_3, order_Sort_o_L2_h0_e0, a2, hlt', tb_eq, decide_true, cond_true]; exact hs
  · have hlt' : ¬ (n : Int) < (l.length : Int) := by omega
    constructor
    · simp only [order_Sort_o_S3_c0, hok, he, order_Sort_o_L2_c0, hlt', tb_eq]; simp
    · simp only [he, order_Sort_o_L2_r0_3, hlt', tb_eq, decide_false, cond_false]; exact hs
theorem cpL_rep (l : List Int) (z : Int) : cpL (List.replicate l.length z) l = l := by
  simp [cpL]
theorem Sort_r {l : List Int} (h : lst16 l = true) : order_Sort_o_c0 l = true := by
  have hl : l.length ≤ 16 := by simp [lst16] at h; exact h.1
  obtain ⟨a1, a2⟩ := right_o l (by omega)
  obtain ⟨b1, b2⟩ := passes (l := l) (by omega)
  have e1 : ((l.length : Nat) : Int).toNat = l.length := by omega
  have h0 : (0 : Int) ≤ (l.length : Int) := by omega
  have h1 : (l.length : Int) * 8 ≤ 140737488355328 := by omega
  simp only [order_Sort_o_c0, order_Sort_o_S0_c0, order_Sort_o_e0, order_Sort_o_e2, a1, a2, h, e1, List.length_replicate, cpL_rep, b1, h0, h1, tb_eq]; simp
def midI (l : List Int) : Int := (gt (isort l) (((l.length : Int) - 1) / 2) + gt (isort l) ((l.length : Int) / 2)) / 2
def mid4 (l : List Int) : Bool := lst16 l && (decide (1 ≤ l.length) && decide (l.length ≤ 4))
theorem isort_sm {l : List Int} (h : lst16 l = true) {i : Int} (h1 : 0 ≤ i) (h2 : i < l.length) : -1099511627776 ≤ gt (isort l) i ∧ gt (isort l) i ≤ 1099511627776 := by
  have hm := gt_mem (l := isort l) h1 (by rw [isort_len]; exact h2)
  have := (isort_perm l).mem_iff.1 hm
  simp only [lst16, Bool.and_eq_true, List.all_eq_true] at h
  exact sm_iff.1 (h.2 _ this)
theorem Mid_r (l : List Int) (hl : l.length < 1152921504606846976) : order_Mid_o_c0 l = true ∧ order_Mid_o_r0_1 l = mid4 l ∧ (mid4 l = true → order_Mid_o_r0_0 l = midI l) ∧ (mid4 l = false → order_Mid_o_r0_0 l = 0) := by
  obtain ⟨a1, a2⟩ := right_o l hl
  cases h : lst16 l with
  | false =>
    have hm : mid4 l = false := by simp [mid4, h]
    refine ⟨by simp [order_Mid_o_c0, a1, a2, h, tb_eq], by simp [order_Mid_o_r0_1, a2, h, tb_eq, hm], (fun e => by rw [hm] at e; cases e), fun _ => by simp [order_Mid_o_r0_0, a2, h, tb_eq]⟩
  | true =>
    by_cases h1 : l.length < 1
    · have hm : mid4 l = false := by simp [mid4]; omega
      have h1' : (l.length : Int) < 1 := by omega
      refine ⟨by simp only [order_Mid_o_c0, a1, a2, h, tb_eq, h1', decide_true, cond_true], by simp only [order_Mid_o_r0_1, a2, h, tb_eq, hm, h1', decide_true, cond_true], (fun e => by rw [hm] at e; cases e), fun _ => by simp only [order_Mid_o_r0_0, a2, h, tb_eq, h1', decide_true, cond_true]⟩
    · have h1' : ¬ (l.length : Int) < 1 := by omega
      by_cases h2 : 4 < l.length
      · have hm : mid4 l = false := by simp [mid4]; omega
        have h2' : (4 : Int) < (l.length : Int) := by omega
        refine ⟨by simp only [order_Mid_o_c0, a1, a2, h, tb_eq, h1', h2', decide_true, decide_false, cond_true, cond_false], by simp only [order_Mid_o_r0_1, a2, h, tb_eq, hm, h1', h2', decide_true, decide_false, cond_true, cond_false], (fun e => by rw [hm] at e; cases e), fun _ => by simp only [order_Mid_o_r0_0, a2, h, tb_eq, h1', h2', decide_true, decide_false, cond_true, cond_false]⟩
      · have hm : mid4 l = true := by simp [mid4, h]; omega
        have h2' : ¬ (4 : Int) < (l.length : Int) := by omega
        obtain ⟨b1, b2⟩ := passes (l := l) (by omega)
        have e1 : ((l.length : Nat) : Int).toNat = l.length := by omega
        have e0 : order_Sort_o_e0 l = l := by simp only [order_Sort_o_e0, e1, cpL_rep]
        have e2 : order_Sort_o_e2 l = l.length := by simp only [order_Sort_o_e2, e1, List.length_replicate]
        have w1 : wi (((l.length : Nat) : Int) - 1) = (l.length : Int) - 1 := wi_eq (by omega) (by omega)
        have q1 : quoI .i64 ((l.length : Int) - 1) 2 = ((l.length : Int) - 1) / 2 := quo_i64 (by omega) (by omega) (by omega)
        have q2 : quoI .i64 (l.length : Int) 2 = (l.length : Int) / 2 := quo_i64 (by omega) (by omega) (by omega)
        have i1 : inb l.length (((l.length : Int) - 1) / 2) = true := inb_of (by omega) (by omega)
        have i2 : inb l.length ((l.length : Int) / 2) = true := inb_of (by omega) (by omega)
        have m1 := isort_sm h (i := ((l.length : Int) - 1) / 2) (by omega) (by omega)
        have m2 := isort_sm h (i := (l.length : Int) / 2) (by omega) (by omega)
        refine ⟨?_, by simp only [order_Mid_o_r0_1, a2, h, tb_eq, hm, h1', h2', decide_false, cond_true, cond_false], fun _ => ?_, fun e => by rw [hm] at e; cases e⟩
        · simp only [order_Mid_o_c0, a1, a2, h, tb_eq, h1', h2', Sort_r h, e0, e2, w1, q1, q2, i1, i2, b2, isort_len, Nat.beq_refl, decide_false, cond_true, cond_false]
        · simp only [order_Mid_o_r0_0, order_Mid_o_e2, order_Mid_o_e0, order_Mid_o_e1, a2, h, tb_eq, h1', h2', e0, e2, w1, q1, q2, b2, decide_false, cond_true, cond_false, midI]
          rw [wi_eq (by omega) (by omega)]
          exact shr_i64 _ 1 (by omega)
end Go.Proofs.Ytdlhhoejnhjbhaa.Den

namespace Go.Proofs.Ytdlhhoejnhjbhaa.Den
open Go
set_option linter.unusedVariables false
set_option linter.unusedSimpArgs false
end Go.Proofs.Ytdlhhoejnhjbhaa.Den

namespace Go.Proofs.Ytdlhhoejnhjbhaa.Den
open Go
set_option linter.unusedVariables false
set_option linter.unusedSimpArgs false
end Go.Proofs.Ytdlhhoejnhjbhaa.Den

namespace Go.Proofs.Ytdlhhoejnhjbhaa.Den
open Go
set_option linter.unusedVariables false
set_option linter.unusedSimpArgs false
end Go.Proofs.Ytdlhhoejnhjbhaa.Den

namespace Go.Proofs.Ytdlhhoejnhjbhaa.Den
open Go
set_option linter.unusedVariables false
set_option linter.unusedSimpArgs false
def wo (l : List Int) (i : Int) : List Int := if 0 ≤ i ∧ i < l.length then l.take i.toNat ++ l.drop (i.toNat + 1) else l
theorem Clone_v (b : Bool) (l : List Int) : slices_Clone_int_o_r0_1 b l = l ∧ slices_Clone_int_o_r0_0 b l = (b && l.isEmpty) := by
  unfold slices_Clone_int_o_r0_1 slices_Clone_int_o_r0_0
  cases b <;> cases l <;> simp
theorem Clone_c (b : Bool) {l : List Int} (hl : l.length ≤ 17592186044416) : slices_Clone_int_o_c0 b l = true := by
  unfold slices_Clone_int_o_c0
  have : (l.length : Nat) * 8 ≤ 140737488355328 := by omega
  simp [this]
theorem del_view {l : List Int} {i : Int} (h : 0 ≤ i ∧ i < l.length) : List.take ((dlL l i (i + 1)).length - ((i + 1).toNat - i.toNat)) (dlL l i (i + 1)) = wo l i := by
  unfold dlL wo
  rw [if_pos ⟨h.1, by omega, by omega⟩, if_pos h]
  have e1 : (i + 1).toNat = i.toNat + 1 := by omega
  rw [e1]
  have e2 : i.toNat + 1 - i.toNat = 1 := by omega
  rw [e2]
  have hl : (l.take i.toNat ++ l.drop (i.toNat + 1)).length = l.length - 1 := by simp; omega
  rw [List.length_append, hl, List.length_replicate, show l.length - 1 + 1 - 1 = (l.take i.toNat ++ l.drop (i.toNat + 1)).length by rw [hl]; omega, List.take_left']
  rfl
theorem wo_len {l : List Int} {i : Int} (h : 0 ≤ i ∧ i < l.length) : (wo l i).length = l.length - 1 := by
  unfold wo; rw [if_pos h]; simp; omega
theorem Without_in (b : Bool) {l : List Int} {i : Int} (h : lst16 l = true) (hi : 0 ≤ i ∧ i < l.length) : order_Without_oi_c0 b l i = false ∧ order_Without_oi_c1 b l i = true := by
  have h16 : l.length ≤ 16 := by simp only [lst16, Bool.and_eq_true, decide_eq_true_eq] at h; exact h.1
  obtain ⟨a1, a2⟩ := right_o l (by omega)
  have hc := Clone_c b (l := l) (by omega)
  have h1 : ¬ i < 0 := by omega
  have h2 : ¬ (l.length : Int) ≤ i := by omega
  have hw : wi (i + 1) = i + 1 := wi_eq (by omega) (by omega)
  have hne : l.isEmpty = false := by cases l with | nil => simp at hi; omega | cons a l => rfl
  have hd : delB l.length i (i + 1) = true := by simp [delB]; omega
  simp [order_Without_oi_c0, order_Without_oi_c1, a1, a2, h, hc, h1, h2, (Clone_v b l).1, (Clone_v b l).2, hne, hw, hd]
end Go.Proofs.Ytdlhhoejnhjbhaa.Den

namespace Go.Proofs.Ytdlhhoejnhjbhaa.Den
open Go
set_option linter.unusedVariables false
set_option linter.unusedSimpArgs false
set_option maxRecDepth 100000
def far32 (z : Int) : Bool := decide (-4294967296 ≤ z) && decide (z ≤ 4294967296)
def par (l : List Int) : Bool := decide (2 ≤ l.length) && decide (l.length ≤ 4) && l.all far32
def resI (l : List Int) (i : Int) : Int := gt l i - midI (wo l i)
def resL (l : List Int) : List Int := (List.range l.length).map fun (i : Nat) => resI l (i : Int)
theorem resL_len (l : List Int) : (resL l).length = l.length := by simp [resL]
theorem par_spec {l : List Int} (h : par l = true) : 2 ≤ l.length ∧ l.length ≤ 4 ∧ ∀ z, z ∈ l → -4294967296 ≤ z ∧ z ≤ 4294967296 := by
  simp only [par, Bool.and_eq_true, decide_eq_true_eq, List.all_eq_true, far32] at h
  exact ⟨h.1.1, h.1.2, h.2⟩
theorem par_lst {l : List Int} (h : par l = true) : lst16 l = true := by
  obtain ⟨h1, h2, h3⟩ := par_spec h
  simp only [lst16, Bool.and_eq_true, decide_eq_true_eq, List.all_eq_true]
  exact ⟨by omega, fun z hz => by have := h3 z hz; rw [sm_iff]; omega⟩
theorem wo_mem {l : List Int} {i z : Int} (h : z ∈ wo l i) : z ∈ l := by
  unfold wo at h
  split at h
  · rcases List.mem_append.1 h with h | h
    · exact List.mem_of_mem_take h
    · exact List.mem_of_mem_drop h
  · exact h
theorem wo_mid {l : List Int} (h : par l = true) {i : Int} (hi : 0 ≤ i ∧ i < l.length) : mid4 (wo l i) = true := by
  obtain ⟨h1, h2, h3⟩ := par_spec h
  have hl := wo_len hi
  simp only [mid4, lst16, Bool.and_eq_true, decide_eq_true_eq, List.all_eq_true]
  exact ⟨⟨by omega, fun z hz => by have := h3 z (wo_mem hz); rw [sm_iff]; omega⟩, by omega, by omega⟩
theorem mid_in {l : List Int} (h : mid4 l = true) {a b : Int} (hb : ∀ z, z ∈ l → a ≤ z ∧ z ≤ b) : a ≤ midI l ∧ midI l ≤ b := by
  simp only [mid4, Bool.and_eq_true, decide_eq_true_eq] at h
  obtain ⟨h16, h1, h2⟩ := h
  have g := fun (i : Int) (x : 0 ≤ i) (y : i < l.length) => hb _ ((isort_perm l).mem_iff.1 (gt_mem (l := isort l) x (by rw [isort_len]; exact y)))
  have m1 := g (((l.length : Int) - 1) / 2) (by omega) (by omega)
  have m2 := g ((l.length : Int) / 2) (by omega) (by omega)
  unfold midI; omega
theorem res_small {l : List Int} (h : par l = true) {i : Int} (hi : 0 ≤ i ∧ i < l.length) : -8589934592 ≤ resI l i ∧ resI l i ≤ 8589934592 := by
  obtain ⟨h1, h2, h3⟩ := par_spec h
  have a := h3 _ (gt_mem hi.1 hi.2)
  have b := mid_in (wo_mid h hi) (a := -4294967296) (b := 4294967296) fun z hz => h3 z (wo_mem hz)
  unfold resI; omega
theorem resL_small {l : List Int} (h : par l = true) : ∀ z, z ∈ resL l → -8589934592 ≤ z ∧ z ≤ 8589934592 := by
  intro z hz
  obtain ⟨i, hi, rfl⟩ := List.mem_map.1 hz
  exact res_small h (by have := List.mem_range.1 hi; omega)
theorem bigp (z : Int) : parity_Residues_c1_i_r0_0 z = !far32 z := by
  simp only [parity_Residues_c1_i_r0_0, tb_eq, far32]
  by_cases h1 : z < -4294967296
  · have : ¬ (-4294967296 ≤ z) := by omega
    simp [h1, this]
  · have : -4294967296 ≤ z := by omega
    by_cases h2 : 4294967296 < z
    · have h3 : ¬ (z ≤ 4294967296) := by omega
      simp [h1, this, h2, h3]
    · have h3 : z ≤ 4294967296 := by omega
      simp [h1, this, h2, h3]
theorem idx_bigp (l : List Int) (hl : l.length < 1152921504606846976) : slices_IndexFunc_int_o_parity_Residues_c1_c0 l = true ∧ (decide (0 ≤ slices_IndexFunc_int_o_parity_Residues_c1_r0_0 l)) = !(l.all far32) := by
  obtain ⟨s1, e, -, h0, h⟩ := all_loop (sel := slices_IndexFunc_int_o_parity_Residues_c1_L0_sel l l.length) (nx := slices_IndexFunc_int_o_parity_Residues_c1_L0_nx l l.length) (s0 := ⟨0⟩) l (fun s => s.c3) far32 (fun _ => True) hl rfl trivial
    (fun s _ h1 h2 _ => ⟨by show wi _ = _; exact wi_eq (by omega) (by omega), trivial⟩)
    (fun s _ h1 h2 => by
      by_cases h : s.c3 < l.length
      · have hi := inb_of h1 h
        simp only [slices_IndexFunc_int_o_parity_Residues_c1_L0_sel, h, hi, bigp, tb_eq, decide_true, cond_true, Bool.true_and]
        cases far32 (gt l s.c3) <;> rfl
      · simp [slices_IndexFunc_int_o_parity_Residues_c1_L0_sel, h])
  have hok : slices_IndexFunc_int_o_parity_Residues_c1_L0_ok l l.length ⟨0⟩ = true := by simp [slices_IndexFunc_int_o_parity_Residues_c1_L0_ok, e]
  have hend : slices_IndexFunc_int_o_parity_Residues_c1_e0 l = s1 := by simp [slices_IndexFunc_int_o_parity_Residues_c1_e0, slices_IndexFunc_int_o_parity_Residues_c1_L0_end, e]
  simp only [slices_IndexFunc_int_o_parity_Residues_c1_c0, slices_IndexFunc_int_o_parity_Residues_c1_r0_0, hok, hend, tb_eq, cond_true]
  rcases h with ⟨h1, h2⟩ | ⟨h1, h2, h3⟩
  · simp [slices_IndexFunc_int_o_parity_Residues_c1_L0_c0, slices_IndexFunc_int_o_parity_Residues_c1_L0_c1, h1, h2]
  · simp [slices_IndexFunc_int_o_parity_Residues_c1_L0_c0, slices_IndexFunc_int_o_parity_Residues_c1_L0_c1, h1, h3, inb_of h0 h1, h0]
theorem pS0 (l : List Int) (hl : l.length < 1152921504606846976) : parity_Residues_o_S0_c0 l = !par l ∧ (par l = true → parity_Residues_o_S0_c1 l = true) := by
  obtain ⟨a1, a2⟩ := idx_bigp l hl
  unfold parity_Residues_o_S0_c0 parity_Residues_o_S0_c1 slices_ContainsFunc_int_o_parity_Residues_c1_c0 par
  by_cases h1 : (l.length : Int) < 2
  · have : ¬ 2 ≤ l.length := by omega
    simp [h1, this]
  · have e1 : 2 ≤ l.length := by omega
    by_cases h2 : (4 : Int) < l.length
    · have : ¬ l.length ≤ 4 := by omega
      simp [h1, h2, this, e1]
    · have e2 : l.length ≤ 4 := by omega
      simp only [h1, h2, e1, e2, a1, a2, decide_false, decide_true, tb_eq, cond_false, cond_true, Bool.true_and]
      cases l.all far32 <;> simp
theorem Res_run (b : Bool) {l : List Int} (h : par l = true) : parity_Residues_o_S2_c0 (List.replicate ((l.length : Nat) : Int).toNat (0 : Int)) b l = true ∧ (parity_Residues_o_S2_e0 (List.replicate ((l.length : Nat) : Int).toNat (0 : Int)) b l).c7 = resL l := by
  obtain ⟨p1, p2, p3⟩ := par_spec h
  have h16 := par_lst h
  have e1 : ((l.length : Nat) : Int).toNat = l.length := by omega
  rw [e1]
  obtain ⟨z, hz⟩ : ∃ z, z = List.replicate l.length (0 : Int) := ⟨_, rfl⟩
  rw [← hz]
  have hzl : z.length = l.length := by rw [hz]; simp
  obtain ⟨s1, e, ⟨hJ1, hJ2⟩, hn⟩ := idx_loop (sel := parity_Residues_o_L1_sel z b l l.length) (nx := parity_Residues_o_L1_nx z b l l.length) (s0 := ⟨0, z⟩) (l.length : Int) (fun s => s.c5)
    (fun s => s.c7.length = l.length ∧ ∀ j : Nat, (j : Int) < s.c5 → s.c7[j]? = some (resI l (j : Int))) (by omega) ⟨hzl, fun j hj => by simp at hj; omega⟩ (by simp) (by simp)
    (fun s ⟨g1, g2⟩ h1 h2 => by
      have hw : wi (s.c5 + 1) = s.c5 + 1 := wi_eq (by omega) (by omega)
      obtain ⟨a1, a2⟩ := Without_in b (l := l) (i := s.c5) h16 ⟨h1, h2⟩
      have ev : parity_Residues_o_L1_h0_e1 b l s = wo l s.c5 := by
        unfold parity_Residues_o_L1_h0_e1
        rw [(Clone_v b l).1, hw]; exact del_view ⟨h1, h2⟩
      have hwl := wo_len (l := l) (i := s.c5) ⟨h1, h2⟩
      obtain ⟨m1, m2, m3, m4⟩ := Mid_r (wo l s.c5) (by omega)
      have hin := inb_of h1 h2
      have hin2 : inb z.length s.c5 = true := by rw [hzl]; exact hin
      have hb : Nat.beq z.length s.c7.length = true := by rw [hzl, g1]; simp
      have hr := res_small h (i := s.c5) ⟨h1, h2⟩
      have e2 : parity_Residues_o_L1_h0_e2 b l s = resI l s.c5 := by
        unfold parity_Residues_o_L1_h0_e2
        rw [ev, m3 (wo_mid h ⟨h1, h2⟩)]
        exact wi_eq (by unfold resI at hr; omega) (by unfold resI at hr; omega)
      refine ⟨by simp [parity_Residues_o_L1_sel, h2, a1, a2, ev, m1, hin, hin2, hb], ?_⟩
      simp only [parity_Residues_o_L1_nx, a1, e2, tb_eq, cond_false, hw]
      refine ⟨⟨by simp [st, g1], fun j hj => ?_⟩, trivial⟩
      unfold st
      rw [List.getElem?_set]
      by_cases hjc : (j : Int) = s.c5
      · have : s.c5.toNat = j := by omega
        rw [if_pos this, if_pos (by omega), hjc]
      · rw [if_neg (by omega)]
        exact g2 j (by omega))
    (fun s _ hs => by simp [parity_Residues_o_L1_sel, hs])
  have hok : parity_Residues_o_L1_ok z b l l.length ⟨0, z⟩ = true := by simp [parity_Residues_o_L1_ok, e]
  have hend : parity_Residues_o_S2_e0 z b l = s1 := by simp [parity_Residues_o_S2_e0, parity_Residues_o_L1_end, e]
  have hn' : s1.c5 = l.length := hn
  refine ⟨by simp [parity_Residues_o_S2_c0, hok, hend, parity_Residues_o_L1_c0, hn'], ?_⟩
  rw [hend]
  apply List.ext_getElem?
  intro j
  by_cases hj : j < l.length
  · rw [hJ2 j (by omega)]; simp [resL, hj]
  · rw [List.getElem?_eq_none (by omega), List.getElem?_eq_none (by rw [resL_len]; omega)]
theorem Res_c (b : Bool) {l : List Int} (hl : l.length < 1152921504606846976) : parity_Residues_o_c0 l = !par l ∧ (par l = true → parity_Residues_o_c1 b l = true) := by
  obtain ⟨a1, a2⟩ := pS0 l hl
  refine ⟨by simp [parity_Residues_o_c0, a1], fun h => ?_⟩
  obtain ⟨p1, p2, p3⟩ := par_spec h
  have hs : (l.length : Int) * 8 ≤ 140737488355328 := by omega
  have hr := (Res_run b h).1
  rw [Int.toNat_natCast] at hr
  simp [parity_Residues_o_c1, a1, h, a2 h, hr, hs]
def lastP (p : Int → Bool) (r : List Int) : Nat → Int
  | 0 => -1
  | k + 1 => if p (gt r (k : Int)) then (k : Int) else lastP p r k
def cntP (p : Int → Bool) (r : List Int) : Nat → Nat
  | 0 => 0
  | k + 1 => cntP p r k + (p (gt r (k : Int))).toNat
theorem lastP_lt (p : Int → Bool) (r : List Int) : ∀ k, -1 ≤ lastP p r k ∧ lastP p r k < k ∧ (cntP p r k = 0 ↔ lastP p r k < 0)
  | 0 => by simp [lastP, cntP]
  | k + 1 => by
    obtain ⟨h1, h2, h3⟩ := lastP_lt p r k
    simp only [lastP, cntP]
    cases p (gt r (k : Int)) <;> simp <;> omega
theorem cntP_mono (p : Int → Bool) (r : List Int) {j : Nat} : ∀ d, cntP p r j ≤ cntP p r (j + d)
  | 0 => Nat.le_refl _
  | d + 1 => by have := cntP_mono p r (j := j) d; rw [show j + (d + 1) = j + d + 1 by omega]; simp only [cntP]; omega
def oneP (p : Int → Bool) (r : List Int) : Int := if cntP p r r.length = 1 then lastP p r r.length else -1
theorem one_loop {S : Type} {sel : S → Bool} {nx : S → S} {s0 : S} (p : Int → Bool) (r : List Int) (ix out : S → Int) (hl : r.length < 1152921504606846976) (h0 : ix s0 = 0) (h1 : out s0 = -1)
    (hsel : ∀ s, 0 ≤ ix s → ix s ≤ r.length → sel s = (decide (ix s < r.length) && (!p (gt r (ix s)) || decide (out s < 0)))) (hnx : ∀ s, 0 ≤ ix s → ix s < r.length → ix (nx s) = ix s + 1 ∧ out (nx s) = if p (gt r (ix s)) then ix s else out s) :
    ∃ s1, itS sel nx bound s0 = some s1 ∧ 0 ≤ ix s1 ∧ ((ix s1 = r.length ∧ out s1 = oneP p r) ∨ (ix s1 < r.length ∧ p (gt r (ix s1)) = true ∧ 0 ≤ out s1 ∧ oneP p r = -1)) := by
  obtain ⟨s1, e, ⟨a0, a1, a2, a3⟩, hs⟩ := loop_inv (sel := sel) (nx := nx) (fun s => 0 ≤ ix s ∧ ix s ≤ r.length ∧ out s = lastP p r (ix s).toNat ∧ cntP p r (ix s).toNat ≤ 1) (fun s => (r.length - ix s).toNat) (s0 := s0)
    ⟨by omega, by omega, by rw [h0, h1]; rfl, by rw [h0]; simp [cntP]⟩ (by omega) (fun s ⟨b0, b1, b2, b3⟩ hs => by
      have h2 := hsel s b0 b1
      rw [hs] at h2
      have h3 := (Bool.and_eq_true _ _).mp h2.symm
      have hlt : ix s < r.length := by simpa using h3.1
      obtain ⟨n1, n2⟩ := hnx s b0 hlt
      have e1 : (ix s + 1).toNat = (ix s).toNat + 1 := by omega
      have e2 : (((ix s).toNat : Nat) : Int) = ix s := Int.toNat_of_nonneg b0
      refine ⟨⟨by omega, by omega, ?_, ?_⟩, by omega⟩
      · rw [n1, n2, e1]; simp only [lastP, e2]; rw [b2]
      · rw [n1, e1]; simp only [cntP, e2]
        have h4 := h3.2
        cases hp : p (gt r (ix s)) with
        | false => simp; exact b3
        | true =>
          rw [hp] at h4
          have h5 : out s < 0 := by simpa using h4
          have := (lastP_lt p r (ix s).toNat).2.2.2 (by rw [← b2]; exact h5)
          simp; omega)
  refine ⟨s1, e, a0, ?_⟩
  rcases Int.lt_or_eq_of_le a1 with h | h
  · right
    have h2 := hsel s1 a0 a1
    rw [hs] at h2
    have h3 : (!p (gt r (ix s1)) || decide (out s1 < 0)) = false := by simpa [h] using h2.symm
    simp only [Bool.or_eq_false_iff, Bool.not_eq_false', decide_eq_false_iff_not] at h3
    refine ⟨h, h3.1, by omega, ?_⟩
    unfold oneP
    have e2 : (((ix s1).toNat : Nat) : Int) = ix s1 := Int.toNat_of_nonneg a0
    have hc : cntP p r (ix s1).toNat ≠ 0 := fun hc => by have := (lastP_lt p r (ix s1).toNat).2.2.1 hc; omega
    have h5 : cntP p r ((ix s1).toNat + 1) = cntP p r (ix s1).toNat + 1 := by simp only [cntP, e2, h3.1]; rfl
    have h6 := cntP_mono p r (j := (ix s1).toNat + 1) (r.length - ((ix s1).toNat + 1))
    rw [show (ix s1).toNat + 1 + (r.length - ((ix s1).toNat + 1)) = r.length by omega] at h6
    rw [if_neg (by omega)]
  · left
    refine ⟨h, ?_⟩
    unfold oneP
    have e1 : (ix s1).toNat = r.length := by omega
    rw [e1] at a2 a3
    rw [a2]
    split
    · rfl
    · rename_i hne
      obtain ⟨q1, q2, q3⟩ := lastP_lt p r r.length
      have := q3.1 (by omega)
      omega
def awayP (b : Int) (z : Int) : Bool := decide (b < z) || decide (z < -b)
theorem Apart_r {z : Int} (h : -8589934592 ≤ z ∧ z ≤ 8589934592) : fix_Apart_ii_c0 z 0 = true ∧ fix_Apart_ii_r0_0 z 0 = max z (-z) := by
  obtain ⟨a1, a2⟩ := small2 z 0
  have hs : sm z = true := by rw [sm_iff]; omega
  have hs0 : sm 0 = true := by rw [sm_iff]; omega
  refine ⟨by simp [fix_Apart_ii_c0, a1], ?_⟩
  simp only [fix_Apart_ii_r0_0, a2, hs, hs0, tb_eq, Bool.and_self, cond_true, mxI_eq]
  rw [wi_eq (by omega) (by omega), wi_eq (by omega) (by omega)]; omega
def susI (l : List Int) (b : Int) : Int := if b < 0 then -1 else if par l then oneP (awayP b) (resL l) else -1
theorem Sus_r (x0 : Bool) {l : List Int} {b : Int} (hl : l.length < 1152921504606846976) : parity_Suspect_oi_c0 x0 l b = true ∧ parity_Suspect_oi_r0_0 x0 l b = susI l b := by
  by_cases hb : b < 0
  · simp [parity_Suspect_oi_c0, parity_Suspect_oi_r0_0, hb, susI]
  obtain ⟨c0, c1⟩ := Res_c x0 hl
  cases hp : par l with
  | false =>
    have e0 : itS (parity_Suspect_oi_L0_sel [] b 0) (parity_Suspect_oi_L0_nx [] b 0) bound ⟨-1, 0⟩ = some ⟨-1, 0⟩ := loop_seq (S := parity_Suspect_oi_L0_s0) (fun _ => ⟨-1, 0⟩) 0 (by omega) (fun k hk => by omega) (by simp [parity_Suspect_oi_L0_sel])
    rw [hp] at c0
    have hS : parity_Suspect_oi_S1_c0 x0 l b = false ∧ parity_Suspect_oi_S1_c1 x0 l b = true ∧ parity_Suspect_oi_S1_r1_0 x0 l b = -1 := by
      simp [parity_Suspect_oi_S1_c0, parity_Suspect_oi_S1_c1, parity_Suspect_oi_S1_r1_0, parity_Suspect_oi_S1_e0, c0, parity_Suspect_oi_L0_ok, parity_Suspect_oi_L0_end, e0, parity_Suspect_oi_L0_c0, parity_Suspect_oi_L0_c1]
    simp [parity_Suspect_oi_c0, parity_Suspect_oi_r0_0, hb, susI, hS.1, hS.2.1, hS.2.2, hp]
  | true =>
    obtain ⟨p1, p2, p3⟩ := par_spec hp
    obtain ⟨r1, r2⟩ := Res_run x0 hp
    have hrs := resL_small hp
    have hrl := resL_len l
    rw [hp] at c0
    have e1 : parity_Suspect_oi_S1_e1 x0 l = resL l := r2
    have e2 : parity_Suspect_oi_S1_e2 l = l.length := by simp [parity_Suspect_oi_S1_e2]
    have e3 : parity_Suspect_oi_S1_e3 l = (l.length : Int) := by simp [parity_Suspect_oi_S1_e3]
    obtain ⟨s1, e, g0, g⟩ := one_loop (sel := parity_Suspect_oi_L0_1_sel (resL l) b l.length l.length) (nx := parity_Suspect_oi_L0_1_nx (resL l) b l.length l.length) (s0 := ⟨-1, 0⟩) (awayP b) (resL l) (fun s => s.c5) (fun s => s.c1) (by omega) rfl rfl
      (fun s h1 h2 => by
        by_cases h : s.c5 < (resL l).length
        · have h' : s.c5 < l.length := by omega
          have hin := inb_of h1 h'
          have hbq : Nat.beq l.length (resL l).length = true := by rw [hrl]; simp
          obtain ⟨a1, a2⟩ := Apart_r (hrs _ (gt_mem h1 h))
          simp only [parity_Suspect_oi_L0_1_sel, h', h, hin, hbq, a1, a2, decide_true, tb_eq, cond_true, Bool.true_and, awayP]
          by_cases q1 : max (gt (resL l) s.c5) (-gt (resL l) s.c5) ≤ b
          · have q2 : ¬ b < gt (resL l) s.c5 := by omega
            have q3 : ¬ gt (resL l) s.c5 < -b := by omega
            simp only [q1, q2, q3, decide_true, decide_false, cond_true, Bool.or_self, Bool.not_false, Bool.true_or]
          · have q2 : (decide (b < gt (resL l) s.c5) || decide (gt (resL l) s.c5 < -b)) = true := by
              simp only [Bool.or_eq_true, decide_eq_true_eq]; omega
            simp only [q1, q2, decide_false, cond_false, Bool.not_true, Bool.false_or]
            by_cases q4 : 0 ≤ s.c1
            · have : ¬ s.c1 < 0 := by omega
              simp [q4, this]
            · have : s.c1 < 0 := by omega
              simp [q4, this]
        · have h' : ¬ s.c5 < l.length := by omega
          simp [parity_Suspect_oi_L0_1_sel, h', h])
      (fun s h1 h2 => by
        have hw : wi (s.c5 + 1) = s.c5 + 1 := wi_eq (by omega) (by omega)
        obtain ⟨a1, a2⟩ := Apart_r (hrs _ (gt_mem h1 h2))
        refine ⟨by simp [parity_Suspect_oi_L0_1_nx, hw], ?_⟩
        simp only [parity_Suspect_oi_L0_1_nx, a2, tb_eq, awayP]
        by_cases q1 : max (gt (resL l) s.c5) (-gt (resL l) s.c5) ≤ b
        · have q2 : ¬ b < gt (resL l) s.c5 := by omega
          have q3 : ¬ gt (resL l) s.c5 < -b := by omega
          simp [q1, q2, q3]
        · have q2 : (decide (b < gt (resL l) s.c5) || decide (gt (resL l) s.c5 < -b)) = true := by
            simp only [Bool.or_eq_true, decide_eq_true_eq]; omega
          simp [q1, q2])
    have hok : parity_Suspect_oi_L0_1_ok (resL l) b l.length l.length ⟨-1, 0⟩ = true := by simp [parity_Suspect_oi_L0_1_ok, e]
    have hend : parity_Suspect_oi_S1_e4 x0 l b = s1 := by simp [parity_Suspect_oi_S1_e4, e1, e2, e3, parity_Suspect_oi_L0_1_end, e]
    rcases g with ⟨g1, g2⟩ | ⟨g1, g2, g3, g4⟩
    · have g1' : s1.c5 = l.length := by rw [g1, hrl]
      have hS : parity_Suspect_oi_S1_c0 x0 l b = false ∧ parity_Suspect_oi_S1_c1 x0 l b = true := by
        simp [parity_Suspect_oi_S1_c0, parity_Suspect_oi_S1_c1, c0, c1 hp, e1, e2, e3, hok, hend, parity_Suspect_oi_L0_1_c0, parity_Suspect_oi_L0_1_c1, g1']
      have hr : parity_Suspect_oi_S1_r1_0 x0 l b = oneP (awayP b) (resL l) := by
        simp only [parity_Suspect_oi_S1_r1_0, c0, hend, tb_eq, Bool.not_true, cond_false]; exact g2
      simp [parity_Suspect_oi_c0, parity_Suspect_oi_r0_0, hb, susI, hS.1, hS.2, hr, hp]
    · have g1' : s1.c5 < l.length := by omega
      have hbq : Nat.beq l.length (resL l).length = true := by rw [hrl]; simp
      obtain ⟨a1, a2⟩ := Apart_r (hrs _ (gt_mem g0 g1))
      have hS : parity_Suspect_oi_S1_c0 x0 l b = true := by
        simp [parity_Suspect_oi_S1_c0, c0, c1 hp, e1, e2, e3, hok, hend, parity_Suspect_oi_L0_1_c0, g1', inb_of g0 g1', hrl, a1]
      simp [parity_Suspect_oi_c0, parity_Suspect_oi_r0_0, hb, susI, hS, hp, g4]
end Go.Proofs.Ytdlhhoejnhjbhaa.Den

namespace Go.Proofs.Ytdlhhoejnhjbhaa.Den
open Go
set_option linter.unusedVariables false
set_option linter.unusedSimpArgs false
set_option maxRecDepth 100000
theorem mid_three (p q r : Int) : midI [p, q, r] = max (min p q) (min (max p q) r) := by
  have e : isort [p, q, r] = insI r (insI q [p]) := rfl
  unfold midI
  rw [e]
  have g1 : ∀ a b c : Int, gt [a, b, c] ((([p, q, r].length : Int) - 1) / 2) = b := fun _ _ _ => by
    rw [show ([p, q, r].length : Int) = 3 from rfl]; rfl
  have g2 : ∀ a b c : Int, gt [a, b, c] (([p, q, r].length : Int) / 2) = b := fun _ _ _ => by
    rw [show ([p, q, r].length : Int) = 3 from rfl]; rfl
  by_cases h1 : p ≤ q
  · have e1 : insI q [p] = [p, q] := by simp [insI, h1]
    rw [e1]
    by_cases h2 : q ≤ r
    · have h3 : p ≤ r := by omega
      have e2 : insI r [p, q] = [p, q, r] := by simp [insI, h2, h3]
      rw [e2, g1, g2]; omega
    · by_cases h3 : p ≤ r
      · have e2 : insI r [p, q] = [p, r, q] := by simp [insI, h2, h3]
        rw [e2, g1, g2]; omega
      · have e2 : insI r [p, q] = [r, p, q] := by simp [insI, h2, h3]
        rw [e2, g1, g2]; omega
  · have e1 : insI q [p] = [q, p] := by simp [insI, h1]
    rw [e1]
    by_cases h2 : p ≤ r
    · have h3 : q ≤ r := by omega
      have e2 : insI r [q, p] = [q, p, r] := by simp [insI, h2, h3]
      rw [e2, g1, g2]; omega
    · by_cases h3 : q ≤ r
      · have e2 : insI r [q, p] = [q, r, p] := by simp [insI, h2, h3]
        rw [e2, g1, g2]; omega
      · have e2 : insI r [q, p] = [r, q, p] := by simp [insI, h2, h3]
        rw [e2, g1, g2]; omega
theorem resL_four (a b c d : Int) : resL [a, b, c, d] = [a - midI [b, c, d], b - midI [a, c, d], c - midI [a, b, d], d - midI [a, b, c]] := rfl
theorem one_four (p : Int → Bool) (a b c d : Int) : oneP p [a, b, c, d] = if (p a).toNat + (p b).toNat + (p c).toNat + (p d).toNat = 1 then (if p d then 3 else if p c then 2 else if p b then 1 else if p a then 0 else -1) else -1 := by
  have e : cntP p [a, b, c, d] 4 = 0 + (p a).toNat + (p b).toNat + (p c).toNat + (p d).toNat := rfl
  have e2 : lastP p [a, b, c, d] 4 = if p d then 3 else if p c then 2 else if p b then 1 else if p a then 0 else -1 := rfl
  unfold oneP
  simp only [List.length_cons, List.length_nil, Nat.zero_add]
  rw [e, e2, Nat.zero_add]
theorem sus_four {a b c d t : Int} (ht : 0 ≤ t) (h : ∀ z, z ∈ [a, b, c, d] → -4294967296 ≤ z ∧ z ≤ 4294967296) :
    susI [a, b, c, d] t = oneP (awayP t) [a - max (min b c) (min (max b c) d), b - max (min a c) (min (max a c) d), c - max (min a b) (min (max a b) d), d - max (min a b) (min (max a b) c)] := by
  have hp : par [a, b, c, d] = true := by
    simp only [par, List.length_cons, List.length_nil, Bool.and_eq_true, decide_eq_true_eq, List.all_eq_true]
    refine ⟨⟨by omega, by omega⟩, fun z hz => ?_⟩
    have := h z hz
    simp only [far32, Bool.and_eq_true, decide_eq_true_eq]; omega
  unfold susI
  rw [if_neg (by omega), if_pos hp, resL_four, mid_three, mid_three, mid_three, mid_three]
theorem away_t {t z : Int} (h : t < z ∨ z < -t) : awayP t z = true := by simp [awayP]; omega
theorem away_f {t z : Int} (h : -t ≤ z ∧ z ≤ t) : awayP t z = false := by simp [awayP]; omega
theorem four_odd {p q r o lo top : Int} (hlo : lo = min (min p q) r) (htop : top = max (max p q) r) (h : ∀ z, z ∈ [p, q, r, o] → -4294967296 ≤ z ∧ z ≤ 4294967296) (hf : top + (top - lo) < o ∨ o < lo - (top - lo)) :
    susI [o, p, q, r] (top - lo) = 0 ∧ susI [p, o, q, r] (top - lo) = 1 ∧ susI [p, q, o, r] (top - lo) = 2 ∧ susI [p, q, r, o] (top - lo) = 3 := by
  have ht : 0 ≤ top - lo := by omega
  have hp := h p (by simp)
  have hq := h q (by simp)
  have hr := h r (by simp)
  have ho := h o (by simp)
  have out : ∀ m : Int, lo ≤ m → m ≤ top → awayP (top - lo) (o - m) = true := fun m h1 h2 => away_t (by omega)
  have inn : ∀ z m : Int, lo ≤ z → z ≤ top → lo ≤ m → m ≤ top → awayP (top - lo) (z - m) = false := fun z m h1 h2 h3 h4 => away_f (by omega)
  have hm : ∀ a b c : Int, lo ≤ a → a ≤ top → lo ≤ b → b ≤ top → (lo ≤ max (min a b) (min (max a b) c) ∧ max (min a b) (min (max a b) c) ≤ top) ∧ (lo ≤ max (min a c) (min (max a c) b) ∧ max (min a c) (min (max a c) b) ≤ top) ∧ (lo ≤ max (min c a) (min (max c a) b) ∧ max (min c a) (min (max c a) b) ≤ top) := fun a b c _ _ _ _ => by omega
  have bp : lo ≤ p ∧ p ≤ top := by omega
  have bq : lo ≤ q ∧ q ≤ top := by omega
  have br : lo ≤ r ∧ r ≤ top := by omega
  have mo := (hm p q r bp.1 bp.2 bq.1 bq.2).1
  have mp := hm q r o bq.1 bq.2 br.1 br.2
  have mq := hm p r o bp.1 bp.2 br.1 br.2
  have mr := hm p q o bp.1 bp.2 bq.1 bq.2
  have O := out _ mo.1 mo.2
  have P1 := inn p _ bp.1 bp.2 mp.1.1 mp.1.2
  have P2 := inn p _ bp.1 bp.2 mp.2.1.1 mp.2.1.2
  have P3 := inn p _ bp.1 bp.2 mp.2.2.1 mp.2.2.2
  have Q1 := inn q _ bq.1 bq.2 mq.1.1 mq.1.2
  have Q2 := inn q _ bq.1 bq.2 mq.2.1.1 mq.2.1.2
  have Q3 := inn q _ bq.1 bq.2 mq.2.2.1 mq.2.2.2
  have R1 := inn r _ br.1 br.2 mr.1.1 mr.1.2
  have R2 := inn r _ br.1 br.2 mr.2.1.1 mr.2.1.2
  have R3 := inn r _ br.1 br.2 mr.2.2.1 mr.2.2.2
  refine ⟨?_, ?_, ?_, ?_⟩
  · rw [sus_four ht (fun z hz => h z (by simp at hz ⊢; omega)), one_four, O, P3, Q3, R3]; rfl
  · rw [sus_four ht (fun z hz => h z (by simp at hz ⊢; omega)), one_four, O, P3, Q2, R2]; rfl
  · rw [sus_four ht (fun z hz => h z (by simp at hz ⊢; omega)), one_four, O, P2, Q2, R1]; rfl
  · rw [sus_four ht (fun z hz => h z (by simp at hz ⊢; omega)), one_four, O, P1, Q1, R1]; rfl
theorem four_none {a b c d t L H : Int} (h : ∀ z, z ∈ [a, b, c, d] → -4294967296 ≤ z ∧ z ≤ 4294967296) (hb : ∀ z, z ∈ [a, b, c, d] → L ≤ z ∧ z ≤ H) (hf : H - L ≤ t) : susI [a, b, c, d] t = -1 := by
  have hm : ∀ x y z w : Int, (L ≤ x ∧ x ≤ H) → (L ≤ y ∧ y ≤ H) → (L ≤ z ∧ z ≤ H) → (L ≤ w ∧ w ≤ H) → awayP t (x - max (min y z) (min (max y z) w)) = false := fun x y z w h1 h2 h3 h4 => away_f (by omega)
  have ha := hb a (by simp)
  have hbb := hb b (by simp)
  have hc := hb c (by simp)
  have hd := hb d (by simp)
  rw [sus_four (by omega) h, one_four, hm a b c d ha hbb hc hd, hm b a c d hbb ha hc hd, hm c a b d hc ha hbb hd, hm d a b c hd ha hbb hc]; rfl
theorem rng4 {p q r o lo top z : Int} (hlo : lo = min (min p q) r) (htop : top = max (max p q) r) (hz : z = p ∨ z = q ∨ z = r ∨ z = o) : min o lo ≤ z ∧ z ≤ max o top := by
  rcases hz with h | h | h | h <;> rw [h] <;> omega
theorem perm4 {p q r o z : Int} (h : z ∈ [o, p, q, r] ∨ z ∈ [p, o, q, r] ∨ z ∈ [p, q, o, r] ∨ z ∈ [p, q, r, o]) : (z = p ∨ z = q ∨ z = r ∨ z = o) ∧ z ∈ [p, q, r, o] := by
  simp only [List.mem_cons, List.not_mem_nil, or_false] at h ⊢
  rcases h with h | h | h | h <;> rcases h with h | h | h | h <;> simp [h]
theorem pure_ParityFour (x0 : Int) (x1 : Int) (x2 : Int) (x3 : Int) (x4 : Int) (x5 : Int) (wx0 : WfI .i32 x0) (wx1 : WfI .u16 x1) (wx2 : WfI .u16 x2) (wx3 : WfI .u16 x3) (wx4 : WfI .i32 x4) (wx5 : WfI .u8 x5) : law13_ParityFour_c0 x0 x1 x2 x3 x4 x5 = true ∧ (law13_ParityFour_r0_0 x0 x1 x2 x3 x4 x5) = true := by
  simp [WfI, Lit.wf, IntKind.min, IntKind.max, IntKind.signed, IntKind.bits] at wx0 wx1 wx2 wx3 wx4 wx5
  have a0 : wi x0 = x0 := wi_eq (by omega) (by omega)
  have a1 : wi x1 = x1 := wi_eq (by omega) (by omega)
  have a2 : wi x2 = x2 := wi_eq (by omega) (by omega)
  have a3 : wi x3 = x3 := wi_eq (by omega) (by omega)
  have a4 : wi x4 = x4 := wi_eq (by omega) (by omega)
  have a5 : wi x5 = x5 := wi_eq (by omega) (by omega)
  have b1 : wi (x0 + x1) = x0 + x1 := wi_eq (by omega) (by omega)
  have b2 : wi (x0 + x2) = x0 + x2 := wi_eq (by omega) (by omega)
  have b3 : wi (x0 + x3) = x0 + x3 := wi_eq (by omega) (by omega)
  have mx_ : ∀ a b : Int, mxI a b = max a b := fun a b => by unfold mxI; split <;> omega
  have mn_ : ∀ a b : Int, mnI a b = min a b := fun a b => by unfold mnI; split <;> omega
  obtain ⟨p, hp⟩ : ∃ p, p = x0 + x1 := ⟨_, rfl⟩
  obtain ⟨q, hq⟩ : ∃ q, q = x0 + x2 := ⟨_, rfl⟩
  obtain ⟨r, hr⟩ : ∃ r, r = x0 + x3 := ⟨_, rfl⟩
  obtain ⟨top, htop⟩ : ∃ t, t = max (max p q) r := ⟨_, rfl⟩
  obtain ⟨lo, hlo⟩ : ∃ t, t = min (min p q) r := ⟨_, rfl⟩
  have e1 : law13_ParityFour_e1 x0 x1 x2 x3 = top := by
    unfold law13_ParityFour_e1
    rw [a0, a1, a2, a3, mx_, mx_, wi_eq (by omega) (by omega)]; omega
  have e2 : law13_ParityFour_e2 x0 x1 x2 x3 = lo := by
    unfold law13_ParityFour_e2
    rw [a0, a1, a2, a3, mn_, mn_, wi_eq (by omega) (by omega)]; omega
  have e0 : law13_ParityFour_e0 x0 x1 x2 x3 = top - lo := by
    have : law13_ParityFour_e0 x0 x1 x2 x3 = wi (law13_ParityFour_e1 x0 x1 x2 x3 - law13_ParityFour_e2 x0 x1 x2 x3) := rfl
    rw [this, e1, e2, wi_eq (by omega) (by omega)]
  have e5 : remI .i64 (wi x5) 4 = x5 % 4 := by rw [a5, rem_i64 (by omega)]
  have c1 : wi p = p := by rw [hp, b1]
  have c2 : wi q = q := by rw [hq, b2]
  have c3 : wi r = r := by rw [hr, b3]
  simp only [law13_ParityFour_c0, law13_ParityFour_r0_0, e0, e1, e2, e5, a0, a1, a2, a3, a4, b1, b2, b3, ← hp, ← hq, ← hr, c1, c2, c3]
  have hall : ∀ z, z ∈ [p, q, r, x4] → -4294967296 ≤ z ∧ z ≤ 4294967296 := fun z hz => by simp at hz; omega
  have w1 : wi (top + (top - lo)) = top + (top - lo) := wi_eq (by omega) (by omega)
  have w2 : wi (lo - (top - lo)) = lo - (top - lo) := wi_eq (by omega) (by omega)
  have w3 : wi (max x4 top - min x4 lo) = max x4 top - min x4 lo := wi_eq (by omega) (by omega)
  have S := fun l : List Int => fun h : l.length < 1152921504606846976 => Sus_r false (b := top - lo) h
  obtain ⟨s1, t1⟩ := S [x4, p, q, r] (by simp)
  obtain ⟨s2, t2⟩ := S [p, x4, q, r] (by simp)
  obtain ⟨s3, t3⟩ := S [p, q, x4, r] (by simp)
  obtain ⟨s4, t4⟩ := S [p, q, r, x4] (by simp)
  have hk : x5 % 4 = 0 ∨ x5 % 4 = 1 ∨ x5 % 4 = 2 ∨ x5 % 4 = 3 := by omega
  by_cases f1 : top + (top - lo) < x4 ∨ x4 < lo - (top - lo)
  · obtain ⟨g1, g2, g3, g4⟩ := four_odd hlo htop hall f1
    by_cases f2 : top + (top - lo) < x4
    · rcases hk with k | k | k | k <;> simp [law13_ParityFour_S0_c0, law13_ParityFour_S0_r0_0, k, w1, f2, s1, s2, s3, s4, t1, t2, t3, t4, g1, g2, g3, g4]
    · have f3 : x4 < lo - (top - lo) := by omega
      rcases hk with k | k | k | k <;> simp [law13_ParityFour_S0_c0, law13_ParityFour_S0_r0_0, k, w1, w2, f2, f3, s1, s2, s3, s4, t1, t2, t3, t4, g1, g2, g3, g4]
  · have f2 : ¬ top + (top - lo) < x4 := by omega
    have f3 : ¬ x4 < lo - (top - lo) := by omega
    by_cases f4 : max x4 top - min x4 lo ≤ top - lo
    · have hr9 := fun z hz => rng4 (z := z) (o := x4) hlo htop hz
      have g1 : susI [x4, p, q, r] (top - lo) = -1 := four_none (fun z hz => hall z (perm4 (.inl hz)).2) (fun z hz => hr9 z (perm4 (.inl hz)).1) f4
      have g2 : susI [p, x4, q, r] (top - lo) = -1 := four_none (fun z hz => hall z (perm4 (.inr (.inl hz))).2) (fun z hz => hr9 z (perm4 (.inr (.inl hz))).1) f4
      have g3 : susI [p, q, x4, r] (top - lo) = -1 := four_none (fun z hz => hall z (perm4 (.inr (.inr (.inl hz)))).2) (fun z hz => hr9 z (perm4 (.inr (.inr (.inl hz)))).1) f4
      have g4 : susI [p, q, r, x4] (top - lo) = -1 := four_none (fun z hz => hall z (perm4 (.inr (.inr (.inr hz)))).2) (fun z hz => hr9 z (perm4 (.inr (.inr (.inr hz)))).1) f4
      rcases hk with k | k | k | k <;> simp [law13_ParityFour_S0_c0, law13_ParityFour_S0_r0_0, k, w1, w2, mx_, mn_, w3, f2, f3, f4, s1, s2, s3, s4, t1, t2, t3, t4, g1, g2, g3, g4]
    · rcases hk with k | k | k | k <;> simp [law13_ParityFour_S0_c0, law13_ParityFour_S0_c1, k, w1, w2, mx_, mn_, w3, f2, f3, f4]
end Go.Proofs.Ytdlhhoejnhjbhaa.Den

namespace Go.Proofs.Ytdlhhoejnhjbhaa.Den
open Go Go.Proofs
set_option maxRecDepth 100000
theorem own : ownKnob Try.prog.godebug = none := by kernel_rfl
theorem laidOut : laidOutB Try.prog = true := by kernel_rfl
theorem mixed : Try.prog.follows .mixedOrders = true := by kernel_rfl
theorem envOK : EnvOK Try.prog E0 := ⟨e0_cf, fun f args m r m' h => by simp [E0] at h, e0_del⟩
theorem glOK (w : World) : GlOK E0 (cx0 w) := fun g cs h => by simp [E0] at h
end Go.Proofs.Ytdlhhoejnhjbhaa.Den

namespace Go.Proofs.Ytdlhhoejnhjbhaa.Den
open Go Go.Proofs Go.ChangeShapes Go.WideShapes Go.ChangeAt Go.RowKit
open Go.Proofs.Ytdlhhoejnhjbhaa (Rows.parityFourSpec Rows.parityFourRow Rows.ParityFourSaid)
set_option maxRecDepth 100000
set_option linter.unusedSimpArgs false
set_option linter.unusedVariables false
theorem row13 (rs : List (List D)) (h : TyAll Try.prog 20 Try.f13.params.toList rs) : ∃ k m', callD E0 k 13 (argsV Try.prog Try.f13.params.toList rs) [] = some ([.d (.bool true)], m') := by
  rw [Try.params13] at h ⊢
  simp only [TyAll] at h
  obtain ⟨_, _, rfl, q0, _, _, rfl, q1, _, _, rfl, q2, rfl⟩ := h
  have k0 := flatK_ok 20 _ _ _ (show flatK Try.prog 20 21 = some [.i .i32] by kernel_rfl) q0
  simp only [CellsK, CellK] at k0
  obtain ⟨_, _, rfl, ⟨a0_0, rfl, w0_0⟩, rfl⟩ := k0
  have k1 := flatK_ok 20 _ _ _ (show flatK Try.prog 20 71 = some [.i .u16, .i .u16, .i .u16] by kernel_rfl) q1
  simp only [CellsK, CellK] at k1
  obtain ⟨_, _, rfl, ⟨a1_0, rfl, w1_0⟩, _, _, rfl, ⟨a1_1, rfl, w1_1⟩, _, _, rfl, ⟨a1_2, rfl, w1_2⟩, rfl⟩ := k1
  have k2 := flatK_ok 20 _ _ _ (show flatK Try.prog 20 73 = some [.i .i32, .i .u8] by kernel_rfl) q2
  simp only [CellsK, CellK] at k2
  obtain ⟨_, _, rfl, ⟨a2_0, rfl, w2_0⟩, _, _, rfl, ⟨a2_1, rfl, w2_1⟩, rfl⟩ := k2
  simp only [argsV, argV, Try.underlying21, Try.underlying71, Try.underlying73, List.map_cons, List.map_nil]
  obtain ⟨g1, g2⟩ := pure_ParityFour a0_0 a1_0 a1_1 a1_2 a2_0 a2_1 w0_0 w1_0 w1_1 w1_2 w2_0 w2_1
  have hc := law13_ParityFour_t0 a0_0 a1_0 a1_1 a1_2 a2_0 a2_1 g1
  rw [g2] at hc
  obtain ⟨k, hk⟩ := of_cl hc
  exact ⟨k, _, hk⟩
theorem parityFour_lifted (os : Os) (started : os.Started) (H : Type) (enc : TypeId × Value → H) :
    ReturnsInHanded {} Try.checked os 13 .any (Rows.parityFourSpec.pre6 enc Try.prog Try.f13 Rows.parityFourRow.domain false) (Rows.parityFourSpec.post enc Try.prog Try.f13 false true false false) :=
  law_lifted (C := Try.checked) (fn := Try.f13) mixed envOK glOK own started (by kernel_rfl) Try.func13 laidOut
    (ChangeSpec.witness6 (enc := enc) (C := Try.checked) false ⟨#[], #[.int .i32 0, .agg #[.int .u16 0, .int .u16 0, .int .u16 0], .agg #[.int .i32 0, .int .u8 0]], []⟩ 8 (by kernel_rfl) (by kernel_rfl) (by kernel_rfl) (by kernel_rfl))
    (by kernel_rfl) (rt := 4) rfl Try.underlying4 rfl
    (fun ds h => by
      match ds, h with
      | [_, _, _], _ => rfl)
    row13
theorem parityFour_holds : Rows.ParityFourSaid :=
  OpenClaim.holds_of_wide 13 Try.f13 rfl rfl rfl rfl rfl rfl rfl ⟨rfl, rfl, rfl, rfl, rfl⟩ rfl rfl rfl rfl rfl (by kernel_rfl) Try.func13 (by kernel_rfl)
    (of_decide_eq_true (by kernel_rfl)) (by unfold Func.isWrapper; first | (rw [if_pos (by decide +kernel)]; kernel_rfl) | (rw [if_neg (by decide +kernel)]; exact ⟨rfl, rfl⟩))
    (fun os started H enc _ => parityFour_lifted os started H enc)
end Go.Proofs.Ytdlhhoejnhjbhaa.Den
