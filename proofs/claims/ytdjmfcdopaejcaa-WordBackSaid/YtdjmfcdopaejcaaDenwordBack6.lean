/- WordBack: part 6 of what its proof rests on: an evaluator of the program's code, proved sound; plain functions printed from the code by a program of this session, with proofs; plain laws. No condition. -/
import Derived.Test.YtdjmfcdopaejcaaDenwordBack5
import Derived.Test.YtdjmfcdopaejcaaRows

namespace Go.Proofs.Ytdjmfcdopaejcaa.Den
open Go Go.Proofs
set_option maxRecDepth 100000
set_option maxHeartbeats 4000000
set_option linter.unusedVariables false
set_option linter.unusedSimpArgs false

def law04_WordBack_S0_c0 (x1 : List Int) (x3 : List Int) : Bool := (bif tb (decide (200 < ((x1.length : Nat) : Int))) then true else (bif tb (decide (200 < ((x3.length : Nat) : Int))) then true else false))

theorem law04_WordBack_S0_t0 (x0 : Bool) (x1 : List Int) (x2 : Bool) (x3 : List Int) (x4 : Int) : law04_WordBack_S0_c0 x1 x3 = true → segG (runC E0 (cl E0) S4_0) [0, 1, 2] [6] [0, 1, 2] 0 ([(V.d (slD (encI .i64) true 1 x0 x1)), (V.d (slD (encI .u8) true 1 x2 x3)), (V.d (.int .i64 x4))], []) = some (.ret, ([(V.d (.bool true))], [])) := by
  unfold law04_WordBack_S0_c0
  cases h1 : tb (decide (200 < ((x1.length : Nat) : Int)))
  · cases h2 : tb (decide (200 < ((x3.length : Nat) : Int)))
    · intro g0
      exact absurd g0 ft
    · intro g0
      exact seg_walk [.o 21 (fun _ => o_len_os (enc := (encI .i64)) (l := x1) (fl := true) (n := x0) (s := 1)), .b (tbE h1), .o 25 (fun _ => o_len_os (enc := (encI .u8)) (l := x3) (fl := true) (n := x2) (s := 1)), .b (tbE h2), .c (law04_alive_t0)] (by kernel_rfl)
  · intro g0
    exact seg_walk [.o 21 (fun _ => o_len_os (enc := (encI .i64)) (l := x1) (fl := true) (n := x0) (s := 1)), .b (tbE h1), .c (law04_alive_t0)] (by kernel_rfl)

theorem law04_WordBack_S0_t1 (x0 : Bool) (x1 : List Int) (x2 : Bool) (x3 : List Int) (x4 : Int) : law04_WordBack_S0_c0 x1 x3 = false → segG (runC E0 (cl E0) S4_0) [0, 1, 2] [6] [0, 1, 2] 0 ([(V.d (slD (encI .i64) true 1 x0 x1)), (V.d (slD (encI .u8) true 1 x2 x3)), (V.d (.int .i64 x4))], []) = some (.normal, ([(V.d (slD (encI .i64) true 1 x0 x1)), (V.d (slD (encI .u8) true 1 x2 x3)), (V.d (.int .i64 x4))], [])) := by
  unfold law04_WordBack_S0_c0
  cases h1 : tb (decide (200 < ((x1.length : Nat) : Int)))
  · cases h2 : tb (decide (200 < ((x3.length : Nat) : Int)))
    · intro g0
      exact seg_walk [.o 21 (fun _ => o_len_os (enc := (encI .i64)) (l := x1) (fl := true) (n := x0) (s := 1)), .b (tbE h1), .o 25 (fun _ => o_len_os (enc := (encI .u8)) (l := x3) (fl := true) (n := x2) (s := 1)), .b (tbE h2)] (by kernel_rfl)
    · intro g0
      exact absurd g0 tf
  · intro g0
    exact absurd g0 tf

structure law04_WordBack_L1_s0 where
  c8 : Bool
  c9 : Int
  deriving Inhabited

def law04_WordBack_L1_enc (x0 : List Int) (x1 : List Int) (x2 : Bool) (x3 : Bool) (x4 : Bool) (x5 : List Int) (x6 : Bool) (x7 : List Int) (x8 : Int) (x9 : Bool) (x10 : Bool) (x11 : Bool) (x12 : Bool) (x13 : Int) (s0 : law04_WordBack_L1_s0) : List V × Mem := ([(V.d (slD (encI .i64) true 1 x4 x5)), (V.d (slD (encI .u8) true 1 x6 x7)), (V.d (.int .i64 x8)), (V.so x9 0 x0.length), (V.d (.bool x10)), (V.d (.bool x11)), (V.d (.bool s0.c8)), (V.d (.int .i64 s0.c9))], [(Blk.flat 5 1 (List.map (encI .u8) x0) x2), (Blk.flat 3 1 (List.map (encI .i64) x1) x3)])

def law04_WordBack_L1_sel (x5 : List Int) (s0 : law04_WordBack_L1_s0) : Bool := (bif tb (decide (s0.c9 < ((x5.length : Nat) : Int))) then (bif tb (s0.c8) then (bif tb (inb x5.length s0.c9) then true else false) else true) else false)

def law04_WordBack_L1_nx (x5 : List Int) (s0 : law04_WordBack_L1_s0) : law04_WordBack_L1_s0 := (bif tb (s0.c8) then (bif tb (decide ((-2147483648) ≤ (gt x5 s0.c9))) then ⟨(decide ((gt x5 s0.c9) ≤ 2147483647)), (wi (s0.c9 + 1))⟩ else ⟨false, (wi (s0.c9 + 1))⟩) else ⟨false, (wi (s0.c9 + 1))⟩)

def law04_WordBack_L1_ok (x5 : List Int) (s0 : law04_WordBack_L1_s0) : Bool := (itS (law04_WordBack_L1_sel x5) (law04_WordBack_L1_nx x5) bound s0).isSome
def law04_WordBack_L1_end (x5 : List Int) (s0 : law04_WordBack_L1_s0) : law04_WordBack_L1_s0 := (itS (law04_WordBack_L1_sel x5) (law04_WordBack_L1_nx x5) bound s0).getD default

theorem law04_WordBack_L1_go (x0 : List Int) (x1 : List Int) (x2 : Bool) (x3 : Bool) (x4 : Bool) (x5 : List Int) (x6 : Bool) (x7 : List Int) (x8 : Int) (x9 : Bool) (x10 : Bool) (x11 : Bool) (x12 : Bool) (x13 : Int) (s0 : law04_WordBack_L1_s0) : law04_WordBack_L1_sel x5 s0 = true → (roundG (runC E0 (cl E0) L4_1) [0, 1, 2, 7, 9, 10, 11, 12] [1, 2, 7, 9, 10, 11] 2) (law04_WordBack_L1_enc x0 x1 x2 x3 x4 x5 x6 x7 x8 x9 x10 x11 x12 x13 s0) = some (.normal, law04_WordBack_L1_enc x0 x1 x2 x3 x4 x5 x6 x7 x8 x9 x10 x11 x12 x13 (law04_WordBack_L1_nx x5 s0)) := by
  unfold law04_WordBack_L1_sel law04_WordBack_L1_nx
  cases h1 : tb (decide (s0.c9 < ((x5.length : Nat) : Int)))
  · intro g0
    exact absurd g0 ft
  · cases h2 : tb (s0.c8)
    · intro _
      exact round_walk [.o 41 (fun _ => o_len_os (enc := (encI .i64)) (l := x5) (fl := true) (n := x4) (s := 1)), .b (tbE h1), .b (tbE h2)] (by kernel_rfl)
    · cases h3 : tb (inb x5.length s0.c9)
      · intro g0
        exact absurd g0 ft
      · cases h4 : tb (decide ((-2147483648) ≤ (gt x5 s0.c9)))
        · intro _
          exact round_walk [.o 41 (fun _ => o_len_os (enc := (encI .i64)) (l := x5) (fl := true) (n := x4) (s := 1)), .b (tbE h1), .b (tbE h2), .o 49 (fun _ => o_idx_os (enc := (encI .i64)) (l := x5) (fl := true) (n := x4) (s := 1) (k := .i64) (tbE h3)), .b (tbE h4)] (by kernel_rfl)
        · intro _
          exact round_walk [.o 41 (fun _ => o_len_os (enc := (encI .i64)) (l := x5) (fl := true) (n := x4) (s := 1)), .b (tbE h1), .b (tbE h2), .o 49 (fun _ => o_idx_os (enc := (encI .i64)) (l := x5) (fl := true) (n := x4) (s := 1) (k := .i64) (tbE h3)), .b (tbE h4), .o 56 (fun _ => o_idx_os (enc := (encI .i64)) (l := x5) (fl := true) (n := x4) (s := 1) (k := .i64) (tbE h3))] (by kernel_rfl)

def law04_WordBack_L1_c0 (x5 : List Int) (s0 : law04_WordBack_L1_s0) : Bool := (bif tb (decide (s0.c9 < ((x5.length : Nat) : Int))) then false else true)

theorem law04_WordBack_L1_x0 (x0 : List Int) (x1 : List Int) (x2 : Bool) (x3 : Bool) (x4 : Bool) (x5 : List Int) (x6 : Bool) (x7 : List Int) (x8 : Int) (x9 : Bool) (x10 : Bool) (x11 : Bool) (x12 : Bool) (x13 : Int) (s0 : law04_WordBack_L1_s0) : law04_WordBack_L1_sel x5 s0 = false → law04_WordBack_L1_c0 x5 s0 = true → (roundG (runC E0 (cl E0) L4_1) [0, 1, 2, 7, 9, 10, 11, 12] [1, 2, 7, 9, 10, 11] 2) (law04_WordBack_L1_enc x0 x1 x2 x3 x4 x5 x6 x7 x8 x9 x10 x11 x12 x13 s0) = some ((.exit 0), ([(V.d (slD (encI .u8) true 1 x6 x7)), (V.d (.int .i64 x8)), (V.so x9 0 x0.length), (V.d (.bool x10)), (V.d (.bool x11)), (V.d (.bool s0.c8))], [(Blk.flat 5 1 (List.map (encI .u8) x0) x2), (Blk.flat 3 1 (List.map (encI .i64) x1) x3)])) := by
  unfold law04_WordBack_L1_sel law04_WordBack_L1_c0
  cases h1 : tb (decide (s0.c9 < ((x5.length : Nat) : Int)))
  · intro g0 g1
    exact round_walk [.o 41 (fun _ => o_len_os (enc := (encI .i64)) (l := x5) (fl := true) (n := x4) (s := 1)), .b (tbE h1)] (by kernel_rfl)
  · cases h2 : tb (s0.c8)
    · intro g0 g1
      exact absurd g0 tf
    · cases h3 : tb (inb x5.length s0.c9)
      · intro g0 g1
        exact absurd g1 ft
      · cases h4 : tb (decide ((-2147483648) ≤ (gt x5 s0.c9)))
        · intro g0 g1
          exact absurd g0 tf
        · intro g0 g1
          exact absurd g0 tf

theorem law04_WordBack_L1_f0_0 (x0 : List Int) (x1 : List Int) (x2 : Bool) (x3 : Bool) (x4 : Bool) (x5 : List Int) (x6 : Bool) (x7 : List Int) (x8 : Int) (x9 : Bool) (x10 : Bool) (x11 : Bool) (x12 : Bool) (x13 : Int) (s : law04_WordBack_L1_s0) (hok : law04_WordBack_L1_ok x5 s = true) (c0 : law04_WordBack_L1_c0 x5 (law04_WordBack_L1_end x5 s) = true) : loopG (roundG (runC E0 (cl E0) L4_1) [0, 1, 2, 7, 9, 10, 11, 12] [1, 2, 7, 9, 10, 11] 2) bound (law04_WordBack_L1_enc x0 x1 x2 x3 x4 x5 x6 x7 x8 x9 x10 x11 x12 x13 s) = some ((.exit 0), ([(V.d (slD (encI .u8) true 1 x6 x7)), (V.d (.int .i64 x8)), (V.so x9 0 x0.length), (V.d (.bool x10)), (V.d (.bool x11)), (V.d (.bool ((law04_WordBack_L1_end x5 s).c8)))], [(Blk.flat 5 1 (List.map (encI .u8) x0) x2), (Blk.flat 3 1 (List.map (encI .i64) x1) x3)])) := by
  have e : itS (law04_WordBack_L1_sel x5) (law04_WordBack_L1_nx x5) bound s = some (law04_WordBack_L1_end x5 s) := itS_get hok
  have f := itS_false e
  exact loop_it (law04_WordBack_L1_go x0 x1 x2 x3 x4 x5 x6 x7 x8 x9 x10 x11 x12 x13) bound s _ _ _ e (fun h => by cases h) (law04_WordBack_L1_x0 x0 x1 x2 x3 x4 x5 x6 x7 x8 x9 x10 x11 x12 x13 (law04_WordBack_L1_end x5 s) f c0)

def law04_WordBack_S2_e0 (x1 : List Int) : Bool := (word_GetAll_o_r0_0 (word_PutAll_o_r0_0 x1) (word_PutAll_o_r0_1 x1))

def law04_WordBack_S2_e1 (x1 : List Int) : List Int := (word_GetAll_o_r0_2 (word_PutAll_o_r0_0 x1) (word_PutAll_o_r0_1 x1))

def law04_WordBack_S2_c0 (x1 : List Int) : Bool := (bif tb (word_PutAll_o_c0 x1) then (bif tb (word_GetAll_o_c0 (word_PutAll_o_r0_0 x1) (word_PutAll_o_r0_1 x1)) then (bif tb (ref02_Ints_oo_c0 (law04_WordBack_S2_e1 x1) x1) then (bif tb (law04_WordBack_L1_ok x1 (⟨true, 0⟩ : law04_WordBack_L1_s0)) then (bif tb (law04_WordBack_L1_c0 x1 (law04_WordBack_L1_end x1 (⟨true, 0⟩ : law04_WordBack_L1_s0))) then (bif tb ((law04_WordBack_L1_end x1 (⟨true, 0⟩ : law04_WordBack_L1_s0)).c8) then (bif tb (word_GetAll_o_r0_1 (word_PutAll_o_r0_1 x1)) then (bif tb (ref02_Ints_oo_r0_0 (law04_WordBack_S2_e1 x1) x1) then true else false) else false) else (bif tb (((((word_PutAll_o_r0_1 x1).length : Nat) : Int) : Int) != 0) then false else true)) else false) else false) else false) else false) else false)

def law04_WordBack_S2_c1 (x1 : List Int) : Bool := (bif tb (word_PutAll_o_c0 x1) then (bif tb (word_GetAll_o_c0 (word_PutAll_o_r0_0 x1) (word_PutAll_o_r0_1 x1)) then (bif tb (ref02_Ints_oo_c0 (law04_WordBack_S2_e1 x1) x1) then (bif tb (law04_WordBack_L1_ok x1 (⟨true, 0⟩ : law04_WordBack_L1_s0)) then (bif tb (law04_WordBack_L1_c0 x1 (law04_WordBack_L1_end x1 (⟨true, 0⟩ : law04_WordBack_L1_s0))) then (bif tb ((law04_WordBack_L1_end x1 (⟨true, 0⟩ : law04_WordBack_L1_s0)).c8) then (bif tb (word_GetAll_o_r0_1 (word_PutAll_o_r0_1 x1)) then (bif tb (ref02_Ints_oo_r0_0 (law04_WordBack_S2_e1 x1) x1) then false else true) else true) else (bif tb (((((word_PutAll_o_r0_1 x1).length : Nat) : Int) : Int) != 0) then true else false)) else false) else false) else false) else false) else false)

theorem law04_WordBack_S2_t0 (x0 : Bool) (x1 : List Int) (x2 : Bool) (x3 : List Int) (x4 : Int) : law04_WordBack_S2_c0 x1 = true → segG (runC E0 (cl E0) S4_2) [0, 1, 2] [6] [1, 2] 0 ([(V.d (slD (encI .i64) true 1 x0 x1)), (V.d (slD (encI .u8) true 1 x2 x3)), (V.d (.int .i64 x4))], []) = some (.normal, ([(V.d (slD (encI .u8) true 1 x2 x3)), (V.d (.int .i64 x4))], [])) := by
  unfold law04_WordBack_S2_c0
  cases h1 : tb (word_PutAll_o_c0 x1)
  · intro g0
    exact absurd g0 ft
  · cases h2 : tb (word_GetAll_o_c0 (word_PutAll_o_r0_0 x1) (word_PutAll_o_r0_1 x1))
    · intro g0
      exact absurd g0 ft
    · cases h3 : tb (ref02_Ints_oo_c0 (law04_WordBack_S2_e1 x1) x1)
      · intro g0
        exact absurd g0 ft
      · cases h4 : tb (law04_WordBack_L1_ok x1 (⟨true, 0⟩ : law04_WordBack_L1_s0))
        · intro g0
          exact absurd g0 ft
        · cases h5 : tb (law04_WordBack_L1_c0 x1 (law04_WordBack_L1_end x1 (⟨true, 0⟩ : law04_WordBack_L1_s0)))
          · intro g0
            exact absurd g0 ft
          · cases h6 : tb ((law04_WordBack_L1_end x1 (⟨true, 0⟩ : law04_WordBack_L1_s0)).c8)
            · cases h7 : tb (((((word_PutAll_o_r0_1 x1).length : Nat) : Int) : Int) != 0)
              · intro g0
                exact seg_walk [.c (word_PutAll_o_t0 x0 x1 (tbE h1)), .y (mm := [(Blk.flat 5 1 (List.map (encI .u8) (word_PutAll_o_r0_1 x1)) false)]) (args := [(V.so (word_PutAll_o_r0_0 x1) 0 ((word_PutAll_o_r0_1 x1).length))]) (args1 := [(V.d (slD (encI .u8) true 1 (word_PutAll_o_r0_0 x1) (word_PutAll_o_r0_1 x1)))]) (byvals_cons (byval_so (enc := (encI .u8)) (l := (word_PutAll_o_r0_1 x1)) (b := (word_PutAll_o_r0_0 x1)) (e := 5) (s := 1) (p := false) (n := ((word_PutAll_o_r0_1 x1).length)) (Nat.beq_refl _) (by kernel_rfl)) (by kernel_rfl)), .c (word_GetAll_o_t0 (word_PutAll_o_r0_0 x1) (word_PutAll_o_r0_1 x1) (tbE h2)), .y (mm := [(Blk.flat 5 1 (List.map (encI .u8) (word_PutAll_o_r0_1 x1)) false), (Blk.flat 3 1 (List.map (encI .i64) (word_GetAll_o_r0_2 (word_PutAll_o_r0_0 x1) (word_PutAll_o_r0_1 x1))) false)]) (args := [(V.so (word_GetAll_o_r0_0 (word_PutAll_o_r0_0 x1) (word_PutAll_o_r0_1 x1)) 1 ((word_GetAll_o_r0_2 (word_PutAll_o_r0_0 x1) (word_PutAll_o_r0_1 x1)).length)), (V.d (slD (encI .i64) true 1 x0 x1))]) (args1 := [(V.d (slD (encI .i64) true 1 (word_GetAll_o_r0_0 (word_PutAll_o_r0_0 x1) (word_PutAll_o_r0_1 x1)) (word_GetAll_o_r0_2 (word_PutAll_o_r0_0 x1) (word_PutAll_o_r0_1 x1)))), (V.d (slD (encI .i64) true 1 x0 x1))]) (byvals_cons (byval_so (enc := (encI .i64)) (l := (word_GetAll_o_r0_2 (word_PutAll_o_r0_0 x1) (word_PutAll_o_r0_1 x1))) (b := (word_GetAll_o_r0_0 (word_PutAll_o_r0_0 x1) (word_PutAll_o_r0_1 x1))) (e := 3) (s := 1) (p := false) (n := ((word_GetAll_o_r0_2 (word_PutAll_o_r0_0 x1) (word_PutAll_o_r0_1 x1)).length)) (Nat.beq_refl _) (by kernel_rfl)) (by kernel_rfl)), .c (ref02_Ints_oo_t0 (law04_WordBack_S2_e0 x1) (law04_WordBack_S2_e1 x1) x0 x1 (tbE h3)), .l (law04_WordBack_L1_f0_0 (word_PutAll_o_r0_1 x1) (law04_WordBack_S2_e1 x1) false false x0 x1 x2 x3 x4 (word_PutAll_o_r0_0 x1) (word_GetAll_o_r0_1 (word_PutAll_o_r0_1 x1)) (ref02_Ints_oo_r0_0 (law04_WordBack_S2_e1 x1) x1) true 0 (⟨true, 0⟩ : law04_WordBack_L1_s0) (tbE h4) (tbE h5)), .b (tbE h6), .b (notF (tbE h6)), .b (tbE h7)] (by kernel_rfl)
              · intro g0
                exact absurd g0 ft
            · cases h7 : tb (word_GetAll_o_r0_1 (word_PutAll_o_r0_1 x1))
              · intro g0
                exact absurd g0 ft
              · cases h8 : tb (ref02_Ints_oo_r0_0 (law04_WordBack_S2_e1 x1) x1)
                · intro g0
                  exact absurd g0 ft
                · intro g0
                  exact seg_walk [.c (word_PutAll_o_t0 x0 x1 (tbE h1)), .y (mm := [(Blk.flat 5 1 (List.map (encI .u8) (word_PutAll_o_r0_1 x1)) false)]) (args := [(V.so (word_PutAll_o_r0_0 x1) 0 ((word_PutAll_o_r0_1 x1).length))]) (args1 := [(V.d (slD (encI .u8) true 1 (word_PutAll_o_r0_0 x1) (word_PutAll_o_r0_1 x1)))]) (byvals_cons (byval_so (enc := (encI .u8)) (l := (word_PutAll_o_r0_1 x1)) (b := (word_PutAll_o_r0_0 x1)) (e := 5) (s := 1) (p := false) (n := ((word_PutAll_o_r0_1 x1).length)) (Nat.beq_refl _) (by kernel_rfl)) (by kernel_rfl)), .c (word_GetAll_o_t0 (word_PutAll_o_r0_0 x1) (word_PutAll_o_r0_1 x1) (tbE h2)), .y (mm := [(Blk.flat 5 1 (List.map (encI .u8) (word_PutAll_o_r0_1 x1)) false), (Blk.flat 3 1 (List.map (encI .i64) (word_GetAll_o_r0_2 (word_PutAll_o_r0_0 x1) (word_PutAll_o_r0_1 x1))) false)]) (args := [(V.so (word_GetAll_o_r0_0 (word_PutAll_o_r0_0 x1) (word_PutAll_o_r0_1 x1)) 1 ((word_GetAll_o_r0_2 (word_PutAll_o_r0_0 x1) (word_PutAll_o_r0_1 x1)).length)), (V.d (slD (encI .i64) true 1 x0 x1))]) (args1 := [(V.d (slD (encI .i64) true 1 (word_GetAll_o_r0_0 (word_PutAll_o_r0_0 x1) (word_PutAll_o_r0_1 x1)) (word_GetAll_o_r0_2 (word_PutAll_o_r0_0 x1) (word_PutAll_o_r0_1 x1)))), (V.d (slD (encI .i64) true 1 x0 x1))]) (byvals_cons (byval_so (enc := (encI .i64)) (l := (word_GetAll_o_r0_2 (word_PutAll_o_r0_0 x1) (word_PutAll_o_r0_1 x1))) (b := (word_GetAll_o_r0_0 (word_PutAll_o_r0_0 x1) (word_PutAll_o_r0_1 x1))) (e := 3) (s := 1) (p := false) (n := ((word_GetAll_o_r0_2 (word_PutAll_o_r0_0 x1) (word_PutAll_o_r0_1 x1)).length)) (Nat.beq_refl _) (by kernel_rfl)) (by kernel_rfl)), .c (ref02_Ints_oo_t0 (law04_WordBack_S2_e0 x1) (law04_WordBack_S2_e1 x1) x0 x1 (tbE h3)), .l (law04_WordBack_L1_f0_0 (word_PutAll_o_r0_1 x1) (law04_WordBack_S2_e1 x1) false false x0 x1 x2 x3 x4 (word_PutAll_o_r0_0 x1) (word_GetAll_o_r0_1 (word_PutAll_o_r0_1 x1)) (ref02_Ints_oo_r0_0 (law04_WordBack_S2_e1 x1) x1) true 0 (⟨true, 0⟩ : law04_WordBack_L1_s0) (tbE h4) (tbE h5)), .b (tbE h6), .b (notT (tbE h7)), .b (notT (tbE h8)), .b (notT (tbE h6))] (by kernel_rfl)

theorem law04_WordBack_S2_t1 (x0 : Bool) (x1 : List Int) (x2 : Bool) (x3 : List Int) (x4 : Int) : law04_WordBack_S2_c0 x1 = false → law04_WordBack_S2_c1 x1 = true → segG (runC E0 (cl E0) S4_2) [0, 1, 2] [6] [1, 2] 0 ([(V.d (slD (encI .i64) true 1 x0 x1)), (V.d (slD (encI .u8) true 1 x2 x3)), (V.d (.int .i64 x4))], []) = some (.ret, ([(V.d (.bool false))], [])) := by
  unfold law04_WordBack_S2_c0 law04_WordBack_S2_c1
  cases h1 : tb (word_PutAll_o_c0 x1)
  · intro g0 g1
    exact absurd g1 ft
  · cases h2 : tb (word_GetAll_o_c0 (word_PutAll_o_r0_0 x1) (word_PutAll_o_r0_1 x1))
    · intro g0 g1
      exact absurd g1 ft
    · cases h3 : tb (ref02_Ints_oo_c0 (law04_WordBack_S2_e1 x1) x1)
      · intro g0 g1
        exact absurd g1 ft
      · cases h4 : tb (law04_WordBack_L1_ok x1 (⟨true, 0⟩ : law04_WordBack_L1_s0))
        · intro g0 g1
          exact absurd g1 ft
        · cases h5 : tb (law04_WordBack_L1_c0 x1 (law04_WordBack_L1_end x1 (⟨true, 0⟩ : law04_WordBack_L1_s0)))
          · intro g0 g1
            exact absurd g1 ft
          · cases h6 : tb ((law04_WordBack_L1_end x1 (⟨true, 0⟩ : law04_WordBack_L1_s0)).c8)
            · cases h7 : tb (((((word_PutAll_o_r0_1 x1).length : Nat) : Int) : Int) != 0)
              · intro g0 g1
                exact absurd g0 tf
              · intro g0 g1
                exact seg_walk [.c (word_PutAll_o_t0 x0 x1 (tbE h1)), .y (mm := [(Blk.flat 5 1 (List.map (encI .u8) (word_PutAll_o_r0_1 x1)) false)]) (args := [(V.so (word_PutAll_o_r0_0 x1) 0 ((word_PutAll_o_r0_1 x1).length))]) (args1 := [(V.d (slD (encI .u8) true 1 (word_PutAll_o_r0_0 x1) (word_PutAll_o_r0_1 x1)))]) (byvals_cons (byval_so (enc := (encI .u8)) (l := (word_PutAll_o_r0_1 x1)) (b := (word_PutAll_o_r0_0 x1)) (e := 5) (s := 1) (p := false) (n := ((word_PutAll_o_r0_1 x1).length)) (Nat.beq_refl _) (by kernel_rfl)) (by kernel_rfl)), .c (word_GetAll_o_t0 (word_PutAll_o_r0_0 x1) (word_PutAll_o_r0_1 x1) (tbE h2)), .y (mm := [(Blk.flat 5 1 (List.map (encI .u8) (word_PutAll_o_r0_1 x1)) false), (Blk.flat 3 1 (List.map (encI .i64) (word_GetAll_o_r0_2 (word_PutAll_o_r0_0 x1) (word_PutAll_o_r0_1 x1))) false)]) (args := [(V.so (word_GetAll_o_r0_0 (word_PutAll_o_r0_0 x1) (word_PutAll_o_r0_1 x1)) 1 ((word_GetAll_o_r0_2 (word_PutAll_o_r0_0 x1) (word_PutAll_o_r0_1 x1)).length)), (V.d (slD (encI .i64) true 1 x0 x1))]) (args1 := [(V.d (slD (encI .i64) true 1 (word_GetAll_o_r0_0 (word_PutAll_o_r0_0 x1) (word_PutAll_o_r0_1 x1)) (word_GetAll_o_r0_2 (word_PutAll_o_r0_0 x1) (word_PutAll_o_r0_1 x1)))), (V.d (slD (encI .i64) true 1 x0 x1))]) (byvals_cons (byval_so (enc := (encI .i64)) (l := (word_GetAll_o_r0_2 (word_PutAll_o_r0_0 x1) (word_PutAll_o_r0_1 x1))) (b := (word_GetAll_o_r0_0 (word_PutAll_o_r0_0 x1) (word_PutAll_o_r0_1 x1))) (e := 3) (s := 1) (p := false) (n := ((word_GetAll_o_r0_2 (word_PutAll_o_r0_0 x1) (word_PutAll_o_r0_1 x1)).length)) (Nat.beq_refl _) (by kernel_rfl)) (by kernel_rfl)), .c (ref02_Ints_oo_t0 (law04_WordBack_S2_e0 x1) (law04_WordBack_S2_e1 x1) x0 x1 (tbE h3)), .l (law04_WordBack_L1_f0_0 (word_PutAll_o_r0_1 x1) (law04_WordBack_S2_e1 x1) false false x0 x1 x2 x3 x4 (word_PutAll_o_r0_0 x1) (word_GetAll_o_r0_1 (word_PutAll_o_r0_1 x1)) (ref02_Ints_oo_r0_0 (law04_WordBack_S2_e1 x1) x1) true 0 (⟨true, 0⟩ : law04_WordBack_L1_s0) (tbE h4) (tbE h5)), .b (tbE h6), .b (notF (tbE h6)), .b (tbE h7)] (by kernel_rfl)
            · cases h7 : tb (word_GetAll_o_r0_1 (word_PutAll_o_r0_1 x1))
              · intro g0 g1
                exact seg_walk [.c (word_PutAll_o_t0 x0 x1 (tbE h1)), .y (mm := [(Blk.flat 5 1 (List.map (encI .u8) (word_PutAll_o_r0_1 x1)) false)]) (args := [(V.so (word_PutAll_o_r0_0 x1) 0 ((word_PutAll_o_r0_1 x1).length))]) (args1 := [(V.d (slD (encI .u8) true 1 (word_PutAll_o_r0_0 x1) (word_PutAll_o_r0_1 x1)))]) (byvals_cons (byval_so (enc := (encI .u8)) (l := (word_PutAll_o_r0_1 x1)) (b := (word_PutAll_o_r0_0 x1)) (e := 5) (s := 1) (p := false) (n := ((word_PutAll_o_r0_1 x1).length)) (Nat.beq_refl _) (by kernel_rfl)) (by kernel_rfl)), .c (word_GetAll_o_t0 (word_PutAll_o_r0_0 x1) (word_PutAll_o_r0_1 x1) (tbE h2)), .y (mm := [(Blk.flat 5 1 (List.map (encI .u8) (word_PutAll_o_r0_1 x1)) false), (Blk.flat 3 1 (List.map (encI .i64) (word_GetAll_o_r0_2 (word_PutAll_o_r0_0 x1) (word_PutAll_o_r0_1 x1))) false)]) (args := [(V.so (word_GetAll_o_r0_0 (word_PutAll_o_r0_0 x1) (word_PutAll_o_r0_1 x1)) 1 ((word_GetAll_o_r0_2 (word_PutAll_o_r0_0 x1) (word_PutAll_o_r0_1 x1)).length)), (V.d (slD (encI .i64) true 1 x0 x1))]) (args1 := [(V.d (slD (encI .i64) true 1 (word_GetAll_o_r0_0 (word_PutAll_o_r0_0 x1) (word_PutAll_o_r0_1 x1)) (word_GetAll_o_r0_2 (word_PutAll_o_r0_0 x1) (word_PutAll_o_r0_1 x1)))), (V.d (slD (encI .i64) true 1 x0 x1))]) (byvals_cons (byval_so (enc := (encI .i64)) (l := (word_GetAll_o_r0_2 (word_PutAll_o_r0_0 x1) (word_PutAll_o_r0_1 x1))) (b := (word_GetAll_o_r0_0 (word_PutAll_o_r0_0 x1) (word_PutAll_o_r0_1 x1))) (e := 3) (s := 1) (p := false) (n := ((word_GetAll_o_r0_2 (word_PutAll_o_r0_0 x1) (word_PutAll_o_r0_1 x1)).length)) (Nat.beq_refl _) (by kernel_rfl)) (by kernel_rfl)), .c (ref02_Ints_oo_t0 (law04_WordBack_S2_e0 x1) (law04_WordBack_S2_e1 x1) x0 x1 (tbE h3)), .l (law04_WordBack_L1_f0_0 (word_PutAll_o_r0_1 x1) (law04_WordBack_S2_e1 x1) false false x0 x1 x2 x3 x4 (word_PutAll_o_r0_0 x1) (word_GetAll_o_r0_1 (word_PutAll_o_r0_1 x1)) (ref02_Ints_oo_r0_0 (law04_WordBack_S2_e1 x1) x1) true 0 (⟨true, 0⟩ : law04_WordBack_L1_s0) (tbE h4) (tbE h5)), .b (tbE h6), .b (notF (tbE h7))] (by kernel_rfl)
              · cases h8 : tb (ref02_Ints_oo_r0_0 (law04_WordBack_S2_e1 x1) x1)
                · intro g0 g1
                  exact seg_walk [.c (word_PutAll_o_t0 x0 x1 (tbE h1)), .y (mm := [(Blk.flat 5 1 (List.map (encI .u8) (word_PutAll_o_r0_1 x1)) false)]) (args := [(V.so (word_PutAll_o_r0_0 x1) 0 ((word_PutAll_o_r0_1 x1).length))]) (args1 := [(V.d (slD (encI .u8) true 1 (word_PutAll_o_r0_0 x1) (word_PutAll_o_r0_1 x1)))]) (byvals_cons (byval_so (enc := (encI .u8)) (l := (word_PutAll_o_r0_1 x1)) (b := (word_PutAll_o_r0_0 x1)) (e := 5) (s := 1) (p := false) (n := ((word_PutAll_o_r0_1 x1).length)) (Nat.beq_refl _) (by kernel_rfl)) (by kernel_rfl)), .c (word_GetAll_o_t0 (word_PutAll_o_r0_0 x1) (word_PutAll_o_r0_1 x1) (tbE h2)), .y (mm := [(Blk.flat 5 1 (List.map (encI .u8) (word_PutAll_o_r0_1 x1)) false), (Blk.flat 3 1 (List.map (encI .i64) (word_GetAll_o_r0_2 (word_PutAll_o_r0_0 x1) (word_PutAll_o_r0_1 x1))) false)]) (args := [(V.so (word_GetAll_o_r0_0 (word_PutAll_o_r0_0 x1) (word_PutAll_o_r0_1 x1)) 1 ((word_GetAll_o_r0_2 (word_PutAll_o_r0_0 x1) (word_PutAll_o_r0_1 x1)).length)), (V.d (slD (encI .i64) true 1 x0 x1))]) (args1 := [(V.d (slD (encI .i64) true 1 (word_GetAll_o_r0_0 (word_PutAll_o_r0_0 x1) (word_PutAll_o_r0_1 x1)) (word_GetAll_o_r0_2 (word_PutAll_o_r0_0 x1) (word_PutAll_o_r0_1 x1)))), (V.d (slD (encI .i64) true 1 x0 x1))]) (byvals_cons (byval_so (enc := (encI .i64)) (l := (word_GetAll_o_r0_2 (word_PutAll_o_r0_0 x1) (word_PutAll_o_r0_1 x1))) (b := (word_GetAll_o_r0_0 (word_PutAll_o_r0_0 x1) (word_PutAll_o_r0_1 x1))) (e := 3) (s := 1) (p := false) (n := ((word_GetAll_o_r0_2 (word_PutAll_o_r0_0 x1) (word_PutAll_o_r0_1 x1)).length)) (Nat.beq_refl _) (by kernel_rfl)) (by kernel_rfl)), .c (ref02_Ints_oo_t0 (law04_WordBack_S2_e0 x1) (law04_WordBack_S2_e1 x1) x0 x1 (tbE h3)), .l (law04_WordBack_L1_f0_0 (word_PutAll_o_r0_1 x1) (law04_WordBack_S2_e1 x1) false false x0 x1 x2 x3 x4 (word_PutAll_o_r0_0 x1) (word_GetAll_o_r0_1 (word_PutAll_o_r0_1 x1)) (ref02_Ints_oo_r0_0 (law04_WordBack_S2_e1 x1) x1) true 0 (⟨true, 0⟩ : law04_WordBack_L1_s0) (tbE h4) (tbE h5)), .b (tbE h6), .b (notT (tbE h7)), .b (notF (tbE h8))] (by kernel_rfl)
                · intro g0 g1
                  exact absurd g0 tf

def law04_WordBack_S3_c0 (x0 : Bool) (x1 : List Int) : Bool := (bif tb (word_GetAll_o_c0 x0 x1) then (bif tb (word_PutAll_o_c0 (word_GetAll_o_r0_2 x0 x1)) then (bif tb (ref03_Same_oo_c0 (word_PutAll_o_r0_1 (word_GetAll_o_r0_2 x0 x1)) x1) then true else false) else false) else false)

theorem law04_WordBack_S3_t0 (x0 : Bool) (x1 : List Int) (x2 : Int) : law04_WordBack_S3_c0 x0 x1 = true → segG (runC E0 (cl E0) S4_3) [1, 2] [] [1, 2, 14, 15] 0 ([(V.d (slD (encI .u8) true 1 x0 x1)), (V.d (.int .i64 x2))], []) = some (.normal, ([(V.d (slD (encI .u8) true 1 x0 x1)), (V.d (.int .i64 x2)), (V.d (.bool (word_GetAll_o_r0_1 x1))), (V.d (.bool (ref03_Same_oo_r0_0 (word_PutAll_o_r0_1 (word_GetAll_o_r0_2 x0 x1)) x1)))], [])) := by
  unfold law04_WordBack_S3_c0
  cases h1 : tb (word_GetAll_o_c0 x0 x1)
  · intro g0
    exact absurd g0 ft
  · cases h2 : tb (word_PutAll_o_c0 (word_GetAll_o_r0_2 x0 x1))
    · intro g0
      exact absurd g0 ft
    · cases h3 : tb (ref03_Same_oo_c0 (word_PutAll_o_r0_1 (word_GetAll_o_r0_2 x0 x1)) x1)
      · intro g0
        exact absurd g0 ft
      · intro g0
        exact seg_walk [.c (word_GetAll_o_t0 x0 x1 (tbE h1)), .y (mm := [(Blk.flat 3 1 (List.map (encI .i64) (word_GetAll_o_r0_2 x0 x1)) false)]) (args := [(V.so (word_GetAll_o_r0_0 x0 x1) 0 ((word_GetAll_o_r0_2 x0 x1).length))]) (args1 := [(V.d (slD (encI .i64) true 1 (word_GetAll_o_r0_0 x0 x1) (word_GetAll_o_r0_2 x0 x1)))]) (byvals_cons (byval_so (enc := (encI .i64)) (l := (word_GetAll_o_r0_2 x0 x1)) (b := (word_GetAll_o_r0_0 x0 x1)) (e := 3) (s := 1) (p := false) (n := ((word_GetAll_o_r0_2 x0 x1).length)) (Nat.beq_refl _) (by kernel_rfl)) (by kernel_rfl)), .c (word_PutAll_o_t0 (word_GetAll_o_r0_0 x0 x1) (word_GetAll_o_r0_2 x0 x1) (tbE h2)), .y (mm := [(Blk.flat 3 1 (List.map (encI .i64) (word_GetAll_o_r0_2 x0 x1)) false), (Blk.flat 5 1 (List.map (encI .u8) (word_PutAll_o_r0_1 (word_GetAll_o_r0_2 x0 x1))) false)]) (args := [(V.so (word_PutAll_o_r0_0 (word_GetAll_o_r0_2 x0 x1)) 1 ((word_PutAll_o_r0_1 (word_GetAll_o_r0_2 x0 x1)).length)), (V.d (slD (encI .u8) true 1 x0 x1))]) (args1 := [(V.d (slD (encI .u8) true 1 (word_PutAll_o_r0_0 (word_GetAll_o_r0_2 x0 x1)) (word_PutAll_o_r0_1 (word_GetAll_o_r0_2 x0 x1)))), (V.d (slD (encI .u8) true 1 x0 x1))]) (byvals_cons (byval_so (enc := (encI .u8)) (l := (word_PutAll_o_r0_1 (word_GetAll_o_r0_2 x0 x1))) (b := (word_PutAll_o_r0_0 (word_GetAll_o_r0_2 x0 x1))) (e := 5) (s := 1) (p := false) (n := ((word_PutAll_o_r0_1 (word_GetAll_o_r0_2 x0 x1)).length)) (Nat.beq_refl _) (by kernel_rfl)) (by kernel_rfl)), .c (ref03_Same_oo_t0 (word_PutAll_o_r0_0 (word_GetAll_o_r0_2 x0 x1)) (word_PutAll_o_r0_1 (word_GetAll_o_r0_2 x0 x1)) x0 x1 (tbE h3))] (by kernel_rfl)

def law04_WordBack_S4_c0 (x1 : List Int) (x3 : Bool) (x4 : Bool) : Bool := (bif tb (true != (x3 == (((remI .i64 ((x1.length : Nat) : Int) 4) : Int) == 0))) then true else (bif tb (x3) then (bif tb (x4) then false else true) else false))

theorem law04_WordBack_S4_t0 (x0 : Bool) (x1 : List Int) (x2 : Int) (x3 : Bool) (x4 : Bool) : law04_WordBack_S4_c0 x1 x3 x4 = true → segG (runC E0 (cl E0) S4_4) [1, 2, 14, 15] [6] [2] 0 ([(V.d (slD (encI .u8) true 1 x0 x1)), (V.d (.int .i64 x2)), (V.d (.bool x3)), (V.d (.bool x4))], []) = some (.ret, ([(V.d (.bool false))], [])) := by
  unfold law04_WordBack_S4_c0
  cases h1 : tb (true != (x3 == (((remI .i64 ((x1.length : Nat) : Int) 4) : Int) == 0)))
  · cases h2 : tb (x3)
    · intro g0
      exact absurd g0 ft
    · cases h3 : tb (x4)
      · intro g0
        exact seg_walk [.o 89 (fun _ => o_len_os (enc := (encI .u8)) (l := x1) (fl := true) (n := x0) (s := 1)), .b (tbE h1), .b (tbE h2), .b (notF (tbE h3))] (by kernel_rfl)
      · intro g0
        exact absurd g0 ft
  · intro g0
    exact seg_walk [.o 89 (fun _ => o_len_os (enc := (encI .u8)) (l := x1) (fl := true) (n := x0) (s := 1)), .b (tbE h1)] (by kernel_rfl)

theorem law04_WordBack_S4_t1 (x0 : Bool) (x1 : List Int) (x2 : Int) (x3 : Bool) (x4 : Bool) : law04_WordBack_S4_c0 x1 x3 x4 = false → segG (runC E0 (cl E0) S4_4) [1, 2, 14, 15] [6] [2] 0 ([(V.d (slD (encI .u8) true 1 x0 x1)), (V.d (.int .i64 x2)), (V.d (.bool x3)), (V.d (.bool x4))], []) = some (.normal, ([(V.d (.int .i64 x2))], [])) := by
  unfold law04_WordBack_S4_c0
  cases h1 : tb (true != (x3 == (((remI .i64 ((x1.length : Nat) : Int) 4) : Int) == 0)))
  · cases h2 : tb (x3)
    · intro g0
      exact seg_walk [.o 89 (fun _ => o_len_os (enc := (encI .u8)) (l := x1) (fl := true) (n := x0) (s := 1)), .b (tbE h1), .b (tbE h2)] (by kernel_rfl)
    · cases h3 : tb (x4)
      · intro g0
        exact absurd g0 tf
      · intro g0
        exact seg_walk [.o 89 (fun _ => o_len_os (enc := (encI .u8)) (l := x1) (fl := true) (n := x0) (s := 1)), .b (tbE h1), .b (tbE h2), .b (notT (tbE h3))] (by kernel_rfl)
  · intro g0
    exact absurd g0 tf

def law04_WordBack_S5_c0 (x0 : Int) : Bool := (bif tb (word_Get4_o_c0 (word_Put4_i_r0_1 x0)) then true else false)

theorem law04_WordBack_S5_t0 (x0 : Int) : law04_WordBack_S5_c0 x0 = true → segG (runC E0 (cl E0) S4_5) [2] [] [2, 16, 17] 0 ([(V.d (.int .i64 x0))], []) = some (.normal, ([(V.d (.int .i64 x0)), (V.d (.int .i64 (word_Get4_o_r0_0 (word_Put4_i_r0_1 x0)))), (V.d (.bool (word_Get4_o_r0_1 (word_Put4_i_r0_1 x0))))], [])) := by
  unfold law04_WordBack_S5_c0
  cases h1 : tb (word_Get4_o_c0 (word_Put4_i_r0_1 x0))
  · intro g0
    exact absurd g0 ft
  · intro g0
    exact seg_walk [.c (word_Put4_i_t0 x0), .y (mm := [(Blk.flat 5 1 (List.map (encI .u8) (word_Put4_i_r0_1 x0)) false)]) (args := [(V.so (word_Put4_i_r0_0 x0) 0 ((word_Put4_i_r0_1 x0).length))]) (args1 := [(V.d (slD (encI .u8) true 1 (word_Put4_i_r0_0 x0) (word_Put4_i_r0_1 x0)))]) (byvals_cons (byval_so (enc := (encI .u8)) (l := (word_Put4_i_r0_1 x0)) (b := (word_Put4_i_r0_0 x0)) (e := 5) (s := 1) (p := false) (n := ((word_Put4_i_r0_1 x0).length)) (Nat.beq_refl _) (by kernel_rfl)) (by kernel_rfl)), .c (word_Get4_o_t0 (word_Put4_i_r0_0 x0) (word_Put4_i_r0_1 x0) (tbE h1))] (by kernel_rfl)

def law04_WordBack_S6_c0 (x0 : Int) : Bool := (bif tb (word_Get2_o_c0 (word_Put2_i_r0_1 x0)) then true else false)

theorem law04_WordBack_S6_t0 (x0 : Int) (x1 : Int) (x2 : Bool) : law04_WordBack_S6_c0 x0 = true → segG (runC E0 (cl E0) S4_6) [2, 16, 17] [] [2, 16, 17, 18, 19] 0 ([(V.d (.int .i64 x0)), (V.d (.int .i64 x1)), (V.d (.bool x2))], []) = some (.normal, ([(V.d (.int .i64 x0)), (V.d (.int .i64 x1)), (V.d (.bool x2)), (V.d (.int .i64 (word_Get2_o_r0_0 (word_Put2_i_r0_1 x0)))), (V.d (.bool (word_Get2_o_r0_1 (word_Put2_i_r0_1 x0))))], [])) := by
  unfold law04_WordBack_S6_c0
  cases h1 : tb (word_Get2_o_c0 (word_Put2_i_r0_1 x0))
  · intro g0
    exact absurd g0 ft
  · intro g0
    exact seg_walk [.c (word_Put2_i_t0 x0), .y (mm := [(Blk.flat 5 1 (List.map (encI .u8) (word_Put2_i_r0_1 x0)) false)]) (args := [(V.so (word_Put2_i_r0_0 x0) 0 ((word_Put2_i_r0_1 x0).length))]) (args1 := [(V.d (slD (encI .u8) true 1 (word_Put2_i_r0_0 x0) (word_Put2_i_r0_1 x0)))]) (byvals_cons (byval_so (enc := (encI .u8)) (l := (word_Put2_i_r0_1 x0)) (b := (word_Put2_i_r0_0 x0)) (e := 5) (s := 1) (p := false) (n := ((word_Put2_i_r0_1 x0).length)) (Nat.beq_refl _) (by kernel_rfl)) (by kernel_rfl)), .c (word_Get2_o_t0 (word_Put2_i_r0_0 x0) (word_Put2_i_r0_1 x0) (tbE h1))] (by kernel_rfl)

def law04_WordBack_S7_r0_0 (x0 : Int) (x1 : Int) (x2 : Bool) (x3 : Int) (x4 : Bool) : Bool := (bif tb (decide ((-2147483648) ≤ x0)) then (bif tb (false != (x2 == (decide (x0 ≤ 2147483647)))) then (bif tb (x2) then (bif tb ((x1 : Int) == x0) then (bif tb (decide (0 ≤ x0)) then (bif tb (false != (x4 == (decide (x0 ≤ 65535)))) then (bif tb (x4) then ((x3 : Int) == x0) else true) else false) else (bif tb (false != (x4 == false)) then (bif tb (x4) then ((x3 : Int) == x0) else true) else false)) else false) else (bif tb (decide (0 ≤ x0)) then (bif tb (false != (x4 == (decide (x0 ≤ 65535)))) then (bif tb (x4) then ((x3 : Int) == x0) else true) else false) else (bif tb (false != (x4 == false)) then (bif tb (x4) then ((x3 : Int) == x0) else true) else false))) else false) else (bif tb (false != (x2 == false)) then (bif tb (x2) then (bif tb ((x1 : Int) == x0) then (bif tb (decide (0 ≤ x0)) then (bif tb (false != (x4 == (decide (x0 ≤ 65535)))) then (bif tb (x4) then ((x3 : Int) == x0) else true) else false) else (bif tb (false != (x4 == false)) then (bif tb (x4) then ((x3 : Int) == x0) else true) else false)) else false) else (bif tb (decide (0 ≤ x0)) then (bif tb (false != (x4 == (decide (x0 ≤ 65535)))) then (bif tb (x4) then ((x3 : Int) == x0) else true) else false) else (bif tb (false != (x4 == false)) then (bif tb (x4) then ((x3 : Int) == x0) else true) else false))) else false))

theorem law04_WordBack_S7_t0 (x0 : Int) (x1 : Int) (x2 : Bool) (x3 : Int) (x4 : Bool) : segG (runC E0 (cl E0) S4_7) [2, 16, 17, 18, 19] [] [6] 0 ([(V.d (.int .i64 x0)), (V.d (.int .i64 x1)), (V.d (.bool x2)), (V.d (.int .i64 x3)), (V.d (.bool x4))], []) = some (.normal, ([(V.d (.bool (law04_WordBack_S7_r0_0 x0 x1 x2 x3 x4)))], [])) := by
  unfold law04_WordBack_S7_r0_0
  cases h1 : tb (decide ((-2147483648) ≤ x0))
  · cases h2 : tb (false != (x2 == false))
    · exact seg_walk [.c (law04_alive_t0), .k true, .b (tbE h1), .b (tbE h2)] (by kernel_rfl)
    · cases h3 : tb (x2)
      · cases h4 : tb (decide (0 ≤ x0))
        · cases h5 : tb (false != (x4 == false))
          · exact seg_walk [.c (law04_alive_t0), .k true, .b (tbE h1), .b (tbE h2), .b (notF (tbE h3)), .b (tbE h4), .b (tbE h5)] (by kernel_rfl)
          · cases h6 : tb (x4)
            · exact seg_walk [.c (law04_alive_t0), .k true, .b (tbE h1), .b (tbE h2), .b (notF (tbE h3)), .b (tbE h4), .b (tbE h5), .b (notF (tbE h6))] (by kernel_rfl)
            · exact seg_walk [.c (law04_alive_t0), .k true, .b (tbE h1), .b (tbE h2), .b (notF (tbE h3)), .b (tbE h4), .b (tbE h5), .b (notT (tbE h6))] (by kernel_rfl)
        · cases h5 : tb (false != (x4 == (decide (x0 ≤ 65535))))
          · exact seg_walk [.c (law04_alive_t0), .k true, .b (tbE h1), .b (tbE h2), .b (notF (tbE h3)), .b (tbE h4), .b (tbE h5)] (by kernel_rfl)
          · cases h6 : tb (x4)
            · exact seg_walk [.c (law04_alive_t0), .k true, .b (tbE h1), .b (tbE h2), .b (notF (tbE h3)), .b (tbE h4), .b (tbE h5), .b (notF (tbE h6))] (by kernel_rfl)
            · exact seg_walk [.c (law04_alive_t0), .k true, .b (tbE h1), .b (tbE h2), .b (notF (tbE h3)), .b (tbE h4), .b (tbE h5), .b (notT (tbE h6))] (by kernel_rfl)
      · cases h4 : tb ((x1 : Int) == x0)
        · exact seg_walk [.c (law04_alive_t0), .k true, .b (tbE h1), .b (tbE h2), .b (notT (tbE h3)), .b (tbE h4)] (by kernel_rfl)
        · cases h5 : tb (decide (0 ≤ x0))
          · cases h6 : tb (false != (x4 == false))
            · exact seg_walk [.c (law04_alive_t0), .k true, .b (tbE h1), .b (tbE h2), .b (notT (tbE h3)), .b (tbE h4), .b (tbE h5), .b (tbE h6)] (by kernel_rfl)
            · cases h7 : tb (x4)
              · exact seg_walk [.c (law04_alive_t0), .k true, .b (tbE h1), .b (tbE h2), .b (notT (tbE h3)), .b (tbE h4), .b (tbE h5), .b (tbE h6), .b (notF (tbE h7))] (by kernel_rfl)
              · exact seg_walk [.c (law04_alive_t0), .k true, .b (tbE h1), .b (tbE h2), .b (notT (tbE h3)), .b (tbE h4), .b (tbE h5), .b (tbE h6), .b (notT (tbE h7))] (by kernel_rfl)
          · cases h6 : tb (false != (x4 == (decide (x0 ≤ 65535))))
            · exact seg_walk [.c (law04_alive_t0), .k true, .b (tbE h1), .b (tbE h2), .b (notT (tbE h3)), .b (tbE h4), .b (tbE h5), .b (tbE h6)] (by kernel_rfl)
            · cases h7 : tb (x4)
              · exact seg_walk [.c (law04_alive_t0), .k true, .b (tbE h1), .b (tbE h2), .b (notT (tbE h3)), .b (tbE h4), .b (tbE h5), .b (tbE h6), .b (notF (tbE h7))] (by kernel_rfl)
              · exact seg_walk [.c (law04_alive_t0), .k true, .b (tbE h1), .b (tbE h2), .b (notT (tbE h3)), .b (tbE h4), .b (tbE h5), .b (tbE h6), .b (notT (tbE h7))] (by kernel_rfl)
  · cases h2 : tb (false != (x2 == (decide (x0 ≤ 2147483647))))
    · exact seg_walk [.c (law04_alive_t0), .k true, .b (tbE h1), .b (tbE h2)] (by kernel_rfl)
    · cases h3 : tb (x2)
      · cases h4 : tb (decide (0 ≤ x0))
        · cases h5 : tb (false != (x4 == false))
          · exact seg_walk [.c (law04_alive_t0), .k true, .b (tbE h1), .b (tbE h2), .b (notF (tbE h3)), .b (tbE h4), .b (tbE h5)] (by kernel_rfl)
          · cases h6 : tb (x4)
            · exact seg_walk [.c (law04_alive_t0), .k true, .b (tbE h1), .b (tbE h2), .b (notF (tbE h3)), .b (tbE h4), .b (tbE h5), .b (notF (tbE h6))] (by kernel_rfl)
            · exact seg_walk [.c (law04_alive_t0), .k true, .b (tbE h1), .b (tbE h2), .b (notF (tbE h3)), .b (tbE h4), .b (tbE h5), .b (notT (tbE h6))] (by kernel_rfl)
        · cases h5 : tb (false != (x4 == (decide (x0 ≤ 65535))))
          · exact seg_walk [.c (law04_alive_t0), .k true, .b (tbE h1), .b (tbE h2), .b (notF (tbE h3)), .b (tbE h4), .b (tbE h5)] (by kernel_rfl)
          · cases h6 : tb (x4)
            · exact seg_walk [.c (law04_alive_t0), .k true, .b (tbE h1), .b (tbE h2), .b (notF (tbE h3)), .b (tbE h4), .b (tbE h5), .b (notF (tbE h6))] (by kernel_rfl)
            · exact seg_walk [.c (law04_alive_t0), .k true, .b (tbE h1), .b (tbE h2), .b (notF (tbE h3)), .b (tbE h4), .b (tbE h5), .b (notT (tbE h6))] (by kernel_rfl)
      · cases h4 : tb ((x1 : Int) == x0)
        · exact seg_walk [.c (law04_alive_t0), .k true, .b (tbE h1), .b (tbE h2), .b (notT (tbE h3)), .b (tbE h4)] (by kernel_rfl)
        · cases h5 : tb (decide (0 ≤ x0))
          · cases h6 : tb (false != (x4 == false))
            · exact seg_walk [.c (law04_alive_t0), .k true, .b (tbE h1), .b (tbE h2), .b (notT (tbE h3)), .b (tbE h4), .b (tbE h5), .b (tbE h6)] (by kernel_rfl)
            · cases h7 : tb (x4)
              · exact seg_walk [.c (law04_alive_t0), .k true, .b (tbE h1), .b (tbE h2), .b (notT (tbE h3)), .b (tbE h4), .b (tbE h5), .b (tbE h6), .b (notF (tbE h7))] (by kernel_rfl)
              · exact seg_walk [.c (law04_alive_t0), .k true, .b (tbE h1), .b (tbE h2), .b (notT (tbE h3)), .b (tbE h4), .b (tbE h5), .b (tbE h6), .b (notT (tbE h7))] (by kernel_rfl)
          · cases h6 : tb (false != (x4 == (decide (x0 ≤ 65535))))
            · exact seg_walk [.c (law04_alive_t0), .k true, .b (tbE h1), .b (tbE h2), .b (notT (tbE h3)), .b (tbE h4), .b (tbE h5), .b (tbE h6)] (by kernel_rfl)
            · cases h7 : tb (x4)
              · exact seg_walk [.c (law04_alive_t0), .k true, .b (tbE h1), .b (tbE h2), .b (notT (tbE h3)), .b (tbE h4), .b (tbE h5), .b (tbE h6), .b (notF (tbE h7))] (by kernel_rfl)
              · exact seg_walk [.c (law04_alive_t0), .k true, .b (tbE h1), .b (tbE h2), .b (notT (tbE h3)), .b (tbE h4), .b (tbE h5), .b (tbE h6), .b (notT (tbE h7))] (by kernel_rfl)

def law04_WordBack_e0 (x2 : Bool) (x3 : List Int) : Bool := (ref03_Same_oo_r0_0 (word_PutAll_o_r0_1 (word_GetAll_o_r0_2 x2 x3)) x3)

def law04_WordBack_c0 (x1 : List Int) (x2 : Bool) (x3 : List Int) (x4 : Int) : Bool := (bif tb (law04_WordBack_S0_c0 x1 x3) then true else (bif tb (law04_WordBack_S2_c0 x1) then (bif tb (law04_WordBack_S3_c0 x2 x3) then (bif tb (law04_WordBack_S4_c0 x3 (word_GetAll_o_r0_1 x3) (law04_WordBack_e0 x2 x3)) then true else (bif tb (law04_WordBack_S5_c0 x4) then (bif tb (law04_WordBack_S6_c0 x4) then true else false) else false)) else false) else (bif tb (law04_WordBack_S2_c1 x1) then true else false)))

def law04_WordBack_r0_0 (x1 : List Int) (x2 : Bool) (x3 : List Int) (x4 : Int) : Bool := (bif tb (law04_WordBack_S0_c0 x1 x3) then true else (bif tb (law04_WordBack_S2_c0 x1) then (bif tb (law04_WordBack_S4_c0 x3 (word_GetAll_o_r0_1 x3) (law04_WordBack_e0 x2 x3)) then false else (law04_WordBack_S7_r0_0 x4 (word_Get4_o_r0_0 (word_Put4_i_r0_1 x4)) (word_Get4_o_r0_1 (word_Put4_i_r0_1 x4)) (word_Get2_o_r0_0 (word_Put2_i_r0_1 x4)) (word_Get2_o_r0_1 (word_Put2_i_r0_1 x4)))) else false))

theorem law04_WordBack_t0 (x0 : Bool) (x1 : List Int) (x2 : Bool) (x3 : List Int) (x4 : Int) : law04_WordBack_c0 x1 x2 x3 x4 = true → cl E0 4 [(V.d (slD (encI .i64) true 1 x0 x1)), (V.d (slD (encI .u8) true 1 x2 x3)), (V.d (.int .i64 x4))] [] = some ([(V.d (.bool (law04_WordBack_r0_0 x1 x2 x3 x4)))], []) := by
  unfold law04_WordBack_c0 law04_WordBack_r0_0
  cases h1 : tb (law04_WordBack_S0_c0 x1 x3)
  · cases h2 : tb (law04_WordBack_S2_c0 x1)
    · cases h3 : tb (law04_WordBack_S2_c1 x1)
      · intro g0
        exact absurd g0 ft
      · intro g0
        exact w4 [.s (law04_WordBack_S0_t1 x0 x1 x2 x3 x4 (tbE h1)), .s (law04_WordBack_S2_t1 x0 x1 x2 x3 x4 (tbE h2) (tbE h3))] (by kernel_rfl)
    · cases h3 : tb (law04_WordBack_S3_c0 x2 x3)
      · intro g0
        exact absurd g0 ft
      · cases h4 : tb (law04_WordBack_S4_c0 x3 (word_GetAll_o_r0_1 x3) (law04_WordBack_e0 x2 x3))
        · cases h5 : tb (law04_WordBack_S5_c0 x4)
          · intro g0
            exact absurd g0 ft
          · cases h6 : tb (law04_WordBack_S6_c0 x4)
            · intro g0
              exact absurd g0 ft
            · intro g0
              exact w4 [.s (law04_WordBack_S0_t1 x0 x1 x2 x3 x4 (tbE h1)), .s (law04_WordBack_S2_t0 x0 x1 x2 x3 x4 (tbE h2)), .s (law04_WordBack_S3_t0 x2 x3 x4 (tbE h3)), .s (law04_WordBack_S4_t1 x2 x3 x4 (word_GetAll_o_r0_1 x3) (law04_WordBack_e0 x2 x3) (tbE h4)), .s (law04_WordBack_S5_t0 x4 (tbE h5)), .s (law04_WordBack_S6_t0 x4 (word_Get4_o_r0_0 (word_Put4_i_r0_1 x4)) (word_Get4_o_r0_1 (word_Put4_i_r0_1 x4)) (tbE h6)), .s (law04_WordBack_S7_t0 x4 (word_Get4_o_r0_0 (word_Put4_i_r0_1 x4)) (word_Get4_o_r0_1 (word_Put4_i_r0_1 x4)) (word_Get2_o_r0_0 (word_Put2_i_r0_1 x4)) (word_Get2_o_r0_1 (word_Put2_i_r0_1 x4)))] (by kernel_rfl)
        · intro g0
          exact w4 [.s (law04_WordBack_S0_t1 x0 x1 x2 x3 x4 (tbE h1)), .s (law04_WordBack_S2_t0 x0 x1 x2 x3 x4 (tbE h2)), .s (law04_WordBack_S3_t0 x2 x3 x4 (tbE h3)), .s (law04_WordBack_S4_t0 x2 x3 x4 (word_GetAll_o_r0_1 x3) (law04_WordBack_e0 x2 x3) (tbE h4))] (by kernel_rfl)
  · intro g0
    exact w4 [.s (law04_WordBack_S0_t0 x0 x1 x2 x3 x4 (tbE h1))] (by kernel_rfl)

end Go.Proofs.Ytdjmfcdopaejcaa.Den

/- Layer 4: WordBack. -/
namespace Go.Proofs.Ytdjmfcdopaejcaa.Den
open Go Go.Proofs
set_option linter.unusedVariables false
set_option linter.unusedSimpArgs false

theorem right_run {l : List Int} (hl : l.length ≤ 1000) : itS (law04_WordBack_L1_sel l) (law04_WordBack_L1_nx l) bound ⟨true, 0⟩ = some ⟨all32 l, l.length⟩ := by
  have := loop_seq (sel := law04_WordBack_L1_sel l) (nx := law04_WordBack_L1_nx l) (fun k => ⟨all32 (l.take k), (k : Int)⟩) l.length (by omega) (fun k hk => ?_) ?_
  · simpa [all32] using this
  · have hi : inb l.length (k : Int) = true := inb_of (by omega) (by omega)
    have hlt : (k : Int) < (l.length : Int) := by omega
    have e : all32 (l.take (k + 1)) = (all32 (l.take k) && n32 (gt l (k : Int))) := by rw [take_succ_gt hk]; simp [all32]
    constructor
    · simp only [law04_WordBack_L1_sel, hi, hlt, tb_eq, decide_true, cond_true]
      cases all32 (l.take k) <;> rfl
    · simp only [law04_WordBack_L1_nx, tb_eq, e, n32]
      rw [wi_eq (by omega) (by omega)]
      cases all32 (l.take k)
      · simp
      · by_cases h : -2147483648 ≤ gt l (k : Int) <;> simp [h]
  · simp [law04_WordBack_L1_sel, tb_eq]

theorem q4_4 (n : Int) : g4 (q4 n) = (if n32 n then n else 0) ∧ decide ((q4 n).length = 4) = n32 n ∧ Byts (q4 n) := by
  unfold q4
  cases h : n32 n with
  | true => exact ⟨by simp [g4_p4 h], by simp [p4], by simpa using p4_byts n⟩
  | false => exact ⟨by simp [g4], by simp, by intro z hz; simp at hz⟩

theorem q2_2 (n : Int) : g2 (q2 n) = (if n16 n then n else 0) ∧ decide ((q2 n).length = 2) = n16 n ∧ Byts (q2 n) := by
  unfold q2
  cases h : n16 n with
  | true => exact ⟨by simp [g2_p2 h], by simp [p2], by simpa using p2_byts n⟩
  | false => exact ⟨by simp [g2], by simp, by intro z hz; simp at hz⟩

theorem pure_WordBack (x0 : Bool) (x1 : List Int) (x2 : Bool) (x3 : List Int) (x4 : Int) (wx1 : (x1.length ≤ maxLen ∧ ∀ z ∈ x1, WfI .i64 z)) (wx3 : (x3.length ≤ maxLen ∧ ∀ z ∈ x3, WfI .u8 z)) (wx4 : WfI .i64 x4) : law04_WordBack_c0 x1 x2 x3 x4 = true ∧ (law04_WordBack_r0_0 x1 x2 x3 x4) = true := by
  by_cases hm : 200 < x1.length ∨ 200 < x3.length
  · have : law04_WordBack_S0_c0 x1 x3 = true := by
      simp only [law04_WordBack_S0_c0, tb]
      by_cases h1 : 200 < x1.length
      · have : (200 : Int) < (x1.length : Int) := by omega
        simp [this]
      · have h2 : (200 : Int) < (x3.length : Int) := by omega
        simp [h2]
    simp [law04_WordBack_c0, law04_WordBack_r0_0, this, tb]
  · have h1 : ¬ (200 : Int) < (x1.length : Int) := by omega
    have h2 : ¬ (200 : Int) < (x3.length : Int) := by omega
    have h0 : law04_WordBack_S0_c0 x1 x3 = false := by simp [law04_WordBack_S0_c0, tb, h1, h2]
    have hb := byts_of wx3.2
    have hp := putAll_len x1
    obtain ⟨a1, a2⟩ := PutAll_r (l := x1) (by omega)
    obtain ⟨b1, b2, b3⟩ := GetAll_r (putAll_byts x1) (by omega) (word_PutAll_o_r0_0 x1)
    have hg := getAll_len (putAll x1)
    have hg3 := getAll_len x3
    obtain ⟨i1, i2⟩ := ints_eq (l := getAll (putAll x1)) (k := x1) (by omega)
    have hrun := right_run (l := x1) (by omega)
    have e1 : law04_WordBack_L1_ok x1 ⟨true, 0⟩ = true := by simp only [law04_WordBack_L1_ok, hrun]; rfl
    have e2 : law04_WordBack_L1_end x1 ⟨true, 0⟩ = ⟨all32 x1, x1.length⟩ := by simp only [law04_WordBack_L1_end, hrun]; rfl
    have e3 : law04_WordBack_L1_c0 x1 ⟨all32 x1, x1.length⟩ = true := by simp [law04_WordBack_L1_c0, tb]
    have s2 : law04_WordBack_S2_c0 x1 = true := by
      simp only [law04_WordBack_S2_c0, law04_WordBack_S2_e1, a1, a2, b1, b2, b3, i1, i2, e1, e2, e3, tb, cond_true]
      cases h : all32 x1 with
      | true =>
        obtain ⟨k1, k2⟩ := back_l h
        simp [k1, k2]
      | false => simp [putAll, h]
    obtain ⟨c1, c2, c3⟩ := GetAll_r hb (by omega) x2
    obtain ⟨d1, d2⟩ := PutAll_r (l := getAll x3) (by omega)
    have hp3 := putAll_len (getAll x3)
    obtain ⟨j1, j2⟩ := same_eq (l := putAll (getAll x3)) (k := x3) (by omega)
    have s3 : law04_WordBack_S3_c0 x2 x3 = true := by simp only [law04_WordBack_S3_c0, c1, c3, d1, d2, j1, tb]; rfl
    have s4 : law04_WordBack_S4_c0 x3 (word_GetAll_o_r0_1 x3) (law04_WordBack_e0 x2 x3) = false := by
      simp only [law04_WordBack_S4_c0, law04_WordBack_e0, c2, c3, d2, j2, rem4, tb]
      by_cases h : x3.length % 4 = 0
      · have := back_b hb h
        simp [h, this]
      · have h' : ((((x3.length % 4 : Nat) : Int)) == 0) = false := by simp; omega
        simp only [h, h', decide_false]; rfl
    obtain ⟨g1, g2', g3⟩ := q4_4 x4
    obtain ⟨f1, f2, f3⟩ := q2_2 x4
    have m1 := Get4_c (q4 x4)
    obtain ⟨m2, m3⟩ := Get4_r g3
    obtain ⟨n1, _, n2, _, n3, _⟩ := Get2_eq f3
    rw [g2'] at m3
    rw [f2] at n3
    rw [g1] at m2
    rw [f1] at n2
    constructor
    · simp only [law04_WordBack_c0, h0, s2, s3, s4, law04_WordBack_S5_c0, law04_WordBack_S6_c0, (Put4_r _).2, Put2_r, m1, n1, tb]; rfl
    · simp only [law04_WordBack_r0_0, h0, s2, s4, (Put4_r _).2, Put2_r, m2, m3, n2, n3, law04_WordBack_S7_r0_0, tb, n32, n16, cond_true, cond_false]
      by_cases k1 : -2147483648 ≤ x4
      · by_cases k2 : x4 ≤ 2147483647
        · by_cases k3 : 0 ≤ x4
          · by_cases k4 : x4 ≤ 65535
            · have k5 : x4 < 65536 := by omega
              simp [k1, k2, k3, k4, k5]
            · have k5 : ¬ x4 < 65536 := by omega
              simp [k1, k2, k3, k4, k5]
          · simp [k1, k2, k3]
        · have k3 : 0 ≤ x4 := by omega
          have k4 : ¬ x4 ≤ 65535 := by omega
          have k5 : ¬ x4 < 65536 := by omega
          simp [k1, k2, k3, k4, k5]
      · have k3 : ¬ 0 ≤ x4 := by omega
        simp [k1, k3]

end Go.Proofs.Ytdjmfcdopaejcaa.Den

/- What all rows of a seat rest on. -/
namespace Go.Proofs.Ytdjmfcdopaejcaa.Den
open Go Go.Proofs
set_option maxRecDepth 100000

theorem own : ownKnob Try.prog.godebug = none := by kernel_rfl
theorem laidOut : laidOutB Try.prog = true := by kernel_rfl
theorem mixed : Try.prog.follows .mixedOrders = true := by kernel_rfl
theorem envOK : EnvOK Try.prog E0 := ⟨e0_cf, fun f args m r m' h => by simp [E0] at h⟩
theorem glOK (w : World) : GlOK E0 (cx0 w) := fun g cs h => by simp [E0] at h
end Go.Proofs.Ytdjmfcdopaejcaa.Den

/- The row of WordBack. -/
namespace Go.Proofs.Ytdjmfcdopaejcaa.Den
open Go Go.Proofs Go.ChangeShapes Go.WideShapes Go.ChangeAt Go.RowKit
open Go.Proofs.Ytdjmfcdopaejcaa (Rows.wordBackSpec Rows.wordBackRow Rows.WordBackSaid)
set_option maxRecDepth 100000
set_option linter.unusedSimpArgs false
set_option linter.unusedVariables false

theorem row4 (rs : List (List D)) (h : TyAll Try.prog 20 Try.f4.params.toList rs) : ∃ k m', callD E0 k 4 (argsV Try.prog Try.f4.params.toList rs) [] = some ([.d (.bool true)], m') := by
  rw [Try.params4] at h ⊢
  simp only [TyAll] at h
  obtain ⟨_, _, rfl, q0, _, _, rfl, q1, _, _, rfl, q2, rfl⟩ := h
  have k0 := flatK_ok 20 _ _ _ (show flatK Try.prog 20 26 = some [.l 3] by kernel_rfl) q0
  simp only [CellsK, CellK] at k0
  obtain ⟨d0_0, _, rfl, y0_0, rfl⟩ := k0
  obtain ⟨n0_0, a0_0, rfl, v0_0⟩ : ∃ n l, d0_0 = slD (encI .i64) true 1 n l ∧ (l.length ≤ maxLen ∧ ∀ z ∈ l, WfI .i64 z) := by
    rcases y0_0 with rfl | ⟨rows1, rfl, hl1, m1, hr1⟩
    · exact ⟨true, [], rfl, by simp [maxLen], fun z hz => by simp at hz⟩
    · obtain ⟨l2, rfl, hw2⟩ : ∃ l : List Int, rows1 = l.map (encI .i64) ∧ ∀ z ∈ l, WfI .i64 z := rows_of (T := Ty Try.prog m1 3) (fun r hr => by
          have q := flatK_any (show flatK Try.prog 20 3 = some [.i .i64] by kernel_rfl) hr
          simp only [CellsK, CellK] at q
          obtain ⟨_, _, rfl, ⟨b0, rfl, w0⟩, rfl⟩ := q
          exact ⟨b0, rfl, w0⟩) rows1 hr1
      rw [show isFlat Try.prog 3 = true by kernel_rfl, show Try.prog.cellsOf 3 = 1 by kernel_rfl]
      exact ⟨false, l2, slD_rs _ _ _ _, by simpa using hl1, hw2⟩
  have k1 := flatK_ok 20 _ _ _ (show flatK Try.prog 20 22 = some [.l 5] by kernel_rfl) q1
  simp only [CellsK, CellK] at k1
  obtain ⟨d1_0, _, rfl, y1_0, rfl⟩ := k1
  obtain ⟨n1_0, a1_0, rfl, v1_0⟩ : ∃ n l, d1_0 = slD (encI .u8) true 1 n l ∧ (l.length ≤ maxLen ∧ ∀ z ∈ l, WfI .u8 z) := by
    rcases y1_0 with rfl | ⟨rows3, rfl, hl3, m3, hr3⟩
    · exact ⟨true, [], rfl, by simp [maxLen], fun z hz => by simp at hz⟩
    · obtain ⟨l4, rfl, hw4⟩ : ∃ l : List Int, rows3 = l.map (encI .u8) ∧ ∀ z ∈ l, WfI .u8 z := rows_of (T := Ty Try.prog m3 5) (fun r hr => by
          have q := flatK_any (show flatK Try.prog 20 5 = some [.i .u8] by kernel_rfl) hr
          simp only [CellsK, CellK] at q
          obtain ⟨_, _, rfl, ⟨b0, rfl, w0⟩, rfl⟩ := q
          exact ⟨b0, rfl, w0⟩) rows3 hr3
      rw [show isFlat Try.prog 5 = true by kernel_rfl, show Try.prog.cellsOf 5 = 1 by kernel_rfl]
      exact ⟨false, l4, slD_rs _ _ _ _, by simpa using hl3, hw4⟩
  have k2 := flatK_ok 20 _ _ _ (show flatK Try.prog 20 3 = some [.i .i64] by kernel_rfl) q2
  simp only [CellsK, CellK] at k2
  obtain ⟨_, _, rfl, ⟨a2_0, rfl, w2_0⟩, rfl⟩ := k2
  simp only [argsV, argV, Try.underlying3, Try.underlying22, Try.underlying26, List.map_cons, List.map_nil]
  obtain ⟨g1, g2⟩ := pure_WordBack n0_0 a0_0 n1_0 a1_0 a2_0 v0_0 v1_0 w2_0
  have hc := law04_WordBack_t0 n0_0 a0_0 n1_0 a1_0 a2_0 g1
  rw [g2] at hc
  obtain ⟨k, hk⟩ := of_cl hc
  exact ⟨k, _, hk⟩

theorem wordBack_lifted (os : Os) (started : os.Started) (H : Type) (enc : TypeId × Value → H) :
    ReturnsInHanded {} Try.checked os 4 .any (Rows.wordBackSpec.pre6 enc Try.prog Try.f4 Rows.wordBackRow.domain false) (Rows.wordBackSpec.post enc Try.prog Try.f4 false true false false) :=
  law_lifted (C := Try.checked) (fn := Try.f4) mixed envOK glOK own started (by kernel_rfl) Try.func4 laidOut
    (ChangeSpec.witness6 (enc := enc) (C := Try.checked) false ⟨#[], #[.slice none 0 0, .slice none 0 0, .int .i64 0], []⟩ 8 (by kernel_rfl) (by kernel_rfl) (by kernel_rfl) (by kernel_rfl))
    (by kernel_rfl) (rt := 4) rfl Try.underlying4 rfl
    (fun ds h => by
      match ds, h with
      | [_, _, _], _ => rfl)
    row4

theorem wordBack_holds : Rows.WordBackSaid :=
  OpenClaim.holds_of_wide 4 Try.f4 rfl rfl rfl rfl rfl rfl rfl ⟨rfl, rfl, rfl, rfl, rfl⟩ rfl rfl rfl rfl rfl (by kernel_rfl) Try.func4 (by kernel_rfl)
    (of_decide_eq_true (by kernel_rfl)) (by unfold Func.isWrapper; first | (rw [if_pos (by decide +kernel)]; kernel_rfl) | (rw [if_neg (by decide +kernel)]; exact ⟨rfl, rfl⟩))
    (fun os started H enc _ => wordBack_lifted os started H enc)

end Go.Proofs.Ytdjmfcdopaejcaa.Den
