/- WordRound: part 5 of what its proof rests on: an evaluator of the program's code, proved sound; plain functions printed from the code by a program of this session, with proofs; plain laws. No condition. -/
import Derived.Test.YtdjmfcdopaejcaaDenwordRound4
import Derived.Test.YtdjmfcdopaejcaaRows

namespace Go.Proofs.Ytdjmfcdopaejcaa.Den
open Go Go.Proofs
set_option maxRecDepth 100000
set_option maxHeartbeats 4000000
set_option linter.unusedVariables false
set_option linter.unusedSimpArgs false

def word_Get2_o_c0 (x1 : List Int) : Bool := (bif tb ((((x1.length : Nat) : Int) : Int) != 2) then true else (bif tb (inb x1.length 0) then (bif tb (inb x1.length 1) then true else false) else false))

def word_Get2_o_r0_0 (x1 : List Int) : Int := (bif tb ((((x1.length : Nat) : Int) : Int) != 2) then 0 else (orI .i64 (shlI .i64 (wi (gt x1 0)) 8) (wi (gt x1 1))))

def word_Get2_o_r0_1 (x1 : List Int) : Bool := (bif tb ((((x1.length : Nat) : Int) : Int) != 2) then false else true)

theorem word_Get2_o_t0 (x0 : Bool) (x1 : List Int) : word_Get2_o_c0 x1 = true → cl E0 14 [(V.d (slD (encI .u8) true 1 x0 x1))] [] = some ([(V.d (.int .i64 (word_Get2_o_r0_0 x1))), (V.d (.bool (word_Get2_o_r0_1 x1)))], []) := by
  unfold word_Get2_o_c0 word_Get2_o_r0_0 word_Get2_o_r0_1
  cases h1 : tb ((((x1.length : Nat) : Int) : Int) != 2)
  · cases h2 : tb (inb x1.length 0)
    · intro g0
      exact absurd g0 ft
    · cases h3 : tb (inb x1.length 1)
      · intro g0
        exact absurd g0 ft
      · intro g0
        exact w14 [.o 5 (fun _ => o_len_os (enc := (encI .u8)) (l := x1) (fl := true) (n := x0) (s := 1)), .b (tbE h1), .o 8 (fun _ => o_idx_os (enc := (encI .u8)) (l := x1) (fl := true) (n := x0) (s := 1) (k := .i64) (tbE h2)), .o 11 (fun _ => o_shl (k := .i64) (k2 := .u64) (x := (wi (gt x1 0))) (y := 8) rfl), .o 13 (fun _ => o_idx_os (enc := (encI .u8)) (l := x1) (fl := true) (n := x0) (s := 1) (k := .i64) (tbE h3))] (by kernel_rfl)
  · intro g0
    exact w14 [.o 5 (fun _ => o_len_os (enc := (encI .u8)) (l := x1) (fl := true) (n := x0) (s := 1)), .b (tbE h1)] (by kernel_rfl)

def word_Get4_o_e0 (x1 : List Int) : Int := orI .u32 (shlI .u32 (IntKind.u32.wrap (gt x1 0)) 24) (shlI .u32 (IntKind.u32.wrap (gt x1 1)) 16)

def word_Get4_o_e1 (x1 : List Int) : Int := orI .u32 (word_Get4_o_e0 x1) (shlI .u32 (IntKind.u32.wrap (gt x1 2)) 8)

def word_Get4_o_e2 (x1 : List Int) : Int := IntKind.i32.wrap (orI .u32 (word_Get4_o_e1 x1) (IntKind.u32.wrap (gt x1 3)))

def word_Get4_o_c0 (x1 : List Int) : Bool := (bif tb ((((x1.length : Nat) : Int) : Int) != 4) then true else (bif tb (inb x1.length 0) then (bif tb (inb x1.length 1) then (bif tb (inb x1.length 2) then (bif tb (inb x1.length 3) then true else false) else false) else false) else false))

def word_Get4_o_r0_0 (x1 : List Int) : Int := (bif tb ((((x1.length : Nat) : Int) : Int) != 4) then 0 else (wi ((word_Get4_o_e2 x1))))

def word_Get4_o_r0_1 (x1 : List Int) : Bool := (bif tb ((((x1.length : Nat) : Int) : Int) != 4) then false else true)

theorem word_Get4_o_t0 (x0 : Bool) (x1 : List Int) : word_Get4_o_c0 x1 = true → cl E0 16 [(V.d (slD (encI .u8) true 1 x0 x1))] [] = some ([(V.d (.int .i64 (word_Get4_o_r0_0 x1))), (V.d (.bool (word_Get4_o_r0_1 x1)))], []) := by
  unfold word_Get4_o_c0 word_Get4_o_r0_0 word_Get4_o_r0_1
  cases h1 : tb ((((x1.length : Nat) : Int) : Int) != 4)
  · cases h2 : tb (inb x1.length 0)
    · intro g0
      exact absurd g0 ft
    · cases h3 : tb (inb x1.length 1)
      · intro g0
        exact absurd g0 ft
      · cases h4 : tb (inb x1.length 2)
        · intro g0
          exact absurd g0 ft
        · cases h5 : tb (inb x1.length 3)
          · intro g0
            exact absurd g0 ft
          · intro g0
            exact w16 [.o 6 (fun _ => o_len_os (enc := (encI .u8)) (l := x1) (fl := true) (n := x0) (s := 1)), .b (tbE h1), .o 9 (fun _ => o_idx_os (enc := (encI .u8)) (l := x1) (fl := true) (n := x0) (s := 1) (k := .i64) (tbE h2)), .o 12 (fun _ => o_shl (k := .u32) (k2 := .u64) (x := (IntKind.u32.wrap (gt x1 0))) (y := 24) rfl), .o 14 (fun _ => o_idx_os (enc := (encI .u8)) (l := x1) (fl := true) (n := x0) (s := 1) (k := .i64) (tbE h3)), .o 17 (fun _ => o_shl (k := .u32) (k2 := .u64) (x := (IntKind.u32.wrap (gt x1 1))) (y := 16) rfl), .o 20 (fun _ => o_idx_os (enc := (encI .u8)) (l := x1) (fl := true) (n := x0) (s := 1) (k := .i64) (tbE h4)), .o 23 (fun _ => o_shl (k := .u32) (k2 := .u64) (x := (IntKind.u32.wrap (gt x1 2))) (y := 8) rfl), .o 26 (fun _ => o_idx_os (enc := (encI .u8)) (l := x1) (fl := true) (n := x0) (s := 1) (k := .i64) (tbE h5))] (by kernel_rfl)
  · intro g0
    exact w16 [.o 6 (fun _ => o_len_os (enc := (encI .u8)) (l := x1) (fl := true) (n := x0) (s := 1)), .b (tbE h1)] (by kernel_rfl)

theorem word_fours_o_t0 (x0 : Bool) (x1 : List Int) : cl E0 49 [(V.d (slD (encI .u8) true 1 x0 x1))] [] = some ([(V.fn (.func 61) [] [(V.ptr 0 1 0 0)])], [(Blk.gen 22 1 [[(V.d (slD (encI .u8) true 1 x0 x1))]] false)]) := by
  exact w49 [] (by kernel_rfl)

def word_Get4_l_e0 (x0 : List Int) : Int := orI .u32 (shlI .u32 (IntKind.u32.wrap (gt x0 0)) 24) (shlI .u32 (IntKind.u32.wrap (gt x0 1)) 16)

def word_Get4_l_e1 (x0 : List Int) : Int := orI .u32 (word_Get4_l_e0 x0) (shlI .u32 (IntKind.u32.wrap (gt x0 2)) 8)

def word_Get4_l_e2 (x0 : List Int) : Int := IntKind.i32.wrap (orI .u32 (word_Get4_l_e1 x0) (IntKind.u32.wrap (gt x0 3)))

def word_Get4_l_c0 (x0 : List Int) : Bool := (bif tb ((((x0.length : Nat) : Int) : Int) != 4) then true else (bif tb (inb x0.length 0) then (bif tb (inb x0.length 1) then (bif tb (inb x0.length 2) then (bif tb (inb x0.length 3) then true else false) else false) else false) else false))

def word_Get4_l_r0_0 (x0 : List Int) : Int := (bif tb ((((x0.length : Nat) : Int) : Int) != 4) then 0 else (wi ((word_Get4_l_e2 x0))))

def word_Get4_l_r0_1 (x0 : List Int) : Bool := (bif tb ((((x0.length : Nat) : Int) : Int) != 4) then false else true)

theorem word_Get4_l_t0 (x0 : List Int) : word_Get4_l_c0 x0 = true → cl E0 16 [(V.d (.rs true 1 (List.map (encI .u8) x0) true))] [] = some ([(V.d (.int .i64 (word_Get4_l_r0_0 x0))), (V.d (.bool (word_Get4_l_r0_1 x0)))], []) := by
  unfold word_Get4_l_c0 word_Get4_l_r0_0 word_Get4_l_r0_1
  cases h1 : tb ((((x0.length : Nat) : Int) : Int) != 4)
  · cases h2 : tb (inb x0.length 0)
    · intro g0
      exact absurd g0 ft
    · cases h3 : tb (inb x0.length 1)
      · intro g0
        exact absurd g0 ft
      · cases h4 : tb (inb x0.length 2)
        · intro g0
          exact absurd g0 ft
        · cases h5 : tb (inb x0.length 3)
          · intro g0
            exact absurd g0 ft
          · intro g0
            exact w16 [.o 6 (fun _ => o_len_rs (enc := (encI .u8)) (l := x0) (fl := true) (tg := true) (s := 1)), .b (tbE h1), .o 9 (fun _ => o_idx_rs (enc := (encI .u8)) (l := x0) (fl := true) (tg := true) (s := 1) (k := .i64) (tbE h2)), .o 12 (fun _ => o_shl (k := .u32) (k2 := .u64) (x := (IntKind.u32.wrap (gt x0 0))) (y := 24) rfl), .o 14 (fun _ => o_idx_rs (enc := (encI .u8)) (l := x0) (fl := true) (tg := true) (s := 1) (k := .i64) (tbE h3)), .o 17 (fun _ => o_shl (k := .u32) (k2 := .u64) (x := (IntKind.u32.wrap (gt x0 1))) (y := 16) rfl), .o 20 (fun _ => o_idx_rs (enc := (encI .u8)) (l := x0) (fl := true) (tg := true) (s := 1) (k := .i64) (tbE h4)), .o 23 (fun _ => o_shl (k := .u32) (k2 := .u64) (x := (IntKind.u32.wrap (gt x0 2))) (y := 8) rfl), .o 26 (fun _ => o_idx_rs (enc := (encI .u8)) (l := x0) (fl := true) (tg := true) (s := 1) (k := .i64) (tbE h5))] (by kernel_rfl)
  · intro g0
    exact w16 [.o 6 (fun _ => o_len_rs (enc := (encI .u8)) (l := x0) (fl := true) (tg := true) (s := 1)), .b (tbE h1)] (by kernel_rfl)

def word_GetAll_Y1_l_Y18_1pGvL_c0 (x0 : List Int) (x5 : List Int) : Bool := (bif tb (word_Get4_l_c0 x5) then (bif tb (decide ((x0.length + [(word_Get4_l_r0_0 x5)].length) * 8 ≤ 140737488355328)) then true else false) else false)

theorem word_GetAll_Y1_l_Y18_1pGvL_t0 (x0 : List Int) (x2 : Bool) (x5 : List Int) : word_GetAll_Y1_l_Y18_1pGvL_c0 x0 x5 = true → cl E0 yfn [(V.yl 0), (V.d (.rs true 1 (List.map (encI .u8) x5) true))] [(Blk.loop .ready none [V.un, V.un, V.un, V.un, (V.ptr 1 1 0 0), V.un, V.un, V.un, V.un, V.un, V.un, V.un, V.un, V.un, V.un, V.un, V.un, V.un, V.un, V.un, V.un, V.un, V.un, V.un, V.un] [14] L18_0 L18_1 false), (Blk.gen 26 1 [[(V.so x2 2 x0.length)]] false), (Blk.flat 3 1 (List.map (encI .i64) x0) false)] = some ([(V.d (.bool true))], [(Blk.loop .ready none [V.un, V.un, V.un, V.un, (V.ptr 1 1 0 0), V.un, V.un, V.un, V.un, V.un, V.un, V.un, V.un, V.un, V.un, V.un, V.un, V.un, V.un, V.un, V.un, V.un, V.un, V.un, V.un] [14] L18_0 L18_1 false), (Blk.gen 26 1 [[(V.so false 2 ((x0 ++ [(word_Get4_l_r0_0 x5)]).length))]] false), (Blk.flat 3 1 (List.map (encI .i64) (x0 ++ [(word_Get4_l_r0_0 x5)])) false)]) := by
  unfold word_GetAll_Y1_l_Y18_1pGvL_c0
  cases h1 : tb (word_Get4_l_c0 x5)
  · intro g0
    exact absurd g0 ft
  · cases h2 : tb (decide ((x0.length + [(word_Get4_l_r0_0 x5)].length) * 8 ≤ 140737488355328))
    · intro g0
      exact absurd g0 ft
    · intro g0
      exact round_yield [.c (word_Get4_l_t0 x5 (tbE h1)), .m 23 (o_app_so (nl := x2) (m := [(Blk.loop .busy none [V.un, V.un, V.un, V.un, (V.ptr 1 1 0 0), V.un, V.un, V.un, V.un, V.un, V.un, V.un, V.un, V.un, V.un, V.un, V.un, V.un, V.un, V.un, V.un, V.un, V.un, V.un, V.un] [14] L18_0 L18_1 false), (Blk.gen 26 1 [[(V.so x2 2 x0.length)]] false), (Blk.flat 3 1 (List.map (encI .i64) x0) false), (Blk.flat 3 1 [[(.int .i64 (word_Get4_l_r0_0 x5))]] false)]) (enc := (encI .i64)) (l0 := x0) (l1 := [(word_Get4_l_r0_0 x5)]) (id := 2) (e := 3) (s := 1) (bytes := 8) (x := (V.so false 3 1)) (n := x0.length) (Nat.beq_refl _) (by kernel_rfl) (by kernel_rfl) (by kernel_rfl) (tbE h2))] (by kernel_rfl)

structure word_fours_c1_yp_Y18_1pGvLGo_L0_s0 where
  c1 : Bool
  c3 : List Int
  c5 : Bool
  c6 : List Int
  deriving Inhabited

def word_fours_c1_yp_Y18_1pGvLGo_L0_enc (x0 : List Int) (x1 : Bool) (x2 : Bool) (x3 : Bool) (x4 : Bool) (x5 : Bool) (x6 : List Int) (x7 : Bool) (s0 : word_fours_c1_yp_Y18_1pGvLGo_L0_s0) : List V × Mem := ([(V.yl 0), (V.ptr 3 1 0 0)], [(Blk.loop .ready none [V.un, V.un, V.un, V.un, (V.ptr 1 1 0 0), V.un, V.un, V.un, V.un, V.un, V.un, V.un, V.un, V.un, V.un, V.un, V.un, V.un, V.un, V.un, V.un, V.un, V.un, V.un, V.un] [14] L18_0 L18_1 false), (Blk.gen 26 1 [[(V.so s0.c1 2 s0.c3.length)]] false), (Blk.flat 3 1 (List.map (encI .i64) s0.c3) false), (Blk.gen 22 1 [[(V.d (slD (encI .u8) true 1 s0.c5 s0.c6))]] false)])

def word_fours_c1_yp_Y18_1pGvLGo_L0_sel  (s0 : word_fours_c1_yp_Y18_1pGvLGo_L0_s0) : Bool := (bif tb (decide (4 ≤ ((s0.c6.length : Nat) : Int))) then (bif tb (ins s0.c6.length 0 4) then (bif tb (word_GetAll_Y1_l_Y18_1pGvL_c0 s0.c3 (sub s0.c6 0 4)) then (bif tb (ins s0.c6.length 4 ((s0.c6.length : Nat) : Int)) then true else false) else false) else false) else false)

def word_fours_c1_yp_Y18_1pGvLGo_L0_nx  (s0 : word_fours_c1_yp_Y18_1pGvLGo_L0_s0) : word_fours_c1_yp_Y18_1pGvLGo_L0_s0 := ⟨false, (s0.c3 ++ [(word_Get4_l_r0_0 (sub s0.c6 0 4))]), (s0.c5 && s0.c6.isEmpty), (sub s0.c6 4 ((s0.c6.length : Nat) : Int))⟩

def word_fours_c1_yp_Y18_1pGvLGo_L0_ok  (s0 : word_fours_c1_yp_Y18_1pGvLGo_L0_s0) : Bool := (itS (word_fours_c1_yp_Y18_1pGvLGo_L0_sel ) (word_fours_c1_yp_Y18_1pGvLGo_L0_nx ) bound s0).isSome
def word_fours_c1_yp_Y18_1pGvLGo_L0_end  (s0 : word_fours_c1_yp_Y18_1pGvLGo_L0_s0) : word_fours_c1_yp_Y18_1pGvLGo_L0_s0 := (itS (word_fours_c1_yp_Y18_1pGvLGo_L0_sel ) (word_fours_c1_yp_Y18_1pGvLGo_L0_nx ) bound s0).getD default

theorem word_fours_c1_yp_Y18_1pGvLGo_L0_go (x0 : List Int) (x1 : Bool) (x2 : Bool) (x3 : Bool) (x4 : Bool) (x5 : Bool) (x6 : List Int) (x7 : Bool) (s0 : word_fours_c1_yp_Y18_1pGvLGo_L0_s0) : word_fours_c1_yp_Y18_1pGvLGo_L0_sel  s0 = true → (roundG (runC E0 (cl E0) L61_0) [0, 1] [] 4) (word_fours_c1_yp_Y18_1pGvLGo_L0_enc x0 x1 x2 x3 x4 x5 x6 x7 s0) = some (.normal, word_fours_c1_yp_Y18_1pGvLGo_L0_enc x0 x1 x2 x3 x4 x5 x6 x7 (word_fours_c1_yp_Y18_1pGvLGo_L0_nx  s0)) := by
  unfold word_fours_c1_yp_Y18_1pGvLGo_L0_sel word_fours_c1_yp_Y18_1pGvLGo_L0_nx
  cases h1 : tb (decide (4 ≤ ((s0.c6.length : Nat) : Int)))
  · intro g0
    exact absurd g0 ft
  · cases h2 : tb (ins s0.c6.length 0 4)
    · intro g0
      exact absurd g0 ft
    · cases h3 : tb (word_GetAll_Y1_l_Y18_1pGvL_c0 s0.c3 (sub s0.c6 0 4))
      · intro g0
        exact absurd g0 ft
      · cases h4 : tb (ins s0.c6.length 4 ((s0.c6.length : Nat) : Int))
        · intro g0
          exact absurd g0 ft
        · intro _
          exact round_walk [.o 4 (fun _ => o_len_os (enc := (encI .u8)) (l := s0.c6) (fl := true) (n := s0.c5) (s := 1)), .b (tbE h1), .o 10 (fun _ => o_slice_mx (enc := (encI .u8)) (l := s0.c6) (fl := true) (n := s0.c5) (s := 1) (kl := .i64) (kh := .i64) (kx := .i64) (hi := 4) (tbE h2) rfl), .c (word_GetAll_Y1_l_Y18_1pGvL_t0 s0.c3 s0.c1 (sub s0.c6 0 4) (tbE h3)), .k false, .o 7 (fun _ => o_slice_os (enc := (encI .u8)) (l := s0.c6) (fl := true) (n := s0.c5) (s := 1) (some (.i64, 4)) none (tbE h4))] (by kernel_rfl)

def word_fours_c1_yp_Y18_1pGvLGo_L0_c0 (s0 : word_fours_c1_yp_Y18_1pGvLGo_L0_s0) : Bool := (bif tb (decide (4 ≤ ((s0.c6.length : Nat) : Int))) then false else true)

theorem word_fours_c1_yp_Y18_1pGvLGo_L0_x0 (x0 : List Int) (x1 : Bool) (x2 : Bool) (x3 : Bool) (x4 : Bool) (x5 : Bool) (x6 : List Int) (x7 : Bool) (s0 : word_fours_c1_yp_Y18_1pGvLGo_L0_s0) : word_fours_c1_yp_Y18_1pGvLGo_L0_sel  s0 = false → word_fours_c1_yp_Y18_1pGvLGo_L0_c0 s0 = true → (roundG (runC E0 (cl E0) L61_0) [0, 1] [] 4) (word_fours_c1_yp_Y18_1pGvLGo_L0_enc x0 x1 x2 x3 x4 x5 x6 x7 s0) = some ((.exit 0), ([], [(Blk.loop .ready none [V.un, V.un, V.un, V.un, (V.ptr 1 1 0 0), V.un, V.un, V.un, V.un, V.un, V.un, V.un, V.un, V.un, V.un, V.un, V.un, V.un, V.un, V.un, V.un, V.un, V.un, V.un, V.un] [14] L18_0 L18_1 false), (Blk.gen 26 1 [[(V.so s0.c1 2 s0.c3.length)]] false), (Blk.flat 3 1 (List.map (encI .i64) s0.c3) false), (Blk.gen 22 1 [[(V.d (slD (encI .u8) true 1 s0.c5 s0.c6))]] false)])) := by
  unfold word_fours_c1_yp_Y18_1pGvLGo_L0_sel word_fours_c1_yp_Y18_1pGvLGo_L0_c0
  cases h1 : tb (decide (4 ≤ ((s0.c6.length : Nat) : Int)))
  · intro g0 g1
    exact round_walk [.o 4 (fun _ => o_len_os (enc := (encI .u8)) (l := s0.c6) (fl := true) (n := s0.c5) (s := 1)), .b (tbE h1)] (by kernel_rfl)
  · cases h2 : tb (ins s0.c6.length 0 4)
    · intro g0 g1
      exact absurd g1 ft
    · cases h3 : tb (word_GetAll_Y1_l_Y18_1pGvL_c0 s0.c3 (sub s0.c6 0 4))
      · intro g0 g1
        exact absurd g1 ft
      · cases h4 : tb (ins s0.c6.length 4 ((s0.c6.length : Nat) : Int))
        · intro g0 g1
          exact absurd g1 ft
        · intro g0 g1
          exact absurd g0 tf

theorem word_fours_c1_yp_Y18_1pGvLGo_L0_f0_0 (x0 : List Int) (x1 : Bool) (x2 : Bool) (x3 : Bool) (x4 : Bool) (x5 : Bool) (x6 : List Int) (x7 : Bool) (s : word_fours_c1_yp_Y18_1pGvLGo_L0_s0) (hok : word_fours_c1_yp_Y18_1pGvLGo_L0_ok  s = true) (c0 : word_fours_c1_yp_Y18_1pGvLGo_L0_c0 (word_fours_c1_yp_Y18_1pGvLGo_L0_end  s) = true) : loopG (roundG (runC E0 (cl E0) L61_0) [0, 1] [] 4) bound (word_fours_c1_yp_Y18_1pGvLGo_L0_enc x0 x1 x2 x3 x4 x5 x6 x7 s) = some ((.exit 0), ([], [(Blk.loop .ready none [V.un, V.un, V.un, V.un, (V.ptr 1 1 0 0), V.un, V.un, V.un, V.un, V.un, V.un, V.un, V.un, V.un, V.un, V.un, V.un, V.un, V.un, V.un, V.un, V.un, V.un, V.un, V.un] [14] L18_0 L18_1 false), (Blk.gen 26 1 [[(V.so ((word_fours_c1_yp_Y18_1pGvLGo_L0_end  s).c1) 2 (((word_fours_c1_yp_Y18_1pGvLGo_L0_end  s).c3).length))]] false), (Blk.flat 3 1 (List.map (encI .i64) ((word_fours_c1_yp_Y18_1pGvLGo_L0_end  s).c3)) false), (Blk.gen 22 1 [[(V.d (slD (encI .u8) true 1 ((word_fours_c1_yp_Y18_1pGvLGo_L0_end  s).c5) ((word_fours_c1_yp_Y18_1pGvLGo_L0_end  s).c6)))]] false)])) := by
  have e : itS (word_fours_c1_yp_Y18_1pGvLGo_L0_sel ) (word_fours_c1_yp_Y18_1pGvLGo_L0_nx ) bound s = some (word_fours_c1_yp_Y18_1pGvLGo_L0_end  s) := itS_get hok
  have f := itS_false e
  exact loop_it (word_fours_c1_yp_Y18_1pGvLGo_L0_go x0 x1 x2 x3 x4 x5 x6 x7) bound s _ _ _ e (fun h => by cases h) (word_fours_c1_yp_Y18_1pGvLGo_L0_x0 x0 x1 x2 x3 x4 x5 x6 x7 (word_fours_c1_yp_Y18_1pGvLGo_L0_end  s) f c0)

def word_fours_c1_yp_Y18_1pGvLGo_e0 (x0 : List Int) (x2 : Bool) (x5 : Bool) (x6 : List Int) : word_fours_c1_yp_Y18_1pGvLGo_L0_s0 := word_fours_c1_yp_Y18_1pGvLGo_L0_end  (⟨x2, x0, x5, x6⟩ : word_fours_c1_yp_Y18_1pGvLGo_L0_s0)

def word_fours_c1_yp_Y18_1pGvLGo_c0 (x0 : List Int) (x2 : Bool) (x5 : Bool) (x6 : List Int) : Bool := (bif tb (word_fours_c1_yp_Y18_1pGvLGo_L0_ok  (⟨x2, x0, x5, x6⟩ : word_fours_c1_yp_Y18_1pGvLGo_L0_s0)) then (bif tb (word_fours_c1_yp_Y18_1pGvLGo_L0_c0 (word_fours_c1_yp_Y18_1pGvLGo_e0 x0 x2 x5 x6)) then true else false) else false)

theorem word_fours_c1_yp_Y18_1pGvLGo_t0 (x0 : List Int) (x2 : Bool) (x5 : Bool) (x6 : List Int) : word_fours_c1_yp_Y18_1pGvLGo_c0 x0 x2 x5 x6 = true → cl E0 61 [(V.yl 0), (V.ptr 3 1 0 0)] [(Blk.loop .ready none [V.un, V.un, V.un, V.un, (V.ptr 1 1 0 0), V.un, V.un, V.un, V.un, V.un, V.un, V.un, V.un, V.un, V.un, V.un, V.un, V.un, V.un, V.un, V.un, V.un, V.un, V.un, V.un] [14] L18_0 L18_1 false), (Blk.gen 26 1 [[(V.so x2 2 x0.length)]] false), (Blk.flat 3 1 (List.map (encI .i64) x0) false), (Blk.gen 22 1 [[(V.d (slD (encI .u8) true 1 x5 x6))]] false)] = some ([], [(Blk.loop .ready none [V.un, V.un, V.un, V.un, (V.ptr 1 1 0 0), V.un, V.un, V.un, V.un, V.un, V.un, V.un, V.un, V.un, V.un, V.un, V.un, V.un, V.un, V.un, V.un, V.un, V.un, V.un, V.un] [14] L18_0 L18_1 false), (Blk.gen 26 1 [[(V.so ((word_fours_c1_yp_Y18_1pGvLGo_e0 x0 x2 x5 x6).c1) 2 (((word_fours_c1_yp_Y18_1pGvLGo_e0 x0 x2 x5 x6).c3).length))]] false), (Blk.flat 3 1 (List.map (encI .i64) ((word_fours_c1_yp_Y18_1pGvLGo_e0 x0 x2 x5 x6).c3)) false), (Blk.gen 22 1 [[(V.d (slD (encI .u8) true 1 ((word_fours_c1_yp_Y18_1pGvLGo_e0 x0 x2 x5 x6).c5) ((word_fours_c1_yp_Y18_1pGvLGo_e0 x0 x2 x5 x6).c6)))]] false)]) := by
  unfold word_fours_c1_yp_Y18_1pGvLGo_c0
  cases h1 : tb (word_fours_c1_yp_Y18_1pGvLGo_L0_ok  (⟨x2, x0, x5, x6⟩ : word_fours_c1_yp_Y18_1pGvLGo_L0_s0))
  · intro g0
    exact absurd g0 ft
  · cases h2 : tb (word_fours_c1_yp_Y18_1pGvLGo_L0_c0 (word_fours_c1_yp_Y18_1pGvLGo_e0 x0 x2 x5 x6))
    · intro g0
      exact absurd g0 ft
    · intro g0
      exact w61 [.l (word_fours_c1_yp_Y18_1pGvLGo_L0_f0_0 x0 false x2 false false x5 x6 false (⟨x2, x0, x5, x6⟩ : word_fours_c1_yp_Y18_1pGvLGo_L0_s0) (tbE h1) (tbE h2))] (by kernel_rfl)

def word_GetAll_o_c0 (x0 : Bool) (x1 : List Int) : Bool := (bif tb (((remI .i64 ((x1.length : Nat) : Int) 4) : Int) != 0) then true else (bif tb (word_fours_c1_yp_Y18_1pGvLGo_c0 ([] : List Int) true x0 x1) then true else false))

def word_GetAll_o_r0_0 (x0 : Bool) (x1 : List Int) : Bool := (bif tb (((remI .i64 ((x1.length : Nat) : Int) 4) : Int) != 0) then true else ((word_fours_c1_yp_Y18_1pGvLGo_e0 ([] : List Int) true x0 x1).c1))

def word_GetAll_o_r0_1 (x1 : List Int) : Bool := (bif tb (((remI .i64 ((x1.length : Nat) : Int) 4) : Int) != 0) then false else true)

def word_GetAll_o_r0_2 (x0 : Bool) (x1 : List Int) : List Int := (bif tb (((remI .i64 ((x1.length : Nat) : Int) 4) : Int) != 0) then ([] : List Int) else ((word_fours_c1_yp_Y18_1pGvLGo_e0 ([] : List Int) true x0 x1).c3))

theorem word_GetAll_o_t0 (x0 : Bool) (x1 : List Int) : word_GetAll_o_c0 x0 x1 = true → cl E0 18 [(V.d (slD (encI .u8) true 1 x0 x1))] [] = some ([(V.so (word_GetAll_o_r0_0 x0 x1) 0 ((word_GetAll_o_r0_2 x0 x1).length)), (V.d (.bool (word_GetAll_o_r0_1 x1)))], [(Blk.flat 3 1 (List.map (encI .i64) (word_GetAll_o_r0_2 x0 x1)) false)]) := by
  unfold word_GetAll_o_c0 word_GetAll_o_r0_0 word_GetAll_o_r0_1 word_GetAll_o_r0_2
  cases h1 : tb (((remI .i64 ((x1.length : Nat) : Int) 4) : Int) != 0)
  · cases h2 : tb (word_fours_c1_yp_Y18_1pGvLGo_c0 ([] : List Int) true x0 x1)
    · intro g0
      exact absurd g0 ft
    · intro g0
      exact w18 [.o 9 (fun _ => o_len_os (enc := (encI .u8)) (l := x1) (fl := true) (n := x0) (s := 1)), .b (tbE h1), .c (word_fours_o_t0 x0 x1), .c (word_fours_c1_yp_Y18_1pGvLGo_t0 ([] : List Int) true x0 x1 (tbE h2))] (by kernel_rfl)
  · intro g0
    exact w18 [.o 9 (fun _ => o_len_os (enc := (encI .u8)) (l := x1) (fl := true) (n := x0) (s := 1)), .b (tbE h1)] (by kernel_rfl)

def word_seq_i_r0_0 (x0 : Int) : Bool := (bif tb (decide (0 ≤ x0)) then (decide (x0 < 65536)) else false)

theorem word_seq_i_t0 (x0 : Int) : cl E0 50 [(V.d (.int .i64 x0))] [] = some ([(V.d (.bool (word_seq_i_r0_0 x0)))], []) := by
  unfold word_seq_i_r0_0
  cases h1 : tb (decide (0 ≤ x0))
  · exact w50 [.b (tbE h1)] (by kernel_rfl)
  · exact w50 [.b (tbE h1)] (by kernel_rfl)

def word_Put2_i_r0_0 (x0 : Int) : Bool := (bif tb (word_seq_i_r0_0 x0) then false else true)

def word_Put2_i_r0_1 (x0 : Int) : List Int := (bif tb (word_seq_i_r0_0 x0) then [(IntKind.u8.wrap (shrI .i64 x0 8)), (IntKind.u8.wrap (x0))] else ([] : List Int))

theorem word_Put2_i_t0 (x0 : Int) : cl E0 22 [(V.d (.int .i64 x0))] [] = some ([(V.so (word_Put2_i_r0_0 x0) 0 ((word_Put2_i_r0_1 x0).length))], [(Blk.flat 5 1 (List.map (encI .u8) (word_Put2_i_r0_1 x0)) false)]) := by
  unfold word_Put2_i_r0_0 word_Put2_i_r0_1
  cases h1 : tb (word_seq_i_r0_0 x0)
  · exact w22 [.c (word_seq_i_t0 x0), .b (notF (tbE h1))] (by kernel_rfl)
  · exact w22 [.c (word_seq_i_t0 x0), .b (notT (tbE h1)), .o 7 (fun _ => o_shr (k := .i64) (k2 := .u64) (x := x0) (y := 8) rfl)] (by kernel_rfl)

def word_Put4_i_r0_0 (x0 : Int) : Bool := (bif tb (decide (x0 < (-2147483648))) then true else (bif tb (decide (2147483647 < x0)) then true else false))

def word_Put4_i_r0_1 (x0 : Int) : List Int := (bif tb (decide (x0 < (-2147483648))) then ([] : List Int) else (bif tb (decide (2147483647 < x0)) then ([] : List Int) else [(IntKind.u8.wrap (shrI .i64 x0 24)), (IntKind.u8.wrap (shrI .i64 x0 16)), (IntKind.u8.wrap (shrI .i64 x0 8)), (IntKind.u8.wrap (x0))]))

theorem word_Put4_i_t0 (x0 : Int) : cl E0 24 [(V.d (.int .i64 x0))] [] = some ([(V.so (word_Put4_i_r0_0 x0) 0 ((word_Put4_i_r0_1 x0).length))], [(Blk.flat 5 1 (List.map (encI .u8) (word_Put4_i_r0_1 x0)) false)]) := by
  unfold word_Put4_i_r0_0 word_Put4_i_r0_1
  cases h1 : tb (decide (x0 < (-2147483648)))
  · cases h2 : tb (decide (2147483647 < x0))
    · exact w24 [.b (tbE h1), .b (tbE h2), .o 10 (fun _ => o_shr (k := .i64) (k2 := .u64) (x := x0) (y := 24) rfl), .o 13 (fun _ => o_shr (k := .i64) (k2 := .u64) (x := x0) (y := 16) rfl), .o 16 (fun _ => o_shr (k := .i64) (k2 := .u64) (x := x0) (y := 8) rfl)] (by kernel_rfl)
    · exact w24 [.b (tbE h1), .b (tbE h2)] (by kernel_rfl)
  · exact w24 [.b (tbE h1)] (by kernel_rfl)

def word_Next_i_r0_0 (x0 : Int) : Int := (bif tb (word_seq_i_r0_0 x0) then (remI .i64 (wi (x0 + 1)) 65536) else 0)

theorem word_Next_i_t0 (x0 : Int) : cl E0 26 [(V.d (.int .i64 x0))] [] = some ([(V.d (.int .i64 (word_Next_i_r0_0 x0)))], []) := by
  unfold word_Next_i_r0_0
  cases h1 : tb (word_seq_i_r0_0 x0)
  · exact w26 [.c (word_seq_i_t0 x0), .b (notF (tbE h1))] (by kernel_rfl)
  · exact w26 [.c (word_seq_i_t0 x0), .b (notT (tbE h1))] (by kernel_rfl)

def word_After_ii_r0_0 (x0 : Int) (x1 : Int) : Int := (bif tb (word_seq_i_r0_0 x0) then (bif tb (word_seq_i_r0_0 x1) then (remI .i64 (wi ((wi (x1 - x0)) + 65536)) 65536) else 0) else 0)

theorem word_After_ii_t0 (x0 : Int) (x1 : Int) : cl E0 28 [(V.d (.int .i64 x0)), (V.d (.int .i64 x1))] [] = some ([(V.d (.int .i64 (word_After_ii_r0_0 x0 x1)))], []) := by
  unfold word_After_ii_r0_0
  cases h1 : tb (word_seq_i_r0_0 x0)
  · exact w28 [.c (word_seq_i_t0 x0), .b (notF (tbE h1))] (by kernel_rfl)
  · cases h2 : tb (word_seq_i_r0_0 x1)
    · exact w28 [.c (word_seq_i_t0 x0), .b (notT (tbE h1)), .c (word_seq_i_t0 x1), .b (notF (tbE h2))] (by kernel_rfl)
    · exact w28 [.c (word_seq_i_t0 x0), .b (notT (tbE h1)), .c (word_seq_i_t0 x1), .b (notT (tbE h2))] (by kernel_rfl)

structure word_PutAll_o_L0_s0 where
  c0 : Bool
  c4 : Int
  c6 : List Int
  deriving Inhabited

def word_PutAll_o_L0_enc (x0 : List Int) (x1 : Bool) (x2 : Bool) (x3 : Bool) (x4 : Bool) (x5 : List Int) (x6 : Int) (x7 : Int) (s0 : word_PutAll_o_L0_s0) : List V × Mem := ([(V.so s0.c0 1 s0.c6.length), (V.d (slD (encI .i64) true 1 x4 x5)), (V.d (.int .i64 x6)), (V.d (.int .i64 s0.c4))], [(Blk.flat 5 1 [] x1), (Blk.flat 5 1 (List.map (encI .u8) s0.c6) false)])

def word_PutAll_o_L0_sel (x5 : List Int) (x6 : Int) (s0 : word_PutAll_o_L0_s0) : Bool := (bif tb (decide (s0.c4 < x6)) then (bif tb (inb x5.length s0.c4) then (bif tb (false != (word_Put4_i_r0_0 (gt x5 s0.c4))) then false else (bif tb (decide ((s0.c6.length + (word_Put4_i_r0_1 (gt x5 s0.c4)).length) * 1 ≤ 140737488355328)) then true else false)) else false) else false)

def word_PutAll_o_L0_nx (x5 : List Int) (x6 : Int) (s0 : word_PutAll_o_L0_s0) : word_PutAll_o_L0_s0 := ⟨((word_Put4_i_r0_1 (gt x5 s0.c4)).isEmpty && s0.c0), (wi (s0.c4 + 1)), (s0.c6 ++ (word_Put4_i_r0_1 (gt x5 s0.c4)))⟩

def word_PutAll_o_L0_ok (x5 : List Int) (x6 : Int) (s0 : word_PutAll_o_L0_s0) : Bool := (itS (word_PutAll_o_L0_sel x5 x6) (word_PutAll_o_L0_nx x5 x6) bound s0).isSome
def word_PutAll_o_L0_end (x5 : List Int) (x6 : Int) (s0 : word_PutAll_o_L0_s0) : word_PutAll_o_L0_s0 := (itS (word_PutAll_o_L0_sel x5 x6) (word_PutAll_o_L0_nx x5 x6) bound s0).getD default

theorem word_PutAll_o_L0_go (x0 : List Int) (x1 : Bool) (x2 : Bool) (x3 : Bool) (x4 : Bool) (x5 : List Int) (x6 : Int) (x7 : Int) (s0 : word_PutAll_o_L0_s0) : word_PutAll_o_L0_sel x5 x6 s0 = true → (roundG (runC E0 (cl E0) L30_0) [3, 7, 8, 9] [2, 3] 2) (word_PutAll_o_L0_enc x0 x1 x2 x3 x4 x5 x6 x7 s0) = some (.normal, word_PutAll_o_L0_enc x0 x1 x2 x3 x4 x5 x6 x7 (word_PutAll_o_L0_nx x5 x6 s0)) := by
  unfold word_PutAll_o_L0_sel word_PutAll_o_L0_nx
  cases h1 : tb (decide (s0.c4 < x6))
  · intro g0
    exact absurd g0 ft
  · cases h2 : tb (inb x5.length s0.c4)
    · intro g0
      exact absurd g0 ft
    · cases h3 : tb (false != (word_Put4_i_r0_0 (gt x5 s0.c4)))
      · cases h4 : tb (decide ((s0.c6.length + (word_Put4_i_r0_1 (gt x5 s0.c4)).length) * 1 ≤ 140737488355328))
        · intro g0
          exact absurd g0 ft
        · intro _
          exact round_walk [.b (tbE h1), .o 11 (fun _ => o_idx_os (enc := (encI .i64)) (l := x5) (fl := true) (n := x4) (s := 1) (k := .i64) (tbE h2)), .c (word_Put4_i_t0 (gt x5 s0.c4)), .b (tbE h3), .m 19 (o_app_so (nl := s0.c0) (m := [(Blk.flat 5 1 [] x1), (Blk.flat 5 1 (List.map (encI .u8) s0.c6) false), (Blk.flat 5 1 (List.map (encI .u8) (word_Put4_i_r0_1 (gt x5 s0.c4))) false)]) (enc := (encI .u8)) (l0 := s0.c6) (l1 := (word_Put4_i_r0_1 (gt x5 s0.c4))) (id := 1) (e := 5) (s := 1) (bytes := 1) (x := (V.so (word_Put4_i_r0_0 (gt x5 s0.c4)) 2 ((word_Put4_i_r0_1 (gt x5 s0.c4)).length))) (n := s0.c6.length) (Nat.beq_refl _) (by kernel_rfl) (flatRowsOf_so' (b := (word_Put4_i_r0_0 (gt x5 s0.c4))) (e := 5) (s := 1) (p := false) (Nat.beq_refl _) (by kernel_rfl)) (by kernel_rfl) (tbE h4))] (by kernel_rfl)
      · intro g0
        exact absurd g0 ft

def word_PutAll_o_L0_c0 (x5 : List Int) (x6 : Int) (s0 : word_PutAll_o_L0_s0) : Bool := (bif tb (decide (s0.c4 < x6)) then (bif tb (inb x5.length s0.c4) then (bif tb (false != (word_Put4_i_r0_0 (gt x5 s0.c4))) then true else false) else false) else false)

def word_PutAll_o_L0_c1 (x6 : Int) (s0 : word_PutAll_o_L0_s0) : Bool := (bif tb (decide (s0.c4 < x6)) then false else true)

theorem word_PutAll_o_L0_x0 (x0 : List Int) (x1 : Bool) (x2 : Bool) (x3 : Bool) (x4 : Bool) (x5 : List Int) (x6 : Int) (x7 : Int) (s0 : word_PutAll_o_L0_s0) : word_PutAll_o_L0_sel x5 x6 s0 = false → word_PutAll_o_L0_c0 x5 x6 s0 = true → (roundG (runC E0 (cl E0) L30_0) [3, 7, 8, 9] [2, 3] 2) (word_PutAll_o_L0_enc x0 x1 x2 x3 x4 x5 x6 x7 s0) = some (.ret, ([(V.so true 2 0), (V.so s0.c0 1 s0.c6.length)], [(Blk.flat 5 1 [] x1), (Blk.flat 5 1 (List.map (encI .u8) s0.c6) false), (Blk.flat 5 1 [] false)])) := by
  unfold word_PutAll_o_L0_sel word_PutAll_o_L0_c0
  cases h1 : tb (decide (s0.c4 < x6))
  · intro g0 g1
    exact absurd g1 ft
  · cases h2 : tb (inb x5.length s0.c4)
    · intro g0 g1
      exact absurd g1 ft
    · cases h3 : tb (false != (word_Put4_i_r0_0 (gt x5 s0.c4)))
      · cases h4 : tb (decide ((s0.c6.length + (word_Put4_i_r0_1 (gt x5 s0.c4)).length) * 1 ≤ 140737488355328))
        · intro g0 g1
          exact absurd g1 ft
        · intro g0 g1
          exact absurd g0 tf
      · intro g0 g1
        exact round_walk [.b (tbE h1), .o 11 (fun _ => o_idx_os (enc := (encI .i64)) (l := x5) (fl := true) (n := x4) (s := 1) (k := .i64) (tbE h2)), .c (word_Put4_i_t0 (gt x5 s0.c4)), .b (tbE h3)] (by kernel_rfl)

theorem word_PutAll_o_L0_x1 (x0 : List Int) (x1 : Bool) (x2 : Bool) (x3 : Bool) (x4 : Bool) (x5 : List Int) (x6 : Int) (x7 : Int) (s0 : word_PutAll_o_L0_s0) : word_PutAll_o_L0_sel x5 x6 s0 = false → word_PutAll_o_L0_c0 x5 x6 s0 = false → word_PutAll_o_L0_c1 x6 s0 = true → (roundG (runC E0 (cl E0) L30_0) [3, 7, 8, 9] [2, 3] 2) (word_PutAll_o_L0_enc x0 x1 x2 x3 x4 x5 x6 x7 s0) = some ((.exit 0), ([V.un, (V.so s0.c0 1 s0.c6.length)], [(Blk.flat 5 1 [] x1), (Blk.flat 5 1 (List.map (encI .u8) s0.c6) false)])) := by
  unfold word_PutAll_o_L0_sel word_PutAll_o_L0_c0 word_PutAll_o_L0_c1
  cases h1 : tb (decide (s0.c4 < x6))
  · intro g0 g1 g2
    exact round_walk [.b (tbE h1)] (by kernel_rfl)
  · cases h2 : tb (inb x5.length s0.c4)
    · intro g0 g1 g2
      exact absurd g2 ft
    · cases h3 : tb (false != (word_Put4_i_r0_0 (gt x5 s0.c4)))
      · cases h4 : tb (decide ((s0.c6.length + (word_Put4_i_r0_1 (gt x5 s0.c4)).length) * 1 ≤ 140737488355328))
        · intro g0 g1 g2
          exact absurd g2 ft
        · intro g0 g1 g2
          exact absurd g0 tf
      · intro g0 g1 g2
        exact absurd g1 tf

theorem word_PutAll_o_L0_f0_0 (x0 : List Int) (x1 : Bool) (x2 : Bool) (x3 : Bool) (x4 : Bool) (x5 : List Int) (x6 : Int) (x7 : Int) (s : word_PutAll_o_L0_s0) (hok : word_PutAll_o_L0_ok x5 x6 s = true) (c0 : word_PutAll_o_L0_c0 x5 x6 (word_PutAll_o_L0_end x5 x6 s) = true) : loopG (roundG (runC E0 (cl E0) L30_0) [3, 7, 8, 9] [2, 3] 2) bound (word_PutAll_o_L0_enc x0 x1 x2 x3 x4 x5 x6 x7 s) = some (.ret, ([(V.so true 2 0), (V.so ((word_PutAll_o_L0_end x5 x6 s).c0) 1 (((word_PutAll_o_L0_end x5 x6 s).c6).length))], [(Blk.flat 5 1 [] x1), (Blk.flat 5 1 (List.map (encI .u8) ((word_PutAll_o_L0_end x5 x6 s).c6)) false), (Blk.flat 5 1 [] false)])) := by
  have e : itS (word_PutAll_o_L0_sel x5 x6) (word_PutAll_o_L0_nx x5 x6) bound s = some (word_PutAll_o_L0_end x5 x6 s) := itS_get hok
  have f := itS_false e
  exact loop_it (word_PutAll_o_L0_go x0 x1 x2 x3 x4 x5 x6 x7) bound s _ _ _ e (fun h => by cases h) (word_PutAll_o_L0_x0 x0 x1 x2 x3 x4 x5 x6 x7 (word_PutAll_o_L0_end x5 x6 s) f c0)

theorem word_PutAll_o_L0_f0_1 (x0 : List Int) (x1 : Bool) (x2 : Bool) (x3 : Bool) (x4 : Bool) (x5 : List Int) (x6 : Int) (x7 : Int) (s : word_PutAll_o_L0_s0) (hok : word_PutAll_o_L0_ok x5 x6 s = true) (c0 : word_PutAll_o_L0_c0 x5 x6 (word_PutAll_o_L0_end x5 x6 s) = false) (c1 : word_PutAll_o_L0_c1 x6 (word_PutAll_o_L0_end x5 x6 s) = true) : loopG (roundG (runC E0 (cl E0) L30_0) [3, 7, 8, 9] [2, 3] 2) bound (word_PutAll_o_L0_enc x0 x1 x2 x3 x4 x5 x6 x7 s) = some ((.exit 0), ([V.un, (V.so ((word_PutAll_o_L0_end x5 x6 s).c0) 1 (((word_PutAll_o_L0_end x5 x6 s).c6).length))], [(Blk.flat 5 1 [] x1), (Blk.flat 5 1 (List.map (encI .u8) ((word_PutAll_o_L0_end x5 x6 s).c6)) false)])) := by
  have e : itS (word_PutAll_o_L0_sel x5 x6) (word_PutAll_o_L0_nx x5 x6) bound s = some (word_PutAll_o_L0_end x5 x6 s) := itS_get hok
  have f := itS_false e
  exact loop_it (word_PutAll_o_L0_go x0 x1 x2 x3 x4 x5 x6 x7) bound s _ _ _ e (fun h => by cases h) (word_PutAll_o_L0_x1 x0 x1 x2 x3 x4 x5 x6 x7 (word_PutAll_o_L0_end x5 x6 s) f c0 c1)

def word_PutAll_o_e0 (x1 : List Int) : word_PutAll_o_L0_s0 := word_PutAll_o_L0_end x1 ((x1.length : Nat) : Int) (⟨true, 0, ([] : List Int)⟩ : word_PutAll_o_L0_s0)

def word_PutAll_o_c0 (x1 : List Int) : Bool := (bif tb (word_PutAll_o_L0_ok x1 ((x1.length : Nat) : Int) (⟨true, 0, ([] : List Int)⟩ : word_PutAll_o_L0_s0)) then (bif tb (word_PutAll_o_L0_c0 x1 ((x1.length : Nat) : Int) (word_PutAll_o_e0 x1)) then true else (bif tb (word_PutAll_o_L0_c1 ((x1.length : Nat) : Int) (word_PutAll_o_e0 x1)) then true else false)) else false)

def word_PutAll_o_r0_0 (x1 : List Int) : Bool := (bif tb (word_PutAll_o_L0_c0 x1 ((x1.length : Nat) : Int) (word_PutAll_o_e0 x1)) then true else ((word_PutAll_o_e0 x1).c0))

def word_PutAll_o_r0_1 (x1 : List Int) : List Int := (bif tb (word_PutAll_o_L0_c0 x1 ((x1.length : Nat) : Int) (word_PutAll_o_e0 x1)) then ([] : List Int) else ((word_PutAll_o_e0 x1).c6))

theorem word_PutAll_o_t0 (x0 : Bool) (x1 : List Int) : word_PutAll_o_c0 x1 = true → cl E0 30 [(V.d (slD (encI .i64) true 1 x0 x1))] [] = some ([(V.so (word_PutAll_o_r0_0 x1) 0 ((word_PutAll_o_r0_1 x1).length))], [(Blk.flat 5 1 (List.map (encI .u8) (word_PutAll_o_r0_1 x1)) false)]) := by
  unfold word_PutAll_o_c0 word_PutAll_o_r0_0 word_PutAll_o_r0_1
  cases h1 : tb (word_PutAll_o_L0_ok x1 ((x1.length : Nat) : Int) (⟨true, 0, ([] : List Int)⟩ : word_PutAll_o_L0_s0))
  · intro g0
    exact absurd g0 ft
  · cases h2 : tb (word_PutAll_o_L0_c0 x1 ((x1.length : Nat) : Int) (word_PutAll_o_e0 x1))
    · cases h3 : tb (word_PutAll_o_L0_c1 ((x1.length : Nat) : Int) (word_PutAll_o_e0 x1))
      · intro g0
        exact absurd g0 ft
      · intro g0
        exact w30 [.o 8 (fun _ => o_len_os (enc := (encI .i64)) (l := x1) (fl := true) (n := x0) (s := 1)), .l (word_PutAll_o_L0_f0_1 ([] : List Int) false false true x0 x1 ((x1.length : Nat) : Int) 0 (⟨true, 0, ([] : List Int)⟩ : word_PutAll_o_L0_s0) (tbE h1) (tbE h2) (tbE h3))] (by kernel_rfl)
    · intro g0
      exact w30 [.o 8 (fun _ => o_len_os (enc := (encI .i64)) (l := x1) (fl := true) (n := x0) (s := 1)), .l (word_PutAll_o_L0_f0_0 ([] : List Int) false false true x0 x1 ((x1.length : Nat) : Int) 0 (⟨true, 0, ([] : List Int)⟩ : word_PutAll_o_L0_s0) (tbE h1) (tbE h2))] (by kernel_rfl)

end Go.Proofs.Ytdjmfcdopaejcaa.Den

namespace Go.Proofs.Ytdjmfcdopaejcaa.Den
open Go Go.Proofs
set_option maxRecDepth 100000
set_option maxHeartbeats 4000000
set_option linter.unusedVariables false
set_option linter.unusedSimpArgs false

def ref04_Get2_o_c0 (x1 : List Int) : Bool := (bif tb ((((x1.length : Nat) : Int) : Int) != 2) then true else (bif tb (inb x1.length 0) then (bif tb (inb x1.length 1) then true else false) else false))

def ref04_Get2_o_r0_0 (x1 : List Int) : Int := (bif tb ((((x1.length : Nat) : Int) : Int) != 2) then 0 else (wi ((wi (256 * (wi (gt x1 0)))) + (wi (gt x1 1)))))

def ref04_Get2_o_r0_1 (x1 : List Int) : Bool := (bif tb ((((x1.length : Nat) : Int) : Int) != 2) then false else true)

theorem ref04_Get2_o_t0 (x0 : Bool) (x1 : List Int) : ref04_Get2_o_c0 x1 = true → cl E0 15 [(V.d (slD (encI .u8) true 1 x0 x1))] [] = some ([(V.d (.int .i64 (ref04_Get2_o_r0_0 x1))), (V.d (.bool (ref04_Get2_o_r0_1 x1)))], []) := by
  unfold ref04_Get2_o_c0 ref04_Get2_o_r0_0 ref04_Get2_o_r0_1
  cases h1 : tb ((((x1.length : Nat) : Int) : Int) != 2)
  · cases h2 : tb (inb x1.length 0)
    · intro g0
      exact absurd g0 ft
    · cases h3 : tb (inb x1.length 1)
      · intro g0
        exact absurd g0 ft
      · intro g0
        exact w15 [.o 5 (fun _ => o_len_os (enc := (encI .u8)) (l := x1) (fl := true) (n := x0) (s := 1)), .b (tbE h1), .o 8 (fun _ => o_idx_os (enc := (encI .u8)) (l := x1) (fl := true) (n := x0) (s := 1) (k := .i64) (tbE h2)), .o 13 (fun _ => o_idx_os (enc := (encI .u8)) (l := x1) (fl := true) (n := x0) (s := 1) (k := .i64) (tbE h3))] (by kernel_rfl)
  · intro g0
    exact w15 [.o 5 (fun _ => o_len_os (enc := (encI .u8)) (l := x1) (fl := true) (n := x0) (s := 1)), .b (tbE h1)] (by kernel_rfl)

structure ref04_Get4_o_L0_s0 where
  c2 : Int
  c3 : Int
  deriving Inhabited

def ref04_Get4_o_L0_enc (x0 : Bool) (x1 : List Int) (x2 : Int) (x3 : Int) (s0 : ref04_Get4_o_L0_s0) : List V × Mem := ([(V.d (slD (encI .u8) true 1 x0 x1)), (V.d (.int .i64 s0.c2)), (V.d (.int .i64 s0.c3))], [])

def ref04_Get4_o_L0_sel (x1 : List Int) (s0 : ref04_Get4_o_L0_s0) : Bool := (bif tb (decide (s0.c3 < 4)) then (bif tb (inb x1.length s0.c3) then true else false) else false)

def ref04_Get4_o_L0_nx (x1 : List Int) (s0 : ref04_Get4_o_L0_s0) : ref04_Get4_o_L0_s0 := ⟨(wi ((wi (256 * s0.c2)) + (wi (gt x1 s0.c3)))), (wi (s0.c3 + 1))⟩

def ref04_Get4_o_L0_ok (x1 : List Int) (s0 : ref04_Get4_o_L0_s0) : Bool := (itS (ref04_Get4_o_L0_sel x1) (ref04_Get4_o_L0_nx x1) bound s0).isSome
def ref04_Get4_o_L0_end (x1 : List Int) (s0 : ref04_Get4_o_L0_s0) : ref04_Get4_o_L0_s0 := (itS (ref04_Get4_o_L0_sel x1) (ref04_Get4_o_L0_nx x1) bound s0).getD default

theorem ref04_Get4_o_L0_go (x0 : Bool) (x1 : List Int) (x2 : Int) (x3 : Int) (s0 : ref04_Get4_o_L0_s0) : ref04_Get4_o_L0_sel x1 s0 = true → (roundG (runC E0 (cl E0) L17_0) [0, 4, 5] [4] 0) (ref04_Get4_o_L0_enc x0 x1 x2 x3 s0) = some (.normal, ref04_Get4_o_L0_enc x0 x1 x2 x3 (ref04_Get4_o_L0_nx x1 s0)) := by
  unfold ref04_Get4_o_L0_sel ref04_Get4_o_L0_nx
  cases h1 : tb (decide (s0.c3 < 4))
  · intro g0
    exact absurd g0 ft
  · cases h2 : tb (inb x1.length s0.c3)
    · intro g0
      exact absurd g0 ft
    · intro _
      exact round_walk [.b (tbE h1), .o 17 (fun _ => o_idx_os (enc := (encI .u8)) (l := x1) (fl := true) (n := x0) (s := 1) (k := .i64) (tbE h2))] (by kernel_rfl)

def ref04_Get4_o_L0_c0 (s0 : ref04_Get4_o_L0_s0) : Bool := (bif tb (decide (s0.c3 < 4)) then false else true)

theorem ref04_Get4_o_L0_x0 (x0 : Bool) (x1 : List Int) (x2 : Int) (x3 : Int) (s0 : ref04_Get4_o_L0_s0) : ref04_Get4_o_L0_sel x1 s0 = false → ref04_Get4_o_L0_c0 s0 = true → (roundG (runC E0 (cl E0) L17_0) [0, 4, 5] [4] 0) (ref04_Get4_o_L0_enc x0 x1 x2 x3 s0) = some ((.exit 0), ([(V.d (.int .i64 s0.c2))], [])) := by
  unfold ref04_Get4_o_L0_sel ref04_Get4_o_L0_c0
  cases h1 : tb (decide (s0.c3 < 4))
  · intro g0 g1
    exact round_walk [.b (tbE h1)] (by kernel_rfl)
  · cases h2 : tb (inb x1.length s0.c3)
    · intro g0 g1
      exact absurd g1 ft
    · intro g0 g1
      exact absurd g0 tf

theorem ref04_Get4_o_L0_f0_0 (x0 : Bool) (x1 : List Int) (x2 : Int) (x3 : Int) (s : ref04_Get4_o_L0_s0) (hok : ref04_Get4_o_L0_ok x1 s = true) (c0 : ref04_Get4_o_L0_c0 (ref04_Get4_o_L0_end x1 s) = true) : loopG (roundG (runC E0 (cl E0) L17_0) [0, 4, 5] [4] 0) bound (ref04_Get4_o_L0_enc x0 x1 x2 x3 s) = some ((.exit 0), ([(V.d (.int .i64 ((ref04_Get4_o_L0_end x1 s).c2)))], [])) := by
  have e : itS (ref04_Get4_o_L0_sel x1) (ref04_Get4_o_L0_nx x1) bound s = some (ref04_Get4_o_L0_end x1 s) := itS_get hok
  have f := itS_false e
  exact loop_it (ref04_Get4_o_L0_go x0 x1 x2 x3) bound s _ _ _ e (fun h => by cases h) (ref04_Get4_o_L0_x0 x0 x1 x2 x3 (ref04_Get4_o_L0_end x1 s) f c0)

def ref04_Get4_o_e0 (x1 : List Int) : Int := wi (((ref04_Get4_o_L0_end x1 (⟨0, 0⟩ : ref04_Get4_o_L0_s0)).c2) - 4294967296)

def ref04_Get4_o_c0 (x1 : List Int) : Bool := (bif tb ((((x1.length : Nat) : Int) : Int) != 4) then true else (bif tb (ref04_Get4_o_L0_ok x1 (⟨0, 0⟩ : ref04_Get4_o_L0_s0)) then (bif tb (ref04_Get4_o_L0_c0 (ref04_Get4_o_L0_end x1 (⟨0, 0⟩ : ref04_Get4_o_L0_s0))) then true else false) else false))

def ref04_Get4_o_r0_0 (x1 : List Int) : Int := (bif tb ((((x1.length : Nat) : Int) : Int) != 4) then 0 else (bif tb (decide (2147483648 ≤ ((ref04_Get4_o_L0_end x1 (⟨0, 0⟩ : ref04_Get4_o_L0_s0)).c2))) then (ref04_Get4_o_e0 x1) else ((ref04_Get4_o_L0_end x1 (⟨0, 0⟩ : ref04_Get4_o_L0_s0)).c2)))

def ref04_Get4_o_r0_1 (x1 : List Int) : Bool := (bif tb ((((x1.length : Nat) : Int) : Int) != 4) then false else true)

theorem ref04_Get4_o_t0 (x0 : Bool) (x1 : List Int) : ref04_Get4_o_c0 x1 = true → cl E0 17 [(V.d (slD (encI .u8) true 1 x0 x1))] [] = some ([(V.d (.int .i64 (ref04_Get4_o_r0_0 x1))), (V.d (.bool (ref04_Get4_o_r0_1 x1)))], []) := by
  unfold ref04_Get4_o_c0 ref04_Get4_o_r0_0 ref04_Get4_o_r0_1
  cases h1 : tb ((((x1.length : Nat) : Int) : Int) != 4)
  · cases h2 : tb (ref04_Get4_o_L0_ok x1 (⟨0, 0⟩ : ref04_Get4_o_L0_s0))
    · intro g0
      exact absurd g0 ft
    · cases h3 : tb (ref04_Get4_o_L0_c0 (ref04_Get4_o_L0_end x1 (⟨0, 0⟩ : ref04_Get4_o_L0_s0)))
      · intro g0
        exact absurd g0 ft
      · cases h4 : tb (decide (2147483648 ≤ ((ref04_Get4_o_L0_end x1 (⟨0, 0⟩ : ref04_Get4_o_L0_s0)).c2)))
        · intro g0
          exact w17 [.o 7 (fun _ => o_len_os (enc := (encI .u8)) (l := x1) (fl := true) (n := x0) (s := 1)), .b (tbE h1), .l (ref04_Get4_o_L0_f0_0 x0 x1 0 0 (⟨0, 0⟩ : ref04_Get4_o_L0_s0) (tbE h2) (tbE h3)), .b (tbE h4)] (by kernel_rfl)
        · intro g0
          exact w17 [.o 7 (fun _ => o_len_os (enc := (encI .u8)) (l := x1) (fl := true) (n := x0) (s := 1)), .b (tbE h1), .l (ref04_Get4_o_L0_f0_0 x0 x1 0 0 (⟨0, 0⟩ : ref04_Get4_o_L0_s0) (tbE h2) (tbE h3)), .b (tbE h4)] (by kernel_rfl)
  · intro g0
    exact w17 [.o 7 (fun _ => o_len_os (enc := (encI .u8)) (l := x1) (fl := true) (n := x0) (s := 1)), .b (tbE h1)] (by kernel_rfl)

structure ref04_GetAll_o_L0_s0 where
  c2 : Bool
  c3 : Int
  c5 : List Int
  deriving Inhabited

def ref04_GetAll_o_L0_enc (x0 : List Int) (x1 : Bool) (x2 : Bool) (x3 : Bool) (x4 : List Int) (x5 : Bool) (x6 : Int) (s0 : ref04_GetAll_o_L0_s0) : List V × Mem := ([(V.d (slD (encI .u8) true 1 x3 x4)), (V.so s0.c2 1 s0.c5.length), (V.d (.int .i64 s0.c3))], [(Blk.flat 3 1 [] x1), (Blk.flat 3 1 (List.map (encI .i64) s0.c5) false)])

def ref04_GetAll_o_L0_h0_e0 (x4 : List Int) (s0 : ref04_GetAll_o_L0_s0) : List Int := sub x4 s0.c3 (mnI (wi (s0.c3 + 4)) ((x4.length : Nat) : Int))

def ref04_GetAll_o_L0_h0_e1 (x4 : List Int) (s0 : ref04_GetAll_o_L0_s0) : List Int := (s0.c5 ++ [(ref04_Get4_o_r0_0 (ref04_GetAll_o_L0_h0_e0 x4 s0))])

def ref04_GetAll_o_L0_sel (x4 : List Int) (s0 : ref04_GetAll_o_L0_s0) : Bool := (bif tb (decide (s0.c3 < ((x4.length : Nat) : Int))) then (bif tb (ins x4.length s0.c3 (mnI (wi (s0.c3 + 4)) ((x4.length : Nat) : Int))) then (bif tb (ref04_Get4_o_c0 (ref04_GetAll_o_L0_h0_e0 x4 s0)) then (bif tb (ref04_Get4_o_r0_1 (ref04_GetAll_o_L0_h0_e0 x4 s0)) then (bif tb (decide ((s0.c5.length + [(ref04_Get4_o_r0_0 (ref04_GetAll_o_L0_h0_e0 x4 s0))].length) * 8 ≤ 140737488355328)) then true else false) else false) else false) else false) else false)

def ref04_GetAll_o_L0_nx (x4 : List Int) (s0 : ref04_GetAll_o_L0_s0) : ref04_GetAll_o_L0_s0 := ⟨false, (wi (s0.c3 + 4)), (ref04_GetAll_o_L0_h0_e1 x4 s0)⟩

def ref04_GetAll_o_L0_ok (x4 : List Int) (s0 : ref04_GetAll_o_L0_s0) : Bool := (itS (ref04_GetAll_o_L0_sel x4) (ref04_GetAll_o_L0_nx x4) bound s0).isSome
def ref04_GetAll_o_L0_end (x4 : List Int) (s0 : ref04_GetAll_o_L0_s0) : ref04_GetAll_o_L0_s0 := (itS (ref04_GetAll_o_L0_sel x4) (ref04_GetAll_o_L0_nx x4) bound s0).getD default

theorem ref04_GetAll_o_L0_go (x0 : List Int) (x1 : Bool) (x2 : Bool) (x3 : Bool) (x4 : List Int) (x5 : Bool) (x6 : Int) (s0 : ref04_GetAll_o_L0_s0) : ref04_GetAll_o_L0_sel x4 s0 = true → (roundG (runC E0 (cl E0) L19_0) [0, 4, 5] [2, 3, 4] 2) (ref04_GetAll_o_L0_enc x0 x1 x2 x3 x4 x5 x6 s0) = some (.normal, ref04_GetAll_o_L0_enc x0 x1 x2 x3 x4 x5 x6 (ref04_GetAll_o_L0_nx x4 s0)) := by
  unfold ref04_GetAll_o_L0_sel ref04_GetAll_o_L0_nx
  cases h1 : tb (decide (s0.c3 < ((x4.length : Nat) : Int)))
  · intro g0
    exact absurd g0 ft
  · cases h2 : tb (ins x4.length s0.c3 (mnI (wi (s0.c3 + 4)) ((x4.length : Nat) : Int)))
    · intro g0
      exact absurd g0 ft
    · cases h3 : tb (ref04_Get4_o_c0 (ref04_GetAll_o_L0_h0_e0 x4 s0))
      · intro g0
        exact absurd g0 ft
      · cases h4 : tb (ref04_Get4_o_r0_1 (ref04_GetAll_o_L0_h0_e0 x4 s0))
        · intro g0
          exact absurd g0 ft
        · cases h5 : tb (decide ((s0.c5.length + [(ref04_Get4_o_r0_0 (ref04_GetAll_o_L0_h0_e0 x4 s0))].length) * 8 ≤ 140737488355328))
          · intro g0
            exact absurd g0 ft
          · intro _
            exact round_walk [.o 10 (fun _ => o_len_os (enc := (encI .u8)) (l := x4) (fl := true) (n := x3) (s := 1)), .b (tbE h1), .o 20 (fun _ => o_len_os (enc := (encI .u8)) (l := x4) (fl := true) (n := x3) (s := 1)), .o 22 (fun _ => o_slice_os (enc := (encI .u8)) (l := x4) (fl := true) (n := x3) (s := 1) (some (.i64, s0.c3)) (some (.i64, (mnI (wi (s0.c3 + 4)) ((x4.length : Nat) : Int)))) (tbE h2)), .c (ref04_Get4_o_t0 (x3 && x4.isEmpty) (ref04_GetAll_o_L0_h0_e0 x4 s0) (tbE h3)), .b (notT (tbE h4)), .m 31 (o_app_so (nl := s0.c2) (m := [(Blk.flat 3 1 [] x1), (Blk.flat 3 1 (List.map (encI .i64) s0.c5) false), (Blk.flat 3 1 [[(.int .i64 (ref04_Get4_o_r0_0 (ref04_GetAll_o_L0_h0_e0 x4 s0)))]] false)]) (enc := (encI .i64)) (l0 := s0.c5) (l1 := [(ref04_Get4_o_r0_0 (ref04_GetAll_o_L0_h0_e0 x4 s0))]) (id := 1) (e := 3) (s := 1) (bytes := 8) (x := (V.so false 2 1)) (n := s0.c5.length) (Nat.beq_refl _) (by kernel_rfl) (by kernel_rfl) (by kernel_rfl) (tbE h5))] (by kernel_rfl)

def ref04_GetAll_o_L0_c0 (x4 : List Int) (s0 : ref04_GetAll_o_L0_s0) : Bool := (bif tb (decide (s0.c3 < ((x4.length : Nat) : Int))) then (bif tb (ins x4.length s0.c3 (mnI (wi (s0.c3 + 4)) ((x4.length : Nat) : Int))) then (bif tb (ref04_Get4_o_c0 (ref04_GetAll_o_L0_h0_e0 x4 s0)) then (bif tb (ref04_Get4_o_r0_1 (ref04_GetAll_o_L0_h0_e0 x4 s0)) then false else true) else false) else false) else false)

def ref04_GetAll_o_L0_c1 (x4 : List Int) (s0 : ref04_GetAll_o_L0_s0) : Bool := (bif tb (decide (s0.c3 < ((x4.length : Nat) : Int))) then false else true)

theorem ref04_GetAll_o_L0_x0 (x0 : List Int) (x1 : Bool) (x2 : Bool) (x3 : Bool) (x4 : List Int) (x5 : Bool) (x6 : Int) (s0 : ref04_GetAll_o_L0_s0) : ref04_GetAll_o_L0_sel x4 s0 = false → ref04_GetAll_o_L0_c0 x4 s0 = true → (roundG (runC E0 (cl E0) L19_0) [0, 4, 5] [2, 3, 4] 2) (ref04_GetAll_o_L0_enc x0 x1 x2 x3 x4 x5 x6 s0) = some (.ret, ([(V.so true 2 0), (V.d (.bool false)), (V.so s0.c2 1 s0.c5.length)], [(Blk.flat 3 1 [] x1), (Blk.flat 3 1 (List.map (encI .i64) s0.c5) false), (Blk.flat 3 1 [] false)])) := by
  unfold ref04_GetAll_o_L0_sel ref04_GetAll_o_L0_c0
  cases h1 : tb (decide (s0.c3 < ((x4.length : Nat) : Int)))
  · intro g0 g1
    exact absurd g1 ft
  · cases h2 : tb (ins x4.length s0.c3 (mnI (wi (s0.c3 + 4)) ((x4.length : Nat) : Int)))
    · intro g0 g1
      exact absurd g1 ft
    · cases h3 : tb (ref04_Get4_o_c0 (ref04_GetAll_o_L0_h0_e0 x4 s0))
      · intro g0 g1
        exact absurd g1 ft
      · cases h4 : tb (ref04_Get4_o_r0_1 (ref04_GetAll_o_L0_h0_e0 x4 s0))
        · intro g0 g1
          exact round_walk [.o 10 (fun _ => o_len_os (enc := (encI .u8)) (l := x4) (fl := true) (n := x3) (s := 1)), .b (tbE h1), .o 20 (fun _ => o_len_os (enc := (encI .u8)) (l := x4) (fl := true) (n := x3) (s := 1)), .o 22 (fun _ => o_slice_os (enc := (encI .u8)) (l := x4) (fl := true) (n := x3) (s := 1) (some (.i64, s0.c3)) (some (.i64, (mnI (wi (s0.c3 + 4)) ((x4.length : Nat) : Int)))) (tbE h2)), .c (ref04_Get4_o_t0 (x3 && x4.isEmpty) (ref04_GetAll_o_L0_h0_e0 x4 s0) (tbE h3)), .b (notF (tbE h4))] (by kernel_rfl)
        · cases h5 : tb (decide ((s0.c5.length + [(ref04_Get4_o_r0_0 (ref04_GetAll_o_L0_h0_e0 x4 s0))].length) * 8 ≤ 140737488355328))
          · intro g0 g1
            exact absurd g1 ft
          · intro g0 g1
            exact absurd g0 tf

theorem ref04_GetAll_o_L0_x1 (x0 : List Int) (x1 : Bool) (x2 : Bool) (x3 : Bool) (x4 : List Int) (x5 : Bool) (x6 : Int) (s0 : ref04_GetAll_o_L0_s0) : ref04_GetAll_o_L0_sel x4 s0 = false → ref04_GetAll_o_L0_c0 x4 s0 = false → ref04_GetAll_o_L0_c1 x4 s0 = true → (roundG (runC E0 (cl E0) L19_0) [0, 4, 5] [2, 3, 4] 2) (ref04_GetAll_o_L0_enc x0 x1 x2 x3 x4 x5 x6 s0) = some ((.exit 0), ([V.un, V.un, (V.so s0.c2 1 s0.c5.length)], [(Blk.flat 3 1 [] x1), (Blk.flat 3 1 (List.map (encI .i64) s0.c5) false)])) := by
  unfold ref04_GetAll_o_L0_sel ref04_GetAll_o_L0_c0 ref04_GetAll_o_L0_c1
  cases h1 : tb (decide (s0.c3 < ((x4.length : Nat) : Int)))
  · intro g0 g1 g2
    exact round_walk [.o 10 (fun _ => o_len_os (enc := (encI .u8)) (l := x4) (fl := true) (n := x3) (s := 1)), .b (tbE h1)] (by kernel_rfl)
  · cases h2 : tb (ins x4.length s0.c3 (mnI (wi (s0.c3 + 4)) ((x4.length : Nat) : Int)))
    · intro g0 g1 g2
      exact absurd g2 ft
    · cases h3 : tb (ref04_Get4_o_c0 (ref04_GetAll_o_L0_h0_e0 x4 s0))
      · intro g0 g1 g2
        exact absurd g2 ft
      · cases h4 : tb (ref04_Get4_o_r0_1 (ref04_GetAll_o_L0_h0_e0 x4 s0))
        · intro g0 g1 g2
          exact absurd g1 tf
        · cases h5 : tb (decide ((s0.c5.length + [(ref04_Get4_o_r0_0 (ref04_GetAll_o_L0_h0_e0 x4 s0))].length) * 8 ≤ 140737488355328))
          · intro g0 g1 g2
            exact absurd g2 ft
          · intro g0 g1 g2
            exact absurd g0 tf

theorem ref04_GetAll_o_L0_f0_0 (x0 : List Int) (x1 : Bool) (x2 : Bool) (x3 : Bool) (x4 : List Int) (x5 : Bool) (x6 : Int) (s : ref04_GetAll_o_L0_s0) (hok : ref04_GetAll_o_L0_ok x4 s = true) (c0 : ref04_GetAll_o_L0_c0 x4 (ref04_GetAll_o_L0_end x4 s) = true) : loopG (roundG (runC E0 (cl E0) L19_0) [0, 4, 5] [2, 3, 4] 2) bound (ref04_GetAll_o_L0_enc x0 x1 x2 x3 x4 x5 x6 s) = some (.ret, ([(V.so true 2 0), (V.d (.bool false)), (V.so ((ref04_GetAll_o_L0_end x4 s).c2) 1 (((ref04_GetAll_o_L0_end x4 s).c5).length))], [(Blk.flat 3 1 [] x1), (Blk.flat 3 1 (List.map (encI .i64) ((ref04_GetAll_o_L0_end x4 s).c5)) false), (Blk.flat 3 1 [] false)])) := by
  have e : itS (ref04_GetAll_o_L0_sel x4) (ref04_GetAll_o_L0_nx x4) bound s = some (ref04_GetAll_o_L0_end x4 s) := itS_get hok
  have f := itS_false e
  exact loop_it (ref04_GetAll_o_L0_go x0 x1 x2 x3 x4 x5 x6) bound s _ _ _ e (fun h => by cases h) (ref04_GetAll_o_L0_x0 x0 x1 x2 x3 x4 x5 x6 (ref04_GetAll_o_L0_end x4 s) f c0)

theorem ref04_GetAll_o_L0_f0_1 (x0 : List Int) (x1 : Bool) (x2 : Bool) (x3 : Bool) (x4 : List Int) (x5 : Bool) (x6 : Int) (s : ref04_GetAll_o_L0_s0) (hok : ref04_GetAll_o_L0_ok x4 s = true) (c0 : ref04_GetAll_o_L0_c0 x4 (ref04_GetAll_o_L0_end x4 s) = false) (c1 : ref04_GetAll_o_L0_c1 x4 (ref04_GetAll_o_L0_end x4 s) = true) : loopG (roundG (runC E0 (cl E0) L19_0) [0, 4, 5] [2, 3, 4] 2) bound (ref04_GetAll_o_L0_enc x0 x1 x2 x3 x4 x5 x6 s) = some ((.exit 0), ([V.un, V.un, (V.so ((ref04_GetAll_o_L0_end x4 s).c2) 1 (((ref04_GetAll_o_L0_end x4 s).c5).length))], [(Blk.flat 3 1 [] x1), (Blk.flat 3 1 (List.map (encI .i64) ((ref04_GetAll_o_L0_end x4 s).c5)) false)])) := by
  have e : itS (ref04_GetAll_o_L0_sel x4) (ref04_GetAll_o_L0_nx x4) bound s = some (ref04_GetAll_o_L0_end x4 s) := itS_get hok
  have f := itS_false e
  exact loop_it (ref04_GetAll_o_L0_go x0 x1 x2 x3 x4 x5 x6) bound s _ _ _ e (fun h => by cases h) (ref04_GetAll_o_L0_x1 x0 x1 x2 x3 x4 x5 x6 (ref04_GetAll_o_L0_end x4 s) f c0 c1)

def ref04_GetAll_o_e0 (x1 : List Int) : ref04_GetAll_o_L0_s0 := ref04_GetAll_o_L0_end x1 (⟨true, 0, ([] : List Int)⟩ : ref04_GetAll_o_L0_s0)

def ref04_GetAll_o_c0 (x1 : List Int) : Bool := (bif tb (ref04_GetAll_o_L0_ok x1 (⟨true, 0, ([] : List Int)⟩ : ref04_GetAll_o_L0_s0)) then (bif tb (ref04_GetAll_o_L0_c0 x1 (ref04_GetAll_o_e0 x1)) then true else (bif tb (ref04_GetAll_o_L0_c1 x1 (ref04_GetAll_o_e0 x1)) then true else false)) else false)

def ref04_GetAll_o_r0_0 (x1 : List Int) : Bool := (bif tb (ref04_GetAll_o_L0_c0 x1 (ref04_GetAll_o_e0 x1)) then true else ((ref04_GetAll_o_e0 x1).c2))

def ref04_GetAll_o_r0_1 (x1 : List Int) : Bool := (bif tb (ref04_GetAll_o_L0_c0 x1 (ref04_GetAll_o_e0 x1)) then false else true)

def ref04_GetAll_o_r0_2 (x1 : List Int) : List Int := (bif tb (ref04_GetAll_o_L0_c0 x1 (ref04_GetAll_o_e0 x1)) then ([] : List Int) else ((ref04_GetAll_o_e0 x1).c5))

theorem ref04_GetAll_o_t0 (x0 : Bool) (x1 : List Int) : ref04_GetAll_o_c0 x1 = true → cl E0 19 [(V.d (slD (encI .u8) true 1 x0 x1))] [] = some ([(V.so (ref04_GetAll_o_r0_0 x1) 0 ((ref04_GetAll_o_r0_2 x1).length)), (V.d (.bool (ref04_GetAll_o_r0_1 x1)))], [(Blk.flat 3 1 (List.map (encI .i64) (ref04_GetAll_o_r0_2 x1)) false)]) := by
  unfold ref04_GetAll_o_c0 ref04_GetAll_o_r0_0 ref04_GetAll_o_r0_1 ref04_GetAll_o_r0_2
  cases h1 : tb (ref04_GetAll_o_L0_ok x1 (⟨true, 0, ([] : List Int)⟩ : ref04_GetAll_o_L0_s0))
  · intro g0
    exact absurd g0 ft
  · cases h2 : tb (ref04_GetAll_o_L0_c0 x1 (ref04_GetAll_o_e0 x1))
    · cases h3 : tb (ref04_GetAll_o_L0_c1 x1 (ref04_GetAll_o_e0 x1))
      · intro g0
        exact absurd g0 ft
      · intro g0
        exact w19 [.l (ref04_GetAll_o_L0_f0_1 ([] : List Int) false false x0 x1 true 0 (⟨true, 0, ([] : List Int)⟩ : ref04_GetAll_o_L0_s0) (tbE h1) (tbE h2) (tbE h3))] (by kernel_rfl)
    · intro g0
      exact w19 [.l (ref04_GetAll_o_L0_f0_0 ([] : List Int) false false x0 x1 true 0 (⟨true, 0, ([] : List Int)⟩ : ref04_GetAll_o_L0_s0) (tbE h1) (tbE h2))] (by kernel_rfl)

def ref04_Put2_i_r0_0 (x0 : Int) : Bool := (bif tb (decide (x0 < 0)) then true else (bif tb (decide (65535 < x0)) then true else false))

def ref04_Put2_i_r0_1 (x0 : Int) : List Int := (bif tb (decide (x0 < 0)) then ([] : List Int) else (bif tb (decide (65535 < x0)) then ([] : List Int) else [(IntKind.u8.wrap (quoI .i64 x0 256)), (IntKind.u8.wrap (remI .i64 x0 256))]))

theorem ref04_Put2_i_t0 (x0 : Int) : cl E0 23 [(V.d (.int .i64 x0))] [] = some ([(V.so (ref04_Put2_i_r0_0 x0) 0 ((ref04_Put2_i_r0_1 x0).length))], [(Blk.flat 5 1 (List.map (encI .u8) (ref04_Put2_i_r0_1 x0)) false)]) := by
  unfold ref04_Put2_i_r0_0 ref04_Put2_i_r0_1
  cases h1 : tb (decide (x0 < 0))
  · cases h2 : tb (decide (65535 < x0))
    · exact w23 [.b (tbE h1), .b (tbE h2)] (by kernel_rfl)
    · exact w23 [.b (tbE h1), .b (tbE h2)] (by kernel_rfl)
  · exact w23 [.b (tbE h1)] (by kernel_rfl)

def ref04_Put4_i_e0 (x0 : Int) : Int := IntKind.u8.wrap (remI .i64 (quoI .i64 (wi (x0 + 4294967296)) 65536) 256)

def ref04_Put4_i_e1 (x0 : Int) : Int := IntKind.u8.wrap (remI .i64 (quoI .i64 (wi (x0 + 4294967296)) 256) 256)

def ref04_Put4_i_r0_0 (x0 : Int) : Bool := (bif tb (decide (x0 < (-2147483648))) then true else (bif tb (decide (2147483647 < x0)) then true else false))

def ref04_Put4_i_r0_1 (x0 : Int) : List Int := (bif tb (decide (x0 < (-2147483648))) then ([] : List Int) else (bif tb (decide (2147483647 < x0)) then ([] : List Int) else (bif tb (decide (x0 < 0)) then [(IntKind.u8.wrap (quoI .i64 (wi (x0 + 4294967296)) 16777216)), (ref04_Put4_i_e0 x0), (ref04_Put4_i_e1 x0), (IntKind.u8.wrap (remI .i64 (wi (x0 + 4294967296)) 256))] else [(IntKind.u8.wrap (quoI .i64 x0 16777216)), (IntKind.u8.wrap (remI .i64 (quoI .i64 x0 65536) 256)), (IntKind.u8.wrap (remI .i64 (quoI .i64 x0 256) 256)), (IntKind.u8.wrap (remI .i64 x0 256))])))

theorem ref04_Put4_i_t0 (x0 : Int) : cl E0 25 [(V.d (.int .i64 x0))] [] = some ([(V.so (ref04_Put4_i_r0_0 x0) 0 ((ref04_Put4_i_r0_1 x0).length))], [(Blk.flat 5 1 (List.map (encI .u8) (ref04_Put4_i_r0_1 x0)) false)]) := by
  unfold ref04_Put4_i_r0_0 ref04_Put4_i_r0_1
  cases h1 : tb (decide (x0 < (-2147483648)))
  · cases h2 : tb (decide (2147483647 < x0))
    · cases h3 : tb (decide (x0 < 0))
      · exact w25 [.b (tbE h1), .b (tbE h2), .b (tbE h3)] (by kernel_rfl)
      · exact w25 [.b (tbE h1), .b (tbE h2), .b (tbE h3)] (by kernel_rfl)
    · exact w25 [.b (tbE h1), .b (tbE h2)] (by kernel_rfl)
  · exact w25 [.b (tbE h1)] (by kernel_rfl)

def ref04_Next_i_r0_0 (x0 : Int) : Int := (bif tb (decide (x0 < 0)) then 0 else (bif tb (decide (65535 ≤ x0)) then 0 else (wi (x0 + 1))))

theorem ref04_Next_i_t0 (x0 : Int) : cl E0 27 [(V.d (.int .i64 x0))] [] = some ([(V.d (.int .i64 (ref04_Next_i_r0_0 x0)))], []) := by
  unfold ref04_Next_i_r0_0
  cases h1 : tb (decide (x0 < 0))
  · cases h2 : tb (decide (65535 ≤ x0))
    · exact w27 [.b (tbE h1), .b (tbE h2)] (by kernel_rfl)
    · exact w27 [.b (tbE h1), .b (tbE h2)] (by kernel_rfl)
  · exact w27 [.b (tbE h1)] (by kernel_rfl)

def ref04_After_ii_r0_0 (x0 : Int) (x1 : Int) : Int := (bif tb (decide (x0 < 0)) then 0 else (bif tb (decide (65535 < x0)) then 0 else (bif tb (decide (x1 < 0)) then 0 else (bif tb (decide (65535 < x1)) then 0 else (bif tb (decide (x0 ≤ x1)) then (wi (x1 - x0)) else (wi ((wi (x1 + 65536)) - x0)))))))

theorem ref04_After_ii_t0 (x0 : Int) (x1 : Int) : cl E0 29 [(V.d (.int .i64 x0)), (V.d (.int .i64 x1))] [] = some ([(V.d (.int .i64 (ref04_After_ii_r0_0 x0 x1)))], []) := by
  unfold ref04_After_ii_r0_0
  cases h1 : tb (decide (x0 < 0))
  · cases h2 : tb (decide (65535 < x0))
    · cases h3 : tb (decide (x1 < 0))
      · cases h4 : tb (decide (65535 < x1))
        · cases h5 : tb (decide (x0 ≤ x1))
          · exact w29 [.b (tbE h1), .b (tbE h2), .b (tbE h3), .b (tbE h4), .b (tbE h5)] (by kernel_rfl)
          · exact w29 [.b (tbE h1), .b (tbE h2), .b (tbE h3), .b (tbE h4), .b (tbE h5)] (by kernel_rfl)
        · exact w29 [.b (tbE h1), .b (tbE h2), .b (tbE h3), .b (tbE h4)] (by kernel_rfl)
      · exact w29 [.b (tbE h1), .b (tbE h2), .b (tbE h3)] (by kernel_rfl)
    · exact w29 [.b (tbE h1), .b (tbE h2)] (by kernel_rfl)
  · exact w29 [.b (tbE h1)] (by kernel_rfl)

end Go.Proofs.Ytdjmfcdopaejcaa.Den

namespace Go.Proofs.Ytdjmfcdopaejcaa.Den
open Go Go.Proofs
set_option maxRecDepth 100000
set_option maxHeartbeats 4000000
set_option linter.unusedVariables false
set_option linter.unusedSimpArgs false

def ref01_Small_i_r0_0 (x0 : Int) : Bool := (bif tb (decide ((-1099511627776) ≤ x0)) then (decide (x0 ≤ 1099511627776)) else false)

theorem ref01_Small_i_t0 (x0 : Int) : cl E0 70 [(V.d (.int .i64 x0))] [] = some ([(V.d (.bool (ref01_Small_i_r0_0 x0)))], []) := by
  unfold ref01_Small_i_r0_0
  cases h1 : tb (decide ((-1099511627776) ≤ x0))
  · exact w70 [.b (tbE h1)] (by kernel_rfl)
  · exact w70 [.b (tbE h1)] (by kernel_rfl)

structure ref01_All_o_L0_s0 where
  c2 : Int
  deriving Inhabited

def ref01_All_o_L0_enc (x0 : Bool) (x1 : List Int) (x2 : Int) (s0 : ref01_All_o_L0_s0) : List V × Mem := ([(V.d (slD (encI .i64) true 1 x0 x1)), (V.d (.int .i64 s0.c2))], [])

def ref01_All_o_L0_sel (x1 : List Int) (s0 : ref01_All_o_L0_s0) : Bool := (bif tb (decide (s0.c2 < ((x1.length : Nat) : Int))) then (bif tb (inb x1.length s0.c2) then (bif tb (ref01_Small_i_r0_0 (gt x1 s0.c2)) then true else false) else false) else false)

def ref01_All_o_L0_nx (x1 : List Int) (s0 : ref01_All_o_L0_s0) : ref01_All_o_L0_s0 := ⟨(wi (s0.c2 + 1))⟩

def ref01_All_o_L0_ok (x1 : List Int) (s0 : ref01_All_o_L0_s0) : Bool := (itS (ref01_All_o_L0_sel x1) (ref01_All_o_L0_nx x1) bound s0).isSome
def ref01_All_o_L0_end (x1 : List Int) (s0 : ref01_All_o_L0_s0) : ref01_All_o_L0_s0 := (itS (ref01_All_o_L0_sel x1) (ref01_All_o_L0_nx x1) bound s0).getD default

theorem ref01_All_o_L0_go (x0 : Bool) (x1 : List Int) (x2 : Int) (s0 : ref01_All_o_L0_s0) : ref01_All_o_L0_sel x1 s0 = true → (roundG (runC E0 (cl E0) L67_0) [0, 3] [2] 0) (ref01_All_o_L0_enc x0 x1 x2 s0) = some (.normal, ref01_All_o_L0_enc x0 x1 x2 (ref01_All_o_L0_nx x1 s0)) := by
  unfold ref01_All_o_L0_sel ref01_All_o_L0_nx
  cases h1 : tb (decide (s0.c2 < ((x1.length : Nat) : Int)))
  · intro g0
    exact absurd g0 ft
  · cases h2 : tb (inb x1.length s0.c2)
    · intro g0
      exact absurd g0 ft
    · cases h3 : tb (ref01_Small_i_r0_0 (gt x1 s0.c2))
      · intro g0
        exact absurd g0 ft
      · intro _
        exact round_walk [.o 7 (fun _ => o_len_os (enc := (encI .i64)) (l := x1) (fl := true) (n := x0) (s := 1)), .b (tbE h1), .o 13 (fun _ => o_idx_os (enc := (encI .i64)) (l := x1) (fl := true) (n := x0) (s := 1) (k := .i64) (tbE h2)), .c (ref01_Small_i_t0 (gt x1 s0.c2)), .b (notT (tbE h3))] (by kernel_rfl)

def ref01_All_o_L0_c0 (x1 : List Int) (s0 : ref01_All_o_L0_s0) : Bool := (bif tb (decide (s0.c2 < ((x1.length : Nat) : Int))) then (bif tb (inb x1.length s0.c2) then true else false) else false)

def ref01_All_o_L0_c1 (x1 : List Int) (s0 : ref01_All_o_L0_s0) : Bool := (bif tb (decide (s0.c2 < ((x1.length : Nat) : Int))) then false else true)

theorem ref01_All_o_L0_x0 (x0 : Bool) (x1 : List Int) (x2 : Int) (s0 : ref01_All_o_L0_s0) : ref01_All_o_L0_sel x1 s0 = false → ref01_All_o_L0_c0 x1 s0 = true → (roundG (runC E0 (cl E0) L67_0) [0, 3] [2] 0) (ref01_All_o_L0_enc x0 x1 x2 s0) = some (.ret, ([(V.d (.bool false))], [])) := by
  unfold ref01_All_o_L0_sel ref01_All_o_L0_c0
  cases h1 : tb (decide (s0.c2 < ((x1.length : Nat) : Int)))
  · intro g0 g1
    exact absurd g1 ft
  · cases h2 : tb (inb x1.length s0.c2)
    · intro g0 g1
      exact absurd g1 ft
    · cases h3 : tb (ref01_Small_i_r0_0 (gt x1 s0.c2))
      · intro g0 g1
        exact round_walk [.o 7 (fun _ => o_len_os (enc := (encI .i64)) (l := x1) (fl := true) (n := x0) (s := 1)), .b (tbE h1), .o 13 (fun _ => o_idx_os (enc := (encI .i64)) (l := x1) (fl := true) (n := x0) (s := 1) (k := .i64) (tbE h2)), .c (ref01_Small_i_t0 (gt x1 s0.c2)), .b (notF (tbE h3))] (by kernel_rfl)
      · intro g0 g1
        exact absurd g0 tf

theorem ref01_All_o_L0_x1 (x0 : Bool) (x1 : List Int) (x2 : Int) (s0 : ref01_All_o_L0_s0) : ref01_All_o_L0_sel x1 s0 = false → ref01_All_o_L0_c0 x1 s0 = false → ref01_All_o_L0_c1 x1 s0 = true → (roundG (runC E0 (cl E0) L67_0) [0, 3] [2] 0) (ref01_All_o_L0_enc x0 x1 x2 s0) = some ((.exit 0), ([V.un], [])) := by
  unfold ref01_All_o_L0_sel ref01_All_o_L0_c0 ref01_All_o_L0_c1
  cases h1 : tb (decide (s0.c2 < ((x1.length : Nat) : Int)))
  · intro g0 g1 g2
    exact round_walk [.o 7 (fun _ => o_len_os (enc := (encI .i64)) (l := x1) (fl := true) (n := x0) (s := 1)), .b (tbE h1)] (by kernel_rfl)
  · cases h2 : tb (inb x1.length s0.c2)
    · intro g0 g1 g2
      exact absurd g2 ft
    · cases h3 : tb (ref01_Small_i_r0_0 (gt x1 s0.c2))
      · intro g0 g1 g2
        exact absurd g1 tf
      · intro g0 g1 g2
        exact absurd g0 tf

theorem ref01_All_o_L0_f0_0 (x0 : Bool) (x1 : List Int) (x2 : Int) (s : ref01_All_o_L0_s0) (hok : ref01_All_o_L0_ok x1 s = true) (c0 : ref01_All_o_L0_c0 x1 (ref01_All_o_L0_end x1 s) = true) : loopG (roundG (runC E0 (cl E0) L67_0) [0, 3] [2] 0) bound (ref01_All_o_L0_enc x0 x1 x2 s) = some (.ret, ([(V.d (.bool false))], [])) := by
  have e : itS (ref01_All_o_L0_sel x1) (ref01_All_o_L0_nx x1) bound s = some (ref01_All_o_L0_end x1 s) := itS_get hok
  have f := itS_false e
  exact loop_it (ref01_All_o_L0_go x0 x1 x2) bound s _ _ _ e (fun h => by cases h) (ref01_All_o_L0_x0 x0 x1 x2 (ref01_All_o_L0_end x1 s) f c0)

theorem ref01_All_o_L0_f0_1 (x0 : Bool) (x1 : List Int) (x2 : Int) (s : ref01_All_o_L0_s0) (hok : ref01_All_o_L0_ok x1 s = true) (c0 : ref01_All_o_L0_c0 x1 (ref01_All_o_L0_end x1 s) = false) (c1 : ref01_All_o_L0_c1 x1 (ref01_All_o_L0_end x1 s) = true) : loopG (roundG (runC E0 (cl E0) L67_0) [0, 3] [2] 0) bound (ref01_All_o_L0_enc x0 x1 x2 s) = some ((.exit 0), ([V.un], [])) := by
  have e : itS (ref01_All_o_L0_sel x1) (ref01_All_o_L0_nx x1) bound s = some (ref01_All_o_L0_end x1 s) := itS_get hok
  have f := itS_false e
  exact loop_it (ref01_All_o_L0_go x0 x1 x2) bound s _ _ _ e (fun h => by cases h) (ref01_All_o_L0_x1 x0 x1 x2 (ref01_All_o_L0_end x1 s) f c0 c1)

def ref01_All_o_c0 (x1 : List Int) : Bool := (bif tb (ref01_All_o_L0_ok x1 (⟨0⟩ : ref01_All_o_L0_s0)) then (bif tb (ref01_All_o_L0_c0 x1 (ref01_All_o_L0_end x1 (⟨0⟩ : ref01_All_o_L0_s0))) then true else (bif tb (ref01_All_o_L0_c1 x1 (ref01_All_o_L0_end x1 (⟨0⟩ : ref01_All_o_L0_s0))) then true else false)) else false)

def ref01_All_o_r0_0 (x1 : List Int) : Bool := (bif tb (ref01_All_o_L0_c0 x1 (ref01_All_o_L0_end x1 (⟨0⟩ : ref01_All_o_L0_s0))) then false else true)

theorem ref01_All_o_t0 (x0 : Bool) (x1 : List Int) : ref01_All_o_c0 x1 = true → cl E0 67 [(V.d (slD (encI .i64) true 1 x0 x1))] [] = some ([(V.d (.bool (ref01_All_o_r0_0 x1)))], []) := by
  unfold ref01_All_o_c0 ref01_All_o_r0_0
  cases h1 : tb (ref01_All_o_L0_ok x1 (⟨0⟩ : ref01_All_o_L0_s0))
  · intro g0
    exact absurd g0 ft
  · cases h2 : tb (ref01_All_o_L0_c0 x1 (ref01_All_o_L0_end x1 (⟨0⟩ : ref01_All_o_L0_s0)))
    · cases h3 : tb (ref01_All_o_L0_c1 x1 (ref01_All_o_L0_end x1 (⟨0⟩ : ref01_All_o_L0_s0)))
      · intro g0
        exact absurd g0 ft
      · intro g0
        exact w67 [.l (ref01_All_o_L0_f0_1 x0 x1 0 (⟨0⟩ : ref01_All_o_L0_s0) (tbE h1) (tbE h2) (tbE h3))] (by kernel_rfl)
    · intro g0
      exact w67 [.l (ref01_All_o_L0_f0_0 x0 x1 0 (⟨0⟩ : ref01_All_o_L0_s0) (tbE h1) (tbE h2))] (by kernel_rfl)

def ref01_Floor_ii_c0 (x0 : Int) (x1 : Int) : Bool := (bif tb (ref01_All_o_c0 [x0, x1]) then (bif tb (ref01_All_o_r0_0 [x0, x1]) then (bif tb (decide (x1 < 1)) then true else (bif tb ((x1 : Int) == 0) then false else true)) else true) else false)

def ref01_Floor_ii_r0_0 (x0 : Int) (x1 : Int) : Int := (bif tb (ref01_All_o_r0_0 [x0, x1]) then (bif tb (decide (x1 < 1)) then 0 else (bif tb (decide (0 ≤ x0)) then (quoI .i64 x0 x1) else (wi (0 - (quoI .i64 (wi ((wi (x1 - 1)) - x0)) x1))))) else 0)

theorem ref01_Floor_ii_t0 (x0 : Int) (x1 : Int) : ref01_Floor_ii_c0 x0 x1 = true → cl E0 57 [(V.d (.int .i64 x0)), (V.d (.int .i64 x1))] [] = some ([(V.d (.int .i64 (ref01_Floor_ii_r0_0 x0 x1)))], []) := by
  unfold ref01_Floor_ii_c0 ref01_Floor_ii_r0_0
  cases h1 : tb (ref01_All_o_c0 [x0, x1])
  · intro g0
    exact absurd g0 ft
  · cases h2 : tb (ref01_All_o_r0_0 [x0, x1])
    · intro g0
      exact w57 [.c (ref01_All_o_t0 false [x0, x1] (tbE h1)), .b (notF (tbE h2))] (by kernel_rfl)
    · cases h3 : tb (decide (x1 < 1))
      · cases h4 : tb (decide (0 ≤ x0))
        · cases h5 : tb ((x1 : Int) == 0)
          · intro g0
            exact w57 [.c (ref01_All_o_t0 false [x0, x1] (tbE h1)), .b (notT (tbE h2)), .b (tbE h3), .b (tbE h4), .o 26 (fun _ => o_quo (k := .i64) (x := (wi ((wi (x1 - 1)) - x0))) (y := x1) (tbE h5))] (by kernel_rfl)
          · intro g0
            exact absurd g0 ft
        · cases h5 : tb ((x1 : Int) == 0)
          · intro g0
            exact w57 [.c (ref01_All_o_t0 false [x0, x1] (tbE h1)), .b (notT (tbE h2)), .b (tbE h3), .b (tbE h4), .o 20 (fun _ => o_quo (k := .i64) (x := x0) (y := x1) (tbE h5))] (by kernel_rfl)
          · intro g0
            exact absurd g0 ft
      · intro g0
        exact w57 [.c (ref01_All_o_t0 false [x0, x1] (tbE h1)), .b (notT (tbE h2)), .b (tbE h3)] (by kernel_rfl)

end Go.Proofs.Ytdjmfcdopaejcaa.Den

namespace Go.Proofs.Ytdjmfcdopaejcaa.Den
open Go Go.Proofs
set_option maxRecDepth 100000
set_option maxHeartbeats 4000000
set_option linter.unusedVariables false
set_option linter.unusedSimpArgs false

structure ref02_Ints_oo_L0_s0 where
  c4 : Int
  deriving Inhabited

def ref02_Ints_oo_L0_enc (x0 : Bool) (x1 : List Int) (x2 : Bool) (x3 : List Int) (x4 : Int) (s0 : ref02_Ints_oo_L0_s0) : List V × Mem := ([(V.d (slD (encI .i64) true 1 x0 x1)), (V.d (slD (encI .i64) true 1 x2 x3)), (V.d (.int .i64 s0.c4))], [])

def ref02_Ints_oo_L0_sel (x1 : List Int) (x3 : List Int) (s0 : ref02_Ints_oo_L0_s0) : Bool := (bif tb (decide (s0.c4 < ((x1.length : Nat) : Int))) then (bif tb (inb x1.length s0.c4) then (bif tb (inb x3.length s0.c4) then (bif tb (((gt x1 s0.c4) : Int) != (gt x3 s0.c4)) then false else true) else false) else false) else false)

def ref02_Ints_oo_L0_nx (x1 : List Int) (x3 : List Int) (s0 : ref02_Ints_oo_L0_s0) : ref02_Ints_oo_L0_s0 := ⟨(wi (s0.c4 + 1))⟩

def ref02_Ints_oo_L0_ok (x1 : List Int) (x3 : List Int) (s0 : ref02_Ints_oo_L0_s0) : Bool := (itS (ref02_Ints_oo_L0_sel x1 x3) (ref02_Ints_oo_L0_nx x1 x3) bound s0).isSome
def ref02_Ints_oo_L0_end (x1 : List Int) (x3 : List Int) (s0 : ref02_Ints_oo_L0_s0) : ref02_Ints_oo_L0_s0 := (itS (ref02_Ints_oo_L0_sel x1 x3) (ref02_Ints_oo_L0_nx x1 x3) bound s0).getD default

theorem ref02_Ints_oo_L0_go (x0 : Bool) (x1 : List Int) (x2 : Bool) (x3 : List Int) (x4 : Int) (s0 : ref02_Ints_oo_L0_s0) : ref02_Ints_oo_L0_sel x1 x3 s0 = true → (roundG (runC E0 (cl E0) L20_0) [0, 1, 5] [4] 0) (ref02_Ints_oo_L0_enc x0 x1 x2 x3 x4 s0) = some (.normal, ref02_Ints_oo_L0_enc x0 x1 x2 x3 x4 (ref02_Ints_oo_L0_nx x1 x3 s0)) := by
  unfold ref02_Ints_oo_L0_sel ref02_Ints_oo_L0_nx
  cases h1 : tb (decide (s0.c4 < ((x1.length : Nat) : Int)))
  · intro g0
    exact absurd g0 ft
  · cases h2 : tb (inb x1.length s0.c4)
    · intro g0
      exact absurd g0 ft
    · cases h3 : tb (inb x3.length s0.c4)
      · intro g0
        exact absurd g0 ft
      · cases h4 : tb (((gt x1 s0.c4) : Int) != (gt x3 s0.c4))
        · intro _
          exact round_walk [.o 13 (fun _ => o_len_os (enc := (encI .i64)) (l := x1) (fl := true) (n := x0) (s := 1)), .b (tbE h1), .o 19 (fun _ => o_idx_os (enc := (encI .i64)) (l := x1) (fl := true) (n := x0) (s := 1) (k := .i64) (tbE h2)), .o 23 (fun _ => o_idx_os (enc := (encI .i64)) (l := x3) (fl := true) (n := x2) (s := 1) (k := .i64) (tbE h3)), .b (tbE h4)] (by kernel_rfl)
        · intro g0
          exact absurd g0 ft

def ref02_Ints_oo_L0_c0 (x1 : List Int) (x3 : List Int) (s0 : ref02_Ints_oo_L0_s0) : Bool := (bif tb (decide (s0.c4 < ((x1.length : Nat) : Int))) then (bif tb (inb x1.length s0.c4) then (bif tb (inb x3.length s0.c4) then true else false) else false) else false)

def ref02_Ints_oo_L0_c1 (x1 : List Int) (s0 : ref02_Ints_oo_L0_s0) : Bool := (bif tb (decide (s0.c4 < ((x1.length : Nat) : Int))) then false else true)

theorem ref02_Ints_oo_L0_x0 (x0 : Bool) (x1 : List Int) (x2 : Bool) (x3 : List Int) (x4 : Int) (s0 : ref02_Ints_oo_L0_s0) : ref02_Ints_oo_L0_sel x1 x3 s0 = false → ref02_Ints_oo_L0_c0 x1 x3 s0 = true → (roundG (runC E0 (cl E0) L20_0) [0, 1, 5] [4] 0) (ref02_Ints_oo_L0_enc x0 x1 x2 x3 x4 s0) = some (.ret, ([(V.d (.bool false))], [])) := by
  unfold ref02_Ints_oo_L0_sel ref02_Ints_oo_L0_c0
  cases h1 : tb (decide (s0.c4 < ((x1.length : Nat) : Int)))
  · intro g0 g1
    exact absurd g1 ft
  · cases h2 : tb (inb x1.length s0.c4)
    · intro g0 g1
      exact absurd g1 ft
    · cases h3 : tb (inb x3.length s0.c4)
      · intro g0 g1
        exact absurd g1 ft
      · cases h4 : tb (((gt x1 s0.c4) : Int) != (gt x3 s0.c4))
        · intro g0 g1
          exact absurd g0 tf
        · intro g0 g1
          exact round_walk [.o 13 (fun _ => o_len_os (enc := (encI .i64)) (l := x1) (fl := true) (n := x0) (s := 1)), .b (tbE h1), .o 19 (fun _ => o_idx_os (enc := (encI .i64)) (l := x1) (fl := true) (n := x0) (s := 1) (k := .i64) (tbE h2)), .o 23 (fun _ => o_idx_os (enc := (encI .i64)) (l := x3) (fl := true) (n := x2) (s := 1) (k := .i64) (tbE h3)), .b (tbE h4)] (by kernel_rfl)

theorem ref02_Ints_oo_L0_x1 (x0 : Bool) (x1 : List Int) (x2 : Bool) (x3 : List Int) (x4 : Int) (s0 : ref02_Ints_oo_L0_s0) : ref02_Ints_oo_L0_sel x1 x3 s0 = false → ref02_Ints_oo_L0_c0 x1 x3 s0 = false → ref02_Ints_oo_L0_c1 x1 s0 = true → (roundG (runC E0 (cl E0) L20_0) [0, 1, 5] [4] 0) (ref02_Ints_oo_L0_enc x0 x1 x2 x3 x4 s0) = some ((.exit 0), ([V.un], [])) := by
  unfold ref02_Ints_oo_L0_sel ref02_Ints_oo_L0_c0 ref02_Ints_oo_L0_c1
  cases h1 : tb (decide (s0.c4 < ((x1.length : Nat) : Int)))
  · intro g0 g1 g2
    exact round_walk [.o 13 (fun _ => o_len_os (enc := (encI .i64)) (l := x1) (fl := true) (n := x0) (s := 1)), .b (tbE h1)] (by kernel_rfl)
  · cases h2 : tb (inb x1.length s0.c4)
    · intro g0 g1 g2
      exact absurd g2 ft
    · cases h3 : tb (inb x3.length s0.c4)
      · intro g0 g1 g2
        exact absurd g2 ft
      · cases h4 : tb (((gt x1 s0.c4) : Int) != (gt x3 s0.c4))
        · intro g0 g1 g2
          exact absurd g0 tf
        · intro g0 g1 g2
          exact absurd g1 tf

theorem ref02_Ints_oo_L0_f0_0 (x0 : Bool) (x1 : List Int) (x2 : Bool) (x3 : List Int) (x4 : Int) (s : ref02_Ints_oo_L0_s0) (hok : ref02_Ints_oo_L0_ok x1 x3 s = true) (c0 : ref02_Ints_oo_L0_c0 x1 x3 (ref02_Ints_oo_L0_end x1 x3 s) = true) : loopG (roundG (runC E0 (cl E0) L20_0) [0, 1, 5] [4] 0) bound (ref02_Ints_oo_L0_enc x0 x1 x2 x3 x4 s) = some (.ret, ([(V.d (.bool false))], [])) := by
  have e : itS (ref02_Ints_oo_L0_sel x1 x3) (ref02_Ints_oo_L0_nx x1 x3) bound s = some (ref02_Ints_oo_L0_end x1 x3 s) := itS_get hok
  have f := itS_false e
  exact loop_it (ref02_Ints_oo_L0_go x0 x1 x2 x3 x4) bound s _ _ _ e (fun h => by cases h) (ref02_Ints_oo_L0_x0 x0 x1 x2 x3 x4 (ref02_Ints_oo_L0_end x1 x3 s) f c0)

theorem ref02_Ints_oo_L0_f0_1 (x0 : Bool) (x1 : List Int) (x2 : Bool) (x3 : List Int) (x4 : Int) (s : ref02_Ints_oo_L0_s0) (hok : ref02_Ints_oo_L0_ok x1 x3 s = true) (c0 : ref02_Ints_oo_L0_c0 x1 x3 (ref02_Ints_oo_L0_end x1 x3 s) = false) (c1 : ref02_Ints_oo_L0_c1 x1 (ref02_Ints_oo_L0_end x1 x3 s) = true) : loopG (roundG (runC E0 (cl E0) L20_0) [0, 1, 5] [4] 0) bound (ref02_Ints_oo_L0_enc x0 x1 x2 x3 x4 s) = some ((.exit 0), ([V.un], [])) := by
  have e : itS (ref02_Ints_oo_L0_sel x1 x3) (ref02_Ints_oo_L0_nx x1 x3) bound s = some (ref02_Ints_oo_L0_end x1 x3 s) := itS_get hok
  have f := itS_false e
  exact loop_it (ref02_Ints_oo_L0_go x0 x1 x2 x3 x4) bound s _ _ _ e (fun h => by cases h) (ref02_Ints_oo_L0_x1 x0 x1 x2 x3 x4 (ref02_Ints_oo_L0_end x1 x3 s) f c0 c1)

def ref02_Ints_oo_c0 (x1 : List Int) (x3 : List Int) : Bool := (bif tb ((((x1.length : Nat) : Int) : Int) != ((x3.length : Nat) : Int)) then true else (bif tb (ref02_Ints_oo_L0_ok x1 x3 (⟨0⟩ : ref02_Ints_oo_L0_s0)) then (bif tb (ref02_Ints_oo_L0_c0 x1 x3 (ref02_Ints_oo_L0_end x1 x3 (⟨0⟩ : ref02_Ints_oo_L0_s0))) then true else (bif tb (ref02_Ints_oo_L0_c1 x1 (ref02_Ints_oo_L0_end x1 x3 (⟨0⟩ : ref02_Ints_oo_L0_s0))) then true else false)) else false))

def ref02_Ints_oo_r0_0 (x1 : List Int) (x3 : List Int) : Bool := (bif tb ((((x1.length : Nat) : Int) : Int) != ((x3.length : Nat) : Int)) then false else (bif tb (ref02_Ints_oo_L0_c0 x1 x3 (ref02_Ints_oo_L0_end x1 x3 (⟨0⟩ : ref02_Ints_oo_L0_s0))) then false else true))

theorem ref02_Ints_oo_t0 (x0 : Bool) (x1 : List Int) (x2 : Bool) (x3 : List Int) : ref02_Ints_oo_c0 x1 x3 = true → cl E0 20 [(V.d (slD (encI .i64) true 1 x0 x1)), (V.d (slD (encI .i64) true 1 x2 x3))] [] = some ([(V.d (.bool (ref02_Ints_oo_r0_0 x1 x3)))], []) := by
  unfold ref02_Ints_oo_c0 ref02_Ints_oo_r0_0
  cases h1 : tb ((((x1.length : Nat) : Int) : Int) != ((x3.length : Nat) : Int))
  · cases h2 : tb (ref02_Ints_oo_L0_ok x1 x3 (⟨0⟩ : ref02_Ints_oo_L0_s0))
    · intro g0
      exact absurd g0 ft
    · cases h3 : tb (ref02_Ints_oo_L0_c0 x1 x3 (ref02_Ints_oo_L0_end x1 x3 (⟨0⟩ : ref02_Ints_oo_L0_s0)))
      · cases h4 : tb (ref02_Ints_oo_L0_c1 x1 (ref02_Ints_oo_L0_end x1 x3 (⟨0⟩ : ref02_Ints_oo_L0_s0)))
        · intro g0
          exact absurd g0 ft
        · intro g0
          exact w20 [.o 7 (fun _ => o_len_os (enc := (encI .i64)) (l := x1) (fl := true) (n := x0) (s := 1)), .o 9 (fun _ => o_len_os (enc := (encI .i64)) (l := x3) (fl := true) (n := x2) (s := 1)), .b (tbE h1), .l (ref02_Ints_oo_L0_f0_1 x0 x1 x2 x3 0 (⟨0⟩ : ref02_Ints_oo_L0_s0) (tbE h2) (tbE h3) (tbE h4))] (by kernel_rfl)
      · intro g0
        exact w20 [.o 7 (fun _ => o_len_os (enc := (encI .i64)) (l := x1) (fl := true) (n := x0) (s := 1)), .o 9 (fun _ => o_len_os (enc := (encI .i64)) (l := x3) (fl := true) (n := x2) (s := 1)), .b (tbE h1), .l (ref02_Ints_oo_L0_f0_0 x0 x1 x2 x3 0 (⟨0⟩ : ref02_Ints_oo_L0_s0) (tbE h2) (tbE h3))] (by kernel_rfl)
  · intro g0
    exact w20 [.o 7 (fun _ => o_len_os (enc := (encI .i64)) (l := x1) (fl := true) (n := x0) (s := 1)), .o 9 (fun _ => o_len_os (enc := (encI .i64)) (l := x3) (fl := true) (n := x2) (s := 1)), .b (tbE h1)] (by kernel_rfl)

def ref02_Right_o_c0 (x1 : List Int) : Bool := (bif tb (ref01_All_o_c0 x1) then true else false)

def ref02_Right_o_r0_0 (x1 : List Int) : Bool := (bif tb (ref01_All_o_r0_0 x1) then (decide (((x1.length : Nat) : Int) ≤ 16)) else false)

theorem ref02_Right_o_t0 (x0 : Bool) (x1 : List Int) : ref02_Right_o_c0 x1 = true → cl E0 64 [(V.d (slD (encI .i64) true 1 x0 x1))] [] = some ([(V.d (.bool (ref02_Right_o_r0_0 x1)))], []) := by
  unfold ref02_Right_o_c0 ref02_Right_o_r0_0
  cases h1 : tb (ref01_All_o_c0 x1)
  · intro g0
    exact absurd g0 ft
  · cases h2 : tb (ref01_All_o_r0_0 x1)
    · intro g0
      exact w64 [.c (ref01_All_o_t0 x0 x1 (tbE h1)), .b (tbE h2)] (by kernel_rfl)
    · intro g0
      exact w64 [.c (ref01_All_o_t0 x0 x1 (tbE h1)), .b (tbE h2), .o 9 (fun _ => o_len_os (enc := (encI .i64)) (l := x1) (fl := true) (n := x0) (s := 1))] (by kernel_rfl)

def ref02_Mid_o_S0_c0 (x1 : List Int) (x2 : Bool) : Bool := (bif tb (x2) then (bif tb (decide (((x1.length : Nat) : Int) < 1)) then true else (bif tb (decide (4 < ((x1.length : Nat) : Int))) then true else false)) else true)

theorem ref02_Mid_o_S0_t0 (x0 : Bool) (x1 : List Int) (x2 : Bool) : ref02_Mid_o_S0_c0 x1 x2 = true → segG (runC E0 (cl E0) S56_0) [0, 4] [2, 3] [0] 0 ([(V.d (slD (encI .i64) true 1 x0 x1)), (V.d (.bool x2))], []) = some (.ret, ([(V.d (.int .i64 0)), (V.d (.bool false))], [])) := by
  unfold ref02_Mid_o_S0_c0
  cases h1 : tb (x2)
  · intro g0
    exact seg_walk [.b (notF (tbE h1))] (by kernel_rfl)
  · cases h2 : tb (decide (((x1.length : Nat) : Int) < 1))
    · cases h3 : tb (decide (4 < ((x1.length : Nat) : Int)))
      · intro g0
        exact absurd g0 ft
      · intro g0
        exact seg_walk [.b (notT (tbE h1)), .o 12 (fun _ => o_len_os (enc := (encI .i64)) (l := x1) (fl := true) (n := x0) (s := 1)), .b (tbE h2), .o 17 (fun _ => o_len_os (enc := (encI .i64)) (l := x1) (fl := true) (n := x0) (s := 1)), .b (tbE h3)] (by kernel_rfl)
    · intro g0
      exact seg_walk [.b (notT (tbE h1)), .o 12 (fun _ => o_len_os (enc := (encI .i64)) (l := x1) (fl := true) (n := x0) (s := 1)), .b (tbE h2)] (by kernel_rfl)

theorem ref02_Mid_o_S0_t1 (x0 : Bool) (x1 : List Int) (x2 : Bool) : ref02_Mid_o_S0_c0 x1 x2 = false → segG (runC E0 (cl E0) S56_0) [0, 4] [2, 3] [0] 0 ([(V.d (slD (encI .i64) true 1 x0 x1)), (V.d (.bool x2))], []) = some (.normal, ([(V.d (slD (encI .i64) true 1 x0 x1))], [])) := by
  unfold ref02_Mid_o_S0_c0
  cases h1 : tb (x2)
  · intro g0
    exact absurd g0 tf
  · cases h2 : tb (decide (((x1.length : Nat) : Int) < 1))
    · cases h3 : tb (decide (4 < ((x1.length : Nat) : Int)))
      · intro g0
        exact seg_walk [.b (notT (tbE h1)), .o 12 (fun _ => o_len_os (enc := (encI .i64)) (l := x1) (fl := true) (n := x0) (s := 1)), .b (tbE h2), .o 17 (fun _ => o_len_os (enc := (encI .i64)) (l := x1) (fl := true) (n := x0) (s := 1)), .b (tbE h3)] (by kernel_rfl)
      · intro g0
        exact absurd g0 tf
    · intro g0
      exact absurd g0 tf

def ref02_Sort_o_S0_c0 (x3 : Bool) : Bool := (bif tb (x3) then true else false)

theorem ref02_Sort_o_S0_t0 (x0 : Bool) (x1 : Bool) (x2 : List Int) (x3 : Bool) : ref02_Sort_o_S0_c0 x3 = true → segG (runC E0 (cl E0) S65_0) [0, 3] [2] [0] 1 ([(V.d (slD (encI .i64) true 1 x1 x2)), (V.d (.bool x3))], [(Blk.flat 3 1 [] x0)]) = some (.normal, ([(V.d (slD (encI .i64) true 1 x1 x2))], [(Blk.flat 3 1 [] x0)])) := by
  unfold ref02_Sort_o_S0_c0
  cases h1 : tb (x3)
  · intro g0
    exact absurd g0 ft
  · intro g0
    exact seg_walk [.b (notT (tbE h1))] (by kernel_rfl)

theorem ref02_Sort_o_S0_t1 (x0 : Bool) (x1 : Bool) (x2 : List Int) (x3 : Bool) : ref02_Sort_o_S0_c0 x3 = false → segG (runC E0 (cl E0) S65_0) [0, 3] [2] [0] 1 ([(V.d (slD (encI .i64) true 1 x1 x2)), (V.d (.bool x3))], [(Blk.flat 3 1 [] x0)]) = some (.ret, ([(V.so true 1 0)], [(Blk.flat 3 1 [] x0), (Blk.flat 3 1 [] false)])) := by
  unfold ref02_Sort_o_S0_c0
  cases h1 : tb (x3)
  · intro g0
    exact seg_walk [.b (notF (tbE h1))] (by kernel_rfl)
  · intro g0
    exact absurd g0 tf

def ref02_Sort_o_S1_c0 (x4 : List Int) (x6 : Int) : Bool := (bif tb (decide (x6 < ((x4.length : Nat) : Int))) then true else false)

theorem ref02_Sort_o_S1_t0 (x0 : List Int) (x1 : Bool) (x2 : Bool) (x3 : Bool) (x4 : List Int) (x5 : Bool) (x6 : Int) : ref02_Sort_o_S1_c0 x4 x6 = true → segG (runC E0 (cl E0) S65_1) [0, 4, 5] [4] [0, 4, 5] 2 ([(V.d (slD (encI .i64) true 1 x3 x4)), (V.so x5 1 x0.length), (V.d (.int .i64 x6))], [(Blk.flat 3 1 [] x1), (Blk.flat 3 1 (List.map (encI .i64) x0) x2)]) = some (.normal, ([(V.d (slD (encI .i64) true 1 x3 x4)), (V.so x5 1 x0.length), (V.d (.int .i64 x6))], [(Blk.flat 3 1 [] x1), (Blk.flat 3 1 (List.map (encI .i64) x0) x2)])) := by
  unfold ref02_Sort_o_S1_c0
  cases h1 : tb (decide (x6 < ((x4.length : Nat) : Int)))
  · intro g0
    exact absurd g0 ft
  · intro g0
    exact seg_walk [.o 15 (fun _ => o_len_os (enc := (encI .i64)) (l := x4) (fl := true) (n := x3) (s := 1)), .b (tbE h1)] (by kernel_rfl)

theorem ref02_Sort_o_S1_t1 (x0 : List Int) (x1 : Bool) (x2 : Bool) (x3 : Bool) (x4 : List Int) (x5 : Bool) (x6 : Int) : ref02_Sort_o_S1_c0 x4 x6 = false → segG (runC E0 (cl E0) S65_1) [0, 4, 5] [4] [0, 4, 5] 2 ([(V.d (slD (encI .i64) true 1 x3 x4)), (V.so x5 1 x0.length), (V.d (.int .i64 x6))], [(Blk.flat 3 1 [] x1), (Blk.flat 3 1 (List.map (encI .i64) x0) x2)]) = some ((.exit 0), ([(V.so x5 1 x0.length)], [(Blk.flat 3 1 [] x1), (Blk.flat 3 1 (List.map (encI .i64) x0) x2)])) := by
  unfold ref02_Sort_o_S1_c0
  cases h1 : tb (decide (x6 < ((x4.length : Nat) : Int)))
  · intro g0
    exact seg_walk [.o 15 (fun _ => o_len_os (enc := (encI .i64)) (l := x4) (fl := true) (n := x3) (s := 1)), .b (tbE h1)] (by kernel_rfl)
  · intro g0
    exact absurd g0 tf

structure ref02_Sort_o_L2_s0 where
  c4 : Bool
  c5 : Bool
  c6 : Int
  c10 : List Int
  deriving Inhabited

def ref02_Sort_o_L2_enc (x0 : List Int) (x1 : List Int) (x2 : Bool) (x3 : Bool) (x4 : Bool) (x5 : Bool) (x6 : List Int) (x7 : Bool) (x8 : Int) (x9 : Bool) (x10 : Bool) (x11 : Int) (s0 : ref02_Sort_o_L2_s0) : List V × Mem := ([(V.d (slD (encI .i64) true 1 x5 x6)), (V.so x7 1 x0.length), (V.d (.int .i64 x8)), (V.so s0.c4 2 s0.c10.length), (V.d (.bool s0.c5)), (V.d (.int .i64 s0.c6))], [(Blk.flat 3 1 [] x2), (Blk.flat 3 1 (List.map (encI .i64) x0) x3), (Blk.flat 3 1 (List.map (encI .i64) s0.c10) false)])

def ref02_Sort_o_L2_sel (x0 : List Int) (x6 : List Int) (x8 : Int) (s0 : ref02_Sort_o_L2_s0) : Bool := (bif tb (decide (s0.c6 < ((x0.length : Nat) : Int))) then (bif tb (s0.c5) then (bif tb (inb x0.length s0.c6) then (bif tb (decide ((s0.c10.length + [(gt x0 s0.c6)].length) * 8 ≤ 140737488355328)) then true else false) else false) else (bif tb (inb x0.length s0.c6) then (bif tb (inb x6.length x8) then (bif tb (decide ((gt x6 x8) < (gt x0 s0.c6))) then (bif tb (decide ((s0.c10.length + [(gt x6 x8)].length) * 8 ≤ 140737488355328)) then (bif tb (decide (((s0.c10 ++ [(gt x6 x8)]).length + [(gt x0 s0.c6)].length) * 8 ≤ 140737488355328)) then true else false) else false) else (bif tb (decide ((s0.c10.length + [(gt x0 s0.c6)].length) * 8 ≤ 140737488355328)) then true else false)) else false) else false)) else false)

def ref02_Sort_o_L2_nx (x0 : List Int) (x6 : List Int) (x8 : Int) (s0 : ref02_Sort_o_L2_s0) : ref02_Sort_o_L2_s0 := ⟨false, (bif tb (s0.c5) then s0.c5 else (bif tb (decide ((gt x6 x8) < (gt x0 s0.c6))) then true else s0.c5)), (wi (s0.c6 + 1)), (bif tb (s0.c5) then (s0.c10 ++ [(gt x0 s0.c6)]) else (bif tb (decide ((gt x6 x8) < (gt x0 s0.c6))) then ((s0.c10 ++ [(gt x6 x8)]) ++ [(gt x0 s0.c6)]) else (s0.c10 ++ [(gt x0 s0.c6)])))⟩

def ref02_Sort_o_L2_ok (x0 : List Int) (x6 : List Int) (x8 : Int) (s0 : ref02_Sort_o_L2_s0) : Bool := (itS (ref02_Sort_o_L2_sel x0 x6 x8) (ref02_Sort_o_L2_nx x0 x6 x8) bound s0).isSome
def ref02_Sort_o_L2_end (x0 : List Int) (x6 : List Int) (x8 : Int) (s0 : ref02_Sort_o_L2_s0) : ref02_Sort_o_L2_s0 := (itS (ref02_Sort_o_L2_sel x0 x6 x8) (ref02_Sort_o_L2_nx x0 x6 x8) bound s0).getD default

theorem ref02_Sort_o_L2_go (x0 : List Int) (x1 : List Int) (x2 : Bool) (x3 : Bool) (x4 : Bool) (x5 : Bool) (x6 : List Int) (x7 : Bool) (x8 : Int) (x9 : Bool) (x10 : Bool) (x11 : Int) (s0 : ref02_Sort_o_L2_s0) : ref02_Sort_o_L2_sel x0 x6 x8 s0 = true → (roundG (runC E0 (cl E0) L65_2) [0, 4, 5, 6, 7, 8] [0, 5, 6, 7] 3) (ref02_Sort_o_L2_enc x0 x1 x2 x3 x4 x5 x6 x7 x8 x9 x10 x11 s0) = some (.normal, ref02_Sort_o_L2_enc x0 x1 x2 x3 x4 x5 x6 x7 x8 x9 x10 x11 (ref02_Sort_o_L2_nx x0 x6 x8 s0)) := by
  unfold ref02_Sort_o_L2_sel ref02_Sort_o_L2_nx
  cases h1 : tb (decide (s0.c6 < ((x0.length : Nat) : Int)))
  · intro g0
    exact absurd g0 ft
  · cases h2 : tb (s0.c5)
    · cases h3 : tb (inb x0.length s0.c6)
      · intro g0
        exact absurd g0 ft
      · cases h4 : tb (inb x6.length x8)
        · intro g0
          exact absurd g0 ft
        · cases h5 : tb (decide ((gt x6 x8) < (gt x0 s0.c6)))
          · cases h6 : tb (decide ((s0.c10.length + [(gt x0 s0.c6)].length) * 8 ≤ 140737488355328))
            · intro g0
              exact absurd g0 ft
            · intro _
              exact round_walk [.b (tbE h1), .b (notF (tbE h2)), .m 30 (o_idx_so (m := [(Blk.flat 3 1 [] true), (Blk.flat 3 1 (List.map (encI .i64) x0) true), (Blk.flat 3 1 (List.map (encI .i64) s0.c10) true)]) (b := x7) (id := 1) (n := x0.length) (s := 1) (k := .i64) (by kernel_rfl) (tbE h3)), .m 31 (o_load_L (m := [(Blk.flat 3 1 [] true), (Blk.flat 3 1 (List.map (encI .i64) x0) true), (Blk.flat 3 1 (List.map (encI .i64) s0.c10) true)]) (enc := (encI .i64)) (l := x0) (id := 1) (e := 3) (s := 1) (off := 0) (size := 1) (p := true) (agg := false) (i := s0.c6) (v := (V.d (.int .i64 (gt x0 s0.c6)))) (n := x0.length) (Nat.beq_refl _) (by kernel_rfl) (tbE h3) (by kernel_rfl)), .o 34 (fun _ => o_idx_os (enc := (encI .i64)) (l := x6) (fl := true) (n := x5) (s := 1) (k := .i64) (tbE h4)), .b (tbE h5), .m 48 (o_idx_so (m := [(Blk.flat 3 1 [] x2), (Blk.flat 3 1 (List.map (encI .i64) x0) x3), (Blk.flat 3 1 (List.map (encI .i64) s0.c10) false)]) (b := x7) (id := 1) (n := x0.length) (s := 1) (k := .i64) (by kernel_rfl) (tbE h3)), .m 49 (o_load_L (m := [(Blk.flat 3 1 [] x2), (Blk.flat 3 1 (List.map (encI .i64) x0) x3), (Blk.flat 3 1 (List.map (encI .i64) s0.c10) false)]) (enc := (encI .i64)) (l := x0) (id := 1) (e := 3) (s := 1) (off := 0) (size := 1) (p := x3) (agg := false) (i := s0.c6) (v := (V.d (.int .i64 (gt x0 s0.c6)))) (n := x0.length) (Nat.beq_refl _) (by kernel_rfl) (tbE h3) (by kernel_rfl)), .m 51 (o_app_so (nl := s0.c4) (m := [(Blk.flat 3 1 [] x2), (Blk.flat 3 1 (List.map (encI .i64) x0) x3), (Blk.flat 3 1 (List.map (encI .i64) s0.c10) false), (Blk.flat 3 1 [[(.int .i64 (gt x0 s0.c6))]] false)]) (enc := (encI .i64)) (l0 := s0.c10) (l1 := [(gt x0 s0.c6)]) (id := 2) (e := 3) (s := 1) (bytes := 8) (x := (V.so false 3 1)) (n := s0.c10.length) (Nat.beq_refl _) (by kernel_rfl) (by kernel_rfl) (by kernel_rfl) (tbE h6))] (by kernel_rfl)
          · cases h6 : tb (decide ((s0.c10.length + [(gt x6 x8)].length) * 8 ≤ 140737488355328))
            · intro g0
              exact absurd g0 ft
            · cases h7 : tb (decide (((s0.c10 ++ [(gt x6 x8)]).length + [(gt x0 s0.c6)].length) * 8 ≤ 140737488355328))
              · intro g0
                exact absurd g0 ft
              · intro _
                exact round_walk [.b (tbE h1), .b (notF (tbE h2)), .m 30 (o_idx_so (m := [(Blk.flat 3 1 [] true), (Blk.flat 3 1 (List.map (encI .i64) x0) true), (Blk.flat 3 1 (List.map (encI .i64) s0.c10) true)]) (b := x7) (id := 1) (n := x0.length) (s := 1) (k := .i64) (by kernel_rfl) (tbE h3)), .m 31 (o_load_L (m := [(Blk.flat 3 1 [] true), (Blk.flat 3 1 (List.map (encI .i64) x0) true), (Blk.flat 3 1 (List.map (encI .i64) s0.c10) true)]) (enc := (encI .i64)) (l := x0) (id := 1) (e := 3) (s := 1) (off := 0) (size := 1) (p := true) (agg := false) (i := s0.c6) (v := (V.d (.int .i64 (gt x0 s0.c6)))) (n := x0.length) (Nat.beq_refl _) (by kernel_rfl) (tbE h3) (by kernel_rfl)), .o 34 (fun _ => o_idx_os (enc := (encI .i64)) (l := x6) (fl := true) (n := x5) (s := 1) (k := .i64) (tbE h4)), .b (tbE h5), .o 41 (fun _ => o_idx_os (enc := (encI .i64)) (l := x6) (fl := true) (n := x5) (s := 1) (k := .i64) (tbE h4)), .m 44 (o_app_so (nl := s0.c4) (m := [(Blk.flat 3 1 [] x2), (Blk.flat 3 1 (List.map (encI .i64) x0) x3), (Blk.flat 3 1 (List.map (encI .i64) s0.c10) false), (Blk.flat 3 1 [[(.int .i64 (gt x6 x8))]] false)]) (enc := (encI .i64)) (l0 := s0.c10) (l1 := [(gt x6 x8)]) (id := 2) (e := 3) (s := 1) (bytes := 8) (x := (V.so false 3 1)) (n := s0.c10.length) (Nat.beq_refl _) (by kernel_rfl) (by kernel_rfl) (by kernel_rfl) (tbE h6)), .m 48 (o_idx_so (m := [(Blk.flat 3 1 [] x2), (Blk.flat 3 1 (List.map (encI .i64) x0) x3), (Blk.flat 3 1 (List.map (encI .i64) (s0.c10 ++ [(gt x6 x8)])) false), (Blk.flat 3 1 [[(.int .i64 (gt x6 x8))]] false)]) (b := x7) (id := 1) (n := x0.length) (s := 1) (k := .i64) (by kernel_rfl) (tbE h3)), .m 49 (o_load_L (m := [(Blk.flat 3 1 [] x2), (Blk.flat 3 1 (List.map (encI .i64) x0) x3), (Blk.flat 3 1 (List.map (encI .i64) (s0.c10 ++ [(gt x6 x8)])) false), (Blk.flat 3 1 [[(.int .i64 (gt x6 x8))]] false)]) (enc := (encI .i64)) (l := x0) (id := 1) (e := 3) (s := 1) (off := 0) (size := 1) (p := x3) (agg := false) (i := s0.c6) (v := (V.d (.int .i64 (gt x0 s0.c6)))) (n := x0.length) (Nat.beq_refl _) (by kernel_rfl) (tbE h3) (by kernel_rfl)), .m 51 (o_app_sf (m := [(Blk.flat 3 1 [] x2), (Blk.flat 3 1 (List.map (encI .i64) x0) x3), (Blk.flat 3 1 (List.map (encI .i64) (s0.c10 ++ [(gt x6 x8)])) false), (Blk.flat 3 1 [[(.int .i64 (gt x6 x8))]] false), (Blk.flat 3 1 [[(.int .i64 (gt x0 s0.c6))]] false)]) (enc := (encI .i64)) (l0 := (s0.c10 ++ [(gt x6 x8)])) (l1 := [(gt x0 s0.c6)]) (id := 2) (e := 3) (s := 1) (bytes := 8) (x := (V.so false 4 1)) (n := ((s0.c10 ++ [(gt x6 x8)]).length)) (Nat.beq_refl _) (by kernel_rfl) (by kernel_rfl) (by kernel_rfl) (tbE h7))] (by kernel_rfl)
    · cases h3 : tb (inb x0.length s0.c6)
      · intro g0
        exact absurd g0 ft
      · cases h4 : tb (decide ((s0.c10.length + [(gt x0 s0.c6)].length) * 8 ≤ 140737488355328))
        · intro g0
          exact absurd g0 ft
        · intro _
          exact round_walk [.b (tbE h1), .b (notT (tbE h2)), .m 48 (o_idx_so (m := [(Blk.flat 3 1 [] x2), (Blk.flat 3 1 (List.map (encI .i64) x0) x3), (Blk.flat 3 1 (List.map (encI .i64) s0.c10) false)]) (b := x7) (id := 1) (n := x0.length) (s := 1) (k := .i64) (by kernel_rfl) (tbE h3)), .m 49 (o_load_L (m := [(Blk.flat 3 1 [] x2), (Blk.flat 3 1 (List.map (encI .i64) x0) x3), (Blk.flat 3 1 (List.map (encI .i64) s0.c10) false)]) (enc := (encI .i64)) (l := x0) (id := 1) (e := 3) (s := 1) (off := 0) (size := 1) (p := x3) (agg := false) (i := s0.c6) (v := (V.d (.int .i64 (gt x0 s0.c6)))) (n := x0.length) (Nat.beq_refl _) (by kernel_rfl) (tbE h3) (by kernel_rfl)), .m 51 (o_app_so (nl := s0.c4) (m := [(Blk.flat 3 1 [] x2), (Blk.flat 3 1 (List.map (encI .i64) x0) x3), (Blk.flat 3 1 (List.map (encI .i64) s0.c10) false), (Blk.flat 3 1 [[(.int .i64 (gt x0 s0.c6))]] false)]) (enc := (encI .i64)) (l0 := s0.c10) (l1 := [(gt x0 s0.c6)]) (id := 2) (e := 3) (s := 1) (bytes := 8) (x := (V.so false 3 1)) (n := s0.c10.length) (Nat.beq_refl _) (by kernel_rfl) (by kernel_rfl) (by kernel_rfl) (tbE h4))] (by kernel_rfl)

def ref02_Sort_o_L2_c0 (x0 : List Int) (s0 : ref02_Sort_o_L2_s0) : Bool := (bif tb (decide (s0.c6 < ((x0.length : Nat) : Int))) then false else true)

theorem ref02_Sort_o_L2_x0 (x0 : List Int) (x1 : List Int) (x2 : Bool) (x3 : Bool) (x4 : Bool) (x5 : Bool) (x6 : List Int) (x7 : Bool) (x8 : Int) (x9 : Bool) (x10 : Bool) (x11 : Int) (s0 : ref02_Sort_o_L2_s0) : ref02_Sort_o_L2_sel x0 x6 x8 s0 = false → ref02_Sort_o_L2_c0 x0 s0 = true → (roundG (runC E0 (cl E0) L65_2) [0, 4, 5, 6, 7, 8] [0, 5, 6, 7] 3) (ref02_Sort_o_L2_enc x0 x1 x2 x3 x4 x5 x6 x7 x8 x9 x10 x11 s0) = some ((.exit 2), ([(V.d (slD (encI .i64) true 1 x5 x6)), (V.d (.int .i64 x8)), (V.so s0.c4 2 s0.c10.length), (V.d (.bool s0.c5))], [(Blk.flat 3 1 [] x2), (Blk.flat 3 1 (List.map (encI .i64) x0) x3), (Blk.flat 3 1 (List.map (encI .i64) s0.c10) false)])) := by
  unfold ref02_Sort_o_L2_sel ref02_Sort_o_L2_c0
  cases h1 : tb (decide (s0.c6 < ((x0.length : Nat) : Int)))
  · intro g0 g1
    exact round_walk [.b (tbE h1)] (by kernel_rfl)
  · cases h2 : tb (s0.c5)
    · cases h3 : tb (inb x0.length s0.c6)
      · intro g0 g1
        exact absurd g1 ft
      · cases h4 : tb (inb x6.length x8)
        · intro g0 g1
          exact absurd g1 ft
        · cases h5 : tb (decide ((gt x6 x8) < (gt x0 s0.c6)))
          · cases h6 : tb (decide ((s0.c10.length + [(gt x0 s0.c6)].length) * 8 ≤ 140737488355328))
            · intro g0 g1
              exact absurd g1 ft
            · intro g0 g1
              exact absurd g0 tf
          · cases h6 : tb (decide ((s0.c10.length + [(gt x6 x8)].length) * 8 ≤ 140737488355328))
            · intro g0 g1
              exact absurd g1 ft
            · cases h7 : tb (decide (((s0.c10 ++ [(gt x6 x8)]).length + [(gt x0 s0.c6)].length) * 8 ≤ 140737488355328))
              · intro g0 g1
                exact absurd g1 ft
              · intro g0 g1
                exact absurd g0 tf
    · cases h3 : tb (inb x0.length s0.c6)
      · intro g0 g1
        exact absurd g1 ft
      · cases h4 : tb (decide ((s0.c10.length + [(gt x0 s0.c6)].length) * 8 ≤ 140737488355328))
        · intro g0 g1
          exact absurd g1 ft
        · intro g0 g1
          exact absurd g0 tf

theorem ref02_Sort_o_L2_f0_0 (x0 : List Int) (x1 : List Int) (x2 : Bool) (x3 : Bool) (x4 : Bool) (x5 : Bool) (x6 : List Int) (x7 : Bool) (x8 : Int) (x9 : Bool) (x10 : Bool) (x11 : Int) (s : ref02_Sort_o_L2_s0) (hok : ref02_Sort_o_L2_ok x0 x6 x8 s = true) (c0 : ref02_Sort_o_L2_c0 x0 (ref02_Sort_o_L2_end x0 x6 x8 s) = true) : loopG (roundG (runC E0 (cl E0) L65_2) [0, 4, 5, 6, 7, 8] [0, 5, 6, 7] 3) bound (ref02_Sort_o_L2_enc x0 x1 x2 x3 x4 x5 x6 x7 x8 x9 x10 x11 s) = some ((.exit 2), ([(V.d (slD (encI .i64) true 1 x5 x6)), (V.d (.int .i64 x8)), (V.so ((ref02_Sort_o_L2_end x0 x6 x8 s).c4) 2 (((ref02_Sort_o_L2_end x0 x6 x8 s).c10).length)), (V.d (.bool ((ref02_Sort_o_L2_end x0 x6 x8 s).c5)))], [(Blk.flat 3 1 [] x2), (Blk.flat 3 1 (List.map (encI .i64) x0) x3), (Blk.flat 3 1 (List.map (encI .i64) ((ref02_Sort_o_L2_end x0 x6 x8 s).c10)) false)])) := by
  have e : itS (ref02_Sort_o_L2_sel x0 x6 x8) (ref02_Sort_o_L2_nx x0 x6 x8) bound s = some (ref02_Sort_o_L2_end x0 x6 x8 s) := itS_get hok
  have f := itS_false e
  exact loop_it (ref02_Sort_o_L2_go x0 x1 x2 x3 x4 x5 x6 x7 x8 x9 x10 x11) bound s _ _ _ e (fun h => by cases h) (ref02_Sort_o_L2_x0 x0 x1 x2 x3 x4 x5 x6 x7 x8 x9 x10 x11 (ref02_Sort_o_L2_end x0 x6 x8 s) f c0)

def ref02_Sort_o_S1_1_c0 (x6 : List Int) (x8 : Int) : Bool := (bif tb (decide (x8 < ((x6.length : Nat) : Int))) then true else false)

theorem ref02_Sort_o_S1_1_t0 (x0 : List Int) (x1 : List Int) (x2 : Bool) (x3 : Bool) (x4 : Bool) (x5 : Bool) (x6 : List Int) (x7 : Bool) (x8 : Int) : ref02_Sort_o_S1_1_c0 x6 x8 = true → segG (runC E0 (cl E0) S65_1) [0, 4, 5] [4] [0, 4, 5] 3 ([(V.d (slD (encI .i64) true 1 x5 x6)), (V.so x7 2 x1.length), (V.d (.int .i64 x8))], [(Blk.flat 3 1 [] x2), (Blk.flat 3 1 (List.map (encI .i64) x0) x3), (Blk.flat 3 1 (List.map (encI .i64) x1) x4)]) = some (.normal, ([(V.d (slD (encI .i64) true 1 x5 x6)), (V.so x7 2 x1.length), (V.d (.int .i64 x8))], [(Blk.flat 3 1 [] x2), (Blk.flat 3 1 (List.map (encI .i64) x0) x3), (Blk.flat 3 1 (List.map (encI .i64) x1) x4)])) := by
  unfold ref02_Sort_o_S1_1_c0
  cases h1 : tb (decide (x8 < ((x6.length : Nat) : Int)))
  · intro g0
    exact absurd g0 ft
  · intro g0
    exact seg_walk [.o 15 (fun _ => o_len_os (enc := (encI .i64)) (l := x6) (fl := true) (n := x5) (s := 1)), .b (tbE h1)] (by kernel_rfl)

theorem ref02_Sort_o_S1_1_t1 (x0 : List Int) (x1 : List Int) (x2 : Bool) (x3 : Bool) (x4 : Bool) (x5 : Bool) (x6 : List Int) (x7 : Bool) (x8 : Int) : ref02_Sort_o_S1_1_c0 x6 x8 = false → segG (runC E0 (cl E0) S65_1) [0, 4, 5] [4] [0, 4, 5] 3 ([(V.d (slD (encI .i64) true 1 x5 x6)), (V.so x7 2 x1.length), (V.d (.int .i64 x8))], [(Blk.flat 3 1 [] x2), (Blk.flat 3 1 (List.map (encI .i64) x0) x3), (Blk.flat 3 1 (List.map (encI .i64) x1) x4)]) = some ((.exit 0), ([(V.so x7 2 x1.length)], [(Blk.flat 3 1 [] x2), (Blk.flat 3 1 (List.map (encI .i64) x0) x3), (Blk.flat 3 1 (List.map (encI .i64) x1) x4)])) := by
  unfold ref02_Sort_o_S1_1_c0
  cases h1 : tb (decide (x8 < ((x6.length : Nat) : Int)))
  · intro g0
    exact seg_walk [.o 15 (fun _ => o_len_os (enc := (encI .i64)) (l := x6) (fl := true) (n := x5) (s := 1)), .b (tbE h1)] (by kernel_rfl)
  · intro g0
    exact absurd g0 tf

structure ref02_Sort_o_L2_1_s0 where
  c4 : Bool
  c5 : Bool
  c6 : Int
  c12 : List Int
  deriving Inhabited

def ref02_Sort_o_L2_1_enc (x0 : List Int) (x1 : List Int) (x2 : List Int) (x3 : Bool) (x4 : Bool) (x5 : Bool) (x6 : Bool) (x7 : Bool) (x8 : List Int) (x9 : Bool) (x10 : Int) (x11 : Bool) (x12 : Bool) (x13 : Int) (s0 : ref02_Sort_o_L2_1_s0) : List V × Mem := ([(V.d (slD (encI .i64) true 1 x7 x8)), (V.so x9 2 x1.length), (V.d (.int .i64 x10)), (V.so s0.c4 3 s0.c12.length), (V.d (.bool s0.c5)), (V.d (.int .i64 s0.c6))], [(Blk.flat 3 1 [] x3), (Blk.flat 3 1 (List.map (encI .i64) x0) x4), (Blk.flat 3 1 (List.map (encI .i64) x1) x5), (Blk.flat 3 1 (List.map (encI .i64) s0.c12) false)])

def ref02_Sort_o_L2_1_sel (x1 : List Int) (x8 : List Int) (x10 : Int) (s0 : ref02_Sort_o_L2_1_s0) : Bool := (bif tb (decide (s0.c6 < ((x1.length : Nat) : Int))) then (bif tb (s0.c5) then (bif tb (inb x1.length s0.c6) then (bif tb (decide ((s0.c12.length + [(gt x1 s0.c6)].length) * 8 ≤ 140737488355328)) then true else false) else false) else (bif tb (inb x1.length s0.c6) then (bif tb (inb x8.length x10) then (bif tb (decide ((gt x8 x10) < (gt x1 s0.c6))) then (bif tb (decide ((s0.c12.length + [(gt x8 x10)].length) * 8 ≤ 140737488355328)) then (bif tb (decide (((s0.c12 ++ [(gt x8 x10)]).length + [(gt x1 s0.c6)].length) * 8 ≤ 140737488355328)) then true else false) else false) else (bif tb (decide ((s0.c12.length + [(gt x1 s0.c6)].length) * 8 ≤ 140737488355328)) then true else false)) else false) else false)) else false)

def ref02_Sort_o_L2_1_nx (x1 : List Int) (x8 : List Int) (x10 : Int) (s0 : ref02_Sort_o_L2_1_s0) : ref02_Sort_o_L2_1_s0 := ⟨false, (bif tb (s0.c5) then s0.c5 else (bif tb (decide ((gt x8 x10) < (gt x1 s0.c6))) then true else s0.c5)), (wi (s0.c6 + 1)), (bif tb (s0.c5) then (s0.c12 ++ [(gt x1 s0.c6)]) else (bif tb (decide ((gt x8 x10) < (gt x1 s0.c6))) then ((s0.c12 ++ [(gt x8 x10)]) ++ [(gt x1 s0.c6)]) else (s0.c12 ++ [(gt x1 s0.c6)])))⟩

def ref02_Sort_o_L2_1_ok (x1 : List Int) (x8 : List Int) (x10 : Int) (s0 : ref02_Sort_o_L2_1_s0) : Bool := (itS (ref02_Sort_o_L2_1_sel x1 x8 x10) (ref02_Sort_o_L2_1_nx x1 x8 x10) bound s0).isSome
def ref02_Sort_o_L2_1_end (x1 : List Int) (x8 : List Int) (x10 : Int) (s0 : ref02_Sort_o_L2_1_s0) : ref02_Sort_o_L2_1_s0 := (itS (ref02_Sort_o_L2_1_sel x1 x8 x10) (ref02_Sort_o_L2_1_nx x1 x8 x10) bound s0).getD default

theorem ref02_Sort_o_L2_1_go (x0 : List Int) (x1 : List Int) (x2 : List Int) (x3 : Bool) (x4 : Bool) (x5 : Bool) (x6 : Bool) (x7 : Bool) (x8 : List Int) (x9 : Bool) (x10 : Int) (x11 : Bool) (x12 : Bool) (x13 : Int) (s0 : ref02_Sort_o_L2_1_s0) : ref02_Sort_o_L2_1_sel x1 x8 x10 s0 = true → (roundG (runC E0 (cl E0) L65_2) [0, 4, 5, 6, 7, 8] [0, 5, 6, 7] 4) (ref02_Sort_o_L2_1_enc x0 x1 x2 x3 x4 x5 x6 x7 x8 x9 x10 x11 x12 x13 s0) = some (.normal, ref02_Sort_o_L2_1_enc x0 x1 x2 x3 x4 x5 x6 x7 x8 x9 x10 x11 x12 x13 (ref02_Sort_o_L2_1_nx x1 x8 x10 s0)) := by
  unfold ref02_Sort_o_L2_1_sel ref02_Sort_o_L2_1_nx
  cases h1 : tb (decide (s0.c6 < ((x1.length : Nat) : Int)))
  · intro g0
    exact absurd g0 ft
  · cases h2 : tb (s0.c5)
    · cases h3 : tb (inb x1.length s0.c6)
      · intro g0
        exact absurd g0 ft
      · cases h4 : tb (inb x8.length x10)
        · intro g0
          exact absurd g0 ft
        · cases h5 : tb (decide ((gt x8 x10) < (gt x1 s0.c6)))
          · cases h6 : tb (decide ((s0.c12.length + [(gt x1 s0.c6)].length) * 8 ≤ 140737488355328))
            · intro g0
              exact absurd g0 ft
            · intro _
              exact round_walk [.b (tbE h1), .b (notF (tbE h2)), .m 30 (o_idx_so (m := [(Blk.flat 3 1 [] true), (Blk.flat 3 1 (List.map (encI .i64) x0) true), (Blk.flat 3 1 (List.map (encI .i64) x1) true), (Blk.flat 3 1 (List.map (encI .i64) s0.c12) true)]) (b := x9) (id := 2) (n := x1.length) (s := 1) (k := .i64) (by kernel_rfl) (tbE h3)), .m 31 (o_load_L (m := [(Blk.flat 3 1 [] true), (Blk.flat 3 1 (List.map (encI .i64) x0) true), (Blk.flat 3 1 (List.map (encI .i64) x1) true), (Blk.flat 3 1 (List.map (encI .i64) s0.c12) true)]) (enc := (encI .i64)) (l := x1) (id := 2) (e := 3) (s := 1) (off := 0) (size := 1) (p := true) (agg := false) (i := s0.c6) (v := (V.d (.int .i64 (gt x1 s0.c6)))) (n := x1.length) (Nat.beq_refl _) (by kernel_rfl) (tbE h3) (by kernel_rfl)), .o 34 (fun _ => o_idx_os (enc := (encI .i64)) (l := x8) (fl := true) (n := x7) (s := 1) (k := .i64) (tbE h4)), .b (tbE h5), .m 48 (o_idx_so (m := [(Blk.flat 3 1 [] x3), (Blk.flat 3 1 (List.map (encI .i64) x0) x4), (Blk.flat 3 1 (List.map (encI .i64) x1) x5), (Blk.flat 3 1 (List.map (encI .i64) s0.c12) false)]) (b := x9) (id := 2) (n := x1.length) (s := 1) (k := .i64) (by kernel_rfl) (tbE h3)), .m 49 (o_load_L (m := [(Blk.flat 3 1 [] x3), (Blk.flat 3 1 (List.map (encI .i64) x0) x4), (Blk.flat 3 1 (List.map (encI .i64) x1) x5), (Blk.flat 3 1 (List.map (encI .i64) s0.c12) false)]) (enc := (encI .i64)) (l := x1) (id := 2) (e := 3) (s := 1) (off := 0) (size := 1) (p := x5) (agg := false) (i := s0.c6) (v := (V.d (.int .i64 (gt x1 s0.c6)))) (n := x1.length) (Nat.beq_refl _) (by kernel_rfl) (tbE h3) (by kernel_rfl)), .m 51 (o_app_so (nl := s0.c4) (m := [(Blk.flat 3 1 [] x3), (Blk.flat 3 1 (List.map (encI .i64) x0) x4), (Blk.flat 3 1 (List.map (encI .i64) x1) x5), (Blk.flat 3 1 (List.map (encI .i64) s0.c12) false), (Blk.flat 3 1 [[(.int .i64 (gt x1 s0.c6))]] false)]) (enc := (encI .i64)) (l0 := s0.c12) (l1 := [(gt x1 s0.c6)]) (id := 3) (e := 3) (s := 1) (bytes := 8) (x := (V.so false 4 1)) (n := s0.c12.length) (Nat.beq_refl _) (by kernel_rfl) (by kernel_rfl) (by kernel_rfl) (tbE h6))] (by kernel_rfl)
          · cases h6 : tb (decide ((s0.c12.length + [(gt x8 x10)].length) * 8 ≤ 140737488355328))
            · intro g0
              exact absurd g0 ft
            · cases h7 : tb (decide (((s0.c12 ++ [(gt x8 x10)]).length + [(gt x1 s0.c6)].length) * 8 ≤ 140737488355328))
              · intro g0
                exact absurd g0 ft
              · intro _
                exact round_walk [.b (tbE h1), .b (notF (tbE h2)), .m 30 (o_idx_so (m := [(Blk.flat 3 1 [] true), (Blk.flat 3 1 (List.map (encI .i64) x0) true), (Blk.flat 3 1 (List.map (encI .i64) x1) true), (Blk.flat 3 1 (List.map (encI .i64) s0.c12) true)]) (b := x9) (id := 2) (n := x1.length) (s := 1) (k := .i64) (by kernel_rfl) (tbE h3)), .m 31 (o_load_L (m := [(Blk.flat 3 1 [] true), (Blk.flat 3 1 (List.map (encI .i64) x0) true), (Blk.flat 3 1 (List.map (encI .i64) x1) true), (Blk.flat 3 1 (List.map (encI .i64) s0.c12) true)]) (enc := (encI .i64)) (l := x1) (id := 2) (e := 3) (s := 1) (off := 0) (size := 1) (p := true) (agg := false) (i := s0.c6) (v := (V.d (.int .i64 (gt x1 s0.c6)))) (n := x1.length) (Nat.beq_refl _) (by kernel_rfl) (tbE h3) (by kernel_rfl)), .o 34 (fun _ => o_idx_os (enc := (encI .i64)) (l := x8) (fl := true) (n := x7) (s := 1) (k := .i64) (tbE h4)), .b (tbE h5), .o 41 (fun _ => o_idx_os (enc := (encI .i64)) (l := x8) (fl := true) (n := x7) (s := 1) (k := .i64) (tbE h4)), .m 44 (o_app_so (nl := s0.c4) (m := [(Blk.flat 3 1 [] x3), (Blk.flat 3 1 (List.map (encI .i64) x0) x4), (Blk.flat 3 1 (List.map (encI .i64) x1) x5), (Blk.flat 3 1 (List.map (encI .i64) s0.c12) false), (Blk.flat 3 1 [[(.int .i64 (gt x8 x10))]] false)]) (enc := (encI .i64)) (l0 := s0.c12) (l1 := [(gt x8 x10)]) (id := 3) (e := 3) (s := 1) (bytes := 8) (x := (V.so false 4 1)) (n := s0.c12.length) (Nat.beq_refl _) (by kernel_rfl) (by kernel_rfl) (by kernel_rfl) (tbE h6)), .m 48 (o_idx_so (m := [(Blk.flat 3 1 [] x3), (Blk.flat 3 1 (List.map (encI .i64) x0) x4), (Blk.flat 3 1 (List.map (encI .i64) x1) x5), (Blk.flat 3 1 (List.map (encI .i64) (s0.c12 ++ [(gt x8 x10)])) false), (Blk.flat 3 1 [[(.int .i64 (gt x8 x10))]] false)]) (b := x9) (id := 2) (n := x1.length) (s := 1) (k := .i64) (by kernel_rfl) (tbE h3)), .m 49 (o_load_L (m := [(Blk.flat 3 1 [] x3), (Blk.flat 3 1 (List.map (encI .i64) x0) x4), (Blk.flat 3 1 (List.map (encI .i64) x1) x5), (Blk.flat 3 1 (List.map (encI .i64) (s0.c12 ++ [(gt x8 x10)])) false), (Blk.flat 3 1 [[(.int .i64 (gt x8 x10))]] false)]) (enc := (encI .i64)) (l := x1) (id := 2) (e := 3) (s := 1) (off := 0) (size := 1) (p := x5) (agg := false) (i := s0.c6) (v := (V.d (.int .i64 (gt x1 s0.c6)))) (n := x1.length) (Nat.beq_refl _) (by kernel_rfl) (tbE h3) (by kernel_rfl)), .m 51 (o_app_sf (m := [(Blk.flat 3 1 [] x3), (Blk.flat 3 1 (List.map (encI .i64) x0) x4), (Blk.flat 3 1 (List.map (encI .i64) x1) x5), (Blk.flat 3 1 (List.map (encI .i64) (s0.c12 ++ [(gt x8 x10)])) false), (Blk.flat 3 1 [[(.int .i64 (gt x8 x10))]] false), (Blk.flat 3 1 [[(.int .i64 (gt x1 s0.c6))]] false)]) (enc := (encI .i64)) (l0 := (s0.c12 ++ [(gt x8 x10)])) (l1 := [(gt x1 s0.c6)]) (id := 3) (e := 3) (s := 1) (bytes := 8) (x := (V.so false 5 1)) (n := ((s0.c12 ++ [(gt x8 x10)]).length)) (Nat.beq_refl _) (by kernel_rfl) (by kernel_rfl) (by kernel_rfl) (tbE h7))] (by kernel_rfl)
    · cases h3 : tb (inb x1.length s0.c6)
      · intro g0
        exact absurd g0 ft
      · cases h4 : tb (decide ((s0.c12.length + [(gt x1 s0.c6)].length) * 8 ≤ 140737488355328))
        · intro g0
          exact absurd g0 ft
        · intro _
          exact round_walk [.b (tbE h1), .b (notT (tbE h2)), .m 48 (o_idx_so (m := [(Blk.flat 3 1 [] x3), (Blk.flat 3 1 (List.map (encI .i64) x0) x4), (Blk.flat 3 1 (List.map (encI .i64) x1) x5), (Blk.flat 3 1 (List.map (encI .i64) s0.c12) false)]) (b := x9) (id := 2) (n := x1.length) (s := 1) (k := .i64) (by kernel_rfl) (tbE h3)), .m 49 (o_load_L (m := [(Blk.flat 3 1 [] x3), (Blk.flat 3 1 (List.map (encI .i64) x0) x4), (Blk.flat 3 1 (List.map (encI .i64) x1) x5), (Blk.flat 3 1 (List.map (encI .i64) s0.c12) false)]) (enc := (encI .i64)) (l := x1) (id := 2) (e := 3) (s := 1) (off := 0) (size := 1) (p := x5) (agg := false) (i := s0.c6) (v := (V.d (.int .i64 (gt x1 s0.c6)))) (n := x1.length) (Nat.beq_refl _) (by kernel_rfl) (tbE h3) (by kernel_rfl)), .m 51 (o_app_so (nl := s0.c4) (m := [(Blk.flat 3 1 [] x3), (Blk.flat 3 1 (List.map (encI .i64) x0) x4), (Blk.flat 3 1 (List.map (encI .i64) x1) x5), (Blk.flat 3 1 (List.map (encI .i64) s0.c12) false), (Blk.flat 3 1 [[(.int .i64 (gt x1 s0.c6))]] false)]) (enc := (encI .i64)) (l0 := s0.c12) (l1 := [(gt x1 s0.c6)]) (id := 3) (e := 3) (s := 1) (bytes := 8) (x := (V.so false 4 1)) (n := s0.c12.length) (Nat.beq_refl _) (by kernel_rfl) (by kernel_rfl) (by kernel_rfl) (tbE h4))] (by kernel_rfl)

def ref02_Sort_o_L2_1_c0 (x1 : List Int) (s0 : ref02_Sort_o_L2_1_s0) : Bool := (bif tb (decide (s0.c6 < ((x1.length : Nat) : Int))) then false else true)

theorem ref02_Sort_o_L2_1_x0 (x0 : List Int) (x1 : List Int) (x2 : List Int) (x3 : Bool) (x4 : Bool) (x5 : Bool) (x6 : Bool) (x7 : Bool) (x8 : List Int) (x9 : Bool) (x10 : Int) (x11 : Bool) (x12 : Bool) (x13 : Int) (s0 : ref02_Sort_o_L2_1_s0) : ref02_Sort_o_L2_1_sel x1 x8 x10 s0 = false → ref02_Sort_o_L2_1_c0 x1 s0 = true → (roundG (runC E0 (cl E0) L65_2) [0, 4, 5, 6, 7, 8] [0, 5, 6, 7] 4) (ref02_Sort_o_L2_1_enc x0 x1 x2 x3 x4 x5 x6 x7 x8 x9 x10 x11 x12 x13 s0) = some ((.exit 2), ([(V.d (slD (encI .i64) true 1 x7 x8)), (V.d (.int .i64 x10)), (V.so s0.c4 3 s0.c12.length), (V.d (.bool s0.c5))], [(Blk.flat 3 1 [] x3), (Blk.flat 3 1 (List.map (encI .i64) x0) x4), (Blk.flat 3 1 (List.map (encI .i64) x1) x5), (Blk.flat 3 1 (List.map (encI .i64) s0.c12) false)])) := by
  unfold ref02_Sort_o_L2_1_sel ref02_Sort_o_L2_1_c0
  cases h1 : tb (decide (s0.c6 < ((x1.length : Nat) : Int)))
  · intro g0 g1
    exact round_walk [.b (tbE h1)] (by kernel_rfl)
  · cases h2 : tb (s0.c5)
    · cases h3 : tb (inb x1.length s0.c6)
      · intro g0 g1
        exact absurd g1 ft
      · cases h4 : tb (inb x8.length x10)
        · intro g0 g1
          exact absurd g1 ft
        · cases h5 : tb (decide ((gt x8 x10) < (gt x1 s0.c6)))
          · cases h6 : tb (decide ((s0.c12.length + [(gt x1 s0.c6)].length) * 8 ≤ 140737488355328))
            · intro g0 g1
              exact absurd g1 ft
            · intro g0 g1
              exact absurd g0 tf
          · cases h6 : tb (decide ((s0.c12.length + [(gt x8 x10)].length) * 8 ≤ 140737488355328))
            · intro g0 g1
              exact absurd g1 ft
            · cases h7 : tb (decide (((s0.c12 ++ [(gt x8 x10)]).length + [(gt x1 s0.c6)].length) * 8 ≤ 140737488355328))
              · intro g0 g1
                exact absurd g1 ft
              · intro g0 g1
                exact absurd g0 tf
    · cases h3 : tb (inb x1.length s0.c6)
      · intro g0 g1
        exact absurd g1 ft
      · cases h4 : tb (decide ((s0.c12.length + [(gt x1 s0.c6)].length) * 8 ≤ 140737488355328))
        · intro g0 g1
          exact absurd g1 ft
        · intro g0 g1
          exact absurd g0 tf

theorem ref02_Sort_o_L2_1_f0_0 (x0 : List Int) (x1 : List Int) (x2 : List Int) (x3 : Bool) (x4 : Bool) (x5 : Bool) (x6 : Bool) (x7 : Bool) (x8 : List Int) (x9 : Bool) (x10 : Int) (x11 : Bool) (x12 : Bool) (x13 : Int) (s : ref02_Sort_o_L2_1_s0) (hok : ref02_Sort_o_L2_1_ok x1 x8 x10 s = true) (c0 : ref02_Sort_o_L2_1_c0 x1 (ref02_Sort_o_L2_1_end x1 x8 x10 s) = true) : loopG (roundG (runC E0 (cl E0) L65_2) [0, 4, 5, 6, 7, 8] [0, 5, 6, 7] 4) bound (ref02_Sort_o_L2_1_enc x0 x1 x2 x3 x4 x5 x6 x7 x8 x9 x10 x11 x12 x13 s) = some ((.exit 2), ([(V.d (slD (encI .i64) true 1 x7 x8)), (V.d (.int .i64 x10)), (V.so ((ref02_Sort_o_L2_1_end x1 x8 x10 s).c4) 3 (((ref02_Sort_o_L2_1_end x1 x8 x10 s).c12).length)), (V.d (.bool ((ref02_Sort_o_L2_1_end x1 x8 x10 s).c5)))], [(Blk.flat 3 1 [] x3), (Blk.flat 3 1 (List.map (encI .i64) x0) x4), (Blk.flat 3 1 (List.map (encI .i64) x1) x5), (Blk.flat 3 1 (List.map (encI .i64) ((ref02_Sort_o_L2_1_end x1 x8 x10 s).c12)) false)])) := by
  have e : itS (ref02_Sort_o_L2_1_sel x1 x8 x10) (ref02_Sort_o_L2_1_nx x1 x8 x10) bound s = some (ref02_Sort_o_L2_1_end x1 x8 x10 s) := itS_get hok
  have f := itS_false e
  exact loop_it (ref02_Sort_o_L2_1_go x0 x1 x2 x3 x4 x5 x6 x7 x8 x9 x10 x11 x12 x13) bound s _ _ _ e (fun h => by cases h) (ref02_Sort_o_L2_1_x0 x0 x1 x2 x3 x4 x5 x6 x7 x8 x9 x10 x11 x12 x13 (ref02_Sort_o_L2_1_end x1 x8 x10 s) f c0)

structure ref02_Sort_o_L3_s0 where mk ::
  deriving Inhabited

structure ref02_Sort_o_L3_s1 where
  c2 : Bool
  c3 : Int
  c7 : List Int
  deriving Inhabited

inductive ref02_Sort_o_L3_S where
  | h0 (v : ref02_Sort_o_L3_s0)
  | h1 (v : ref02_Sort_o_L3_s1)
  deriving Inhabited

def ref02_Sort_o_L3_is0 : ref02_Sort_o_L3_S → Bool
  | .h0 _ => true
  | _ => false

def ref02_Sort_o_L3_get0 : ref02_Sort_o_L3_S → ref02_Sort_o_L3_s0
  | .h0 v => v
  | _ => default

theorem ref02_Sort_o_L3_at0 {s : ref02_Sort_o_L3_S} (h : ref02_Sort_o_L3_is0 s = true) : s = .h0 (ref02_Sort_o_L3_get0 s) := by cases s <;> first | rfl | cases h

def ref02_Sort_o_L3_is1 : ref02_Sort_o_L3_S → Bool
  | .h1 _ => true
  | _ => false

def ref02_Sort_o_L3_get1 : ref02_Sort_o_L3_S → ref02_Sort_o_L3_s1
  | .h1 v => v
  | _ => default

theorem ref02_Sort_o_L3_at1 {s : ref02_Sort_o_L3_S} (h : ref02_Sort_o_L3_is1 s = true) : s = .h1 (ref02_Sort_o_L3_get1 s) := by cases s <;> first | rfl | cases h

def ref02_Sort_o_L3_enc (x0 : List Int) (x1 : Bool) (x2 : Bool) (x3 : Bool) (x4 : List Int) (x5 : Bool) (x6 : Int) : ref02_Sort_o_L3_S → List V × Mem
  | .h0 s0 => ([(V.d (slD (encI .i64) true 1 x3 x4)), (V.so x5 1 x0.length), (V.d (.int .i64 x6))], [(Blk.flat 3 1 [] x1), (Blk.flat 3 1 (List.map (encI .i64) x0) x2)])
  | .h1 s0 => ([(V.d (slD (encI .i64) true 1 x3 x4)), (V.so s0.c2 2 s0.c7.length), (V.d (.int .i64 s0.c3))], [(Blk.flat 3 1 [] x1), (Blk.flat 3 1 (List.map (encI .i64) x0) x2), (Blk.flat 3 1 (List.map (encI .i64) s0.c7) false)])

def ref02_Sort_o_L3_h0_e0 (x0 : List Int) (x4 : List Int) (x6 : Int) : ref02_Sort_o_L2_s0 := ref02_Sort_o_L2_end x0 x4 x6 (⟨true, false, 0, ([] : List Int)⟩ : ref02_Sort_o_L2_s0)

def ref02_Sort_o_L3_h1_e0 (x4 : List Int) (s0 : ref02_Sort_o_L3_s1) : ref02_Sort_o_L2_1_s0 := ref02_Sort_o_L2_1_end s0.c7 x4 s0.c3 (⟨true, false, 0, ([] : List Int)⟩ : ref02_Sort_o_L2_1_s0)

def ref02_Sort_o_L3_h0_sel (x0 : List Int) (x4 : List Int) (x6 : Int) (s0 : ref02_Sort_o_L3_s0) : Bool := (bif tb (ref02_Sort_o_S1_c0 x4 x6) then (bif tb (ref02_Sort_o_L2_ok x0 x4 x6 (⟨true, false, 0, ([] : List Int)⟩ : ref02_Sort_o_L2_s0)) then (bif tb (ref02_Sort_o_L2_c0 x0 (ref02_Sort_o_L3_h0_e0 x0 x4 x6)) then (bif tb ((ref02_Sort_o_L3_h0_e0 x0 x4 x6).c5) then true else (bif tb (inb x4.length x6) then (bif tb (decide ((((ref02_Sort_o_L3_h0_e0 x0 x4 x6).c10).length + [(gt x4 x6)].length) * 8 ≤ 140737488355328)) then true else false) else false)) else false) else false) else false)

def ref02_Sort_o_L3_h0_nx (x0 : List Int) (x4 : List Int) (x6 : Int) (s0 : ref02_Sort_o_L3_s0) : ref02_Sort_o_L3_S := (bif tb ((ref02_Sort_o_L3_h0_e0 x0 x4 x6).c5) then .h1 ⟨((ref02_Sort_o_L3_h0_e0 x0 x4 x6).c4), (wi (x6 + 1)), ((ref02_Sort_o_L3_h0_e0 x0 x4 x6).c10)⟩ else .h1 ⟨false, (wi (x6 + 1)), (((ref02_Sort_o_L3_h0_e0 x0 x4 x6).c10) ++ [(gt x4 x6)])⟩)

def ref02_Sort_o_L3_h1_sel (x0 : List Int) (x4 : List Int) (x6 : Int) (s0 : ref02_Sort_o_L3_s1) : Bool := (bif tb (ref02_Sort_o_S1_1_c0 x4 s0.c3) then (bif tb (ref02_Sort_o_L2_1_ok s0.c7 x4 s0.c3 (⟨true, false, 0, ([] : List Int)⟩ : ref02_Sort_o_L2_1_s0)) then (bif tb (ref02_Sort_o_L2_1_c0 s0.c7 (ref02_Sort_o_L3_h1_e0 x4 s0)) then (bif tb ((ref02_Sort_o_L3_h1_e0 x4 s0).c5) then true else (bif tb (inb x4.length s0.c3) then (bif tb (decide ((((ref02_Sort_o_L3_h1_e0 x4 s0).c12).length + [(gt x4 s0.c3)].length) * 8 ≤ 140737488355328)) then true else false) else false)) else false) else false) else false)

def ref02_Sort_o_L3_h1_nx (x0 : List Int) (x4 : List Int) (x6 : Int) (s0 : ref02_Sort_o_L3_s1) : ref02_Sort_o_L3_S := (bif tb ((ref02_Sort_o_L3_h1_e0 x4 s0).c5) then .h1 ⟨((ref02_Sort_o_L3_h1_e0 x4 s0).c4), (wi (s0.c3 + 1)), ((ref02_Sort_o_L3_h1_e0 x4 s0).c12)⟩ else .h1 ⟨false, (wi (s0.c3 + 1)), (((ref02_Sort_o_L3_h1_e0 x4 s0).c12) ++ [(gt x4 s0.c3)])⟩)

def ref02_Sort_o_L3_sel (x0 : List Int) (x4 : List Int) (x6 : Int) : ref02_Sort_o_L3_S → Bool
  | .h0 v => ref02_Sort_o_L3_h0_sel x0 x4 x6 v
  | .h1 v => ref02_Sort_o_L3_h1_sel x0 x4 x6 v

def ref02_Sort_o_L3_nx (x0 : List Int) (x4 : List Int) (x6 : Int) : ref02_Sort_o_L3_S → ref02_Sort_o_L3_S
  | .h0 v => ref02_Sort_o_L3_h0_nx x0 x4 x6 v
  | .h1 v => ref02_Sort_o_L3_h1_nx x0 x4 x6 v

def ref02_Sort_o_L3_ok (x0 : List Int) (x4 : List Int) (x6 : Int) (s0 : ref02_Sort_o_L3_S) : Bool := (itS (ref02_Sort_o_L3_sel x0 x4 x6) (ref02_Sort_o_L3_nx x0 x4 x6) bound s0).isSome
def ref02_Sort_o_L3_end (x0 : List Int) (x4 : List Int) (x6 : Int) (s0 : ref02_Sort_o_L3_S) : ref02_Sort_o_L3_S := (itS (ref02_Sort_o_L3_sel x0 x4 x6) (ref02_Sort_o_L3_nx x0 x4 x6) bound s0).getD default

theorem ref02_Sort_o_L3_h0_go (x0 : List Int) (x1 : Bool) (x2 : Bool) (x3 : Bool) (x4 : List Int) (x5 : Bool) (x6 : Int) (s0 : ref02_Sort_o_L3_s0) : ref02_Sort_o_L3_h0_sel x0 x4 x6 s0 = true → (roundG (runC E0 (cl E0) L65_3) [0, 4, 5] [4] 2) (ref02_Sort_o_L3_enc x0 x1 x2 x3 x4 x5 x6 (.h0 s0)) = some (.normal, ref02_Sort_o_L3_enc x0 x1 x2 x3 x4 x5 x6 (ref02_Sort_o_L3_h0_nx x0 x4 x6 s0)) := by
  unfold ref02_Sort_o_L3_h0_sel ref02_Sort_o_L3_h0_nx
  cases h1 : tb (ref02_Sort_o_S1_c0 x4 x6)
  · intro g0
    exact absurd g0 ft
  · cases h2 : tb (ref02_Sort_o_L2_ok x0 x4 x6 (⟨true, false, 0, ([] : List Int)⟩ : ref02_Sort_o_L2_s0))
    · intro g0
      exact absurd g0 ft
    · cases h3 : tb (ref02_Sort_o_L2_c0 x0 (ref02_Sort_o_L3_h0_e0 x0 x4 x6))
      · intro g0
        exact absurd g0 ft
      · cases h4 : tb ((ref02_Sort_o_L3_h0_e0 x0 x4 x6).c5)
        · cases h5 : tb (inb x4.length x6)
          · intro g0
            exact absurd g0 ft
          · cases h6 : tb (decide ((((ref02_Sort_o_L3_h0_e0 x0 x4 x6).c10).length + [(gt x4 x6)].length) * 8 ≤ 140737488355328))
            · intro g0
              exact absurd g0 ft
            · intro _
              exact round_walk [.s (ref02_Sort_o_S1_t0 x0 x1 x2 x3 x4 x5 x6 (tbE h1)), .l (ref02_Sort_o_L2_f0_0 x0 ([] : List Int) x1 x2 false x3 x4 x5 x6 true false 0 (⟨true, false, 0, ([] : List Int)⟩ : ref02_Sort_o_L2_s0) (tbE h2) (tbE h3)), .b (notF (tbE h4)), .o 57 (fun _ => o_idx_os (enc := (encI .i64)) (l := x4) (fl := true) (n := x3) (s := 1) (k := .i64) (tbE h5)), .m 60 (o_app_so (nl := ((ref02_Sort_o_L3_h0_e0 x0 x4 x6).c4)) (m := [(Blk.flat 3 1 [] x1), (Blk.flat 3 1 (List.map (encI .i64) x0) x2), (Blk.flat 3 1 (List.map (encI .i64) ((ref02_Sort_o_L3_h0_e0 x0 x4 x6).c10)) false), (Blk.flat 3 1 [[(.int .i64 (gt x4 x6))]] false)]) (enc := (encI .i64)) (l0 := ((ref02_Sort_o_L3_h0_e0 x0 x4 x6).c10)) (l1 := [(gt x4 x6)]) (id := 2) (e := 3) (s := 1) (bytes := 8) (x := (V.so false 3 1)) (n := (((ref02_Sort_o_L3_h0_e0 x0 x4 x6).c10).length)) (Nat.beq_refl _) (by kernel_rfl) (by kernel_rfl) (by kernel_rfl) (tbE h6))] (by kernel_rfl)
        · intro _
          exact round_walk [.s (ref02_Sort_o_S1_t0 x0 x1 x2 x3 x4 x5 x6 (tbE h1)), .l (ref02_Sort_o_L2_f0_0 x0 ([] : List Int) x1 x2 false x3 x4 x5 x6 true false 0 (⟨true, false, 0, ([] : List Int)⟩ : ref02_Sort_o_L2_s0) (tbE h2) (tbE h3)), .b (notT (tbE h4))] (by kernel_rfl)

def ref02_Sort_o_L3_h0_c0 (x4 : List Int) (x6 : Int) : Bool := (bif tb (ref02_Sort_o_S1_c0 x4 x6) then false else true)

theorem ref02_Sort_o_L3_h0_x0 (x0 : List Int) (x1 : Bool) (x2 : Bool) (x3 : Bool) (x4 : List Int) (x5 : Bool) (x6 : Int) (s0 : ref02_Sort_o_L3_s0) : ref02_Sort_o_L3_h0_sel x0 x4 x6 s0 = false → ref02_Sort_o_L3_h0_c0 x4 x6 = true → (roundG (runC E0 (cl E0) L65_3) [0, 4, 5] [4] 2) (ref02_Sort_o_L3_enc x0 x1 x2 x3 x4 x5 x6 (.h0 s0)) = some ((.exit 0), ([(V.so x5 1 x0.length)], [(Blk.flat 3 1 [] x1), (Blk.flat 3 1 (List.map (encI .i64) x0) x2)])) := by
  unfold ref02_Sort_o_L3_h0_sel ref02_Sort_o_L3_h0_c0
  cases h1 : tb (ref02_Sort_o_S1_c0 x4 x6)
  · intro g0 g1
    exact round_walk [.s (ref02_Sort_o_S1_t1 x0 x1 x2 x3 x4 x5 x6 (tbE h1))] (by kernel_rfl)
  · cases h2 : tb (ref02_Sort_o_L2_ok x0 x4 x6 (⟨true, false, 0, ([] : List Int)⟩ : ref02_Sort_o_L2_s0))
    · intro g0 g1
      exact absurd g1 ft
    · cases h3 : tb (ref02_Sort_o_L2_c0 x0 (ref02_Sort_o_L3_h0_e0 x0 x4 x6))
      · intro g0 g1
        exact absurd g1 ft
      · cases h4 : tb ((ref02_Sort_o_L3_h0_e0 x0 x4 x6).c5)
        · cases h5 : tb (inb x4.length x6)
          · intro g0 g1
            exact absurd g1 ft
          · cases h6 : tb (decide ((((ref02_Sort_o_L3_h0_e0 x0 x4 x6).c10).length + [(gt x4 x6)].length) * 8 ≤ 140737488355328))
            · intro g0 g1
              exact absurd g1 ft
            · intro g0 g1
              exact absurd g0 tf
        · intro g0 g1
          exact absurd g0 tf

theorem ref02_Sort_o_L3_h1_go (x0 : List Int) (x1 : Bool) (x2 : Bool) (x3 : Bool) (x4 : List Int) (x5 : Bool) (x6 : Int) (s0 : ref02_Sort_o_L3_s1) : ref02_Sort_o_L3_h1_sel x0 x4 x6 s0 = true → (roundG (runC E0 (cl E0) L65_3) [0, 4, 5] [4] 2) (ref02_Sort_o_L3_enc x0 x1 x2 x3 x4 x5 x6 (.h1 s0)) = some (.normal, ref02_Sort_o_L3_enc x0 x1 x2 x3 x4 x5 x6 (ref02_Sort_o_L3_h1_nx x0 x4 x6 s0)) := by
  unfold ref02_Sort_o_L3_h1_sel ref02_Sort_o_L3_h1_nx
  cases h1 : tb (ref02_Sort_o_S1_1_c0 x4 s0.c3)
  · intro g0
    exact absurd g0 ft
  · cases h2 : tb (ref02_Sort_o_L2_1_ok s0.c7 x4 s0.c3 (⟨true, false, 0, ([] : List Int)⟩ : ref02_Sort_o_L2_1_s0))
    · intro g0
      exact absurd g0 ft
    · cases h3 : tb (ref02_Sort_o_L2_1_c0 s0.c7 (ref02_Sort_o_L3_h1_e0 x4 s0))
      · intro g0
        exact absurd g0 ft
      · cases h4 : tb ((ref02_Sort_o_L3_h1_e0 x4 s0).c5)
        · cases h5 : tb (inb x4.length s0.c3)
          · intro g0
            exact absurd g0 ft
          · cases h6 : tb (decide ((((ref02_Sort_o_L3_h1_e0 x4 s0).c12).length + [(gt x4 s0.c3)].length) * 8 ≤ 140737488355328))
            · intro g0
              exact absurd g0 ft
            · intro _
              exact round_walk [.s (ref02_Sort_o_S1_1_t0 x0 s0.c7 x1 x2 false x3 x4 s0.c2 s0.c3 (tbE h1)), .l (ref02_Sort_o_L2_1_f0_0 x0 s0.c7 ([] : List Int) x1 x2 false false x3 x4 s0.c2 s0.c3 true false 0 (⟨true, false, 0, ([] : List Int)⟩ : ref02_Sort_o_L2_1_s0) (tbE h2) (tbE h3)), .b (notF (tbE h4)), .o 57 (fun _ => o_idx_os (enc := (encI .i64)) (l := x4) (fl := true) (n := x3) (s := 1) (k := .i64) (tbE h5)), .m 60 (o_app_so (nl := ((ref02_Sort_o_L3_h1_e0 x4 s0).c4)) (m := [(Blk.flat 3 1 [] x1), (Blk.flat 3 1 (List.map (encI .i64) x0) x2), (Blk.flat 3 1 (List.map (encI .i64) s0.c7) false), (Blk.flat 3 1 (List.map (encI .i64) ((ref02_Sort_o_L3_h1_e0 x4 s0).c12)) false), (Blk.flat 3 1 [[(.int .i64 (gt x4 s0.c3))]] false)]) (enc := (encI .i64)) (l0 := ((ref02_Sort_o_L3_h1_e0 x4 s0).c12)) (l1 := [(gt x4 s0.c3)]) (id := 3) (e := 3) (s := 1) (bytes := 8) (x := (V.so false 4 1)) (n := (((ref02_Sort_o_L3_h1_e0 x4 s0).c12).length)) (Nat.beq_refl _) (by kernel_rfl) (by kernel_rfl) (by kernel_rfl) (tbE h6))] (by kernel_rfl)
        · intro _
          exact round_walk [.s (ref02_Sort_o_S1_1_t0 x0 s0.c7 x1 x2 false x3 x4 s0.c2 s0.c3 (tbE h1)), .l (ref02_Sort_o_L2_1_f0_0 x0 s0.c7 ([] : List Int) x1 x2 false false x3 x4 s0.c2 s0.c3 true false 0 (⟨true, false, 0, ([] : List Int)⟩ : ref02_Sort_o_L2_1_s0) (tbE h2) (tbE h3)), .b (notT (tbE h4))] (by kernel_rfl)

def ref02_Sort_o_L3_h1_c0 (x4 : List Int) (s0 : ref02_Sort_o_L3_s1) : Bool := (bif tb (ref02_Sort_o_S1_1_c0 x4 s0.c3) then false else true)

theorem ref02_Sort_o_L3_h1_x0 (x0 : List Int) (x1 : Bool) (x2 : Bool) (x3 : Bool) (x4 : List Int) (x5 : Bool) (x6 : Int) (s0 : ref02_Sort_o_L3_s1) : ref02_Sort_o_L3_h1_sel x0 x4 x6 s0 = false → ref02_Sort_o_L3_h1_c0 x4 s0 = true → (roundG (runC E0 (cl E0) L65_3) [0, 4, 5] [4] 2) (ref02_Sort_o_L3_enc x0 x1 x2 x3 x4 x5 x6 (.h1 s0)) = some ((.exit 0), ([(V.so s0.c2 2 s0.c7.length)], [(Blk.flat 3 1 [] x1), (Blk.flat 3 1 (List.map (encI .i64) x0) x2), (Blk.flat 3 1 (List.map (encI .i64) s0.c7) false)])) := by
  unfold ref02_Sort_o_L3_h1_sel ref02_Sort_o_L3_h1_c0
  cases h1 : tb (ref02_Sort_o_S1_1_c0 x4 s0.c3)
  · intro g0 g1
    exact round_walk [.s (ref02_Sort_o_S1_1_t1 x0 s0.c7 x1 x2 false x3 x4 s0.c2 s0.c3 (tbE h1))] (by kernel_rfl)
  · cases h2 : tb (ref02_Sort_o_L2_1_ok s0.c7 x4 s0.c3 (⟨true, false, 0, ([] : List Int)⟩ : ref02_Sort_o_L2_1_s0))
    · intro g0 g1
      exact absurd g1 ft
    · cases h3 : tb (ref02_Sort_o_L2_1_c0 s0.c7 (ref02_Sort_o_L3_h1_e0 x4 s0))
      · intro g0 g1
        exact absurd g1 ft
      · cases h4 : tb ((ref02_Sort_o_L3_h1_e0 x4 s0).c5)
        · cases h5 : tb (inb x4.length s0.c3)
          · intro g0 g1
            exact absurd g1 ft
          · cases h6 : tb (decide ((((ref02_Sort_o_L3_h1_e0 x4 s0).c12).length + [(gt x4 s0.c3)].length) * 8 ≤ 140737488355328))
            · intro g0 g1
              exact absurd g1 ft
            · intro g0 g1
              exact absurd g0 tf
        · intro g0 g1
          exact absurd g0 tf

theorem ref02_Sort_o_L3_go (x0 : List Int) (x1 : Bool) (x2 : Bool) (x3 : Bool) (x4 : List Int) (x5 : Bool) (x6 : Int) : ∀ s, ref02_Sort_o_L3_sel x0 x4 x6 s = true → (roundG (runC E0 (cl E0) L65_3) [0, 4, 5] [4] 2) (ref02_Sort_o_L3_enc x0 x1 x2 x3 x4 x5 x6 s) = some (.normal, ref02_Sort_o_L3_enc x0 x1 x2 x3 x4 x5 x6 (ref02_Sort_o_L3_nx x0 x4 x6 s))
  | .h0 s0, h => ref02_Sort_o_L3_h0_go x0 x1 x2 x3 x4 x5 x6 s0 h
  | .h1 s0, h => ref02_Sort_o_L3_h1_go x0 x1 x2 x3 x4 x5 x6 s0 h

theorem ref02_Sort_o_L3_f0_0 (x0 : List Int) (x1 : Bool) (x2 : Bool) (x3 : Bool) (x4 : List Int) (x5 : Bool) (x6 : Int) (s : ref02_Sort_o_L3_S) (hok : ref02_Sort_o_L3_ok x0 x4 x6 s = true) (k0 : ref02_Sort_o_L3_is0 (ref02_Sort_o_L3_end x0 x4 x6 s) = true) (c0 : ref02_Sort_o_L3_h0_c0 x4 x6 = true) : loopG (roundG (runC E0 (cl E0) L65_3) [0, 4, 5] [4] 2) bound (ref02_Sort_o_L3_enc x0 x1 x2 x3 x4 x5 x6 s) = some ((.exit 0), ([(V.so x5 1 x0.length)], [(Blk.flat 3 1 [] x1), (Blk.flat 3 1 (List.map (encI .i64) x0) x2)])) := by
  have e : itS (ref02_Sort_o_L3_sel x0 x4 x6) (ref02_Sort_o_L3_nx x0 x4 x6) bound s = some (ref02_Sort_o_L3_end x0 x4 x6 s) := itS_get hok
  have f := itS_false e
  have a := ref02_Sort_o_L3_at0 k0
  have g := ref02_Sort_o_L3_h0_x0 x0 x1 x2 x3 x4 x5 x6 (ref02_Sort_o_L3_get0 (ref02_Sort_o_L3_end x0 x4 x6 s)) (by rw [a] at f; exact f) c0
  exact loop_it (ref02_Sort_o_L3_go x0 x1 x2 x3 x4 x5 x6) bound s _ _ _ e (fun h => by cases h) (by rw [a]; exact g)

theorem ref02_Sort_o_L3_f1_0 (x0 : List Int) (x1 : Bool) (x2 : Bool) (x3 : Bool) (x4 : List Int) (x5 : Bool) (x6 : Int) (s : ref02_Sort_o_L3_S) (hok : ref02_Sort_o_L3_ok x0 x4 x6 s = true) (k0 : ref02_Sort_o_L3_is0 (ref02_Sort_o_L3_end x0 x4 x6 s) = false) (c0 : ref02_Sort_o_L3_h1_c0 x4 (ref02_Sort_o_L3_get1 (ref02_Sort_o_L3_end x0 x4 x6 s)) = true) : loopG (roundG (runC E0 (cl E0) L65_3) [0, 4, 5] [4] 2) bound (ref02_Sort_o_L3_enc x0 x1 x2 x3 x4 x5 x6 s) = some ((.exit 0), ([(V.so ((ref02_Sort_o_L3_get1 (ref02_Sort_o_L3_end x0 x4 x6 s)).c2) 2 (((ref02_Sort_o_L3_get1 (ref02_Sort_o_L3_end x0 x4 x6 s)).c7).length))], [(Blk.flat 3 1 [] x1), (Blk.flat 3 1 (List.map (encI .i64) x0) x2), (Blk.flat 3 1 (List.map (encI .i64) ((ref02_Sort_o_L3_get1 (ref02_Sort_o_L3_end x0 x4 x6 s)).c7)) false)])) := by
  have e : itS (ref02_Sort_o_L3_sel x0 x4 x6) (ref02_Sort_o_L3_nx x0 x4 x6) bound s = some (ref02_Sort_o_L3_end x0 x4 x6 s) := itS_get hok
  have f := itS_false e
  have a : (ref02_Sort_o_L3_end x0 x4 x6 s) = .h1 (ref02_Sort_o_L3_get1 (ref02_Sort_o_L3_end x0 x4 x6 s)) := by
    revert k0
    cases (ref02_Sort_o_L3_end x0 x4 x6 s) with
    | h0 w => intros; contradiction
    | h1 w => intros; rfl
  have g := ref02_Sort_o_L3_h1_x0 x0 x1 x2 x3 x4 x5 x6 (ref02_Sort_o_L3_get1 (ref02_Sort_o_L3_end x0 x4 x6 s)) (by rw [a] at f; exact f) c0
  exact loop_it (ref02_Sort_o_L3_go x0 x1 x2 x3 x4 x5 x6) bound s _ _ _ e (fun h => by cases h) (by rw [a]; exact g)

def ref02_Sort_o_e0 (x1 : List Int) : ref02_Sort_o_L3_S := ref02_Sort_o_L3_end ([] : List Int) x1 0 (.h0 ⟨⟩ : ref02_Sort_o_L3_S)

def ref02_Sort_o_c0 (x1 : List Int) : Bool := (bif tb (ref02_Right_o_c0 x1) then (bif tb (ref02_Sort_o_S0_c0 (ref02_Right_o_r0_0 x1)) then (bif tb (ref02_Sort_o_L3_ok ([] : List Int) x1 0 (.h0 ⟨⟩ : ref02_Sort_o_L3_S)) then (bif tb (ref02_Sort_o_L3_is0 (ref02_Sort_o_e0 x1)) then (bif tb (ref02_Sort_o_L3_h0_c0 x1 0) then true else false) else (bif tb (ref02_Sort_o_L3_h1_c0 x1 (ref02_Sort_o_L3_get1 (ref02_Sort_o_e0 x1))) then true else false)) else false) else true) else false)

def ref02_Sort_o_r0_0 (x1 : List Int) : Bool := (bif tb (ref02_Sort_o_S0_c0 (ref02_Right_o_r0_0 x1)) then (bif tb (ref02_Sort_o_L3_is0 (ref02_Sort_o_e0 x1)) then true else ((ref02_Sort_o_L3_get1 (ref02_Sort_o_e0 x1)).c2)) else true)

def ref02_Sort_o_r0_1 (x1 : List Int) : List Int := (bif tb (ref02_Sort_o_S0_c0 (ref02_Right_o_r0_0 x1)) then (bif tb (ref02_Sort_o_L3_is0 (ref02_Sort_o_e0 x1)) then ([] : List Int) else ((ref02_Sort_o_L3_get1 (ref02_Sort_o_e0 x1)).c7)) else ([] : List Int))

theorem ref02_Sort_o_t0 (x0 : Bool) (x1 : List Int) : ref02_Sort_o_c0 x1 = true → cl E0 65 [(V.d (slD (encI .i64) true 1 x0 x1))] [] = some ([(V.so (ref02_Sort_o_r0_0 x1) 0 ((ref02_Sort_o_r0_1 x1).length))], [(Blk.flat 3 1 (List.map (encI .i64) (ref02_Sort_o_r0_1 x1)) false)]) := by
  unfold ref02_Sort_o_c0 ref02_Sort_o_r0_0 ref02_Sort_o_r0_1
  cases h1 : tb (ref02_Right_o_c0 x1)
  · intro g0
    exact absurd g0 ft
  · cases h2 : tb (ref02_Sort_o_S0_c0 (ref02_Right_o_r0_0 x1))
    · intro g0
      exact w65 [.c (ref02_Right_o_t0 x0 x1 (tbE h1)), .s (ref02_Sort_o_S0_t1 false x0 x1 (ref02_Right_o_r0_0 x1) (tbE h2))] (by kernel_rfl)
    · cases h3 : tb (ref02_Sort_o_L3_ok ([] : List Int) x1 0 (.h0 ⟨⟩ : ref02_Sort_o_L3_S))
      · intro g0
        exact absurd g0 ft
      · cases h4 : tb (ref02_Sort_o_L3_is0 (ref02_Sort_o_e0 x1))
        · cases h5 : tb (ref02_Sort_o_L3_h1_c0 x1 (ref02_Sort_o_L3_get1 (ref02_Sort_o_e0 x1)))
          · intro g0
            exact absurd g0 ft
          · intro g0
            exact w65 [.c (ref02_Right_o_t0 x0 x1 (tbE h1)), .s (ref02_Sort_o_S0_t0 false x0 x1 (ref02_Right_o_r0_0 x1) (tbE h2)), .l (ref02_Sort_o_L3_f1_0 ([] : List Int) false false x0 x1 true 0 (.h0 ⟨⟩ : ref02_Sort_o_L3_S) (tbE h3) (tbE h4) (tbE h5))] (by kernel_rfl)
        · cases h5 : tb (ref02_Sort_o_L3_h0_c0 x1 0)
          · intro g0
            exact absurd g0 ft
          · intro g0
            exact w65 [.c (ref02_Right_o_t0 x0 x1 (tbE h1)), .s (ref02_Sort_o_S0_t0 false x0 x1 (ref02_Right_o_r0_0 x1) (tbE h2)), .l (ref02_Sort_o_L3_f0_0 ([] : List Int) false false x0 x1 true 0 (.h0 ⟨⟩ : ref02_Sort_o_L3_S) (tbE h3) (tbE h4) (tbE h5))] (by kernel_rfl)

def ref02_half_ii_r0_0 (x0 : Int) (x1 : Int) : Int := (bif tb (decide (0 ≤ (wi (x0 + x1)))) then (quoI .i64 (wi (x0 + x1)) 2) else (wi (0 - (quoI .i64 (wi (1 - (wi (x0 + x1)))) 2))))

theorem ref02_half_ii_t0 (x0 : Int) (x1 : Int) : cl E0 66 [(V.d (.int .i64 x0)), (V.d (.int .i64 x1))] [] = some ([(V.d (.int .i64 (ref02_half_ii_r0_0 x0 x1)))], []) := by
  unfold ref02_half_ii_r0_0
  cases h1 : tb (decide (0 ≤ (wi (x0 + x1))))
  · exact w66 [.b (tbE h1)] (by kernel_rfl)
  · exact w66 [.b (tbE h1)] (by kernel_rfl)

def ref02_Mid_o_S1_c0 (x1 : List Int) : Bool := (bif tb (ref02_Sort_o_c0 x1) then (bif tb (((((ref02_Sort_o_r0_1 x1).length : Nat) : Int) : Int) == 1) then (bif tb (inb ((ref02_Sort_o_r0_1 x1).length) 0) then true else false) else (bif tb (((((ref02_Sort_o_r0_1 x1).length : Nat) : Int) : Int) == 2) then (bif tb (inb ((ref02_Sort_o_r0_1 x1).length) 0) then (bif tb (inb ((ref02_Sort_o_r0_1 x1).length) 1) then true else false) else false) else (bif tb (((((ref02_Sort_o_r0_1 x1).length : Nat) : Int) : Int) == 3) then (bif tb (inb ((ref02_Sort_o_r0_1 x1).length) 1) then true else false) else false))) else false)

def ref02_Mid_o_S1_r0_0 (x1 : List Int) : Int := (bif tb (((((ref02_Sort_o_r0_1 x1).length : Nat) : Int) : Int) == 1) then (gt (ref02_Sort_o_r0_1 x1) 0) else (bif tb (((((ref02_Sort_o_r0_1 x1).length : Nat) : Int) : Int) == 2) then (ref02_half_ii_r0_0 (gt (ref02_Sort_o_r0_1 x1) 0) (gt (ref02_Sort_o_r0_1 x1) 1)) else (gt (ref02_Sort_o_r0_1 x1) 1)))

def ref02_Mid_o_S1_c1 (x1 : List Int) : Bool := (bif tb (ref02_Sort_o_c0 x1) then (bif tb (((((ref02_Sort_o_r0_1 x1).length : Nat) : Int) : Int) == 1) then false else (bif tb (((((ref02_Sort_o_r0_1 x1).length : Nat) : Int) : Int) == 2) then false else (bif tb (((((ref02_Sort_o_r0_1 x1).length : Nat) : Int) : Int) == 3) then false else (bif tb (inb ((ref02_Sort_o_r0_1 x1).length) 1) then (bif tb (inb ((ref02_Sort_o_r0_1 x1).length) 2) then true else false) else false)))) else false)

theorem ref02_Mid_o_S1_t0 (x0 : Bool) (x1 : List Int) : ref02_Mid_o_S1_c0 x1 = true → segG (runC E0 (cl E0) S56_1) [0] [2, 3] [2, 3] 0 ([(V.d (slD (encI .i64) true 1 x0 x1))], []) = some (.ret, ([(V.d (.int .i64 (ref02_Mid_o_S1_r0_0 x1))), (V.d (.bool true))], [])) := by
  unfold ref02_Mid_o_S1_c0 ref02_Mid_o_S1_r0_0
  cases h1 : tb (ref02_Sort_o_c0 x1)
  · intro g0
    exact absurd g0 ft
  · cases h2 : tb (((((ref02_Sort_o_r0_1 x1).length : Nat) : Int) : Int) == 1)
    · cases h3 : tb (((((ref02_Sort_o_r0_1 x1).length : Nat) : Int) : Int) == 2)
      · cases h4 : tb (((((ref02_Sort_o_r0_1 x1).length : Nat) : Int) : Int) == 3)
        · cases h5 : tb (inb ((ref02_Sort_o_r0_1 x1).length) 1)
          · intro g0
            exact absurd g0 ft
          · cases h6 : tb (inb ((ref02_Sort_o_r0_1 x1).length) 2)
            · intro g0
              exact absurd g0 ft
            · intro g0
              exact absurd g0 ft
        · cases h5 : tb (inb ((ref02_Sort_o_r0_1 x1).length) 1)
          · intro g0
            exact absurd g0 ft
          · intro g0
            exact seg_walk [.c (ref02_Sort_o_t0 x0 x1 (tbE h1)), .b (tbE h2), .b (tbE h3), .b (tbE h4), .m 41 (o_idx_so (m := [(Blk.flat 3 1 (List.map (encI .i64) (ref02_Sort_o_r0_1 x1)) false)]) (b := (ref02_Sort_o_r0_0 x1)) (id := 0) (n := ((ref02_Sort_o_r0_1 x1).length)) (s := 1) (k := .i64) (by kernel_rfl) (tbE h5)), .m 42 (o_load_L (m := [(Blk.flat 3 1 (List.map (encI .i64) (ref02_Sort_o_r0_1 x1)) false)]) (enc := (encI .i64)) (l := (ref02_Sort_o_r0_1 x1)) (id := 0) (e := 3) (s := 1) (off := 0) (size := 1) (p := false) (agg := false) (i := 1) (v := (V.d (.int .i64 (gt (ref02_Sort_o_r0_1 x1) 1)))) (n := ((ref02_Sort_o_r0_1 x1).length)) (Nat.beq_refl _) (by kernel_rfl) (tbE h5) (by kernel_rfl))] (by kernel_rfl)
      · cases h4 : tb (inb ((ref02_Sort_o_r0_1 x1).length) 0)
        · intro g0
          exact absurd g0 ft
        · cases h5 : tb (inb ((ref02_Sort_o_r0_1 x1).length) 1)
          · intro g0
            exact absurd g0 ft
          · intro g0
            exact seg_walk [.c (ref02_Sort_o_t0 x0 x1 (tbE h1)), .b (tbE h2), .b (tbE h3), .m 32 (o_idx_so (m := [(Blk.flat 3 1 (List.map (encI .i64) (ref02_Sort_o_r0_1 x1)) true)]) (b := (ref02_Sort_o_r0_0 x1)) (id := 0) (n := ((ref02_Sort_o_r0_1 x1).length)) (s := 1) (k := .i64) (by kernel_rfl) (tbE h4)), .m 33 (o_load_L (m := [(Blk.flat 3 1 (List.map (encI .i64) (ref02_Sort_o_r0_1 x1)) true)]) (enc := (encI .i64)) (l := (ref02_Sort_o_r0_1 x1)) (id := 0) (e := 3) (s := 1) (off := 0) (size := 1) (p := true) (agg := false) (i := 0) (v := (V.d (.int .i64 (gt (ref02_Sort_o_r0_1 x1) 0)))) (n := ((ref02_Sort_o_r0_1 x1).length)) (Nat.beq_refl _) (by kernel_rfl) (tbE h4) (by kernel_rfl)), .m 35 (o_idx_so (m := [(Blk.flat 3 1 (List.map (encI .i64) (ref02_Sort_o_r0_1 x1)) true)]) (b := (ref02_Sort_o_r0_0 x1)) (id := 0) (n := ((ref02_Sort_o_r0_1 x1).length)) (s := 1) (k := .i64) (by kernel_rfl) (tbE h5)), .m 36 (o_load_L (m := [(Blk.flat 3 1 (List.map (encI .i64) (ref02_Sort_o_r0_1 x1)) true)]) (enc := (encI .i64)) (l := (ref02_Sort_o_r0_1 x1)) (id := 0) (e := 3) (s := 1) (off := 0) (size := 1) (p := true) (agg := false) (i := 1) (v := (V.d (.int .i64 (gt (ref02_Sort_o_r0_1 x1) 1)))) (n := ((ref02_Sort_o_r0_1 x1).length)) (Nat.beq_refl _) (by kernel_rfl) (tbE h5) (by kernel_rfl)), .c (ref02_half_ii_t0 (gt (ref02_Sort_o_r0_1 x1) 0) (gt (ref02_Sort_o_r0_1 x1) 1))] (by kernel_rfl)
    · cases h3 : tb (inb ((ref02_Sort_o_r0_1 x1).length) 0)
      · intro g0
        exact absurd g0 ft
      · intro g0
        exact seg_walk [.c (ref02_Sort_o_t0 x0 x1 (tbE h1)), .b (tbE h2), .m 27 (o_idx_so (m := [(Blk.flat 3 1 (List.map (encI .i64) (ref02_Sort_o_r0_1 x1)) false)]) (b := (ref02_Sort_o_r0_0 x1)) (id := 0) (n := ((ref02_Sort_o_r0_1 x1).length)) (s := 1) (k := .i64) (by kernel_rfl) (tbE h3)), .m 28 (o_load_L (m := [(Blk.flat 3 1 (List.map (encI .i64) (ref02_Sort_o_r0_1 x1)) false)]) (enc := (encI .i64)) (l := (ref02_Sort_o_r0_1 x1)) (id := 0) (e := 3) (s := 1) (off := 0) (size := 1) (p := false) (agg := false) (i := 0) (v := (V.d (.int .i64 (gt (ref02_Sort_o_r0_1 x1) 0)))) (n := ((ref02_Sort_o_r0_1 x1).length)) (Nat.beq_refl _) (by kernel_rfl) (tbE h3) (by kernel_rfl))] (by kernel_rfl)

theorem ref02_Mid_o_S1_t1 (x0 : Bool) (x1 : List Int) : ref02_Mid_o_S1_c0 x1 = false → ref02_Mid_o_S1_c1 x1 = true → segG (runC E0 (cl E0) S56_1) [0] [2, 3] [2, 3] 0 ([(V.d (slD (encI .i64) true 1 x0 x1))], []) = some (.normal, ([(V.d (.int .i64 (ref02_half_ii_r0_0 (gt (ref02_Sort_o_r0_1 x1) 1) (gt (ref02_Sort_o_r0_1 x1) 2)))), (V.d (.bool true))], [])) := by
  unfold ref02_Mid_o_S1_c0 ref02_Mid_o_S1_c1
  cases h1 : tb (ref02_Sort_o_c0 x1)
  · intro g0 g1
    exact absurd g1 ft
  · cases h2 : tb (((((ref02_Sort_o_r0_1 x1).length : Nat) : Int) : Int) == 1)
    · cases h3 : tb (((((ref02_Sort_o_r0_1 x1).length : Nat) : Int) : Int) == 2)
      · cases h4 : tb (((((ref02_Sort_o_r0_1 x1).length : Nat) : Int) : Int) == 3)
        · cases h5 : tb (inb ((ref02_Sort_o_r0_1 x1).length) 1)
          · intro g0 g1
            exact absurd g1 ft
          · cases h6 : tb (inb ((ref02_Sort_o_r0_1 x1).length) 2)
            · intro g0 g1
              exact absurd g1 ft
            · intro g0 g1
              exact seg_walk [.c (ref02_Sort_o_t0 x0 x1 (tbE h1)), .b (tbE h2), .b (tbE h3), .b (tbE h4), .m 44 (o_idx_so (m := [(Blk.flat 3 1 (List.map (encI .i64) (ref02_Sort_o_r0_1 x1)) true)]) (b := (ref02_Sort_o_r0_0 x1)) (id := 0) (n := ((ref02_Sort_o_r0_1 x1).length)) (s := 1) (k := .i64) (by kernel_rfl) (tbE h5)), .m 45 (o_load_L (m := [(Blk.flat 3 1 (List.map (encI .i64) (ref02_Sort_o_r0_1 x1)) true)]) (enc := (encI .i64)) (l := (ref02_Sort_o_r0_1 x1)) (id := 0) (e := 3) (s := 1) (off := 0) (size := 1) (p := true) (agg := false) (i := 1) (v := (V.d (.int .i64 (gt (ref02_Sort_o_r0_1 x1) 1)))) (n := ((ref02_Sort_o_r0_1 x1).length)) (Nat.beq_refl _) (by kernel_rfl) (tbE h5) (by kernel_rfl)), .m 47 (o_idx_so (m := [(Blk.flat 3 1 (List.map (encI .i64) (ref02_Sort_o_r0_1 x1)) true)]) (b := (ref02_Sort_o_r0_0 x1)) (id := 0) (n := ((ref02_Sort_o_r0_1 x1).length)) (s := 1) (k := .i64) (by kernel_rfl) (tbE h6)), .m 48 (o_load_L (m := [(Blk.flat 3 1 (List.map (encI .i64) (ref02_Sort_o_r0_1 x1)) true)]) (enc := (encI .i64)) (l := (ref02_Sort_o_r0_1 x1)) (id := 0) (e := 3) (s := 1) (off := 0) (size := 1) (p := true) (agg := false) (i := 2) (v := (V.d (.int .i64 (gt (ref02_Sort_o_r0_1 x1) 2)))) (n := ((ref02_Sort_o_r0_1 x1).length)) (Nat.beq_refl _) (by kernel_rfl) (tbE h6) (by kernel_rfl)), .c (ref02_half_ii_t0 (gt (ref02_Sort_o_r0_1 x1) 1) (gt (ref02_Sort_o_r0_1 x1) 2))] (by kernel_rfl)
        · cases h5 : tb (inb ((ref02_Sort_o_r0_1 x1).length) 1)
          · intro g0 g1
            exact absurd g1 ft
          · intro g0 g1
            exact absurd g0 tf
      · cases h4 : tb (inb ((ref02_Sort_o_r0_1 x1).length) 0)
        · intro g0 g1
          exact absurd g1 ft
        · cases h5 : tb (inb ((ref02_Sort_o_r0_1 x1).length) 1)
          · intro g0 g1
            exact absurd g1 ft
          · intro g0 g1
            exact absurd g0 tf
    · cases h3 : tb (inb ((ref02_Sort_o_r0_1 x1).length) 0)
      · intro g0 g1
        exact absurd g1 ft
      · intro g0 g1
        exact absurd g0 tf

def ref02_Mid_o_c0 (x1 : List Int) : Bool := (bif tb (ref02_Right_o_c0 x1) then (bif tb (ref02_Mid_o_S0_c0 x1 (ref02_Right_o_r0_0 x1)) then true else (bif tb (ref02_Mid_o_S1_c0 x1) then true else (bif tb (ref02_Mid_o_S1_c1 x1) then true else false))) else false)

def ref02_Mid_o_r0_0 (x1 : List Int) : Int := (bif tb (ref02_Mid_o_S0_c0 x1 (ref02_Right_o_r0_0 x1)) then 0 else (bif tb (ref02_Mid_o_S1_c0 x1) then (ref02_Mid_o_S1_r0_0 x1) else (ref02_half_ii_r0_0 (gt (ref02_Sort_o_r0_1 x1) 1) (gt (ref02_Sort_o_r0_1 x1) 2))))

def ref02_Mid_o_r0_1 (x1 : List Int) : Bool := (bif tb (ref02_Mid_o_S0_c0 x1 (ref02_Right_o_r0_0 x1)) then false else true)

theorem ref02_Mid_o_t0 (x0 : Bool) (x1 : List Int) : ref02_Mid_o_c0 x1 = true → cl E0 56 [(V.d (slD (encI .i64) true 1 x0 x1))] [] = some ([(V.d (.int .i64 (ref02_Mid_o_r0_0 x1))), (V.d (.bool (ref02_Mid_o_r0_1 x1)))], []) := by
  unfold ref02_Mid_o_c0 ref02_Mid_o_r0_0 ref02_Mid_o_r0_1
  cases h1 : tb (ref02_Right_o_c0 x1)
  · intro g0
    exact absurd g0 ft
  · cases h2 : tb (ref02_Mid_o_S0_c0 x1 (ref02_Right_o_r0_0 x1))
    · cases h3 : tb (ref02_Mid_o_S1_c0 x1)
      · cases h4 : tb (ref02_Mid_o_S1_c1 x1)
        · intro g0
          exact absurd g0 ft
        · intro g0
          exact w56 [.c (ref02_Right_o_t0 x0 x1 (tbE h1)), .s (ref02_Mid_o_S0_t1 x0 x1 (ref02_Right_o_r0_0 x1) (tbE h2)), .s (ref02_Mid_o_S1_t1 x0 x1 (tbE h3) (tbE h4))] (by kernel_rfl)
      · intro g0
        exact w56 [.c (ref02_Right_o_t0 x0 x1 (tbE h1)), .s (ref02_Mid_o_S0_t1 x0 x1 (ref02_Right_o_r0_0 x1) (tbE h2)), .s (ref02_Mid_o_S1_t0 x0 x1 (tbE h3))] (by kernel_rfl)
    · intro g0
      exact w56 [.c (ref02_Right_o_t0 x0 x1 (tbE h1)), .s (ref02_Mid_o_S0_t0 x0 x1 (ref02_Right_o_r0_0 x1) (tbE h2))] (by kernel_rfl)

end Go.Proofs.Ytdjmfcdopaejcaa.Den

namespace Go.Proofs.Ytdjmfcdopaejcaa.Den
open Go Go.Proofs
set_option maxRecDepth 100000
set_option maxHeartbeats 4000000
set_option linter.unusedVariables false
set_option linter.unusedSimpArgs false

structure ref03_Same_oo_L0_s0 where
  c4 : Int
  deriving Inhabited

def ref03_Same_oo_L0_enc (x0 : Bool) (x1 : List Int) (x2 : Bool) (x3 : List Int) (x4 : Int) (s0 : ref03_Same_oo_L0_s0) : List V × Mem := ([(V.d (slD (encI .u8) true 1 x0 x1)), (V.d (slD (encI .u8) true 1 x2 x3)), (V.d (.int .i64 s0.c4))], [])

def ref03_Same_oo_L0_sel (x1 : List Int) (x3 : List Int) (s0 : ref03_Same_oo_L0_s0) : Bool := (bif tb (decide (s0.c4 < ((x1.length : Nat) : Int))) then (bif tb (inb x1.length s0.c4) then (bif tb (inb x3.length s0.c4) then (bif tb (((gt x1 s0.c4) : Int) != (gt x3 s0.c4)) then false else true) else false) else false) else false)

def ref03_Same_oo_L0_nx (x1 : List Int) (x3 : List Int) (s0 : ref03_Same_oo_L0_s0) : ref03_Same_oo_L0_s0 := ⟨(wi (s0.c4 + 1))⟩

def ref03_Same_oo_L0_ok (x1 : List Int) (x3 : List Int) (s0 : ref03_Same_oo_L0_s0) : Bool := (itS (ref03_Same_oo_L0_sel x1 x3) (ref03_Same_oo_L0_nx x1 x3) bound s0).isSome
def ref03_Same_oo_L0_end (x1 : List Int) (x3 : List Int) (s0 : ref03_Same_oo_L0_s0) : ref03_Same_oo_L0_s0 := (itS (ref03_Same_oo_L0_sel x1 x3) (ref03_Same_oo_L0_nx x1 x3) bound s0).getD default

theorem ref03_Same_oo_L0_go (x0 : Bool) (x1 : List Int) (x2 : Bool) (x3 : List Int) (x4 : Int) (s0 : ref03_Same_oo_L0_s0) : ref03_Same_oo_L0_sel x1 x3 s0 = true → (roundG (runC E0 (cl E0) L21_0) [0, 1, 5] [4] 0) (ref03_Same_oo_L0_enc x0 x1 x2 x3 x4 s0) = some (.normal, ref03_Same_oo_L0_enc x0 x1 x2 x3 x4 (ref03_Same_oo_L0_nx x1 x3 s0)) := by
  unfold ref03_Same_oo_L0_sel ref03_Same_oo_L0_nx
  cases h1 : tb (decide (s0.c4 < ((x1.length : Nat) : Int)))
  · intro g0
    exact absurd g0 ft
  · cases h2 : tb (inb x1.length s0.c4)
    · intro g0
      exact absurd g0 ft
    · cases h3 : tb (inb x3.length s0.c4)
      · intro g0
        exact absurd g0 ft
      · cases h4 : tb (((gt x1 s0.c4) : Int) != (gt x3 s0.c4))
        · intro _
          exact round_walk [.o 13 (fun _ => o_len_os (enc := (encI .u8)) (l := x1) (fl := true) (n := x0) (s := 1)), .b (tbE h1), .o 19 (fun _ => o_idx_os (enc := (encI .u8)) (l := x1) (fl := true) (n := x0) (s := 1) (k := .i64) (tbE h2)), .o 23 (fun _ => o_idx_os (enc := (encI .u8)) (l := x3) (fl := true) (n := x2) (s := 1) (k := .i64) (tbE h3)), .b (tbE h4)] (by kernel_rfl)
        · intro g0
          exact absurd g0 ft

def ref03_Same_oo_L0_c0 (x1 : List Int) (x3 : List Int) (s0 : ref03_Same_oo_L0_s0) : Bool := (bif tb (decide (s0.c4 < ((x1.length : Nat) : Int))) then (bif tb (inb x1.length s0.c4) then (bif tb (inb x3.length s0.c4) then true else false) else false) else false)

def ref03_Same_oo_L0_c1 (x1 : List Int) (s0 : ref03_Same_oo_L0_s0) : Bool := (bif tb (decide (s0.c4 < ((x1.length : Nat) : Int))) then false else true)

theorem ref03_Same_oo_L0_x0 (x0 : Bool) (x1 : List Int) (x2 : Bool) (x3 : List Int) (x4 : Int) (s0 : ref03_Same_oo_L0_s0) : ref03_Same_oo_L0_sel x1 x3 s0 = false → ref03_Same_oo_L0_c0 x1 x3 s0 = true → (roundG (runC E0 (cl E0) L21_0) [0, 1, 5] [4] 0) (ref03_Same_oo_L0_enc x0 x1 x2 x3 x4 s0) = some (.ret, ([(V.d (.bool false))], [])) := by
  unfold ref03_Same_oo_L0_sel ref03_Same_oo_L0_c0
  cases h1 : tb (decide (s0.c4 < ((x1.length : Nat) : Int)))
  · intro g0 g1
    exact absurd g1 ft
  · cases h2 : tb (inb x1.length s0.c4)
    · intro g0 g1
      exact absurd g1 ft
    · cases h3 : tb (inb x3.length s0.c4)
      · intro g0 g1
        exact absurd g1 ft
      · cases h4 : tb (((gt x1 s0.c4) : Int) != (gt x3 s0.c4))
        · intro g0 g1
          exact absurd g0 tf
        · intro g0 g1
          exact round_walk [.o 13 (fun _ => o_len_os (enc := (encI .u8)) (l := x1) (fl := true) (n := x0) (s := 1)), .b (tbE h1), .o 19 (fun _ => o_idx_os (enc := (encI .u8)) (l := x1) (fl := true) (n := x0) (s := 1) (k := .i64) (tbE h2)), .o 23 (fun _ => o_idx_os (enc := (encI .u8)) (l := x3) (fl := true) (n := x2) (s := 1) (k := .i64) (tbE h3)), .b (tbE h4)] (by kernel_rfl)

theorem ref03_Same_oo_L0_x1 (x0 : Bool) (x1 : List Int) (x2 : Bool) (x3 : List Int) (x4 : Int) (s0 : ref03_Same_oo_L0_s0) : ref03_Same_oo_L0_sel x1 x3 s0 = false → ref03_Same_oo_L0_c0 x1 x3 s0 = false → ref03_Same_oo_L0_c1 x1 s0 = true → (roundG (runC E0 (cl E0) L21_0) [0, 1, 5] [4] 0) (ref03_Same_oo_L0_enc x0 x1 x2 x3 x4 s0) = some ((.exit 0), ([V.un], [])) := by
  unfold ref03_Same_oo_L0_sel ref03_Same_oo_L0_c0 ref03_Same_oo_L0_c1
  cases h1 : tb (decide (s0.c4 < ((x1.length : Nat) : Int)))
  · intro g0 g1 g2
    exact round_walk [.o 13 (fun _ => o_len_os (enc := (encI .u8)) (l := x1) (fl := true) (n := x0) (s := 1)), .b (tbE h1)] (by kernel_rfl)
  · cases h2 : tb (inb x1.length s0.c4)
    · intro g0 g1 g2
      exact absurd g2 ft
    · cases h3 : tb (inb x3.length s0.c4)
      · intro g0 g1 g2
        exact absurd g2 ft
      · cases h4 : tb (((gt x1 s0.c4) : Int) != (gt x3 s0.c4))
        · intro g0 g1 g2
          exact absurd g0 tf
        · intro g0 g1 g2
          exact absurd g1 tf

theorem ref03_Same_oo_L0_f0_0 (x0 : Bool) (x1 : List Int) (x2 : Bool) (x3 : List Int) (x4 : Int) (s : ref03_Same_oo_L0_s0) (hok : ref03_Same_oo_L0_ok x1 x3 s = true) (c0 : ref03_Same_oo_L0_c0 x1 x3 (ref03_Same_oo_L0_end x1 x3 s) = true) : loopG (roundG (runC E0 (cl E0) L21_0) [0, 1, 5] [4] 0) bound (ref03_Same_oo_L0_enc x0 x1 x2 x3 x4 s) = some (.ret, ([(V.d (.bool false))], [])) := by
  have e : itS (ref03_Same_oo_L0_sel x1 x3) (ref03_Same_oo_L0_nx x1 x3) bound s = some (ref03_Same_oo_L0_end x1 x3 s) := itS_get hok
  have f := itS_false e
  exact loop_it (ref03_Same_oo_L0_go x0 x1 x2 x3 x4) bound s _ _ _ e (fun h => by cases h) (ref03_Same_oo_L0_x0 x0 x1 x2 x3 x4 (ref03_Same_oo_L0_end x1 x3 s) f c0)

theorem ref03_Same_oo_L0_f0_1 (x0 : Bool) (x1 : List Int) (x2 : Bool) (x3 : List Int) (x4 : Int) (s : ref03_Same_oo_L0_s0) (hok : ref03_Same_oo_L0_ok x1 x3 s = true) (c0 : ref03_Same_oo_L0_c0 x1 x3 (ref03_Same_oo_L0_end x1 x3 s) = false) (c1 : ref03_Same_oo_L0_c1 x1 (ref03_Same_oo_L0_end x1 x3 s) = true) : loopG (roundG (runC E0 (cl E0) L21_0) [0, 1, 5] [4] 0) bound (ref03_Same_oo_L0_enc x0 x1 x2 x3 x4 s) = some ((.exit 0), ([V.un], [])) := by
  have e : itS (ref03_Same_oo_L0_sel x1 x3) (ref03_Same_oo_L0_nx x1 x3) bound s = some (ref03_Same_oo_L0_end x1 x3 s) := itS_get hok
  have f := itS_false e
  exact loop_it (ref03_Same_oo_L0_go x0 x1 x2 x3 x4) bound s _ _ _ e (fun h => by cases h) (ref03_Same_oo_L0_x1 x0 x1 x2 x3 x4 (ref03_Same_oo_L0_end x1 x3 s) f c0 c1)

def ref03_Same_oo_c0 (x1 : List Int) (x3 : List Int) : Bool := (bif tb ((((x1.length : Nat) : Int) : Int) != ((x3.length : Nat) : Int)) then true else (bif tb (ref03_Same_oo_L0_ok x1 x3 (⟨0⟩ : ref03_Same_oo_L0_s0)) then (bif tb (ref03_Same_oo_L0_c0 x1 x3 (ref03_Same_oo_L0_end x1 x3 (⟨0⟩ : ref03_Same_oo_L0_s0))) then true else (bif tb (ref03_Same_oo_L0_c1 x1 (ref03_Same_oo_L0_end x1 x3 (⟨0⟩ : ref03_Same_oo_L0_s0))) then true else false)) else false))

def ref03_Same_oo_r0_0 (x1 : List Int) (x3 : List Int) : Bool := (bif tb ((((x1.length : Nat) : Int) : Int) != ((x3.length : Nat) : Int)) then false else (bif tb (ref03_Same_oo_L0_c0 x1 x3 (ref03_Same_oo_L0_end x1 x3 (⟨0⟩ : ref03_Same_oo_L0_s0))) then false else true))

theorem ref03_Same_oo_t0 (x0 : Bool) (x1 : List Int) (x2 : Bool) (x3 : List Int) : ref03_Same_oo_c0 x1 x3 = true → cl E0 21 [(V.d (slD (encI .u8) true 1 x0 x1)), (V.d (slD (encI .u8) true 1 x2 x3))] [] = some ([(V.d (.bool (ref03_Same_oo_r0_0 x1 x3)))], []) := by
  unfold ref03_Same_oo_c0 ref03_Same_oo_r0_0
  cases h1 : tb ((((x1.length : Nat) : Int) : Int) != ((x3.length : Nat) : Int))
  · cases h2 : tb (ref03_Same_oo_L0_ok x1 x3 (⟨0⟩ : ref03_Same_oo_L0_s0))
    · intro g0
      exact absurd g0 ft
    · cases h3 : tb (ref03_Same_oo_L0_c0 x1 x3 (ref03_Same_oo_L0_end x1 x3 (⟨0⟩ : ref03_Same_oo_L0_s0)))
      · cases h4 : tb (ref03_Same_oo_L0_c1 x1 (ref03_Same_oo_L0_end x1 x3 (⟨0⟩ : ref03_Same_oo_L0_s0)))
        · intro g0
          exact absurd g0 ft
        · intro g0
          exact w21 [.o 7 (fun _ => o_len_os (enc := (encI .u8)) (l := x1) (fl := true) (n := x0) (s := 1)), .o 9 (fun _ => o_len_os (enc := (encI .u8)) (l := x3) (fl := true) (n := x2) (s := 1)), .b (tbE h1), .l (ref03_Same_oo_L0_f0_1 x0 x1 x2 x3 0 (⟨0⟩ : ref03_Same_oo_L0_s0) (tbE h2) (tbE h3) (tbE h4))] (by kernel_rfl)
      · intro g0
        exact w21 [.o 7 (fun _ => o_len_os (enc := (encI .u8)) (l := x1) (fl := true) (n := x0) (s := 1)), .o 9 (fun _ => o_len_os (enc := (encI .u8)) (l := x3) (fl := true) (n := x2) (s := 1)), .b (tbE h1), .l (ref03_Same_oo_L0_f0_0 x0 x1 x2 x3 0 (⟨0⟩ : ref03_Same_oo_L0_s0) (tbE h2) (tbE h3))] (by kernel_rfl)
  · intro g0
    exact w21 [.o 7 (fun _ => o_len_os (enc := (encI .u8)) (l := x1) (fl := true) (n := x0) (s := 1)), .o 9 (fun _ => o_len_os (enc := (encI .u8)) (l := x3) (fl := true) (n := x2) (s := 1)), .b (tbE h1)] (by kernel_rfl)

end Go.Proofs.Ytdjmfcdopaejcaa.Den

/- A type's data, opened cell by cell. -/
namespace Go.Proofs.Ytdjmfcdopaejcaa.Den
open Go
set_option linter.unusedVariables false
set_option linter.unusedSimpArgs false

inductive CK where
  | b
  | i (k : IntKind)
  | s
  | l (e : TypeId)

def flatK (P : Program) : Nat → TypeId → Option (List CK)
  | 0, _ => none
  | n + 1, t => match P.underlying t with
    | some .bool => some [.b]
    | some (.int k) => some [.i k]
    | some .string => some [.s]
    | some (.slice e) => some [.l e]
    | some (.struct fs) => (fs.toList.mapM fun f => flatK P n f.type).map List.flatten
    | some (.array m e) => (flatK P n e).map fun l => (List.replicate m l).flatten
    | _ => none

def WfI (k : IntKind) (z : Int) : Prop := (Lit.int k z).wf = true

def CellK (P : Program) : CK → D → Prop
  | .b, d => ∃ b, d = .bool b
  | .i k, d => ∃ z, d = .int k z ∧ WfI k z
  | .s, d => ∃ s, d = .str s ∧ s.size ≤ maxLen
  | .l e, d => d = .nils ∨ ∃ rows, d = .rs (isFlat P e) (P.cellsOf e) rows false ∧ rows.length ≤ maxLen ∧ ∃ n, ∀ r, r ∈ rows → Ty P n e r

def CellsK (P : Program) : List CK → List D → Prop
  | [], ds => ds = []
  | k :: ks, ds => ∃ d r, ds = d :: r ∧ CellK P k d ∧ CellsK P ks r

theorem CellsK.append {P : Program} : ∀ {a b : List CK} {x y : List D}, CellsK P a x → CellsK P b y → CellsK P (a ++ b) (x ++ y)
  | [], _, _, _, h, h' => by simp only [CellsK] at h; subst h; simpa using h'
  | k :: a, b, x, y, h, h' => by
    simp only [CellsK] at h
    obtain ⟨d, r, rfl, h1, h2⟩ := h
    simp only [List.cons_append, CellsK]
    exact ⟨d, _, rfl, h1, CellsK.append h2 h'⟩

theorem flatK_fs {P : Program} {n : Nat} (ih : ∀ t ks ds, flatK P n t = some ks → Ty P n t ds → CellsK P ks ds) : ∀ (fs : List Field) (l : List (List CK)) (ds : List D), fs.mapM (fun f => flatK P n f.type) = some l → TyFs (Ty P n) fs ds → CellsK P l.flatten ds
  | [], l, ds, h, ht => by
    simp at h; subst h
    obtain rfl := tyfs_nil ht
    simp [CellsK]
  | f :: fs, l, ds, h, ht => by
    rw [List.mapM_cons] at h
    simp only [Option.bind_eq_bind, Option.bind_eq_some_iff, Option.pure_def, Option.some.injEq] at h
    obtain ⟨a, h1, b, h2, rfl⟩ := h
    obtain ⟨x, y, rfl, g1, g2⟩ := tyfs_cons ht
    simp only [List.flatten_cons]
    exact (ih _ _ _ h1 g1).append (flatK_fs ih fs b y h2 g2)

theorem flatK_ok {P : Program} : ∀ (n : Nat) (t : TypeId) (ks : List CK) (ds : List D), flatK P n t = some ks → Ty P n t ds → CellsK P ks ds
  | 0, _, _, _, h, _ => by simp [flatK] at h
  | n + 1, t, ks, ds, h, ht => by
    simp only [flatK] at h
    cases hu : P.underlying t with
    | none => simp [hu] at h
    | some u =>
      rw [hu] at h
      cases u with
      | bool => cases h; obtain ⟨b, rfl⟩ := ty_bool ht hu; exact ⟨_, [], rfl, ⟨b, rfl⟩, rfl⟩
      | int k => cases h; obtain ⟨z, rfl, hz⟩ := ty_int ht hu; exact ⟨_, [], rfl, ⟨z, rfl, hz⟩, rfl⟩
      | string => cases h; obtain ⟨z, rfl, hz⟩ := ty_str ht hu; exact ⟨_, [], rfl, ⟨z, rfl, hz⟩, rfl⟩
      | slice e =>
        cases h
        rcases ty_slice ht hu with rfl | ⟨rows, rfl, h1, h2⟩
        · exact ⟨_, [], rfl, .inl rfl, rfl⟩
        · exact ⟨_, [], rfl, .inr ⟨rows, rfl, h1, n, h2⟩, rfl⟩
      | struct fs =>
        obtain ⟨l, hl, rfl⟩ := Option.map_eq_some_iff.1 h
        exact flatK_fs (fun t ks ds => flatK_ok n t ks ds) fs.toList l ds hl (ty_struct ht hu)
      | array m e =>
        obtain ⟨l, hl, rfl⟩ := Option.map_eq_some_iff.1 h
        obtain ⟨rows, hr, rfl, hall⟩ := ty_arr ht hu
        have key : ∀ (rows : List (List D)), (∀ r, r ∈ rows → Ty P n e r) → CellsK P (List.replicate rows.length l).flatten rows.flatten := by
          intro rows
          induction rows with
          | nil => intro _; simp [CellsK]
          | cons r rows ih =>
            intro hall
            simp only [List.length_cons, List.replicate_succ, List.flatten_cons]
            exact (flatK_ok n e l r hl (hall r (by simp))).append (ih fun x hx => hall x (by simp [hx]))
        rw [← hr]; exact key rows hall
      | _ => simp at h

/-- The rows of a list, told by an encoding. -/
theorem rows_of {α : Type} {enc : α → List D} {wf : α → Prop} {T : List D → Prop} (h : ∀ r, T r → ∃ x, r = enc x ∧ wf x) : ∀ rows : List (List D), (∀ r, r ∈ rows → T r) → ∃ l : List α, rows = l.map enc ∧ ∀ x, x ∈ l → wf x
  | [], _ => ⟨[], rfl, fun _ h => by simp at h⟩
  | r :: rows, hr => by
    obtain ⟨x, rfl, hx⟩ := h r (hr r (by simp))
    obtain ⟨l, rfl, hl⟩ := rows_of h rows fun y hy => hr y (by simp [hy])
    refine ⟨x :: l, rfl, fun y hy => ?_⟩
    rcases List.mem_cons.1 hy with rfl | hy
    · exact hx
    · exact hl y hy

theorem ints_of {P : Program} {n : Nat} {e : TypeId} {k : IntKind} (hu : P.underlying e = some (.int k)) {rows : List (List D)} (h : ∀ r, r ∈ rows → Ty P n e r) : ∃ l : List Int, rows = l.map (encI k) ∧ ∀ z, z ∈ l → WfI k z :=
  rows_of (T := Ty P n e) (fun r hr => by
    cases n with
    | zero => simp [Ty] at hr
    | succ n => obtain ⟨z, rfl, hz⟩ := ty_int hr hu; exact ⟨z, rfl, hz⟩) rows h

theorem bools_of {P : Program} {n : Nat} {e : TypeId} (hu : P.underlying e = some .bool) {rows : List (List D)} (h : ∀ r, r ∈ rows → Ty P n e r) : ∃ l : List Bool, rows = l.map encB ∧ ∀ z, z ∈ l → True :=
  rows_of (T := Ty P n e) (fun r hr => by
    cases n with
    | zero => simp [Ty] at hr
    | succ n => obtain ⟨z, rfl⟩ := ty_bool hr hu; exact ⟨z, rfl, trivial⟩) rows h

theorem tyFs_mono {T T' : TypeId → List D → Prop} (h : ∀ t ds, T t ds → T' t ds) : ∀ (fs : List Field) (ds : List D), TyFs T fs ds → TyFs T' fs ds
  | [], ds, ht => ht
  | f :: fs, ds, ht => by
    obtain ⟨x, y, rfl, g1, g2⟩ := tyfs_cons ht
    simp only [TyFs]
    exact ⟨x, y, rfl, h _ _ g1, tyFs_mono h fs y g2⟩

theorem ty_mono {P : Program} : ∀ (n : Nat) (t : TypeId) (ds : List D), Ty P n t ds → Ty P (n + 1) t ds
  | 0, _, _, h => by simp [Ty] at h
  | n + 1, t, ds, h => by
    rw [Ty] at h ⊢
    cases hu : P.underlying t with
    | none => simp [hu] at h
    | some u =>
      rw [hu] at h
      cases u with
      | slice e =>
        rcases h with rfl | ⟨rows, rfl, h1, h2⟩
        · exact .inl rfl
        · exact .inr ⟨rows, rfl, h1, fun r hr => ty_mono n _ _ (h2 r hr)⟩
      | struct fs => exact tyFs_mono (fun t ds => ty_mono n t ds) _ _ h
      | array m e =>
        obtain ⟨rows, h1, rfl, h2⟩ := h
        exact ⟨rows, h1, rfl, fun r hr => ty_mono n _ _ (h2 r hr)⟩
      | _ => exact h

theorem mapM_mono {α β : Type} {f g : α → Option β} (h : ∀ a b, f a = some b → g a = some b) : ∀ (l : List α) (r : List β), l.mapM f = some r → l.mapM g = some r
  | [], r, hr => by simpa using hr
  | a :: l, r, hr => by
    rw [List.mapM_cons] at hr ⊢
    simp only [Option.bind_eq_bind, Option.bind_eq_some_iff, Option.pure_def, Option.some.injEq] at hr ⊢
    obtain ⟨x, h1, y, h2, rfl⟩ := hr
    exact ⟨x, h a x h1, y, mapM_mono h l y h2, rfl⟩

theorem flatK_mono {P : Program} : ∀ (n : Nat) (t : TypeId) (ks : List CK), flatK P n t = some ks → flatK P (n + 1) t = some ks
  | 0, _, _, h => by simp [flatK] at h
  | n + 1, t, ks, h => by
    rw [flatK] at h ⊢
    cases hu : P.underlying t with
    | none => simp [hu] at h
    | some u =>
      rw [hu] at h
      cases u with
      | struct fs =>
        obtain ⟨l, hl, rfl⟩ := Option.map_eq_some_iff.1 h
        simp only [mapM_mono (fun f b hb => flatK_mono n _ _ hb) _ _ hl, Option.map_some]
      | array m e =>
        obtain ⟨l, hl, rfl⟩ := Option.map_eq_some_iff.1 h
        simp only [flatK_mono n _ _ hl, Option.map_some]
      | _ => exact h

/-- The cells of an element's type, at any depth. -/
theorem flatK_any {P : Program} {k : Nat} {t : TypeId} {ks : List CK} {ds : List D} (h : flatK P k t = some ks) {n : Nat} (ht : Ty P n t ds) : CellsK P ks ds := by
  have h1 : ∀ j, flatK P (k + j) t = some ks := fun j => by
    induction j with
    | zero => exact h
    | succ j ih => exact flatK_mono _ _ _ ih
  have h2 : ∀ j, Ty P (n + j) t ds := fun j => by
    induction j with
    | zero => exact ht
    | succ j ih => exact ty_mono _ _ _ ih
  refine flatK_ok (k + n) t ks ds (h1 n) ?_
  rw [Nat.add_comm]; exact h2 k

theorem wfI_i64 {z : Int} (h : WfI .i64 z) : -9223372036854775808 ≤ z ∧ z ≤ 9223372036854775807 := by
  simp [WfI, Lit.wf, IntKind.min, IntKind.max, IntKind.signed, IntKind.bits] at h
  omega
end Go.Proofs.Ytdjmfcdopaejcaa.Den

/- Plain laws on the words of the printed texts. -/
namespace Go.Proofs.Ytdjmfcdopaejcaa.Den
open Go
set_option linter.unusedVariables false
set_option linter.unusedSimpArgs false

@[simp] theorem tb_eq (b : Bool) : tb b = b := rfl

theorem wrap64 {x : Int} (h1 : -9223372036854775808 ≤ x) (h2 : x ≤ 9223372036854775807) : IntKind.i64.wrap x = x := by
  unfold IntKind.wrap
  simp [IntKind.bits, IntKind.signed]
  omega

theorem wi_eq {x : Int} (h1 : -9223372036854775808 ≤ x) (h2 : x ≤ 9223372036854775807) : wi x = x := wrap64 h1 h2

theorem wfI_i32 {z : Int} (h : WfI .i32 z) : -2147483648 ≤ z ∧ z ≤ 2147483647 := by
  simp [WfI, Lit.wf, IntKind.min, IntKind.max, IntKind.signed, IntKind.bits] at h
  omega
theorem wfI_i16 {z : Int} (h : WfI .i16 z) : -32768 ≤ z ∧ z ≤ 32767 := by
  simp [WfI, Lit.wf, IntKind.min, IntKind.max, IntKind.signed, IntKind.bits] at h
  omega
theorem wfI_u8 {z : Int} (h : WfI .u8 z) : 0 ≤ z ∧ z ≤ 255 := by
  simp [WfI, Lit.wf, IntKind.min, IntKind.max, IntKind.signed, IntKind.bits] at h
  omega
theorem wfI_u16 {z : Int} (h : WfI .u16 z) : 0 ≤ z ∧ z ≤ 65535 := by
  simp [WfI, Lit.wf, IntKind.min, IntKind.max, IntKind.signed, IntKind.bits] at h
  omega
theorem wfI_u32 {z : Int} (h : WfI .u32 z) : 0 ≤ z ∧ z ≤ 4294967295 := by
  simp [WfI, Lit.wf, IntKind.min, IntKind.max, IntKind.signed, IntKind.bits] at h
  omega

theorem mxI_eq (a b : Int) : mxI a b = max a b := by unfold mxI; split <;> omega
theorem mnI_eq (a b : Int) : mnI a b = min a b := by unfold mnI; split <;> omega

theorem inb_iff {n : Nat} {i : Int} : inb n i = true ↔ 0 ≤ i ∧ i < n := by simp [inb]
theorem inb_of {n : Nat} {i : Int} (h1 : 0 ≤ i) (h2 : i < n) : inb n i = true := inb_iff.2 ⟨h1, h2⟩

theorem loop_inv {S : Type} {sel : S → Bool} {nx : S → S} (J : S → Prop) (μ : S → Nat) {s0 : S} (h0 : J s0) (hb : μ s0 < 1152921504606846976) (hn : ∀ s, J s → sel s = true → J (nx s) ∧ μ (nx s) < μ s) :
    ∃ s1, itS sel nx bound s0 = some s1 ∧ J s1 ∧ sel s1 = false := itS_inv J μ hn bound s0 h0 hb

/-- A loop told by a function of its states. -/
theorem loop_fun {S : Type} {sel : S → Bool} {nx : S → S} (J : S → Prop) (μ : S → Nat) (g : S → S) {s0 : S} (h0 : J s0) (hb : μ s0 < 1152921504606846976) (hs : ∀ s, J s → sel s = false → g s = s) (hn : ∀ s, J s → sel s = true → J (nx s) ∧ μ (nx s) < μ s ∧ g (nx s) = g s) :
    itS sel nx bound s0 = some (g s0) := itS_eq J μ g hs hn bound s0 h0 hb

theorem gt_mem {α : Type} [Inhabited α] {l : List α} {i : Int} (h1 : 0 ≤ i) (h2 : i < l.length) : gt l i ∈ l := by
  have h : i.toNat < l.length := by omega
  have : gt l i = l[i.toNat] := by simp [gt, List.getD, h]
  rw [this]; exact List.getElem_mem h

theorem gt_nat {α : Type} [Inhabited α] {l : List α} {k : Nat} (h : k < l.length) : gt l (k : Int) = l[k] := by simp [gt, List.getD, h]

theorem gt_getElem {α : Type} [Inhabited α] {l : List α} {i : Int} (h1 : 0 ≤ i) (h2 : i.toNat < l.length) : gt l i = l[i.toNat] := by simp [gt, List.getD, h2]

/-- A loop over a list by an index, that stops where a test fails. -/
theorem all_loop {S α : Type} [Inhabited α] {sel : S → Bool} {nx : S → S} {s0 : S} (l : List α) (ix : S → Int) (p : α → Bool) (J : S → Prop) (hl : l.length < 1152921504606846976) (h0 : ix s0 = 0) (hJ0 : J s0)
    (hnx : ∀ s, J s → 0 ≤ ix s → ix s < l.length → sel s = true → ix (nx s) = ix s + 1 ∧ J (nx s)) (hsel : ∀ s, J s → 0 ≤ ix s → ix s ≤ l.length → sel s = (decide (ix s < l.length) && p (gt l (ix s)))) :
    ∃ s1, itS sel nx bound s0 = some s1 ∧ J s1 ∧ 0 ≤ ix s1 ∧ ((ix s1 = l.length ∧ l.all p = true) ∨ (ix s1 < l.length ∧ p (gt l (ix s1)) = false ∧ l.all p = false)) := by
  obtain ⟨s1, e, ⟨hJ, a1, a2, a3⟩, hs⟩ := loop_inv (sel := sel) (nx := nx) (fun s => J s ∧ 0 ≤ ix s ∧ ix s ≤ l.length ∧ ∀ j : Nat, (j : Int) < ix s → p (gt l j) = true) (fun s => (l.length - ix s).toNat) (s0 := s0)
    ⟨hJ0, by omega, by omega, fun j hj => by omega⟩ (by omega) (fun s ⟨hJ, b1, b2, b3⟩ hs => by
      have h1 := hsel s hJ b1 b2
      rw [hs] at h1
      have h2 := (Bool.and_eq_true _ _).mp h1.symm
      have h3 : ix s < l.length := by simpa using h2.1
      obtain ⟨h4, h5⟩ := hnx s hJ b1 h3 hs
      refine ⟨⟨h5, by omega, by omega, fun j hj => ?_⟩, by omega⟩
      by_cases hjj : (j : Int) < ix s
      · exact b3 j hjj
      · have : (j : Int) = ix s := by omega
        rw [this]; exact h2.2)
  refine ⟨s1, e, hJ, a1, ?_⟩
  rcases Int.lt_or_eq_of_le a2 with h | h
  · have h1 := hsel s1 hJ a1 a2
    rw [hs] at h1
    have hp : p (gt l (ix s1)) = false := by simpa [h] using h1.symm
    refine .inr ⟨h, hp, ?_⟩
    rw [List.all_eq_false]
    exact ⟨_, gt_mem a1 h, by simp [hp]⟩
  · refine .inl ⟨h, ?_⟩
    rw [List.all_eq_true]
    intro x hx
    obtain ⟨j, hj, rfl⟩ := List.getElem_of_mem hx
    have := a3 j (by omega)
    rwa [gt_nat hj] at this

/-- A loop by an index that goes to its end. -/
theorem idx_loop {S : Type} {sel : S → Bool} {nx : S → S} {s0 : S} (n : Int) (ix : S → Int) (J : S → Prop) (hn : n < 1152921504606846976) (h0 : J s0) (h1 : 0 ≤ ix s0) (h2 : ix s0 ≤ n)
    (hr : ∀ s, J s → 0 ≤ ix s → ix s < n → sel s = true ∧ J (nx s) ∧ ix (nx s) = ix s + 1) (he : ∀ s, J s → ix s = n → sel s = false) : ∃ s1, itS sel nx bound s0 = some s1 ∧ J s1 ∧ ix s1 = n := by
  obtain ⟨s1, e, ⟨hJ, a1, a2⟩, hs⟩ := loop_inv (sel := sel) (nx := nx) (fun s => J s ∧ 0 ≤ ix s ∧ ix s ≤ n) (fun s => (n - ix s).toNat) (s0 := s0) ⟨h0, h1, h2⟩ (by omega) (fun s ⟨hJ, b1, b2⟩ hs => by
    by_cases h : ix s = n
    · rw [he s hJ h] at hs; cases hs
    · obtain ⟨_, g1, g2⟩ := hr s hJ b1 (by omega)
      exact ⟨⟨g1, by omega, by omega⟩, by omega⟩)
  refine ⟨s1, e, hJ, ?_⟩
  by_cases h : ix s1 = n
  · exact h
  · rw [(hr s1 hJ a1 (by omega)).1] at hs; cases hs

end Go.Proofs.Ytdjmfcdopaejcaa.Den

/- Plain laws on lists and loops, for all seats. -/
namespace Go.Proofs.Ytdjmfcdopaejcaa.Den
open Go
set_option linter.unusedVariables false
set_option linter.unusedSimpArgs false

/-- A loop whose states are known one by one. -/
theorem loop_seq {S : Type} {sel : S → Bool} {nx : S → S} (st : Nat → S) (n : Nat) (hb : n < 1152921504606846976) (hn : ∀ k, k < n → sel (st k) = true ∧ nx (st k) = st (k + 1)) (he : sel (st n) = false) : itS sel nx bound (st 0) = some (st n) := by
  have key : ∀ (d N : Nat), d ≤ n → d < N → itS sel nx N (st (n - d)) = some (st n) := by
    intro d
    induction d with
    | zero =>
      intro N _ hN
      obtain ⟨N, rfl⟩ : ∃ M, N = M + 1 := ⟨N - 1, by omega⟩
      simp only [Nat.sub_zero, itS, he]
    | succ d ih =>
      intro N h1 hN
      obtain ⟨N, rfl⟩ : ∃ M, N = M + 1 := ⟨N - 1, by omega⟩
      obtain ⟨g1, g2⟩ := hn (n - (d + 1)) (by omega)
      simp only [itS, g1, g2]
      rw [show n - (d + 1) + 1 = n - d by omega]
      exact ih N (by omega) (by omega)
  have := key n bound (Nat.le_refl _) (by unfold bound; omega)
  rwa [Nat.sub_self] at this

theorem gt_zip {l k : List Int} (h : l.length = k.length) {i : Int} (h1 : 0 ≤ i) (h2 : i < l.length) : gt (l.zip k) i = (gt l i, gt k i) := by
  rw [gt_getElem h1 (by rw [List.length_zip]; omega), gt_getElem h1 (by omega), gt_getElem h1 (by omega), List.getElem_zip]

theorem zip_all : ∀ {l k : List Int}, l.length = k.length → ((l.zip k).all fun p => p.1 == p.2) = decide (l = k)
  | [], [], _ => by simp
  | x :: l, y :: k, h => by
    rw [List.zip_cons_cons, List.all_cons, zip_all (by simpa using h), Bool.eq_iff_iff]
    simp
  | [], _ :: _, h => by simp at h
  | _ :: _, [], h => by simp at h

/-- A loop that goes on while two lists are alike. -/
theorem eq_loop {S : Type} {sel : S → Bool} {nx : S → S} {s0 : S} {l k : List Int} (hlk : l.length = k.length) (ix : S → Int) (hl : l.length < 1152921504606846976) (h0 : ix s0 = 0)
    (hnx : ∀ s, 0 ≤ ix s → ix s < l.length → ix (nx s) = ix s + 1) (hsel : ∀ s, 0 ≤ ix s → ix s ≤ l.length → sel s = (decide (ix s < l.length) && (gt l (ix s) == gt k (ix s)))) :
    ∃ s1, itS sel nx bound s0 = some s1 ∧ 0 ≤ ix s1 ∧ ((ix s1 = l.length ∧ l = k) ∨ (ix s1 < l.length ∧ (gt l (ix s1) == gt k (ix s1)) = false ∧ l ≠ k)) := by
  have hz : (l.zip k).length = l.length := by rw [List.length_zip]; omega
  obtain ⟨s1, e, -, g0, g⟩ := all_loop (sel := sel) (nx := nx) (s0 := s0) (l.zip k) ix (fun p => p.1 == p.2) (fun _ => True) (by omega) h0 trivial
    (fun s _ a1 a2 _ => ⟨hnx s a1 (by omega), trivial⟩)
    (fun s _ a1 a2 => by
      rw [hsel s a1 (by omega), hz]
      by_cases h : ix s < l.length
      · rw [gt_zip hlk a1 h]
      · simp [h])
  rw [zip_all hlk, hz] at g
  refine ⟨s1, e, g0, ?_⟩
  rcases g with ⟨a, b⟩ | ⟨a, b, c⟩
  · exact .inl ⟨a, by simpa using b⟩
  · rw [gt_zip hlk g0 a] at b
    exact .inr ⟨a, b, by simpa using c⟩

theorem sub_nat {α : Type} (l : List α) (a b : Nat) : sub l (a : Int) (b : Int) = (l.drop a).take (b - a) := by
  unfold sub; congr 1; omega

theorem gt_append_left {α : Type} [Inhabited α] {l k : List α} {i : Int} (h : 0 ≤ i) (h2 : i < l.length) : gt (l ++ k) i = gt l i := by
  rw [gt_getElem h (by rw [List.length_append]; omega), gt_getElem h (by omega), List.getElem_append_left]

theorem take_succ_gt {α : Type} [Inhabited α] {l : List α} {k : Nat} (h : k < l.length) : l.take (k + 1) = l.take k ++ [gt l (k : Int)] := by
  rw [gt_nat h, List.take_succ_eq_append_getElem h]

/-! ### numbers -/

theorem u8w (x : Int) : IntKind.u8.wrap x = x % 256 := by simp [IntKind.wrap, IntKind.bits, IntKind.signed]
theorem u16w (x : Int) : IntKind.u16.wrap x = x % 65536 := by simp [IntKind.wrap, IntKind.bits, IntKind.signed]
theorem u32w (x : Int) : IntKind.u32.wrap x = x % 4294967296 := by simp [IntKind.wrap, IntKind.bits, IntKind.signed]
theorem i32w (x : Int) : IntKind.i32.wrap x = if 2147483648 ≤ x % 4294967296 then x % 4294967296 - 4294967296 else x % 4294967296 := by
  simp [IntKind.wrap, IntKind.bits, IntKind.signed]

theorem shr_i64 (x : Int) (k : Nat) (hk : k ≤ 64) : shrI .i64 x (k : Int) = x / (2 ^ k : Int) := by
  unfold shrI
  have : min (k : Int).toNat IntKind.i64.bits = k := by simp [IntKind.bits]; omega
  rw [this]
  exact Int.fdiv_eq_ediv_of_nonneg _ (by exact_mod_cast Nat.zero_le _)

theorem quo_i64 {x y : Int} (h1 : 0 ≤ x) (h2 : 0 ≤ y) (h3 : x ≤ 9223372036854775807) : quoI .i64 x y = x / y := by
  unfold quoI
  rw [Int.tdiv_eq_ediv_of_nonneg h1]
  have a := Int.ediv_nonneg h1 h2
  have b := Int.ediv_le_self y h1
  exact wrap64 (by omega) (by omega)

theorem rem_i64 {x y : Int} (h1 : 0 ≤ x) : remI .i64 x y = x % y := by
  unfold remI; exact Int.tmod_eq_emod_of_nonneg h1

theorem bvOf {n : Nat} {a : Nat} (h : a < 2 ^ n) : (BitVec.ofInt n (a : Int)) = BitVec.ofNat n a := by
  simp

theorem or_nat {k : IntKind} {a b : Nat} (ha : a < 2 ^ k.bits) (hb : b < 2 ^ k.bits) : orI k (a : Int) (b : Int) = k.wrap ((a ||| b : Nat) : Int) := by
  unfold orI
  rw [bvOf ha, bvOf hb, BitVec.toNat_or, BitVec.toNat_ofNat, BitVec.toNat_ofNat, Nat.mod_eq_of_lt ha, Nat.mod_eq_of_lt hb]

theorem or_add {a b i : Nat} (hb : b < 2 ^ i) : (2 ^ i * a) ||| b = 2 ^ i * a + b := by
  exact (Nat.two_pow_add_eq_or_of_lt hb a).symm

end Go.Proofs.Ytdjmfcdopaejcaa.Den

/- What tells lists alike, told plainly. -/
namespace Go.Proofs.Ytdjmfcdopaejcaa.Den
open Go
set_option linter.unusedVariables false
set_option linter.unusedSimpArgs false

theorem same_eq {l k : List Int} (hl : l.length < 1152921504606846976) : ref03_Same_oo_c0 l k = true ∧ ref03_Same_oo_r0_0 l k = decide (l = k) := by
  by_cases h : l.length = k.length
  · obtain ⟨s1, e, g0, g⟩ := eq_loop (sel := ref03_Same_oo_L0_sel l k) (nx := ref03_Same_oo_L0_nx l k) (s0 := ⟨0⟩) h (fun s => s.c4) hl rfl
      (fun s a1 a2 => by show wi _ = _; exact wi_eq (by omega) (by omega))
      (fun s a1 a2 => by
        by_cases hi : s.c4 < l.length
        · have i1 := inb_of a1 hi
          have i2 : inb k.length s.c4 = true := by rw [← h]; exact i1
          by_cases q : gt l s.c4 = gt k s.c4
          · simp [ref03_Same_oo_L0_sel, hi, i1, i2, q]
          · simp [ref03_Same_oo_L0_sel, hi, i1, i2, q, bne]
        · simp [ref03_Same_oo_L0_sel, hi])
    have hne : ((((l.length : Nat) : Int) : Int) != ((k.length : Nat) : Int)) = false := by simp [h]
    simp only [ref03_Same_oo_c0, ref03_Same_oo_r0_0, ref03_Same_oo_L0_ok, ref03_Same_oo_L0_end, e, hne, tb_eq, cond_false, Option.isSome_some, cond_true, Option.getD_some]
    rcases g with ⟨a, b⟩ | ⟨a, b, c⟩
    · simp [ref03_Same_oo_L0_c0, ref03_Same_oo_L0_c1, a, b]
    · have i1 := inb_of g0 a
      have i2 : inb k.length s1.c4 = true := by rw [← h]; exact i1
      simp [ref03_Same_oo_L0_c0, ref03_Same_oo_L0_c1, a, c, i1, i2]
  · have hne : ((((l.length : Nat) : Int) : Int) != ((k.length : Nat) : Int)) = true := by simp; omega
    have : l ≠ k := fun e => h (by rw [e])
    simp [ref03_Same_oo_c0, ref03_Same_oo_r0_0, hne, this]

theorem ints_eq {l k : List Int} (hl : l.length < 1152921504606846976) : ref02_Ints_oo_c0 l k = true ∧ ref02_Ints_oo_r0_0 l k = decide (l = k) := by
  by_cases h : l.length = k.length
  · obtain ⟨s1, e, g0, g⟩ := eq_loop (sel := ref02_Ints_oo_L0_sel l k) (nx := ref02_Ints_oo_L0_nx l k) (s0 := ⟨0⟩) h (fun s => s.c4) hl rfl
      (fun s a1 a2 => by show wi _ = _; exact wi_eq (by omega) (by omega))
      (fun s a1 a2 => by
        by_cases hi : s.c4 < l.length
        · have i1 := inb_of a1 hi
          have i2 : inb k.length s.c4 = true := by rw [← h]; exact i1
          by_cases q : gt l s.c4 = gt k s.c4
          · simp [ref02_Ints_oo_L0_sel, hi, i1, i2, q]
          · simp [ref02_Ints_oo_L0_sel, hi, i1, i2, q, bne]
        · simp [ref02_Ints_oo_L0_sel, hi])
    have hne : ((((l.length : Nat) : Int) : Int) != ((k.length : Nat) : Int)) = false := by simp [h]
    simp only [ref02_Ints_oo_c0, ref02_Ints_oo_r0_0, ref02_Ints_oo_L0_ok, ref02_Ints_oo_L0_end, e, hne, tb_eq, cond_false, Option.isSome_some, cond_true, Option.getD_some]
    rcases g with ⟨a, b⟩ | ⟨a, b, c⟩
    · simp [ref02_Ints_oo_L0_c0, ref02_Ints_oo_L0_c1, a, b]
    · have i1 := inb_of g0 a
      have i2 : inb k.length s1.c4 = true := by rw [← h]; exact i1
      simp [ref02_Ints_oo_L0_c0, ref02_Ints_oo_L0_c1, a, c, i1, i2]
  · have hne : ((((l.length : Nat) : Int) : Int) != ((k.length : Nat) : Int)) = true := by simp; omega
    have : l ≠ k := fun e => h (by rw [e])
    simp [ref02_Ints_oo_c0, ref02_Ints_oo_r0_0, hne, this]

end Go.Proofs.Ytdjmfcdopaejcaa.Den

/- The functions of layer 4 (word), told plainly. -/
namespace Go.Proofs.Ytdjmfcdopaejcaa.Den
open Go
set_option linter.unusedVariables false
set_option linter.unusedSimpArgs false
set_option maxRecDepth 10000

def Byts (l : List Int) : Prop := ∀ z ∈ l, 0 ≤ z ∧ z ≤ 255

theorem byts_of {l : List Int} (h : ∀ z ∈ l, WfI .u8 z) : Byts l := fun z hz => wfI_u8 (h z hz)

theorem byts_take {l : List Int} (h : Byts l) (k : Nat) : Byts (l.take k) := fun z hz => h z (List.mem_of_mem_take hz)
theorem byts_drop {l : List Int} (h : Byts l) (k : Nat) : Byts (l.drop k) := fun z hz => h z (List.mem_of_mem_drop hz)

/-! ### one number -/

def be4 (a b c d : Int) : Int := if 2147483648 ≤ 16777216 * a + 65536 * b + 256 * c + d then 16777216 * a + 65536 * b + 256 * c + d - 4294967296 else 16777216 * a + 65536 * b + 256 * c + d
def g4 : List Int → Int
  | [a, b, c, d] => be4 a b c d
  | _ => 0

theorem nat_of {a : Int} (h : 0 ≤ a ∧ a ≤ 255) : ∃ n : Nat, a = n ∧ n < 256 := ⟨a.toNat, by omega, by omega⟩

theorem shl_u32 {n : Nat} (k : Nat) (hn : n * 2 ^ k < 4294967296) (hk : k ≤ 32) : shlI .u32 (n : Int) (k : Int) = ((2 ^ k * n : Nat) : Int) := by
  unfold shlI
  have : min (k : Int).toNat IntKind.u32.bits = k := by simp [IntKind.bits]; omega
  rw [this, u32w]
  have : ((n : Int) * 2 ^ k) = ((n * 2 ^ k : Nat) : Int) := by push_cast; rfl
  rw [this, Int.emod_eq_of_lt (by omega) (by omega), Nat.mul_comm]

theorem u32_or {a b : Nat} (ha : a < 4294967296) (hb : b < 4294967296) (h : a ||| b < 4294967296) : orI .u32 (a : Int) (b : Int) = ((a ||| b : Nat) : Int) := by
  rw [or_nat (k := .u32) (by simpa [IntKind.bits] using ha) (by simpa [IntKind.bits] using hb), u32w]
  exact Int.emod_eq_of_lt (by omega) (by omega)

theorem u32_small {n : Nat} (h : n < 4294967296) : IntKind.u32.wrap (n : Int) = n := by
  rw [u32w]; exact Int.emod_eq_of_lt (by omega) (by omega)

theorem i64_or {a b : Nat} (ha : a < 4294967296) (hb : b < 4294967296) (h : a ||| b < 4294967296) : orI .i64 (a : Int) (b : Int) = ((a ||| b : Nat) : Int) := by
  rw [or_nat (k := .i64) (by simp [IntKind.bits]; omega) (by simp [IntKind.bits]; omega)]
  exact wrap64 (by omega) (by omega)

theorem word4 {a b c d : Int} (ha : 0 ≤ a ∧ a ≤ 255) (hb : 0 ≤ b ∧ b ≤ 255) (hc : 0 ≤ c ∧ c ≤ 255) (hd : 0 ≤ d ∧ d ≤ 255) :
    wi (IntKind.i32.wrap (orI .u32 (orI .u32 (orI .u32 (shlI .u32 (IntKind.u32.wrap a) 24) (shlI .u32 (IntKind.u32.wrap b) 16)) (shlI .u32 (IntKind.u32.wrap c) 8)) (IntKind.u32.wrap d))) = be4 a b c d := by
  obtain ⟨A, rfl, hA⟩ := nat_of ha
  obtain ⟨B, rfl, hB⟩ := nat_of hb
  obtain ⟨C, rfl, hC⟩ := nat_of hc
  obtain ⟨D, rfl, hD⟩ := nat_of hd
  rw [u32_small (by omega), u32_small (by omega), u32_small (by omega), u32_small (by omega)]
  have e1 : shlI .u32 (A : Int) 24 = ((2 ^ 24 * A : Nat) : Int) := shl_u32 (n := A) 24 (by omega) (by omega)
  have e2 : shlI .u32 (B : Int) 16 = ((2 ^ 16 * B : Nat) : Int) := shl_u32 (n := B) 16 (by omega) (by omega)
  have e3 : shlI .u32 (C : Int) 8 = ((2 ^ 8 * C : Nat) : Int) := shl_u32 (n := C) 8 (by omega) (by omega)
  rw [e1, e2, e3]
  have o1 : (2 ^ 24 * A) ||| (2 ^ 16 * B) = 2 ^ 24 * A + 2 ^ 16 * B := or_add (by omega)
  have o2 : (2 ^ 24 * A + 2 ^ 16 * B) ||| (2 ^ 8 * C) = 2 ^ 24 * A + 2 ^ 16 * B + 2 ^ 8 * C := by
    have := or_add (a := 2 ^ 8 * A + B) (b := 2 ^ 8 * C) (i := 16) (by omega)
    rw [show 2 ^ 16 * (2 ^ 8 * A + B) = 2 ^ 24 * A + 2 ^ 16 * B by omega] at this; exact this
  have o3 : (2 ^ 24 * A + 2 ^ 16 * B + 2 ^ 8 * C) ||| D = 2 ^ 24 * A + 2 ^ 16 * B + 2 ^ 8 * C + D := by
    have := or_add (a := 2 ^ 16 * A + 2 ^ 8 * B + C) (b := D) (i := 8) (by omega)
    rw [show 2 ^ 8 * (2 ^ 16 * A + 2 ^ 8 * B + C) = 2 ^ 24 * A + 2 ^ 16 * B + 2 ^ 8 * C by omega] at this; exact this
  rw [u32_or (by omega) (by omega) (by rw [o1]; omega), o1, u32_or (by omega) (by omega) (by rw [o2]; omega), o2, u32_or (by omega) (by omega) (by rw [o3]; omega), o3, i32w]
  unfold be4
  have hm : ((2 ^ 24 * A + 2 ^ 16 * B + 2 ^ 8 * C + D : Nat) : Int) % 4294967296 = 16777216 * (A : Int) + 65536 * B + 256 * C + D := by
    rw [Int.emod_eq_of_lt (by omega) (by omega)]; omega
  rw [hm]
  exact wi_eq (by split <;> omega) (by split <;> omega)

theorem len4 {l : List Int} (h : l.length = 4) : ∃ a b c d, l = [a, b, c, d] := by
  match l, h with
  | [a, b, c, d], _ => exact ⟨a, b, c, d, rfl⟩

theorem Get4_c (l : List Int) : word_Get4_o_c0 l = true := by
  simp only [word_Get4_o_c0, tb_eq]
  by_cases h : l.length = 4
  · simp [h, inb]
  · have : ((l.length : Int) != 4) = true := by simp; omega
    simp [this]

theorem Get4_r {l : List Int} (hl : Byts l) : word_Get4_o_r0_0 l = g4 l ∧ word_Get4_o_r0_1 l = decide (l.length = 4) := by
  by_cases h : l.length = 4
  · obtain ⟨a, b, c, d, rfl⟩ := len4 h
    refine ⟨?_, by simp [word_Get4_o_r0_1]⟩
    simp only [word_Get4_o_r0_0, tb_eq]
    have e : word_Get4_o_e2 [a, b, c, d] = IntKind.i32.wrap (orI .u32 (orI .u32 (orI .u32 (shlI .u32 (IntKind.u32.wrap a) 24) (shlI .u32 (IntKind.u32.wrap b) 16)) (shlI .u32 (IntKind.u32.wrap c) 8)) (IntKind.u32.wrap d)) := rfl
    rw [e, word4 (hl a (by simp)) (hl b (by simp)) (hl c (by simp)) (hl d (by simp))]
    simp [g4]
  · have : ((l.length : Int) != 4) = true := by simp; omega
    simp only [word_Get4_o_r0_0, word_Get4_o_r0_1, tb_eq, this, cond_true, h, decide_false, and_true]
    unfold g4
    split
    · simp at h
    · rfl

theorem g4_len {l : List Int} (h : l.length ≠ 4) : g4 l = 0 := by
  unfold g4
  split
  · simp at h
  · rfl

/-- The reference's loop. -/
theorem r4_loop {a b c d : Int} (ha : 0 ≤ a ∧ a ≤ 255) (hb : 0 ≤ b ∧ b ≤ 255) (hc : 0 ≤ c ∧ c ≤ 255) (hd : 0 ≤ d ∧ d ≤ 255) :
    itS (ref04_Get4_o_L0_sel [a, b, c, d]) (ref04_Get4_o_L0_nx [a, b, c, d]) bound ⟨0, 0⟩ = some ⟨16777216 * a + 65536 * b + 256 * c + d, 4⟩ := by
  have := loop_seq (sel := ref04_Get4_o_L0_sel [a, b, c, d]) (nx := ref04_Get4_o_L0_nx [a, b, c, d])
    (fun k => match k with | 0 => ⟨0, 0⟩ | 1 => ⟨a, 1⟩ | 2 => ⟨256 * a + b, 2⟩ | 3 => ⟨65536 * a + 256 * b + c, 3⟩ | _ => ⟨16777216 * a + 65536 * b + 256 * c + d, 4⟩) 4 (by omega)
    (fun k hk => by
      have w : ∀ x y : Int, 0 ≤ x ∧ x ≤ 4294967296 → 0 ≤ y ∧ y ≤ 4294967296 → wi (wi (256 * x) + wi y) = 256 * x + y := fun x y hx hy => by
        rw [wi_eq (x := 256 * x) (by omega) (by omega), wi_eq (x := y) (by omega) (by omega), wi_eq (by omega) (by omega)]
      match k, hk with
      | 0, _ => exact ⟨rfl, by show (⟨wi (wi (256 * 0) + wi a), wi (0 + 1)⟩ : ref04_Get4_o_L0_s0) = _; rw [w 0 a (by omega) (by omega), wi_eq (x := 0 + 1) (by omega) (by omega)]; simp⟩
      | 1, _ => exact ⟨rfl, by show (⟨wi (wi (256 * a) + wi b), wi (1 + 1)⟩ : ref04_Get4_o_L0_s0) = _; rw [w a b (by omega) (by omega), wi_eq (x := 1 + 1) (by omega) (by omega)]; simp⟩
      | 2, _ => exact ⟨rfl, by show (⟨wi (wi (256 * (256 * a + b)) + wi c), wi (2 + 1)⟩ : ref04_Get4_o_L0_s0) = _; rw [w _ c (by omega) (by omega), wi_eq (x := 2 + 1) (by omega) (by omega)]; simp; omega⟩
      | 3, _ => exact ⟨rfl, by show (⟨wi (wi (256 * (65536 * a + 256 * b + c)) + wi d), wi (3 + 1)⟩ : ref04_Get4_o_L0_s0) = _; rw [w _ d (by omega) (by omega), wi_eq (x := 3 + 1) (by omega) (by omega)]; simp; omega⟩) rfl
  exact this

theorem rGet4 {l : List Int} (hl : Byts l) : ref04_Get4_o_c0 l = true ∧ ref04_Get4_o_r0_0 l = g4 l ∧ ref04_Get4_o_r0_1 l = decide (l.length = 4) := by
  by_cases h : l.length = 4
  · obtain ⟨a, b, c, d, rfl⟩ := len4 h
    have e := r4_loop (hl a (by simp)) (hl b (by simp)) (hl c (by simp)) (hl d (by simp))
    have e1 : ref04_Get4_o_L0_ok [a, b, c, d] ⟨0, 0⟩ = true := by simp only [ref04_Get4_o_L0_ok, e]; rfl
    have e2 : ref04_Get4_o_L0_end [a, b, c, d] ⟨0, 0⟩ = ⟨16777216 * a + 65536 * b + 256 * c + d, 4⟩ := by simp only [ref04_Get4_o_L0_end, e]; rfl
    have ha := hl a (by simp)
    have hb := hl b (by simp)
    have hc := hl c (by simp)
    have hd := hl d (by simp)
    refine ⟨by simp [ref04_Get4_o_c0, e1, e2, ref04_Get4_o_L0_c0], ?_, by simp [ref04_Get4_o_r0_1]⟩
    simp only [ref04_Get4_o_r0_0, ref04_Get4_o_e0, e2, tb_eq, g4, be4]
    rw [wi_eq (by omega) (by omega)]
    by_cases h3 : 2147483648 ≤ 16777216 * a + 65536 * b + 256 * c + d <;> simp [h3]
  · have : ((l.length : Int) != 4) = true := by simp; omega
    simp [ref04_Get4_o_c0, ref04_Get4_o_r0_0, ref04_Get4_o_r0_1, this, h, g4_len h]

/-- Numbers of 32 bits. -/
def n32 (n : Int) : Bool := decide (-2147483648 ≤ n) && decide (n ≤ 2147483647)
theorem n32_iff {n : Int} : n32 n = true ↔ -2147483648 ≤ n ∧ n ≤ 2147483647 := by simp [n32]
def p4 (n : Int) : List Int := [n / 16777216 % 256, n / 65536 % 256, n / 256 % 256, n % 256]

theorem Put4_l (n : Int) : [(IntKind.u8.wrap (shrI .i64 n 24)), (IntKind.u8.wrap (shrI .i64 n 16)), (IntKind.u8.wrap (shrI .i64 n 8)), (IntKind.u8.wrap (n))] = p4 n := by
  have h24 : shrI .i64 n 24 = n / 16777216 := shr_i64 n 24 (by omega)
  have h16 : shrI .i64 n 16 = n / 65536 := shr_i64 n 16 (by omega)
  have h8 : shrI .i64 n 8 = n / 256 := shr_i64 n 8 (by omega)
  rw [h24, h16, h8, u8w, u8w, u8w, u8w]; rfl

/-- The bytes of a number, or none. -/
def q4 (n : Int) : List Int := if n32 n then p4 n else []

theorem Put4_r (n : Int) : word_Put4_i_r0_0 n = !n32 n ∧ word_Put4_i_r0_1 n = q4 n := by
  simp only [word_Put4_i_r0_0, word_Put4_i_r0_1, Put4_l, tb_eq, q4, n32]
  by_cases h1 : n < -2147483648
  · have : ¬ (-2147483648 ≤ n) := by omega
    simp [h1, this]
  · have h2 : -2147483648 ≤ n := by omega
    by_cases h3 : 2147483647 < n
    · have : ¬ (n ≤ 2147483647) := by omega
      simp [h1, h2, h3, this]
    · have : n ≤ 2147483647 := by omega
      simp [h1, h2, h3, this]

theorem rPut4_r (n : Int) : ref04_Put4_i_r0_1 n = q4 n := by
  simp only [ref04_Put4_i_r0_1, ref04_Put4_i_e0, ref04_Put4_i_e1, tb_eq, q4, n32]
  by_cases h1 : n < -2147483648
  · have : ¬ (-2147483648 ≤ n) := by omega
    simp [h1, this]
  · have h2 : -2147483648 ≤ n := by omega
    by_cases h3 : 2147483647 < n
    · have : ¬ (n ≤ 2147483647) := by omega
      simp [h1, h2, h3, this]
    · have h4 : n ≤ 2147483647 := by omega
      by_cases hn : n < 0
      · have hw : wi (n + 4294967296) = n + 4294967296 := wi_eq (by omega) (by omega)
        simp only [h1, h2, h3, h4, hn, decide_true, decide_false, cond_true, cond_false, hw, Bool.and_self, if_true]
        rw [quo_i64 (by omega) (by omega) (by omega), quo_i64 (by omega) (by omega) (by omega), quo_i64 (by omega) (by omega) (by omega), rem_i64 (by omega), rem_i64 (by omega), rem_i64 (by omega), u8w, u8w, u8w, u8w]
        simp [p4] <;> omega
      · simp only [h1, h2, h3, h4, hn, decide_true, decide_false, cond_true, cond_false, Bool.and_self, if_true]
        rw [quo_i64 (by omega) (by omega) (by omega), quo_i64 (by omega) (by omega) (by omega), quo_i64 (by omega) (by omega) (by omega), rem_i64 (by omega), rem_i64 (by omega), rem_i64 (by omega), u8w, u8w, u8w, u8w]
        simp [p4] <;> omega

theorem g4_p4 {n : Int} (h : n32 n = true) : g4 (p4 n) = n := by
  obtain ⟨h1, h2⟩ := n32_iff.1 h
  simp only [p4, g4, be4]
  split <;> omega

theorem p4_g4 {l : List Int} (hl : Byts l) (h : l.length = 4) : p4 (g4 l) = l ∧ n32 (g4 l) = true := by
  obtain ⟨a, b, c, d, rfl⟩ := len4 h
  have ha := hl a (by simp)
  have hb := hl b (by simp)
  have hc := hl c (by simp)
  have hd := hl d (by simp)
  simp only [g4, be4, p4, n32_iff]
  split
  · refine ⟨?_, by omega, by omega⟩
    simp; omega
  · refine ⟨?_, by omega, by omega⟩
    simp; omega

theorem p4_byts (n : Int) : Byts (p4 n) := by
  intro z hz
  simp [p4] at hz
  omega

/-! ### two bytes -/

def n16 (n : Int) : Bool := decide (0 ≤ n) && decide (n < 65536)
theorem n16_iff {n : Int} : n16 n = true ↔ 0 ≤ n ∧ n < 65536 := by simp [n16]
def g2 : List Int → Int
  | [a, b] => 256 * a + b
  | _ => 0
def p2 (n : Int) : List Int := [n / 256 % 256, n % 256]

theorem seq_r (n : Int) : word_seq_i_r0_0 n = n16 n := by
  simp only [word_seq_i_r0_0, tb_eq, n16]; cases decide (0 ≤ n) <;> rfl

theorem Put2_l (n : Int) : [(IntKind.u8.wrap (shrI .i64 n 8)), (IntKind.u8.wrap (n))] = p2 n := by
  have h8 : shrI .i64 n 8 = n / 256 := shr_i64 n 8 (by omega)
  rw [h8, u8w, u8w]; rfl

def q2 (n : Int) : List Int := if n16 n then p2 n else []

theorem Put2_r (n : Int) : word_Put2_i_r0_1 n = q2 n := by
  simp only [word_Put2_i_r0_1, Put2_l, seq_r, tb_eq, q2]
  cases n16 n <;> rfl

theorem rPut2_r (n : Int) : ref04_Put2_i_r0_1 n = q2 n := by
  simp only [ref04_Put2_i_r0_1, tb_eq, q2]
  by_cases h1 : n < 0
  · have : n16 n = false := by cases h : n16 n with | false => rfl | true => have := n16_iff.1 h; omega
    simp [h1, this]
  · by_cases h3 : 65535 < n
    · have : n16 n = false := by cases h : n16 n with | false => rfl | true => have := n16_iff.1 h; omega
      simp [h1, h3, this]
    · have : n16 n = true := n16_iff.2 (by omega)
      simp only [h1, h3, this, decide_false, cond_false, if_true]
      rw [quo_i64 (by omega) (by omega) (by omega), rem_i64 (by omega), u8w, u8w]
      simp [p2]

theorem len2 {l : List Int} (h : l.length = 2) : ∃ a b, l = [a, b] := by
  match l, h with
  | [a, b], _ => exact ⟨a, b, rfl⟩

theorem g2_len {l : List Int} (h : l.length ≠ 2) : g2 l = 0 := by
  unfold g2
  split
  · simp at h
  · rfl

theorem Get2_eq {l : List Int} (hl : Byts l) : word_Get2_o_c0 l = true ∧ ref04_Get2_o_c0 l = true ∧ word_Get2_o_r0_0 l = g2 l ∧ ref04_Get2_o_r0_0 l = g2 l ∧ word_Get2_o_r0_1 l = decide (l.length = 2) ∧ ref04_Get2_o_r0_1 l = decide (l.length = 2) := by
  by_cases h : l.length = 2
  · obtain ⟨a, b, rfl⟩ := len2 h
    have ha := hl a (by simp)
    have hb := hl b (by simp)
    refine ⟨by simp [word_Get2_o_c0, inb], by simp [ref04_Get2_o_c0, inb], ?_, ?_, by simp [word_Get2_o_r0_1], by simp [ref04_Get2_o_r0_1]⟩
    · obtain ⟨A, rfl, hA⟩ := nat_of ha
      obtain ⟨B, rfl, hB⟩ := nat_of hb
      have e : word_Get2_o_r0_0 [(A : Int), (B : Int)] = orI .i64 (shlI .i64 (wi (A : Int)) 8) (wi (B : Int)) := by simp [word_Get2_o_r0_0, gt]
      have hs : shlI .i64 (A : Int) 8 = ((2 ^ 8 * A : Nat) : Int) := by
        unfold shlI
        rw [show min (8 : Int).toNat IntKind.i64.bits = 8 from rfl, wrap64 (by omega) (by omega)]; push_cast; omega
      rw [e, wi_eq (by omega) (by omega), wi_eq (by omega) (by omega), hs]
      have o : (2 ^ 8 * A) ||| B = 2 ^ 8 * A + B := or_add (by omega)
      rw [i64_or (by omega) (by omega) (by rw [o]; omega), o]
      simp only [g2]; push_cast; omega
    · have e : ref04_Get2_o_r0_0 [a, b] = wi (wi (256 * wi a) + wi b) := by simp [ref04_Get2_o_r0_0, gt]
      rw [e, wi_eq (x := a) (by omega) (by omega), wi_eq (x := b) (by omega) (by omega), wi_eq (x := 256 * a) (by omega) (by omega), wi_eq (by omega) (by omega)]; rfl
  · have : ((l.length : Int) != 2) = true := by simp; omega
    simp [word_Get2_o_c0, ref04_Get2_o_c0, word_Get2_o_r0_0, ref04_Get2_o_r0_0, word_Get2_o_r0_1, ref04_Get2_o_r0_1, this, h, g2_len h]

theorem g2_p2 {n : Int} (h : n16 n = true) : g2 (p2 n) = n := by
  obtain ⟨h1, h2⟩ := n16_iff.1 h
  simp only [p2, g2]; omega

theorem p2_byts (n : Int) : Byts (p2 n) := by
  intro z hz
  simp [p2] at hz
  omega

theorem Next_eq (n : Int) : word_Next_i_r0_0 n = ref04_Next_i_r0_0 n := by
  simp only [word_Next_i_r0_0, ref04_Next_i_r0_0, seq_r, tb_eq, n16]
  by_cases h1 : n < 0
  · have : ¬ (0 ≤ n) := by omega
    simp [h1, this]
  · have h0 : 0 ≤ n := by omega
    by_cases h2 : 65535 ≤ n
    · by_cases h3 : n < 65536
      · have : n = 65535 := by omega
        subst this; decide +kernel
      · simp [h1, h0, h2, h3]
    · have h3 : n < 65536 := by omega
      have e : wi (n + 1) = n + 1 := wi_eq (by omega) (by omega)
      simp only [h1, h0, h2, h3, e, decide_true, decide_false, cond_true, cond_false, Bool.and_self]
      rw [rem_i64 (by omega)]; omega

theorem After_eq (a b : Int) : word_After_ii_r0_0 a b = ref04_After_ii_r0_0 a b := by
  simp only [word_After_ii_r0_0, ref04_After_ii_r0_0, seq_r, tb_eq, n16]
  by_cases a1 : a < 0
  · have : ¬ (0 ≤ a) := by omega
    simp [a1, this]
  · have a0 : 0 ≤ a := by omega
    by_cases a2 : 65535 < a
    · have : ¬ (a < 65536) := by omega
      simp [a1, a0, a2, this]
    · have a3 : a < 65536 := by omega
      by_cases b1 : b < 0
      · have : ¬ (0 ≤ b) := by omega
        simp [a1, a0, a2, a3, b1, this]
      · have b0 : 0 ≤ b := by omega
        by_cases b2 : 65535 < b
        · have : ¬ (b < 65536) := by omega
          simp [a1, a0, a2, a3, b1, b0, b2, this]
        · have b3 : b < 65536 := by omega
          have e1 : wi (b - a) = b - a := wi_eq (by omega) (by omega)
          have e2 : wi (b - a + 65536) = b - a + 65536 := wi_eq (by omega) (by omega)
          have e3 : wi (b + 65536) = b + 65536 := wi_eq (by omega) (by omega)
          have e4 : wi (b + 65536 - a) = b + 65536 - a := wi_eq (by omega) (by omega)
          simp only [a1, a0, a2, a3, b1, b0, b2, b3, decide_true, decide_false, cond_true, cond_false, Bool.and_self, e1, e2, e3, e4]
          rw [rem_i64 (by omega)]
          by_cases h : a ≤ b <;> simp [h] <;> omega

end Go.Proofs.Ytdjmfcdopaejcaa.Den

/- Layer 4 (word): lists of numbers. -/
namespace Go.Proofs.Ytdjmfcdopaejcaa.Den
open Go
set_option linter.unusedVariables false
set_option linter.unusedSimpArgs false
set_option maxRecDepth 10000

/-- The numbers of the first 'k' fours. -/
def fours (b : List Int) (k : Nat) : List Int := (List.range k).map fun i => g4 ((b.drop (4 * i)).take 4)

theorem fours_succ (b : List Int) (k : Nat) : fours b (k + 1) = fours b k ++ [g4 ((b.drop (4 * k)).take 4)] := by
  simp [fours, List.range_succ]

theorem fours_len (b : List Int) (k : Nat) : (fours b k).length = k := by simp [fours]

theorem sub04 (l : List Int) : sub l 0 4 = l.take 4 := by unfold sub; simp
theorem sub4e (l : List Int) : sub l 4 (l.length : Int) = l.drop 4 := by
  unfold sub
  rw [List.take_of_length_le]
  · rfl
  · simp; omega

theorem Get4l_c (l : List Int) : word_Get4_l_c0 l = true := Get4_c l
theorem Get4l_r {l : List Int} (hl : Byts l) : word_Get4_l_r0_0 l = g4 l := (Get4_r hl).1

theorem fours_run {b : List Int} (hb : Byts b) (hl : b.length ≤ 1000000) (x : Bool) :
    itS word_fours_c1_yp_Y18_1pGvLGo_L0_sel word_fours_c1_yp_Y18_1pGvLGo_L0_nx bound ⟨true, [], x, b⟩ = some ⟨b.length / 4 == 0, fours b (b.length / 4), (b.length / 4 == 0) && x, b.drop (4 * (b.length / 4))⟩ := by
  have := loop_seq (sel := word_fours_c1_yp_Y18_1pGvLGo_L0_sel) (nx := word_fours_c1_yp_Y18_1pGvLGo_L0_nx) (fun k => ⟨k == 0, fours b k, (k == 0) && x, b.drop (4 * k)⟩) (b.length / 4) (by omega) (fun k hk => ?_) ?_
  · simpa [fours] using this
  · have h4 : 4 ≤ (b.drop (4 * k)).length := by simp; omega
    have h4' : (4 : Int) ≤ ((b.drop (4 * k)).length : Int) := by omega
    have i1 : ins (b.drop (4 * k)).length 0 4 = true := by simp only [ins, Bool.and_eq_true, decide_eq_true_eq]; omega
    have i2 : ins (b.drop (4 * k)).length 4 ((b.drop (4 * k)).length : Int) = true := by simp only [ins, Bool.and_eq_true, decide_eq_true_eq]; omega
    have hby : Byts ((b.drop (4 * k)).take 4) := byts_take (byts_drop hb _) _
    have hsz : (k + 1) * 8 ≤ 140737488355328 := by omega
    have hy : word_GetAll_Y1_l_Y18_1pGvL_c0 (fours b k) ((b.drop (4 * k)).take 4) = true := by
      simp [word_GetAll_Y1_l_Y18_1pGvL_c0, Get4l_c, fours_len, hsz]
    constructor
    · simp only [word_fours_c1_yp_Y18_1pGvLGo_L0_sel, sub04, i1, i2, hy, tb_eq, h4', decide_true, cond_true]
    · simp only [word_fours_c1_yp_Y18_1pGvLGo_L0_nx, sub04, sub4e, Get4l_r hby, fours_succ]
      have hne : (b.drop (4 * k)).isEmpty = false := by cases h : b.drop (4 * k) with | nil => rw [h] at h4; simp at h4 | cons a r => rfl
      rw [hne, List.drop_drop]
      simp [Nat.mul_add]
  · have : ¬ (4 : Int) ≤ ((b.drop (4 * (b.length / 4))).length : Int) := by simp; omega
    simp only [word_fours_c1_yp_Y18_1pGvLGo_L0_sel, tb_eq, this, decide_false, cond_false]

theorem rem4 (n : Nat) : remI .i64 ((n : Nat) : Int) 4 = ((n % 4 : Nat) : Int) := by
  rw [rem_i64 (by omega)]; omega

/-- The numbers of bytes. -/
def getAll (b : List Int) : List Int := if b.length % 4 = 0 then fours b (b.length / 4) else []

theorem GetAll_r {b : List Int} (hb : Byts b) (hl : b.length ≤ 1000000) (x : Bool) : word_GetAll_o_c0 x b = true ∧ word_GetAll_o_r0_1 b = decide (b.length % 4 = 0) ∧ word_GetAll_o_r0_2 x b = getAll b := by
  have hrun := fours_run hb hl x
  have he : word_fours_c1_yp_Y18_1pGvLGo_e0 [] true x b = ⟨b.length / 4 == 0, fours b (b.length / 4), (b.length / 4 == 0) && x, b.drop (4 * (b.length / 4))⟩ := by
    simp only [word_fours_c1_yp_Y18_1pGvLGo_e0, word_fours_c1_yp_Y18_1pGvLGo_L0_end, hrun]; rfl
  have hn : ¬ (4 : Int) ≤ ((b.drop (4 * (b.length / 4))).length : Int) := by simp; omega
  have hc : word_fours_c1_yp_Y18_1pGvLGo_c0 [] true x b = true := by
    simp only [word_fours_c1_yp_Y18_1pGvLGo_c0, word_fours_c1_yp_Y18_1pGvLGo_L0_ok, hrun, he, word_fours_c1_yp_Y18_1pGvLGo_L0_c0, tb_eq, hn, decide_false, cond_false]; rfl
  simp only [word_GetAll_o_c0, word_GetAll_o_r0_1, word_GetAll_o_r0_2, rem4, hc, he, tb_eq, getAll]
  by_cases h : b.length % 4 = 0
  · simp [h]
  · have : (((b.length % 4 : Nat) : Int) != 0) = true := by simp; omega
    simp only [this, cond_true, h, decide_false, if_false, and_self]

theorem rfours_run {b : List Int} (hb : Byts b) (hl : b.length ≤ 1000000) :
    itS (ref04_GetAll_o_L0_sel b) (ref04_GetAll_o_L0_nx b) bound ⟨true, 0, []⟩ = some ⟨b.length / 4 == 0, ((4 * (b.length / 4) : Nat) : Int), fours b (b.length / 4)⟩ := by
  have hsub : ∀ k, 4 * k ≤ b.length → ref04_GetAll_o_L0_h0_e0 b ⟨k == 0, ((4 * k : Nat) : Int), fours b k⟩ = (b.drop (4 * k)).take 4 := fun k hk => by
    simp only [ref04_GetAll_o_L0_h0_e0]
    rw [wi_eq (by omega) (by omega), mnI_eq]
    by_cases h : 4 * k + 4 ≤ b.length
    · have e : min (((4 * k : Nat) : Int) + 4) (b.length : Int) = ((4 * k + 4 : Nat) : Int) := by omega
      rw [e, sub_nat]; congr 1; omega
    · have e : min (((4 * k : Nat) : Int) + 4) (b.length : Int) = ((b.length : Nat) : Int) := by omega
      rw [e, sub_nat, List.take_of_length_le (by simp), List.take_of_length_le (by simp; omega)]
  have hins : ∀ k, 4 * k ≤ b.length → ins b.length ((4 * k : Nat) : Int) (mnI (wi (((4 * k : Nat) : Int) + 4)) (b.length : Int)) = true := fun k hk => by
    rw [wi_eq (by omega) (by omega), mnI_eq]
    simp only [ins, Bool.and_eq_true, decide_eq_true_eq]; omega
  have := loop_seq (sel := ref04_GetAll_o_L0_sel b) (nx := ref04_GetAll_o_L0_nx b) (fun k => ⟨k == 0, ((4 * k : Nat) : Int), fours b k⟩) (b.length / 4) (by omega) (fun k hk => ?_) ?_
  · simpa [fours] using this
  · have hby : Byts ((b.drop (4 * k)).take 4) := byts_take (byts_drop hb _) _
    obtain ⟨g1, g2, g3⟩ := rGet4 hby
    have hl4 : ((b.drop (4 * k)).take 4).length = 4 := by simp; omega
    rw [hl4] at g3
    have hlt : ((4 * k : Nat) : Int) < (b.length : Int) := by omega
    have hsz : (k + 1) * 8 ≤ 140737488355328 := by omega
    constructor
    · simp only [ref04_GetAll_o_L0_sel, hsub k (by omega), hins k (by omega), g1, g3, tb_eq, hlt, decide_true, cond_true, fours_len, List.length_singleton, hsz]
    · simp only [ref04_GetAll_o_L0_nx, ref04_GetAll_o_L0_h0_e1, hsub k (by omega), g2, fours_succ]
      rw [wi_eq (by omega) (by omega)]
      simp; omega
  · have hk : 4 * (b.length / 4) ≤ b.length := by omega
    have hby : Byts ((b.drop (4 * (b.length / 4))).take 4) := byts_take (byts_drop hb _) _
    obtain ⟨g1, g2, g3⟩ := rGet4 hby
    have hl4 : ¬ ((b.drop (4 * (b.length / 4))).take 4).length = 4 := by simp; omega
    rw [decide_eq_false hl4] at g3
    simp only [ref04_GetAll_o_L0_sel, hsub _ hk, hins _ hk, g1, g3, tb_eq, cond_true, cond_false]
    cases decide (((4 * (b.length / 4) : Nat) : Int) < (b.length : Int)) <;> rfl

theorem rGetAll_r {b : List Int} (hb : Byts b) (hl : b.length ≤ 1000000) : ref04_GetAll_o_c0 b = true ∧ ref04_GetAll_o_r0_1 b = decide (b.length % 4 = 0) ∧ ref04_GetAll_o_r0_2 b = getAll b := by
  have hrun := rfours_run hb hl
  have he : ref04_GetAll_o_e0 b = ⟨b.length / 4 == 0, ((4 * (b.length / 4) : Nat) : Int), fours b (b.length / 4)⟩ := by
    simp only [ref04_GetAll_o_e0, ref04_GetAll_o_L0_end, hrun]; rfl
  have hok : ref04_GetAll_o_L0_ok b ⟨true, 0, []⟩ = true := by simp only [ref04_GetAll_o_L0_ok, hrun]; rfl
  have hk : 4 * (b.length / 4) ≤ b.length := by omega
  have hby : Byts ((b.drop (4 * (b.length / 4))).take 4) := byts_take (byts_drop hb _) _
  obtain ⟨g1, g2, g3⟩ := rGet4 hby
  have hl4 : ¬ ((b.drop (4 * (b.length / 4))).take 4).length = 4 := by simp; omega
  rw [decide_eq_false hl4] at g3
  have hsub : ref04_GetAll_o_L0_h0_e0 b ⟨b.length / 4 == 0, ((4 * (b.length / 4) : Nat) : Int), fours b (b.length / 4)⟩ = (b.drop (4 * (b.length / 4))).take 4 := by
    simp only [ref04_GetAll_o_L0_h0_e0]
    rw [wi_eq (by omega) (by omega), mnI_eq]
    have e : min (((4 * (b.length / 4) : Nat) : Int) + 4) (b.length : Int) = ((b.length : Nat) : Int) := by omega
    rw [e, sub_nat, List.take_of_length_le (by simp), List.take_of_length_le (by simp; omega)]
  have hins : ins b.length ((4 * (b.length / 4) : Nat) : Int) (mnI (wi (((4 * (b.length / 4) : Nat) : Int) + 4)) (b.length : Int)) = true := by
    rw [wi_eq (by omega) (by omega), mnI_eq]
    simp only [ins, Bool.and_eq_true, decide_eq_true_eq]; omega
  simp only [ref04_GetAll_o_c0, ref04_GetAll_o_r0_1, ref04_GetAll_o_r0_2, he, hok, ref04_GetAll_o_L0_c0, ref04_GetAll_o_L0_c1, hsub, hins, g1, g3, tb_eq, getAll, cond_true, cond_false]
  by_cases h : b.length % 4 = 0
  · have : ¬ ((4 * (b.length / 4) : Nat) : Int) < (b.length : Int) := by omega
    simp only [this, decide_false, cond_false, h]; simp
  · have : ((4 * (b.length / 4) : Nat) : Int) < (b.length : Int) := by omega
    simp only [this, decide_true, cond_true, h]; simp

/-! ### bytes of numbers -/

def all32 (l : List Int) : Bool := l.all n32
/-- The bytes of numbers, or none. -/
def putAll (l : List Int) : List Int := if all32 l then l.flatMap p4 else []

theorem p4_len (n : Int) : (p4 n).length = 4 := rfl

theorem flat_len : ∀ (l : List Int), (l.flatMap p4).length = 4 * l.length
  | [] => rfl
  | a :: r => by rw [List.flatMap_cons, List.length_append, flat_len r, p4_len, List.length_cons]; omega

theorem put_run {l : List Int} {n : Nat} (hl : l.length ≤ 1000000) (hn : n ≤ l.length) (hall : ∀ k, k < n → n32 (gt l (k : Int)) = true) (hend : n = l.length ∨ n32 (gt l (n : Int)) = false) :
    itS (word_PutAll_o_L0_sel l (l.length : Int)) (word_PutAll_o_L0_nx l (l.length : Int)) bound ⟨true, 0, []⟩ = some ⟨n == 0, n, (l.take n).flatMap p4⟩ := by
  have := loop_seq (sel := word_PutAll_o_L0_sel l (l.length : Int)) (nx := word_PutAll_o_L0_nx l (l.length : Int)) (fun k => ⟨k == 0, (k : Int), (l.take k).flatMap p4⟩) n (by omega) (fun k hk => ?_) ?_
  · simpa using this
  · obtain ⟨a1, a2⟩ := Put4_r (gt l (k : Int))
    have h32 := hall k hk
    have hi : inb l.length (k : Int) = true := inb_of (by omega) (by omega)
    have hlt : (k : Int) < (l.length : Int) := by omega
    have hlen : ((l.take k).flatMap p4).length = 4 * k := by rw [flat_len]; simp; omega
    have hq : q4 (gt l (k : Int)) = p4 (gt l (k : Int)) := by simp [q4, h32]
    have hsz : (4 * k + 4) * 1 ≤ 140737488355328 := by omega
    constructor
    · simp only [word_PutAll_o_L0_sel, a1, a2, hq, h32, hi, hlt, hlen, p4_len, hsz, tb_eq]; rfl
    · simp only [word_PutAll_o_L0_nx, a2, hq]
      rw [wi_eq (by omega) (by omega), take_succ_gt (by omega)]
      simp [p4]
  · rcases hend with rfl | h32
    · simp [word_PutAll_o_L0_sel, tb_eq]
    · obtain ⟨a1, a2⟩ := Put4_r (gt l (n : Int))
      simp only [word_PutAll_o_L0_sel, a1, h32, tb_eq]
      cases decide ((n : Int) < (l.length : Int)) <;> cases inb l.length (n : Int) <;> rfl

theorem first_bad : ∀ (l : List Int), all32 l = true ∨ ∃ n, n < l.length ∧ (∀ k, k < n → n32 (gt l (k : Int)) = true) ∧ n32 (gt l (n : Int)) = false
  | [] => .inl rfl
  | a :: r => by
    have g0 : gt (a :: r) ((0 : Nat) : Int) = a := rfl
    have gs : ∀ k : Nat, gt (a :: r) ((k + 1 : Nat) : Int) = gt r (k : Int) := fun k => by simp [gt]
    cases h : n32 a with
    | false => exact .inr ⟨0, by simp, fun k hk => by omega, by rw [g0]; exact h⟩
    | true =>
      rcases first_bad r with h1 | ⟨n, h1, h2, h3⟩
      · left; simp only [all32, List.all_cons, h, Bool.true_and]; exact h1
      · right
        refine ⟨n + 1, by simp; omega, fun k hk => ?_, by rw [gs]; exact h3⟩
        cases k with
        | zero => rw [g0]; exact h
        | succ k => rw [gs]; exact h2 k (by omega)

theorem all32_gt {l : List Int} (h : all32 l = true) {k : Nat} (hk : k < l.length) : n32 (gt l (k : Int)) = true := by
  rw [gt_nat hk]
  exact List.all_eq_true.1 h _ (List.getElem_mem hk)

theorem PutAll_r {l : List Int} (hl : l.length ≤ 1000000) : word_PutAll_o_c0 l = true ∧ word_PutAll_o_r0_1 l = putAll l := by
  rcases first_bad l with h | ⟨n, h1, h2, h3⟩
  · have hrun := put_run (n := l.length) hl (Nat.le_refl _) (fun k hk => all32_gt h hk) (.inl rfl)
    have he : word_PutAll_o_e0 l = ⟨l.length == 0, l.length, (l.take l.length).flatMap p4⟩ := by simp only [word_PutAll_o_e0, word_PutAll_o_L0_end, hrun]; rfl
    have hok : word_PutAll_o_L0_ok l (l.length : Int) ⟨true, 0, []⟩ = true := by simp only [word_PutAll_o_L0_ok, hrun]; rfl
    simp only [word_PutAll_o_c0, word_PutAll_o_r0_1, hok, he, word_PutAll_o_L0_c0, word_PutAll_o_L0_c1, tb_eq, putAll, h]
    simp
  · have hrun := put_run (n := n) hl (by omega) h2 (.inr h3)
    have he : word_PutAll_o_e0 l = ⟨n == 0, n, (l.take n).flatMap p4⟩ := by simp only [word_PutAll_o_e0, word_PutAll_o_L0_end, hrun]; rfl
    have hok : word_PutAll_o_L0_ok l (l.length : Int) ⟨true, 0, []⟩ = true := by simp only [word_PutAll_o_L0_ok, hrun]; rfl
    have hbad : all32 l = false := by
      cases h : all32 l with
      | false => rfl
      | true => rw [all32_gt h h1] at h3; cases h3
    have hi : inb l.length (n : Int) = true := inb_of (by omega) (by omega)
    have hlt : (n : Int) < (l.length : Int) := by omega
    obtain ⟨a1, a2⟩ := Put4_r (gt l (n : Int))
    simp only [word_PutAll_o_c0, word_PutAll_o_r0_1, hok, he, word_PutAll_o_L0_c0, word_PutAll_o_L0_c1, tb_eq, putAll, hbad, hi, hlt, a1, h3]
    simp

/-! ### there and back -/

theorem fours_flat : ∀ (l : List Int), all32 l = true → fours (l.flatMap p4) l.length = l
  | [], _ => rfl
  | a :: r, h => by
    simp only [all32, List.all_cons, Bool.and_eq_true] at h
    have ih := fours_flat r h.2
    rw [List.flatMap_cons, List.length_cons]
    simp only [fours, List.range_succ_eq_map, List.map_cons, List.map_map]
    congr 1
    · show g4 (p4 a) = a
      exact g4_p4 h.1

theorem flat_byts : ∀ (l : List Int), Byts (l.flatMap p4)
  | [], z, hz => by simp at hz
  | a :: r, z, hz => by
    rw [List.flatMap_cons] at hz
    rcases List.mem_append.1 hz with h | h
    · exact p4_byts a z h
    · exact flat_byts r z h

theorem back_l {l : List Int} (h : all32 l = true) : getAll (putAll l) = l ∧ (putAll l).length % 4 = 0 := by
  simp only [putAll, h, if_true]
  have hl := flat_len l
  refine ⟨?_, by omega⟩
  simp only [getAll, hl]
  rw [if_pos (by omega), show 4 * l.length / 4 = l.length by omega]
  exact fours_flat l h

theorem flat_fours (b : List Int) (hb : Byts b) : ∀ (k : Nat), 4 * k ≤ b.length → all32 (fours b k) = true ∧ (fours b k).flatMap p4 = b.take (4 * k)
  | 0, _ => by simp [fours, all32]
  | k + 1, h => by
    obtain ⟨h1, h2⟩ := flat_fours b hb k (by omega)
    obtain ⟨g1, g2⟩ := p4_g4 (l := (b.drop (4 * k)).take 4) (byts_take (byts_drop hb _) _) (by simp; omega)
    rw [fours_succ]
    refine ⟨?_, ?_⟩
    · simp only [all32, List.all_append, List.all_cons, List.all_nil, g2, Bool.and_true]; exact h1
    · rw [List.flatMap_append, h2]
      simp only [List.flatMap_cons, List.flatMap_nil, List.append_nil, g1]
      rw [show 4 * (k + 1) = 4 * k + 4 by omega, List.take_add]

theorem back_b {b : List Int} (hb : Byts b) (h : b.length % 4 = 0) : putAll (getAll b) = b := by
  simp only [getAll, h, if_true]
  obtain ⟨h1, h2⟩ := flat_fours b hb (b.length / 4) (by omega)
  simp only [putAll, h1, if_true, h2]
  rw [show 4 * (b.length / 4) = b.length by omega, List.take_length]

theorem getAll_len (b : List Int) : (getAll b).length ≤ b.length := by
  unfold getAll
  split
  · rw [fours_len]; omega
  · simp

theorem putAll_len (l : List Int) : (putAll l).length ≤ 4 * l.length := by
  unfold putAll
  split
  · rw [flat_len]; exact Nat.le_refl _
  · simp

theorem putAll_byts (l : List Int) : Byts (putAll l) := by
  unfold putAll
  split
  · exact flat_byts l
  · intro z hz; simp at hz

end Go.Proofs.Ytdjmfcdopaejcaa.Den

namespace Go.Proofs.Ytdjmfcdopaejcaa.Den
open Go Go.Proofs
set_option maxRecDepth 100000
set_option maxHeartbeats 4000000
set_option linter.unusedVariables false
set_option linter.unusedSimpArgs false

theorem law04_alive_t0 : cl E0 13 [] [] = some ([(V.d (.bool true))], []) := cl_of (n := 60) (by kernel_rfl)

end Go.Proofs.Ytdjmfcdopaejcaa.Den

namespace Go.Proofs.Ytdjmfcdopaejcaa.Den
open Go Go.Proofs
set_option maxRecDepth 100000
set_option maxHeartbeats 4000000
set_option linter.unusedVariables false
set_option linter.unusedSimpArgs false

structure law04_WordRound_L0_s0 where
  c2 : Int
  c3 : Int
  deriving Inhabited

def law04_WordRound_L0_enc (x0 : Int) (x1 : Int) (x2 : Int) (x3 : Int) (s0 : law04_WordRound_L0_s0) : List V × Mem := ([(V.d (.int .u16 x0)), (V.d (.int .u8 x1)), (V.d (.int .i64 s0.c2)), (V.d (.int .i64 s0.c3))], [])

def law04_WordRound_L0_sel (x1 : Int) (s0 : law04_WordRound_L0_s0) : Bool := (bif tb (decide (s0.c3 < (wi (x1)))) then (bif tb (decide ((word_Next_i_r0_0 s0.c2) < 0)) then false else (bif tb (decide (65535 < (word_Next_i_r0_0 s0.c2))) then false else (bif tb (((word_After_ii_r0_0 s0.c2 (word_Next_i_r0_0 s0.c2)) : Int) != 1) then false else (bif tb (((word_After_ii_r0_0 (word_Next_i_r0_0 s0.c2) s0.c2) : Int) != 65535) then false else true)))) else false)

def law04_WordRound_L0_nx (x1 : Int) (s0 : law04_WordRound_L0_s0) : law04_WordRound_L0_s0 := ⟨(word_Next_i_r0_0 s0.c2), (wi (s0.c3 + 1))⟩

def law04_WordRound_L0_ok (x1 : Int) (s0 : law04_WordRound_L0_s0) : Bool := (itS (law04_WordRound_L0_sel x1) (law04_WordRound_L0_nx x1) bound s0).isSome
def law04_WordRound_L0_end (x1 : Int) (s0 : law04_WordRound_L0_s0) : law04_WordRound_L0_s0 := (itS (law04_WordRound_L0_sel x1) (law04_WordRound_L0_nx x1) bound s0).getD default

theorem law04_WordRound_L0_go (x0 : Int) (x1 : Int) (x2 : Int) (x3 : Int) (s0 : law04_WordRound_L0_s0) : law04_WordRound_L0_sel x1 s0 = true → (roundG (runC E0 (cl E0) L5_0) [0, 1, 5, 6] [0, 1, 4, 5] 0) (law04_WordRound_L0_enc x0 x1 x2 x3 s0) = some (.normal, law04_WordRound_L0_enc x0 x1 x2 x3 (law04_WordRound_L0_nx x1 s0)) := by
  unfold law04_WordRound_L0_sel law04_WordRound_L0_nx
  cases h1 : tb (decide (s0.c3 < (wi (x1))))
  · intro g0
    exact absurd g0 ft
  · cases h2 : tb (decide ((word_Next_i_r0_0 s0.c2) < 0))
    · cases h3 : tb (decide (65535 < (word_Next_i_r0_0 s0.c2)))
      · cases h4 : tb (((word_After_ii_r0_0 s0.c2 (word_Next_i_r0_0 s0.c2)) : Int) != 1)
        · cases h5 : tb (((word_After_ii_r0_0 (word_Next_i_r0_0 s0.c2) s0.c2) : Int) != 65535)
          · intro _
            exact round_walk [.b (tbE h1), .c (word_Next_i_t0 s0.c2), .b (tbE h2), .b (tbE h3), .c (word_After_ii_t0 s0.c2 (word_Next_i_r0_0 s0.c2)), .b (tbE h4), .c (word_After_ii_t0 (word_Next_i_r0_0 s0.c2) s0.c2), .b (tbE h5)] (by kernel_rfl)
          · intro g0
            exact absurd g0 ft
        · intro g0
          exact absurd g0 ft
      · intro g0
        exact absurd g0 ft
    · intro g0
      exact absurd g0 ft

def law04_WordRound_L0_c0 (x1 : Int) (s0 : law04_WordRound_L0_s0) : Bool := (bif tb (decide (s0.c3 < (wi (x1)))) then true else false)

theorem law04_WordRound_L0_x0 (x0 : Int) (x1 : Int) (x2 : Int) (x3 : Int) (s0 : law04_WordRound_L0_s0) : law04_WordRound_L0_sel x1 s0 = false → law04_WordRound_L0_c0 x1 s0 = true → (roundG (runC E0 (cl E0) L5_0) [0, 1, 5, 6] [0, 1, 4, 5] 0) (law04_WordRound_L0_enc x0 x1 x2 x3 s0) = some (.ret, ([(V.d (.int .u16 x0)), (V.d (.int .u8 x1)), (V.d (.bool false)), (V.d (.int .i64 s0.c2))], [])) := by
  unfold law04_WordRound_L0_sel law04_WordRound_L0_c0
  cases h1 : tb (decide (s0.c3 < (wi (x1))))
  · intro g0 g1
    exact absurd g1 ft
  · cases h2 : tb (decide ((word_Next_i_r0_0 s0.c2) < 0))
    · cases h3 : tb (decide (65535 < (word_Next_i_r0_0 s0.c2)))
      · cases h4 : tb (((word_After_ii_r0_0 s0.c2 (word_Next_i_r0_0 s0.c2)) : Int) != 1)
        · cases h5 : tb (((word_After_ii_r0_0 (word_Next_i_r0_0 s0.c2) s0.c2) : Int) != 65535)
          · intro g0 g1
            exact absurd g0 tf
          · intro g0 g1
            exact round_walk [.b (tbE h1), .c (word_Next_i_t0 s0.c2), .b (tbE h2), .b (tbE h3), .c (word_After_ii_t0 s0.c2 (word_Next_i_r0_0 s0.c2)), .b (tbE h4), .c (word_After_ii_t0 (word_Next_i_r0_0 s0.c2) s0.c2), .b (tbE h5)] (by kernel_rfl)
        · intro g0 g1
          exact round_walk [.b (tbE h1), .c (word_Next_i_t0 s0.c2), .b (tbE h2), .b (tbE h3), .c (word_After_ii_t0 s0.c2 (word_Next_i_r0_0 s0.c2)), .b (tbE h4)] (by kernel_rfl)
      · intro g0 g1
        exact round_walk [.b (tbE h1), .c (word_Next_i_t0 s0.c2), .b (tbE h2), .b (tbE h3)] (by kernel_rfl)
    · intro g0 g1
      exact round_walk [.b (tbE h1), .c (word_Next_i_t0 s0.c2), .b (tbE h2)] (by kernel_rfl)

theorem law04_WordRound_L0_x1 (x0 : Int) (x1 : Int) (x2 : Int) (x3 : Int) (s0 : law04_WordRound_L0_s0) : law04_WordRound_L0_sel x1 s0 = false → law04_WordRound_L0_c0 x1 s0 = false → (roundG (runC E0 (cl E0) L5_0) [0, 1, 5, 6] [0, 1, 4, 5] 0) (law04_WordRound_L0_enc x0 x1 x2 x3 s0) = some ((.exit 0), ([(V.d (.int .u16 x0)), (V.d (.int .u8 x1)), V.un, (V.d (.int .i64 s0.c2))], [])) := by
  unfold law04_WordRound_L0_sel law04_WordRound_L0_c0
  cases h1 : tb (decide (s0.c3 < (wi (x1))))
  · intro g0 g1
    exact round_walk [.b (tbE h1)] (by kernel_rfl)
  · cases h2 : tb (decide ((word_Next_i_r0_0 s0.c2) < 0))
    · cases h3 : tb (decide (65535 < (word_Next_i_r0_0 s0.c2)))
      · cases h4 : tb (((word_After_ii_r0_0 s0.c2 (word_Next_i_r0_0 s0.c2)) : Int) != 1)
        · cases h5 : tb (((word_After_ii_r0_0 (word_Next_i_r0_0 s0.c2) s0.c2) : Int) != 65535)
          · intro g0 g1
            exact absurd g0 tf
          · intro g0 g1
            exact absurd g1 tf
        · intro g0 g1
          exact absurd g1 tf
      · intro g0 g1
        exact absurd g1 tf
    · intro g0 g1
      exact absurd g1 tf

theorem law04_WordRound_L0_f0_0 (x0 : Int) (x1 : Int) (x2 : Int) (x3 : Int) (s : law04_WordRound_L0_s0) (hok : law04_WordRound_L0_ok x1 s = true) (c0 : law04_WordRound_L0_c0 x1 (law04_WordRound_L0_end x1 s) = true) : loopG (roundG (runC E0 (cl E0) L5_0) [0, 1, 5, 6] [0, 1, 4, 5] 0) bound (law04_WordRound_L0_enc x0 x1 x2 x3 s) = some (.ret, ([(V.d (.int .u16 x0)), (V.d (.int .u8 x1)), (V.d (.bool false)), (V.d (.int .i64 ((law04_WordRound_L0_end x1 s).c2)))], [])) := by
  have e : itS (law04_WordRound_L0_sel x1) (law04_WordRound_L0_nx x1) bound s = some (law04_WordRound_L0_end x1 s) := itS_get hok
  have f := itS_false e
  exact loop_it (law04_WordRound_L0_go x0 x1 x2 x3) bound s _ _ _ e (fun h => by cases h) (law04_WordRound_L0_x0 x0 x1 x2 x3 (law04_WordRound_L0_end x1 s) f c0)

theorem law04_WordRound_L0_f0_1 (x0 : Int) (x1 : Int) (x2 : Int) (x3 : Int) (s : law04_WordRound_L0_s0) (hok : law04_WordRound_L0_ok x1 s = true) (c0 : law04_WordRound_L0_c0 x1 (law04_WordRound_L0_end x1 s) = false) : loopG (roundG (runC E0 (cl E0) L5_0) [0, 1, 5, 6] [0, 1, 4, 5] 0) bound (law04_WordRound_L0_enc x0 x1 x2 x3 s) = some ((.exit 0), ([(V.d (.int .u16 x0)), (V.d (.int .u8 x1)), V.un, (V.d (.int .i64 ((law04_WordRound_L0_end x1 s).c2)))], [])) := by
  have e : itS (law04_WordRound_L0_sel x1) (law04_WordRound_L0_nx x1) bound s = some (law04_WordRound_L0_end x1 s) := itS_get hok
  have f := itS_false e
  exact loop_it (law04_WordRound_L0_go x0 x1 x2 x3) bound s _ _ _ e (fun h => by cases h) (law04_WordRound_L0_x1 x0 x1 x2 x3 (law04_WordRound_L0_end x1 s) f c0)

def law04_WordRound_S1_c0 (x1 : Int) (x2 : Int) : Bool := (bif tb (law04_WordRound_L0_ok x1 (⟨x2, 0⟩ : law04_WordRound_L0_s0)) then (bif tb (law04_WordRound_L0_c0 x1 (law04_WordRound_L0_end x1 (⟨x2, 0⟩ : law04_WordRound_L0_s0))) then true else false) else false)

def law04_WordRound_S1_c1 (x1 : Int) (x2 : Int) : Bool := (bif tb (law04_WordRound_L0_ok x1 (⟨x2, 0⟩ : law04_WordRound_L0_s0)) then (bif tb (law04_WordRound_L0_c0 x1 (law04_WordRound_L0_end x1 (⟨x2, 0⟩ : law04_WordRound_L0_s0))) then false else true) else false)

theorem law04_WordRound_S1_t0 (x0 : Int) (x1 : Int) (x2 : Int) : law04_WordRound_S1_c0 x1 x2 = true → segG (runC E0 (cl E0) S5_1) [0, 1, 5] [4] [0, 1, 5] 0 ([(V.d (.int .u16 x0)), (V.d (.int .u8 x1)), (V.d (.int .i64 x2))], []) = some (.ret, ([(V.d (.bool false))], [])) := by
  unfold law04_WordRound_S1_c0
  cases h1 : tb (law04_WordRound_L0_ok x1 (⟨x2, 0⟩ : law04_WordRound_L0_s0))
  · intro g0
    exact absurd g0 ft
  · cases h2 : tb (law04_WordRound_L0_c0 x1 (law04_WordRound_L0_end x1 (⟨x2, 0⟩ : law04_WordRound_L0_s0)))
    · intro g0
      exact absurd g0 ft
    · intro g0
      exact seg_walk [.l (law04_WordRound_L0_f0_0 x0 x1 x2 0 (⟨x2, 0⟩ : law04_WordRound_L0_s0) (tbE h1) (tbE h2))] (by kernel_rfl)

theorem law04_WordRound_S1_t1 (x0 : Int) (x1 : Int) (x2 : Int) : law04_WordRound_S1_c0 x1 x2 = false → law04_WordRound_S1_c1 x1 x2 = true → segG (runC E0 (cl E0) S5_1) [0, 1, 5] [4] [0, 1, 5] 0 ([(V.d (.int .u16 x0)), (V.d (.int .u8 x1)), (V.d (.int .i64 x2))], []) = some (.normal, ([(V.d (.int .u16 x0)), (V.d (.int .u8 x1)), (V.d (.int .i64 ((law04_WordRound_L0_end x1 (⟨x2, 0⟩ : law04_WordRound_L0_s0)).c2)))], [])) := by
  unfold law04_WordRound_S1_c0 law04_WordRound_S1_c1
  cases h1 : tb (law04_WordRound_L0_ok x1 (⟨x2, 0⟩ : law04_WordRound_L0_s0))
  · intro g0 g1
    exact absurd g1 ft
  · cases h2 : tb (law04_WordRound_L0_c0 x1 (law04_WordRound_L0_end x1 (⟨x2, 0⟩ : law04_WordRound_L0_s0)))
    · intro g0 g1
      exact seg_walk [.l (law04_WordRound_L0_f0_1 x0 x1 x2 0 (⟨x2, 0⟩ : law04_WordRound_L0_s0) (tbE h1) (tbE h2))] (by kernel_rfl)
    · intro g0 g1
      exact absurd g0 tf

def law04_WordRound_S2_r0_0 (x0 : Int) (x1 : Int) (x2 : Int) : Bool := (bif tb (((word_After_ii_r0_0 (wi (x0)) x2) : Int) == (wi (x1))) then (bif tb (((word_After_ii_r0_0 x2 x2) : Int) == 0) then (bif tb (((word_After_ii_r0_0 x2 (wi (x0))) : Int) == (wi (65536 - (wi (x1))))) then true else ((x1 : Int) == 0)) else false) else false)

theorem law04_WordRound_S2_t0 (x0 : Int) (x1 : Int) (x2 : Int) : segG (runC E0 (cl E0) S5_2) [0, 1, 5] [] [4] 0 ([(V.d (.int .u16 x0)), (V.d (.int .u8 x1)), (V.d (.int .i64 x2))], []) = some (.normal, ([(V.d (.bool (law04_WordRound_S2_r0_0 x0 x1 x2)))], [])) := by
  unfold law04_WordRound_S2_r0_0
  cases h1 : tb (((word_After_ii_r0_0 (wi (x0)) x2) : Int) == (wi (x1)))
  · exact seg_walk [.c (law04_alive_t0), .k true, .c (word_After_ii_t0 (wi (x0)) x2), .b (tbE h1)] (by kernel_rfl)
  · cases h2 : tb (((word_After_ii_r0_0 x2 x2) : Int) == 0)
    · exact seg_walk [.c (law04_alive_t0), .k true, .c (word_After_ii_t0 (wi (x0)) x2), .b (tbE h1), .c (word_After_ii_t0 x2 x2), .b (tbE h2)] (by kernel_rfl)
    · cases h3 : tb (((word_After_ii_r0_0 x2 (wi (x0))) : Int) == (wi (65536 - (wi (x1)))))
      · exact seg_walk [.c (law04_alive_t0), .k true, .c (word_After_ii_t0 (wi (x0)) x2), .b (tbE h1), .c (word_After_ii_t0 x2 x2), .b (tbE h2), .c (word_After_ii_t0 x2 (wi (x0))), .b (tbE h3)] (by kernel_rfl)
      · exact seg_walk [.c (law04_alive_t0), .k true, .c (word_After_ii_t0 (wi (x0)) x2), .b (tbE h1), .c (word_After_ii_t0 x2 x2), .b (tbE h2), .c (word_After_ii_t0 x2 (wi (x0))), .b (tbE h3)] (by kernel_rfl)

def law04_WordRound_e0 (x0 : Int) (x1 : Int) : Int := ((law04_WordRound_L0_end x1 (⟨(wi (x0)), 0⟩ : law04_WordRound_L0_s0)).c2)

def law04_WordRound_c0 (x0 : Int) (x1 : Int) : Bool := (bif tb (law04_WordRound_S1_c0 x1 (wi (x0))) then true else (bif tb (law04_WordRound_S1_c1 x1 (wi (x0))) then true else false))

def law04_WordRound_r0_0 (x0 : Int) (x1 : Int) : Bool := (bif tb (law04_WordRound_S1_c0 x1 (wi (x0))) then false else (law04_WordRound_S2_r0_0 x0 x1 (law04_WordRound_e0 x0 x1)))

theorem law04_WordRound_t0 (x0 : Int) (x1 : Int) : law04_WordRound_c0 x0 x1 = true → cl E0 5 [(V.d (.int .u16 x0)), (V.d (.int .u8 x1))] [] = some ([(V.d (.bool (law04_WordRound_r0_0 x0 x1)))], []) := by
  unfold law04_WordRound_c0 law04_WordRound_r0_0
  cases h1 : tb (law04_WordRound_S1_c0 x1 (wi (x0)))
  · cases h2 : tb (law04_WordRound_S1_c1 x1 (wi (x0)))
    · intro g0
      exact absurd g0 ft
    · intro g0
      exact w5 [.s (law04_WordRound_S1_t1 x0 x1 (wi (x0)) (tbE h1) (tbE h2)), .s (law04_WordRound_S2_t0 x0 x1 (law04_WordRound_e0 x0 x1))] (by kernel_rfl)
  · intro g0
    exact w5 [.s (law04_WordRound_S1_t0 x0 x1 (wi (x0)) (tbE h1))] (by kernel_rfl)

end Go.Proofs.Ytdjmfcdopaejcaa.Den

/- Layer 4: WordRound. -/
namespace Go.Proofs.Ytdjmfcdopaejcaa.Den
open Go Go.Proofs
set_option linter.unusedVariables false
set_option linter.unusedSimpArgs false

theorem Next_m {n : Int} (h : 0 ≤ n ∧ n < 65536) : word_Next_i_r0_0 n = (n + 1) % 65536 := by
  have : n16 n = true := n16_iff.2 h
  simp only [word_Next_i_r0_0, seq_r, this, tb_eq, cond_true]
  rw [wi_eq (by omega) (by omega), rem_i64 (by omega)]

theorem After_m {a b : Int} (ha : 0 ≤ a ∧ a < 65536) (hb : 0 ≤ b ∧ b < 65536) : word_After_ii_r0_0 a b = (b - a) % 65536 := by
  have h1 : n16 a = true := n16_iff.2 ha
  have h2 : n16 b = true := n16_iff.2 hb
  simp only [word_After_ii_r0_0, seq_r, h1, h2, tb_eq, cond_true]
  rw [wi_eq (x := b - a) (by omega) (by omega), wi_eq (by omega) (by omega), rem_i64 (by omega)]
  omega

theorem pure_WordRound (x0 : Int) (x1 : Int) (wx0 : WfI .u16 x0) (wx1 : WfI .u8 x1) : law04_WordRound_c0 x0 x1 = true ∧ (law04_WordRound_r0_0 x0 x1) = true := by
  have h0 := wfI_u16 wx0
  have h1 := wfI_u8 wx1
  have w0 : wi x0 = x0 := wi_eq (by omega) (by omega)
  have w1 : wi x1 = x1 := wi_eq (by omega) (by omega)
  have hrun : itS (law04_WordRound_L0_sel x1) (law04_WordRound_L0_nx x1) bound ⟨x0, 0⟩ = some ⟨(x0 + x1) % 65536, x1⟩ := by
    have := loop_seq (sel := law04_WordRound_L0_sel x1) (nx := law04_WordRound_L0_nx x1) (fun k => ⟨(x0 + (k : Int)) % 65536, (k : Int)⟩) x1.toNat (by omega) (fun k hk => ?_) ?_
    · have e : ((x1.toNat : Nat) : Int) = x1 := by omega
      simp only [e] at this
      have e0 : (x0 + ((0 : Nat) : Int)) % 65536 = x0 := by omega
      rw [e0] at this
      exact this
    · have hn : 0 ≤ (x0 + (k : Int)) % 65536 ∧ (x0 + (k : Int)) % 65536 < 65536 := by omega
      have hm := Next_m hn
      have hn2 : 0 ≤ ((x0 + (k : Int)) % 65536 + 1) % 65536 ∧ ((x0 + (k : Int)) % 65536 + 1) % 65536 < 65536 := by omega
      have a1 := After_m hn hn2
      have a2 := After_m hn2 hn
      have b1 : (((x0 + (k : Int)) % 65536 + 1) % 65536 - (x0 + (k : Int)) % 65536) % 65536 = 1 := by omega
      have b2 : ((x0 + (k : Int)) % 65536 - ((x0 + (k : Int)) % 65536 + 1) % 65536) % 65536 = 65535 := by omega
      rw [b1] at a1
      rw [b2] at a2
      have c1 : (k : Int) < x1 := by omega
      have c2 : ¬ ((x0 + (k : Int)) % 65536 + 1) % 65536 < 0 := by omega
      have c3 : ¬ 65535 < ((x0 + (k : Int)) % 65536 + 1) % 65536 := by omega
      constructor
      · simp only [law04_WordRound_L0_sel, hm, a1, a2, w1, tb_eq, c1, c2, c3, decide_true, decide_false, cond_true, cond_false]; rfl
      · simp only [law04_WordRound_L0_nx, hm]
        rw [wi_eq (by omega) (by omega)]
        have : ((x0 + (k : Int)) % 65536 + 1) % 65536 = (x0 + ((k + 1 : Nat) : Int)) % 65536 := by omega
        rw [this]
        simp
    · have : ¬ ((x1.toNat : Nat) : Int) < x1 := by omega
      simp only [law04_WordRound_L0_sel, w1, tb_eq, this, decide_false, cond_false]
  have e1 : law04_WordRound_L0_ok x1 ⟨x0, 0⟩ = true := by simp only [law04_WordRound_L0_ok, hrun]; rfl
  have e2 : law04_WordRound_L0_end x1 ⟨x0, 0⟩ = ⟨(x0 + x1) % 65536, x1⟩ := by simp only [law04_WordRound_L0_end, hrun]; rfl
  have e3 : law04_WordRound_L0_c0 x1 ⟨(x0 + x1) % 65536, x1⟩ = false := by simp [law04_WordRound_L0_c0, w1, tb]
  have s0 : law04_WordRound_S1_c0 x1 x0 = false := by simp [law04_WordRound_S1_c0, e1, e2, e3, tb]
  have s1 : law04_WordRound_S1_c1 x1 x0 = true := by simp [law04_WordRound_S1_c1, e1, e2, e3, tb]
  constructor
  · simp only [law04_WordRound_c0, w0, s0, s1, tb]; rfl
  · have hn : 0 ≤ x0 ∧ x0 < 65536 := by omega
    have hm : 0 ≤ (x0 + x1) % 65536 ∧ (x0 + x1) % 65536 < 65536 := by omega
    have a1 := After_m hn hm
    have a2 := After_m hm hm
    have a3 := After_m hm hn
    have w2 : wi (65536 - x1) = 65536 - x1 := wi_eq (by omega) (by omega)
    simp only [law04_WordRound_r0_0, w0, w1, w2, s0, law04_WordRound_e0, e2, law04_WordRound_S2_r0_0, a1, a2, a3, tb, cond_false]
    have b1 : ((x0 + x1) % 65536 - x0) % 65536 = x1 := by omega
    have b2 : ((x0 + x1) % 65536 - (x0 + x1) % 65536) % 65536 = 0 := by omega
    rw [b1, b2]
    by_cases h : x1 = 0
    · subst h; simp
    · have b3 : (x0 - (x0 + x1) % 65536) % 65536 = 65536 - x1 := by omega
      rw [b3]; simp

end Go.Proofs.Ytdjmfcdopaejcaa.Den

/- What all rows of a seat rest on. -/
namespace Go.Proofs.Ytdjmfcdopaejcaa.Den
open Go Go.Proofs
set_option maxRecDepth 100000

theorem own : ownKnob Try.prog.godebug = none := by kernel_rfl
theorem laidOut : laidOutB Try.prog = true := by kernel_rfl
theorem mixed : Try.prog.follows .mixedOrders = true := by kernel_rfl
theorem envOK : EnvOK Try.prog E0 := ⟨e0_cf, fun f args m r m' h => by simp [E0] at h⟩
theorem glOK (w : World) : GlOK E0 (cx0 w) := fun g cs h => by simp [E0] at h
end Go.Proofs.Ytdjmfcdopaejcaa.Den

/- The row of WordRound. -/
namespace Go.Proofs.Ytdjmfcdopaejcaa.Den
open Go Go.Proofs Go.ChangeShapes Go.WideShapes Go.ChangeAt Go.RowKit
open Go.Proofs.Ytdjmfcdopaejcaa (Rows.wordRoundSpec Rows.wordRoundRow Rows.WordRoundSaid)
set_option maxRecDepth 100000
set_option linter.unusedSimpArgs false
set_option linter.unusedVariables false

theorem row5 (rs : List (List D)) (h : TyAll Try.prog 20 Try.f5.params.toList rs) : ∃ k m', callD E0 k 5 (argsV Try.prog Try.f5.params.toList rs) [] = some ([.d (.bool true)], m') := by
  rw [Try.params5] at h ⊢
  simp only [TyAll] at h
  obtain ⟨_, _, rfl, q0, _, _, rfl, q1, rfl⟩ := h
  have k0 := flatK_ok 20 _ _ _ (show flatK Try.prog 20 37 = some [.i .u16] by kernel_rfl) q0
  simp only [CellsK, CellK] at k0
  obtain ⟨_, _, rfl, ⟨a0_0, rfl, w0_0⟩, rfl⟩ := k0
  have k1 := flatK_ok 20 _ _ _ (show flatK Try.prog 20 5 = some [.i .u8] by kernel_rfl) q1
  simp only [CellsK, CellK] at k1
  obtain ⟨_, _, rfl, ⟨a1_0, rfl, w1_0⟩, rfl⟩ := k1
  simp only [argsV, argV, Try.underlying5, Try.underlying37, List.map_cons, List.map_nil]
  obtain ⟨g1, g2⟩ := pure_WordRound a0_0 a1_0 w0_0 w1_0
  have hc := law04_WordRound_t0 a0_0 a1_0 g1
  rw [g2] at hc
  obtain ⟨k, hk⟩ := of_cl hc
  exact ⟨k, _, hk⟩

theorem wordRound_lifted (os : Os) (started : os.Started) (H : Type) (enc : TypeId × Value → H) :
    ReturnsInHanded {} Try.checked os 5 .any (Rows.wordRoundSpec.pre6 enc Try.prog Try.f5 Rows.wordRoundRow.domain false) (Rows.wordRoundSpec.post enc Try.prog Try.f5 false true false false) :=
  law_lifted (C := Try.checked) (fn := Try.f5) mixed envOK glOK own started (by kernel_rfl) Try.func5 laidOut
    (ChangeSpec.witness6 (enc := enc) (C := Try.checked) false ⟨#[], #[.int .u16 0, .int .u8 0], []⟩ 8 (by kernel_rfl) (by kernel_rfl) (by kernel_rfl) (by kernel_rfl))
    (by kernel_rfl) (rt := 4) rfl Try.underlying4 rfl
    (fun ds h => by
      match ds, h with
      | [_, _], _ => rfl)
    row5

theorem wordRound_holds : Rows.WordRoundSaid :=
  OpenClaim.holds_of_wide 5 Try.f5 rfl rfl rfl rfl rfl rfl rfl ⟨rfl, rfl, rfl, rfl, rfl⟩ rfl rfl rfl rfl rfl (by kernel_rfl) Try.func5 (by kernel_rfl)
    (of_decide_eq_true (by kernel_rfl)) (by unfold Func.isWrapper; first | (rw [if_pos (by decide +kernel)]; kernel_rfl) | (rw [if_neg (by decide +kernel)]; exact ⟨rfl, rfl⟩))
    (fun os started H enc _ => wordRound_lifted os started H enc)

end Go.Proofs.Ytdjmfcdopaejcaa.Den
