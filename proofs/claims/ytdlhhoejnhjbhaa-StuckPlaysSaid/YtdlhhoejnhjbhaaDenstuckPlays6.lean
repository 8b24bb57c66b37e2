/- StuckPlays: part 6 of what its proof rests on: an evaluator of the program's code, proved sound; plain functions printed from the code by a program of this session, with proofs; plain laws. No condition. -/
import Derived.Test.YtdlhhoejnhjbhaaDenstuckPlays5

namespace Go.Proofs.Ytdlhhoejnhjbhaa.Den
open Go Go.Proofs
set_option maxRecDepth 100000
set_option maxHeartbeats 4000000
set_option linter.unusedVariables false
set_option linter.unusedSimpArgs false
def Zgt (x3 : List Zh) : Bool := (bif tb (decide (200 < ((x3.length : Nat) : Int))) then true else false)
theorem Ztf (x0 x1 : Int) (x2 : Bool) (x3 : List Zh) : Zgt x3 = true → segG (runC E0 (cl E0) S10_0) [0, 1, 2] [6] [0, 1, 2] 0 ([(V.d (.int .i64 x0)), (V.d (.int .i64 x1)), (V.d (slD Zd true 3 x2 x3))], []) = some (.ret, ([(V.d (.bool true))], [])) := by
 unfold Zgt
 cases h1 : tb (decide (200 < ((x3.length : Nat) : Int)))
 ·exact ZN
 ·exact fun g0 => Z2 [.o 26 (fun _ => Zes (enc := Zd) (l := x3) (fl := true) (n := x2) (s := 3)), .b (tbE h1), .c (Zm9)] (by kernel_rfl)
theorem Zo4 (x0 x1 : Int) (x2 : Bool) (x3 : List Zh) : Zgt x3 = false → segG (runC E0 (cl E0) S10_0) [0, 1, 2] [6] [0, 1, 2] 0 ([(V.d (.int .i64 x0)), (V.d (.int .i64 x1)), (V.d (slD Zd true 3 x2 x3))], []) = some (.normal, ([(V.d (.int .i64 x0)), (V.d (.int .i64 x1)), (V.d (slD Zd true 3 x2 x3))], [])) := by
 unfold Zgt
 cases h1 : tb (decide (200 < ((x3.length : Nat) : Int)))
 ·exact fun g0 => Z2 [.o 26 (fun _ => Zes (enc := Zd) (l := x3) (fl := true) (n := x2) (s := 3)), .b (tbE h1)] (by kernel_rfl)
 ·exact fun g0 => absurd g0 tf
def Zcu (x16 : List Zh) (x18 : Int) : Bool := (bif tb (decide (x18 < ((x16.length : Nat) : Int))) then true else false)
theorem Zd5 (x0 x1 : Int) (x2 : List Int) (x3 x4 : Int) (x5 : List Int) (x6 : Bool) (x7 x8 : Int) (x9 : Bool) (x10 x11 : Int) (x12 x13 : Bool) (x14 : Int) (x15 : Bool) (x16 : List Zh) (x17 : Bool) (x18 : Int) : Zcu x16 x18 = true → segG (runC E0 (cl E0) S10_1) [0, 2, 7, 10, 11, 12, 13] [] [0, 2, 7, 10, 11, 12, 13] 4 ([(V.d (.int .i64 x14)), (V.d (slD Zd true 3 x15 x16)), (V.ptr 0 1 0 0), (V.ptr 1 1 0 0), (V.ptr 2 1 0 0), (V.so x17 3 x5.length), (V.d (.int .i64 x18))], [(Blk.flat 82 20 [([(.int .i64 x0), (.int .i64 x1)] ++ arrD .i64 x2 16 ++ [(.int .i64 x3), (.int .i64 x4)])] x6), (Blk.gen 84 3 [[(V.ptr 0 1 0 0), (V.d (.int .i64 x7)), (V.d (.int .i64 x8))]] x9), (Blk.gen 86 3 [[(V.d (.int .i64 x10)), (V.d (.int .i64 x11)), (V.d .nils)]] x12), (Blk.flat 3 1 (List.map (encI .i64) x5) x13)]) = some (.normal, ([(V.d (.int .i64 x14)), (V.d (slD Zd true 3 x15 x16)), (V.ptr 0 1 0 0), (V.ptr 1 1 0 0), (V.ptr 2 1 0 0), (V.so x17 3 x5.length), (V.d (.int .i64 x18))], [(Blk.flat 82 20 [([(.int .i64 x0), (.int .i64 x1)] ++ arrD .i64 x2 16 ++ [(.int .i64 x3), (.int .i64 x4)])] x6), (Blk.gen 84 3 [[(V.ptr 0 1 0 0), (V.d (.int .i64 x7)), (V.d (.int .i64 x8))]] x9), (Blk.gen 86 3 [[(V.d (.int .i64 x10)), (V.d (.int .i64 x11)), (V.d .nils)]] x12), (Blk.flat 3 1 (List.map (encI .i64) x5) x13)])) := by
 unfold Zcu
 cases h1 : tb (decide (x18 < ((x16.length : Nat) : Int)))
 ·exact ZN
 ·exact fun g0 => Z2 [.o 66 (fun _ => Zes (enc := Zd) (l := x16) (fl := true) (n := x15) (s := 3)), .b (tbE h1)] (by kernel_rfl)
theorem Ztk (x0 x1 : Int) (x2 : List Int) (x3 x4 : Int) (x5 : List Int) (x6 : Bool) (x7 x8 : Int) (x9 : Bool) (x10 x11 : Int) (x12 x13 : Bool) (x14 : Int) (x15 : Bool) (x16 : List Zh) (x17 : Bool) (x18 : Int) : Zcu x16 x18 = false → segG (runC E0 (cl E0) S10_1) [0, 2, 7, 10, 11, 12, 13] [] [0, 2, 7, 10, 11, 12, 13] 4 ([(V.d (.int .i64 x14)), (V.d (slD Zd true 3 x15 x16)), (V.ptr 0 1 0 0), (V.ptr 1 1 0 0), (V.ptr 2 1 0 0), (V.so x17 3 x5.length), (V.d (.int .i64 x18))], [(Blk.flat 82 20 [([(.int .i64 x0), (.int .i64 x1)] ++ arrD .i64 x2 16 ++ [(.int .i64 x3), (.int .i64 x4)])] x6), (Blk.gen 84 3 [[(V.ptr 0 1 0 0), (V.d (.int .i64 x7)), (V.d (.int .i64 x8))]] x9), (Blk.gen 86 3 [[(V.d (.int .i64 x10)), (V.d (.int .i64 x11)), (V.d .nils)]] x12), (Blk.flat 3 1 (List.map (encI .i64) x5) x13)]) = some ((.exit 0), ([], [(Blk.flat 82 20 [([(.int .i64 x0), (.int .i64 x1)] ++ arrD .i64 x2 16 ++ [(.int .i64 x3), (.int .i64 x4)])] x6), (Blk.gen 84 3 [[(V.ptr 0 1 0 0), (V.d (.int .i64 x7)), (V.d (.int .i64 x8))]] x9), (Blk.gen 86 3 [[(V.d (.int .i64 x10)), (V.d (.int .i64 x11)), (V.d .nils)]] x12), (Blk.flat 3 1 (List.map (encI .i64) x5) x13)])) := by
 unfold Zcu
 cases h1 : tb (decide (x18 < ((x16.length : Nat) : Int)))
 ·exact fun g0 => Z2 [.o 66 (fun _ => Zes (enc := Zd) (l := x16) (fl := true) (n := x15) (s := 3)), .b (tbE h1)] (by kernel_rfl)
 ·exact fun g0 => absurd g0 tf
def Zo5 (x0 : Int) (x2 : List Int) (x3 x4 : Int) : Bool := ((Za ([] : List Int) x0 x2 x3 x4 true).c4)
def Zf0 (x0 : Int) (x2 : List Int) (x3 x4 : Int) : List Int := ((Za ([] : List Int) x0 x2 x3 x4 true).c6)
def Zh0 (x8 x13 : Int) : List Int := (sub [x8] (mxI 0 (wi ((([x8].length : Nat) : Int) - (wi (x13 - 1))))) (([x8].length : Nat) : Int))
def Zfx (x0 : Int) (x2 : List Int) (x3 x4 x8 x13 : Int) : Bool := (bif tb (Zt x0 x2 x3 x4) then (bif tb (Zr [x8] x13) then (bif tb (ins ([x8].length) (mxI 0 (wi ((([x8].length : Nat) : Int) - (wi (x13 - 1))))) (([x8].length : Nat) : Int)) then (bif tb (Zbq (Zf0 x0 x2 x3 x4) (Zh0 x8 x13)) then true else false) else false) else (bif tb (Zbj [x8] x13 false) then (bif tb (Zea (Zf0 x0 x2 x3 x4)) then true else false) else false)) else false)
def Zh4 (x0 : Int) (x2 : List Int) (x3 x4 x8 x13 : Int) : Bool := (bif tb (Zr [x8] x13) then (Zb4 (Zf0 x0 x2 x3 x4) (Zh0 x8 x13)) else (Zho (Zf0 x0 x2 x3 x4)))
theorem Zo6 (x0 x1 : Int) (x2 : List Int) (x3 x4 : Int) (x5 : List Int) (x6 : Bool) (x7 x8 : Int) (x9 : Bool) (x10 x11 : Int) (x12 : Bool) (x13 x14 : Int) (x15 x16 x17 x18 : Bool) (x19 : Int) (x20 : Bool) (x21 : List Zh) (x22 : Bool) (x23 : Int) : Zfx x0 x2 x3 x4 x8 x13 = true → segG (runC E0 (cl E0) S10_2) [0, 2, 7, 10, 11, 12, 13] [] [0, 2, 7, 10, 11, 12, 13, 20] 6 ([(V.d (.int .i64 x19)), (V.d (slD Zd true 3 x20 x21)), (V.ptr 0 1 0 0), (V.ptr 1 1 0 0), (V.ptr 2 1 0 0), (V.so x22 3 x5.length), (V.d (.int .i64 x23))], [(Blk.flat 82 20 [([(.int .i64 x0), (.int .i64 x1)] ++ arrD .i64 x2 16 ++ [(.int .i64 x3), (.int .i64 x4)])] x9), (Blk.gen 84 3 [[(V.ptr 0 1 0 0), (V.d (.int .i64 x10)), (V.d (.int .i64 x11))]] x12), (Blk.gen 86 3 [[(V.d (.int .i64 x13)), (V.d (.int .i64 x14)), (V.so false 5 1)]] x15), (Blk.flat 3 1 (List.map (encI .i64) x5) x16), (Blk.flat 53 2 [[(.bool x6), (.int .i64 x7)]] x17), (Blk.flat 3 1 [[(.int .i64 x8)]] x18)]) = some (.normal, ([(V.d (.int .i64 x19)), (V.d (slD Zd true 3 x20 x21)), (V.ptr 0 1 0 0), (V.ptr 1 1 0 0), (V.ptr 2 1 0 0), (V.so x22 3 x5.length), (V.d (.int .i64 x23)), (V.d (.bool (Zh4 x0 x2 x3 x4 x8 x13)))], [(Blk.flat 82 20 [([(.int .i64 x0), (.int .i64 x1)] ++ arrD .i64 x2 16 ++ [(.int .i64 x3), (.int .i64 x4)])] x9), (Blk.gen 84 3 [[(V.ptr 0 1 0 0), (V.d (.int .i64 x10)), (V.d (.int .i64 x11))]] x12), (Blk.gen 86 3 [[(V.d (.int .i64 x13)), (V.d (.int .i64 x14)), (V.so false 5 ([x8].length))]] x15), (Blk.flat 3 1 (List.map (encI .i64) x5) x16), (Blk.flat 53 2 [[(.bool x6), (.int .i64 x7)]] x17), (Blk.flat 3 1 (List.map (encI .i64) [x8]) x18)])) := by
 unfold Zfx Zh4
 cases h1 : tb (Zt x0 x2 x3 x4)
 ·exact ZN
 ·cases h2 : tb (Zr [x8] x13)
  ·cases h3 : tb (Zbj [x8] x13 false)
   ·exact ZN
   ·cases h4 : tb (Zea (Zf0 x0 x2 x3 x4))
    ·exact ZN
    ·exact fun g0 => Z2 [.c (Zbd x0 x1 x2 x3 x4 x9 (tbE h1)), .c (Zef [x8] x13 x14 false x15 x18 (tbE h2) (tbE h3)), .y (mm := [(Blk.flat 82 20 [([(.int .i64 x0), (.int .i64 x1)] ++ arrD .i64 x2 16 ++ [(.int .i64 x3), (.int .i64 x4)])] x9), (Blk.gen 84 3 [[(V.ptr 0 1 0 0), (V.d (.int .i64 x10)), (V.d (.int .i64 x11))]] x12), (Blk.gen 86 3 [[(V.d (.int .i64 x13)), (V.d (.int .i64 x14)), (V.so false 5 ([x8].length))]] x15), (Blk.flat 3 1 (List.map (encI .i64) x5) x16), (Blk.flat 53 2 [[(.bool x6), (.int .i64 x7)]] x17), (Blk.flat 3 1 (List.map (encI .i64) [x8]) x18), (Blk.flat 3 1 (List.map (encI .i64) ((Za ([] : List Int) x0 x2 x3 x4 true).c6)) false)]) (args := [(V.so ((Za ([] : List Int) x0 x2 x3 x4 true).c4) 6 (((Za ([] : List Int) x0 x2 x3 x4 true).c6).length)), (V.d (.rs false 1 [] false))]) (args1 := [(V.d (slD (encI .i64) true 1 ((Za ([] : List Int) x0 x2 x3 x4 true).c4) ((Za ([] : List Int) x0 x2 x3 x4 true).c6))), (V.d (.rs false 1 [] false))]) (Zc8 (Zhz (enc := (encI .i64)) (l := ((Za ([] : List Int) x0 x2 x3 x4 true).c6)) (b := ((Za ([] : List Int) x0 x2 x3 x4 true).c4)) (e := 3) (s := 1) (p := false) (n := (((Za ([] : List Int) x0 x2 x3 x4 true).c6).length)) (Nat.beq_refl _) (by kernel_rfl)) (by kernel_rfl)), .c (Zi7 (Zo5 x0 x2 x3 x4) (Zf0 x0 x2 x3 x4) (tbE h4))] (by kernel_rfl)
  ·cases h3 : tb (ins ([x8].length) (mxI 0 (wi ((([x8].length : Nat) : Int) - (wi (x13 - 1))))) (([x8].length : Nat) : Int))
   ·exact ZN
   ·cases h4 : tb (Zbq (Zf0 x0 x2 x3 x4) (Zh0 x8 x13))
    ·exact ZN
    ·exact fun g0 => Z2 [.c (Zbd x0 x1 x2 x3 x4 x9 (tbE h1)), .c (Zeh [x8] x13 x14 false x15 x18 (tbE h2)), .y (mm := [(Blk.flat 82 20 [([(.int .i64 x0), (.int .i64 x1)] ++ arrD .i64 x2 16 ++ [(.int .i64 x3), (.int .i64 x4)])] x9), (Blk.gen 84 3 [[(V.ptr 0 1 0 0), (V.d (.int .i64 x10)), (V.d (.int .i64 x11))]] x12), (Blk.gen 86 3 [[(V.d (.int .i64 x13)), (V.d (.int .i64 x14)), (V.so false 5 ([x8].length))]] x15), (Blk.flat 3 1 (List.map (encI .i64) x5) x16), (Blk.flat 53 2 [[(.bool x6), (.int .i64 x7)]] x17), (Blk.flat 3 1 (List.map (encI .i64) [x8]) x18), (Blk.flat 3 1 (List.map (encI .i64) ((Za ([] : List Int) x0 x2 x3 x4 true).c6)) false)]) (args := [(V.so ((Za ([] : List Int) x0 x2 x3 x4 true).c4) 6 (((Za ([] : List Int) x0 x2 x3 x4 true).c6).length)), (V.sl 5 ([x8].length) ((mxI 0 (wi ((([x8].length : Nat) : Int) - (wi (x13 - 1))))) : Int).toNat (((([x8].length : Nat) : Int) : Int).toNat - ((mxI 0 (wi ((([x8].length : Nat) : Int) - (wi (x13 - 1))))) : Int).toNat))]) (args1 := [(V.d (slD (encI .i64) true 1 ((Za ([] : List Int) x0 x2 x3 x4 true).c4) ((Za ([] : List Int) x0 x2 x3 x4 true).c6))), (V.d (.rs true 1 (List.map (encI .i64) (sub [x8] (mxI 0 (wi ((([x8].length : Nat) : Int) - (wi (x13 - 1))))) (([x8].length : Nat) : Int))) false))]) (Zc8 (Zhz (enc := (encI .i64)) (l := ((Za ([] : List Int) x0 x2 x3 x4 true).c6)) (b := ((Za ([] : List Int) x0 x2 x3 x4 true).c4)) (e := 3) (s := 1) (p := false) (n := (((Za ([] : List Int) x0 x2 x3 x4 true).c6).length)) (Nat.beq_refl _) (by kernel_rfl)) (Zc8 (Zml (enc := (encI .i64)) (l := [x8]) (e := 3) (s := 1) (p := x18) (n := ([x8].length)) (lo := (mxI 0 (wi ((([x8].length : Nat) : Int) - (wi (x13 - 1)))))) (hi := (([x8].length : Nat) : Int)) (Nat.beq_refl _) (by kernel_rfl) (tbE h3)) (by kernel_rfl))), .c (Zgm (Zo5 x0 x2 x3 x4) (Zf0 x0 x2 x3 x4) false (Zh0 x8 x13) (tbE h4))] (by kernel_rfl)
def Zfw (x0 : Int) (x2 : List Int) (x3 x4 : Int) (x8 : List Int) (x13 : Int) (x24 : Bool) : Bool := (bif tb (x24) then (bif tb (Zp x0 x2 x3 x4) then (bif tb (Z1 x8 x13 false) then true else false) else false) else true)
def Zfo (x0 x1 : Int) (x2 : List Int) (x3 x4 : Int) (x5 x8 : List Int) (x11 x13 x14 x19 : Int) (x24 : Bool) : Bool := (bif tb (x24) then (bif tb (true != ((Zo x0 x1 x2 x3 x4) == (Zba x8 x13 x14))) then true else ((x11 : Int) != (mnI ((x5.length : Nat) : Int) x19))) else true)
theorem Zo3 (x0 x1 : Int) (x2 : List Int) (x3 x4 : Int) (x5 : List Int) (x6 : Bool) (x7 : Int) (x8 : List Int) (x9 : Bool) (x10 x11 : Int) (x12 : Bool) (x13 x14 : Int) (x15 x16 x17 x18 : Bool) (x19 : Int) (x20 : Bool) (x21 : List Zh) (x22 : Bool) (x23 : Int) (x24 : Bool) : Zfw x0 x2 x3 x4 x8 x13 x24 = true → segG (runC E0 (cl E0) S10_3) [0, 2, 7, 10, 11, 12, 13, 20] [] [0, 2, 7, 10, 11, 12, 13, 142] 6 ([(V.d (.int .i64 x19)), (V.d (slD Zd true 3 x20 x21)), (V.ptr 0 1 0 0), (V.ptr 1 1 0 0), (V.ptr 2 1 0 0), (V.so x22 3 x5.length), (V.d (.int .i64 x23)), (V.d (.bool x24))], [(Blk.flat 82 20 [([(.int .i64 x0), (.int .i64 x1)] ++ arrD .i64 x2 16 ++ [(.int .i64 x3), (.int .i64 x4)])] x9), (Blk.gen 84 3 [[(V.ptr 0 1 0 0), (V.d (.int .i64 x10)), (V.d (.int .i64 x11))]] x12), (Blk.gen 86 3 [[(V.d (.int .i64 x13)), (V.d (.int .i64 x14)), (V.so false 5 x8.length)]] x15), (Blk.flat 3 1 (List.map (encI .i64) x5) x16), (Blk.flat 53 2 [[(.bool x6), (.int .i64 x7)]] x17), (Blk.flat 3 1 (List.map (encI .i64) x8) x18)]) = some (.normal, ([(V.d (.int .i64 x19)), (V.d (slD Zd true 3 x20 x21)), (V.ptr 0 1 0 0), (V.ptr 1 1 0 0), (V.ptr 2 1 0 0), (V.so x22 3 x5.length), (V.d (.int .i64 x23)), (V.d (.bool (Zfo x0 x1 x2 x3 x4 x5 x8 x11 x13 x14 x19 x24)))], [(Blk.flat 82 20 [([(.int .i64 x0), (.int .i64 x1)] ++ arrD .i64 x2 16 ++ [(.int .i64 x3), (.int .i64 x4)])] x9), (Blk.gen 84 3 [[(V.ptr 0 1 0 0), (V.d (.int .i64 x10)), (V.d (.int .i64 x11))]] x12), (Blk.gen 86 3 [[(V.d (.int .i64 x13)), (V.d (.int .i64 x14)), (V.so false 5 x8.length)]] x15), (Blk.flat 3 1 (List.map (encI .i64) x5) x16), (Blk.flat 53 2 [[(.bool x6), (.int .i64 x7)]] x17), (Blk.flat 3 1 (List.map (encI .i64) x8) x18)])) := by
 unfold Zfw Zfo
 cases h1 : tb (x24)
 ·exact fun g0 => Z2 [.b (notF (tbE h1))] (by kernel_rfl)
 ·cases h2 : tb (Zp x0 x2 x3 x4)
  ·exact ZN
  ·cases h3 : tb (Z1 x8 x13 false)
   ·exact ZN
   ·cases h4 : tb (true != ((Zo x0 x1 x2 x3 x4) == (Zba x8 x13 x14)))
    ·exact fun g0 => Z2 [.b (notT (tbE h1)), .c (Z0 x0 x1 x2 x3 x4 x9 (tbE h2)), .c (Zbc x8 x13 x14 false x15 x18 (tbE h3)), .b (tbE h4), .c (Zcc x0 x1 x2 x3 x4 x10 x11 x12 x9)] (by kernel_rfl)
    ·exact fun g0 => Z2 [.b (notT (tbE h1)), .c (Z0 x0 x1 x2 x3 x4 x9 (tbE h2)), .c (Zbc x8 x13 x14 false x15 x18 (tbE h3)), .b (tbE h4)] (by kernel_rfl)
def Zsl (x0 : Int) (x2 : List Int) (x3 x4 : Int) : Bool := ((Za ([] : List Int) x0 x2 x3 x4 true).c4)
def Zgd (x0 : Int) (x2 : List Int) (x3 x4 : Int) : List Int := ((Za ([] : List Int) x0 x2 x3 x4 true).c6)
def Zcf (x0 : Int) (x2 : List Int) (x3 x4 x12 : Int) : Bool := (bif tb (Zt x0 x2 x3 x4) then (bif tb (Zb7 x12) then (bif tb (Zbq (Zgd x0 x2 x3 x4) []) then true else false) else false) else false)
theorem Zkv (x0 x1 : Int) (x2 : List Int) (x3 x4 : Int) (x5 : List Int) (x6 : Bool) (x7 : Int) (x8 : Bool) (x9 x10 : Int) (x11 : Bool) (x12 x13 : Int) (x14 x15 x16 : Bool) (x17 : Int) (x18 : Bool) (x19 : List Zh) (x20 : Bool) (x21 : Int) : Zcf x0 x2 x3 x4 x12 = true → segG (runC E0 (cl E0) S10_2) [0, 2, 7, 10, 11, 12, 13] [] [0, 2, 7, 10, 11, 12, 13, 20] 5 ([(V.d (.int .i64 x17)), (V.d (slD Zd true 3 x18 x19)), (V.ptr 0 1 0 0), (V.ptr 1 1 0 0), (V.ptr 2 1 0 0), (V.so x20 3 x5.length), (V.d (.int .i64 x21))], [(Blk.flat 82 20 [([(.int .i64 x0), (.int .i64 x1)] ++ arrD .i64 x2 16 ++ [(.int .i64 x3), (.int .i64 x4)])] x8), (Blk.gen 84 3 [[(V.ptr 0 1 0 0), (V.d (.int .i64 x9)), (V.d (.int .i64 x10))]] x11), (Blk.gen 86 3 [[(V.d (.int .i64 x12)), (V.d (.int .i64 x13)), (V.d .nils)]] x14), (Blk.flat 3 1 (List.map (encI .i64) x5) x15), (Blk.flat 53 2 [[(.bool x6), (.int .i64 x7)]] x16)]) = some (.normal, ([(V.d (.int .i64 x17)), (V.d (slD Zd true 3 x18 x19)), (V.ptr 0 1 0 0), (V.ptr 1 1 0 0), (V.ptr 2 1 0 0), (V.so x20 3 x5.length), (V.d (.int .i64 x21)), (V.d (.bool (Zb4 (Zgd x0 x2 x3 x4) [])))], [(Blk.flat 82 20 [([(.int .i64 x0), (.int .i64 x1)] ++ arrD .i64 x2 16 ++ [(.int .i64 x3), (.int .i64 x4)])] x8), (Blk.gen 84 3 [[(V.ptr 0 1 0 0), (V.d (.int .i64 x9)), (V.d (.int .i64 x10))]] x11), (Blk.gen 86 3 [[(V.d (.int .i64 x12)), (V.d (.int .i64 x13)), (V.d .nils)]] x14), (Blk.flat 3 1 (List.map (encI .i64) x5) x15), (Blk.flat 53 2 [[(.bool x6), (.int .i64 x7)]] x16)])) := by
 unfold Zcf
 cases h1 : tb (Zt x0 x2 x3 x4)
 ·exact ZN
 ·cases h2 : tb (Zb7 x12)
  ·exact ZN
  ·cases h3 : tb (Zbq (Zgd x0 x2 x3 x4) [])
   ·exact ZN
   ·exact fun g0 => Z2 [.c (Zbd x0 x1 x2 x3 x4 x8 (tbE h1)), .c (Zhn x12 x13 x14 (tbE h2)), .y (mm := [(Blk.flat 82 20 [([(.int .i64 x0), (.int .i64 x1)] ++ arrD .i64 x2 16 ++ [(.int .i64 x3), (.int .i64 x4)])] x8), (Blk.gen 84 3 [[(V.ptr 0 1 0 0), (V.d (.int .i64 x9)), (V.d (.int .i64 x10))]] x11), (Blk.gen 86 3 [[(V.d (.int .i64 x12)), (V.d (.int .i64 x13)), (V.d .nils)]] x14), (Blk.flat 3 1 (List.map (encI .i64) x5) x15), (Blk.flat 53 2 [[(.bool x6), (.int .i64 x7)]] x16), (Blk.flat 3 1 (List.map (encI .i64) ((Za ([] : List Int) x0 x2 x3 x4 true).c6)) false)]) (args := [(V.so ((Za ([] : List Int) x0 x2 x3 x4 true).c4) 5 (((Za ([] : List Int) x0 x2 x3 x4 true).c6).length)), (V.d .nils)]) (args1 := [(V.d (slD (encI .i64) true 1 ((Za ([] : List Int) x0 x2 x3 x4 true).c4) ((Za ([] : List Int) x0 x2 x3 x4 true).c6))), (V.d .nils)]) (Zc8 (Zhz (enc := (encI .i64)) (l := ((Za ([] : List Int) x0 x2 x3 x4 true).c6)) (b := ((Za ([] : List Int) x0 x2 x3 x4 true).c4)) (e := 3) (s := 1) (p := false) (n := (((Za ([] : List Int) x0 x2 x3 x4 true).c6).length)) (Nat.beq_refl _) (by kernel_rfl)) (by kernel_rfl)), .c (Zgm (Zsl x0 x2 x3 x4) (Zgd x0 x2 x3 x4) true [] (tbE h3))] (by kernel_rfl)
def Zcg (x0 : Int) (x2 : List Int) (x3 x4 x12 : Int) (x22 : Bool) : Bool := (bif tb (x22) then (bif tb (Zp x0 x2 x3 x4) then (bif tb (Zbh x12) then true else false) else false) else true)
def Zct (x0 x1 : Int) (x2 : List Int) (x3 x4 : Int) (x5 : List Int) (x10 x12 x13 x17 : Int) (x22 : Bool) : Bool := (bif tb (x22) then (bif tb (true != ((Zo x0 x1 x2 x3 x4) == (Zb3 x12 x13))) then true else ((x10 : Int) != (mnI ((x5.length : Nat) : Int) x17))) else true)
theorem Zku (x0 x1 : Int) (x2 : List Int) (x3 x4 : Int) (x5 : List Int) (x6 : Bool) (x7 : Int) (x8 : Bool) (x9 x10 : Int) (x11 : Bool) (x12 x13 : Int) (x14 x15 x16 : Bool) (x17 : Int) (x18 : Bool) (x19 : List Zh) (x20 : Bool) (x21 : Int) (x22 : Bool) : Zcg x0 x2 x3 x4 x12 x22 = true → segG (runC E0 (cl E0) S10_3) [0, 2, 7, 10, 11, 12, 13, 20] [] [0, 2, 7, 10, 11, 12, 13, 142] 5 ([(V.d (.int .i64 x17)), (V.d (slD Zd true 3 x18 x19)), (V.ptr 0 1 0 0), (V.ptr 1 1 0 0), (V.ptr 2 1 0 0), (V.so x20 3 x5.length), (V.d (.int .i64 x21)), (V.d (.bool x22))], [(Blk.flat 82 20 [([(.int .i64 x0), (.int .i64 x1)] ++ arrD .i64 x2 16 ++ [(.int .i64 x3), (.int .i64 x4)])] x8), (Blk.gen 84 3 [[(V.ptr 0 1 0 0), (V.d (.int .i64 x9)), (V.d (.int .i64 x10))]] x11), (Blk.gen 86 3 [[(V.d (.int .i64 x12)), (V.d (.int .i64 x13)), (V.d .nils)]] x14), (Blk.flat 3 1 (List.map (encI .i64) x5) x15), (Blk.flat 53 2 [[(.bool x6), (.int .i64 x7)]] x16)]) = some (.normal, ([(V.d (.int .i64 x17)), (V.d (slD Zd true 3 x18 x19)), (V.ptr 0 1 0 0), (V.ptr 1 1 0 0), (V.ptr 2 1 0 0), (V.so x20 3 x5.length), (V.d (.int .i64 x21)), (V.d (.bool (Zct x0 x1 x2 x3 x4 x5 x10 x12 x13 x17 x22)))], [(Blk.flat 82 20 [([(.int .i64 x0), (.int .i64 x1)] ++ arrD .i64 x2 16 ++ [(.int .i64 x3), (.int .i64 x4)])] x8), (Blk.gen 84 3 [[(V.ptr 0 1 0 0), (V.d (.int .i64 x9)), (V.d (.int .i64 x10))]] x11), (Blk.gen 86 3 [[(V.d (.int .i64 x12)), (V.d (.int .i64 x13)), (V.d .nils)]] x14), (Blk.flat 3 1 (List.map (encI .i64) x5) x15), (Blk.flat 53 2 [[(.bool x6), (.int .i64 x7)]] x16)])) := by
 unfold Zcg Zct
 cases h1 : tb (x22)
 ·exact fun g0 => Z2 [.b (notF (tbE h1))] (by kernel_rfl)
 ·cases h2 : tb (Zp x0 x2 x3 x4)
  ·exact ZN
  ·cases h3 : tb (Zbh x12)
   ·exact ZN
   ·cases h4 : tb (true != ((Zo x0 x1 x2 x3 x4) == (Zb3 x12 x13)))
    ·exact fun g0 => Z2 [.b (notT (tbE h1)), .c (Z0 x0 x1 x2 x3 x4 x8 (tbE h2)), .c (Zca x12 x13 x14 (tbE h3)), .b (tbE h4), .c (Zcc x0 x1 x2 x3 x4 x9 x10 x11 x8)] (by kernel_rfl)
    ·exact fun g0 => Z2 [.b (notT (tbE h1)), .c (Z0 x0 x1 x2 x3 x4 x8 (tbE h2)), .c (Zca x12 x13 x14 (tbE h3)), .b (tbE h4)] (by kernel_rfl)
def Zsj (x0 : Int) (x2 : List Int) (x3 x4 : Int) : Bool := ((Za ([] : List Int) x0 x2 x3 x4 true).c4)
def Zgv (x0 : Int) (x2 : List Int) (x3 x4 : Int) : List Int := ((Za ([] : List Int) x0 x2 x3 x4 true).c6)
def Ze0 (x0 : Int) (x2 : List Int) (x3 x4 x11 : Int) : Bool := (bif tb (Zt x0 x2 x3 x4) then (bif tb (Zb7 x11) then (bif tb (Zbq (Zgv x0 x2 x3 x4) []) then true else false) else false) else false)
theorem Zog (x0 x1 : Int) (x2 : List Int) (x3 x4 : Int) (x5 : List Int) (x6 : Bool) (x7 : Int) (x8 : Bool) (x9 : Int) (x10 : Bool) (x11 x12 : Int) (x13 x14 x15 x16 : Bool) (x17 : Int) (x18 : Bool) (x19 : List Zh) (x20 : Int) : Ze0 x0 x2 x3 x4 x11 = true → segG (runC E0 (cl E0) S10_2) [0, 2, 7, 10, 11, 12, 13] [] [0, 2, 7, 10, 11, 12, 13, 20] 6 ([(V.d (.int .i64 x17)), (V.d (slD Zd true 3 x18 x19)), (V.ptr 0 1 0 0), (V.ptr 1 1 0 0), (V.ptr 2 1 0 0), (V.so true 5 0), (V.d (.int .i64 x20))], [(Blk.flat 82 20 [([(.int .i64 x0), (.int .i64 x1)] ++ arrD .i64 x2 16 ++ [(.int .i64 x3), (.int .i64 x4)])] x8), (Blk.gen 84 3 [[(V.ptr 0 1 0 0), (V.d (.int .i64 x9)), (V.d (.int .i64 0))]] x10), (Blk.gen 86 3 [[(V.d (.int .i64 x11)), (V.d (.int .i64 x12)), (V.d .nils)]] x13), (Blk.flat 3 1 (List.map (encI .i64) x5) x14), (Blk.flat 53 2 [[(.bool x6), (.int .i64 x7)]] x15), (Blk.flat 3 1 [] x16)]) = some (.normal, ([(V.d (.int .i64 x17)), (V.d (slD Zd true 3 x18 x19)), (V.ptr 0 1 0 0), (V.ptr 1 1 0 0), (V.ptr 2 1 0 0), (V.so true 5 0), (V.d (.int .i64 x20)), (V.d (.bool (Zb4 (Zgv x0 x2 x3 x4) [])))], [(Blk.flat 82 20 [([(.int .i64 x0), (.int .i64 x1)] ++ arrD .i64 x2 16 ++ [(.int .i64 x3), (.int .i64 x4)])] x8), (Blk.gen 84 3 [[(V.ptr 0 1 0 0), (V.d (.int .i64 x9)), (V.d (.int .i64 0))]] x10), (Blk.gen 86 3 [[(V.d (.int .i64 x11)), (V.d (.int .i64 x12)), (V.d .nils)]] x13), (Blk.flat 3 1 (List.map (encI .i64) x5) x14), (Blk.flat 53 2 [[(.bool x6), (.int .i64 x7)]] x15), (Blk.flat 3 1 [] x16)])) := by
 unfold Ze0
 cases h1 : tb (Zt x0 x2 x3 x4)
 ·exact ZN
 ·cases h2 : tb (Zb7 x11)
  ·exact ZN
  ·cases h3 : tb (Zbq (Zgv x0 x2 x3 x4) [])
   ·exact ZN
   ·exact fun g0 => Z2 [.c (Zbd x0 x1 x2 x3 x4 x8 (tbE h1)), .c (Zhn x11 x12 x13 (tbE h2)), .y (mm := [(Blk.flat 82 20 [([(.int .i64 x0), (.int .i64 x1)] ++ arrD .i64 x2 16 ++ [(.int .i64 x3), (.int .i64 x4)])] x8), (Blk.gen 84 3 [[(V.ptr 0 1 0 0), (V.d (.int .i64 x9)), (V.d (.int .i64 0))]] x10), (Blk.gen 86 3 [[(V.d (.int .i64 x11)), (V.d (.int .i64 x12)), (V.d .nils)]] x13), (Blk.flat 3 1 (List.map (encI .i64) x5) x14), (Blk.flat 53 2 [[(.bool x6), (.int .i64 x7)]] x15), (Blk.flat 3 1 [] x16), (Blk.flat 3 1 (List.map (encI .i64) ((Za ([] : List Int) x0 x2 x3 x4 true).c6)) false)]) (args := [(V.so ((Za ([] : List Int) x0 x2 x3 x4 true).c4) 6 (((Za ([] : List Int) x0 x2 x3 x4 true).c6).length)), (V.d .nils)]) (args1 := [(V.d (slD (encI .i64) true 1 ((Za ([] : List Int) x0 x2 x3 x4 true).c4) ((Za ([] : List Int) x0 x2 x3 x4 true).c6))), (V.d .nils)]) (Zc8 (Zhz (enc := (encI .i64)) (l := ((Za ([] : List Int) x0 x2 x3 x4 true).c6)) (b := ((Za ([] : List Int) x0 x2 x3 x4 true).c4)) (e := 3) (s := 1) (p := false) (n := (((Za ([] : List Int) x0 x2 x3 x4 true).c6).length)) (Nat.beq_refl _) (by kernel_rfl)) (by kernel_rfl)), .c (Zgm (Zsj x0 x2 x3 x4) (Zgv x0 x2 x3 x4) true [] (tbE h3))] (by kernel_rfl)
def Ze4 (x0 : Int) (x2 : List Int) (x3 x4 x11 : Int) (x21 : Bool) : Bool := (bif tb (x21) then (bif tb (Zp x0 x2 x3 x4) then (bif tb (Zbh x11) then true else false) else false) else true)
def Zev (x0 x1 : Int) (x2 : List Int) (x3 x4 x11 x12 x17 : Int) (x21 : Bool) : Bool := (bif tb (x21) then (bif tb (true != ((Zo x0 x1 x2 x3 x4) == (Zb3 x11 x12))) then true else ((0 : Int) != (mnI 0 x17))) else true)
theorem Zn6 (x0 x1 : Int) (x2 : List Int) (x3 x4 : Int) (x5 : List Int) (x6 : Bool) (x7 : Int) (x8 : Bool) (x9 : Int) (x10 : Bool) (x11 x12 : Int) (x13 x14 x15 x16 : Bool) (x17 : Int) (x18 : Bool) (x19 : List Zh) (x20 : Int) (x21 : Bool) : Ze4 x0 x2 x3 x4 x11 x21 = true → segG (runC E0 (cl E0) S10_3) [0, 2, 7, 10, 11, 12, 13, 20] [] [0, 2, 7, 10, 11, 12, 13, 142] 6 ([(V.d (.int .i64 x17)), (V.d (slD Zd true 3 x18 x19)), (V.ptr 0 1 0 0), (V.ptr 1 1 0 0), (V.ptr 2 1 0 0), (V.so true 5 0), (V.d (.int .i64 x20)), (V.d (.bool x21))], [(Blk.flat 82 20 [([(.int .i64 x0), (.int .i64 x1)] ++ arrD .i64 x2 16 ++ [(.int .i64 x3), (.int .i64 x4)])] x8), (Blk.gen 84 3 [[(V.ptr 0 1 0 0), (V.d (.int .i64 x9)), (V.d (.int .i64 0))]] x10), (Blk.gen 86 3 [[(V.d (.int .i64 x11)), (V.d (.int .i64 x12)), (V.d .nils)]] x13), (Blk.flat 3 1 (List.map (encI .i64) x5) x14), (Blk.flat 53 2 [[(.bool x6), (.int .i64 x7)]] x15), (Blk.flat 3 1 [] x16)]) = some (.normal, ([(V.d (.int .i64 x17)), (V.d (slD Zd true 3 x18 x19)), (V.ptr 0 1 0 0), (V.ptr 1 1 0 0), (V.ptr 2 1 0 0), (V.so true 5 0), (V.d (.int .i64 x20)), (V.d (.bool (Zev x0 x1 x2 x3 x4 x11 x12 x17 x21)))], [(Blk.flat 82 20 [([(.int .i64 x0), (.int .i64 x1)] ++ arrD .i64 x2 16 ++ [(.int .i64 x3), (.int .i64 x4)])] x8), (Blk.gen 84 3 [[(V.ptr 0 1 0 0), (V.d (.int .i64 x9)), (V.d (.int .i64 0))]] x10), (Blk.gen 86 3 [[(V.d (.int .i64 x11)), (V.d (.int .i64 x12)), (V.d .nils)]] x13), (Blk.flat 3 1 (List.map (encI .i64) x5) x14), (Blk.flat 53 2 [[(.bool x6), (.int .i64 x7)]] x15), (Blk.flat 3 1 [] x16)])) := by
 unfold Ze4 Zev
 cases h1 : tb (x21)
 ·exact fun g0 => Z2 [.b (notF (tbE h1))] (by kernel_rfl)
 ·cases h2 : tb (Zp x0 x2 x3 x4)
  ·exact ZN
  ·cases h3 : tb (Zbh x11)
   ·exact ZN
   ·cases h4 : tb (true != ((Zo x0 x1 x2 x3 x4) == (Zb3 x11 x12)))
    ·exact fun g0 => Z2 [.b (notT (tbE h1)), .c (Z0 x0 x1 x2 x3 x4 x8 (tbE h2)), .c (Zca x11 x12 x13 (tbE h3)), .b (tbE h4), .c (Zcc x0 x1 x2 x3 x4 x9 0 x10 x8)] (by kernel_rfl)
    ·exact fun g0 => Z2 [.b (notT (tbE h1)), .c (Z0 x0 x1 x2 x3 x4 x8 (tbE h2)), .c (Zca x11 x12 x13 (tbE h3)), .b (tbE h4)] (by kernel_rfl)
def Zr6 (x0 : Int) (x2 : List Int) (x3 x4 : Int) : Bool := ((Za ([] : List Int) x0 x2 x3 x4 true).c4)
def Zgu (x0 : Int) (x2 : List Int) (x3 x4 : Int) : List Int := ((Za ([] : List Int) x0 x2 x3 x4 true).c6)
def Ze6 (x0 : Int) (x2 : List Int) (x3 x4 x13 : Int) : Bool := (bif tb (Zt x0 x2 x3 x4) then (bif tb (Zb7 x13) then (bif tb (Zbq (Zgu x0 x2 x3 x4) []) then true else false) else false) else false)
theorem Zoc (x0 x1 : Int) (x2 : List Int) (x3 x4 : Int) (x5 : List Int) (x6 : Bool) (x7 : Int) (x8 : List Int) (x9 : Bool) (x10 x11 : Int) (x12 : Bool) (x13 x14 : Int) (x15 x16 x17 x18 : Bool) (x19 : Int) (x20 : Bool) (x21 : List Zh) (x22 : Int) : Ze6 x0 x2 x3 x4 x13 = true → segG (runC E0 (cl E0) S10_2) [0, 2, 7, 10, 11, 12, 13] [] [0, 2, 7, 10, 11, 12, 13, 20] 6 ([(V.d (.int .i64 x19)), (V.d (slD Zd true 3 x20 x21)), (V.ptr 0 1 0 0), (V.ptr 1 1 0 0), (V.ptr 2 1 0 0), (V.so false 5 x8.length), (V.d (.int .i64 x22))], [(Blk.flat 82 20 [([(.int .i64 x0), (.int .i64 x1)] ++ arrD .i64 x2 16 ++ [(.int .i64 x3), (.int .i64 x4)])] x9), (Blk.gen 84 3 [[(V.ptr 0 1 0 0), (V.d (.int .i64 x10)), (V.d (.int .i64 x11))]] x12), (Blk.gen 86 3 [[(V.d (.int .i64 x13)), (V.d (.int .i64 x14)), (V.d .nils)]] x15), (Blk.flat 3 1 (List.map (encI .i64) x5) x16), (Blk.flat 53 2 [[(.bool x6), (.int .i64 x7)]] x17), (Blk.flat 3 1 (List.map (encI .i64) x8) x18)]) = some (.normal, ([(V.d (.int .i64 x19)), (V.d (slD Zd true 3 x20 x21)), (V.ptr 0 1 0 0), (V.ptr 1 1 0 0), (V.ptr 2 1 0 0), (V.so false 5 x8.length), (V.d (.int .i64 x22)), (V.d (.bool (Zb4 (Zgu x0 x2 x3 x4) [])))], [(Blk.flat 82 20 [([(.int .i64 x0), (.int .i64 x1)] ++ arrD .i64 x2 16 ++ [(.int .i64 x3), (.int .i64 x4)])] x9), (Blk.gen 84 3 [[(V.ptr 0 1 0 0), (V.d (.int .i64 x10)), (V.d (.int .i64 x11))]] x12), (Blk.gen 86 3 [[(V.d (.int .i64 x13)), (V.d (.int .i64 x14)), (V.d .nils)]] x15), (Blk.flat 3 1 (List.map (encI .i64) x5) x16), (Blk.flat 53 2 [[(.bool x6), (.int .i64 x7)]] x17), (Blk.flat 3 1 (List.map (encI .i64) x8) x18)])) := by
 unfold Ze6
 cases h1 : tb (Zt x0 x2 x3 x4)
 ·exact ZN
 ·cases h2 : tb (Zb7 x13)
  ·exact ZN
  ·cases h3 : tb (Zbq (Zgu x0 x2 x3 x4) [])
   ·exact ZN
   ·exact fun g0 => Z2 [.c (Zbd x0 x1 x2 x3 x4 x9 (tbE h1)), .c (Zhn x13 x14 x15 (tbE h2)), .y (mm := [(Blk.flat 82 20 [([(.int .i64 x0), (.int .i64 x1)] ++ arrD .i64 x2 16 ++ [(.int .i64 x3), (.int .i64 x4)])] x9), (Blk.gen 84 3 [[(V.ptr 0 1 0 0), (V.d (.int .i64 x10)), (V.d (.int .i64 x11))]] x12), (Blk.gen 86 3 [[(V.d (.int .i64 x13)), (V.d (.int .i64 x14)), (V.d .nils)]] x15), (Blk.flat 3 1 (List.map (encI .i64) x5) x16), (Blk.flat 53 2 [[(.bool x6), (.int .i64 x7)]] x17), (Blk.flat 3 1 (List.map (encI .i64) x8) x18), (Blk.flat 3 1 (List.map (encI .i64) ((Za ([] : List Int) x0 x2 x3 x4 true).c6)) false)]) (args := [(V.so ((Za ([] : List Int) x0 x2 x3 x4 true).c4) 6 (((Za ([] : List Int) x0 x2 x3 x4 true).c6).length)), (V.d .nils)]) (args1 := [(V.d (slD (encI .i64) true 1 ((Za ([] : List Int) x0 x2 x3 x4 true).c4) ((Za ([] : List Int) x0 x2 x3 x4 true).c6))), (V.d .nils)]) (Zc8 (Zhz (enc := (encI .i64)) (l := ((Za ([] : List Int) x0 x2 x3 x4 true).c6)) (b := ((Za ([] : List Int) x0 x2 x3 x4 true).c4)) (e := 3) (s := 1) (p := false) (n := (((Za ([] : List Int) x0 x2 x3 x4 true).c6).length)) (Nat.beq_refl _) (by kernel_rfl)) (by kernel_rfl)), .c (Zgm (Zr6 x0 x2 x3 x4) (Zgu x0 x2 x3 x4) true [] (tbE h3))] (by kernel_rfl)
def Zez (x0 : Int) (x2 : List Int) (x3 x4 x13 : Int) (x23 : Bool) : Bool := (bif tb (x23) then (bif tb (Zp x0 x2 x3 x4) then (bif tb (Zbh x13) then true else false) else false) else true)
def Zew (x0 x1 : Int) (x2 : List Int) (x3 x4 : Int) (x8 : List Int) (x11 x13 x14 x19 : Int) (x23 : Bool) : Bool := (bif tb (x23) then (bif tb (true != ((Zo x0 x1 x2 x3 x4) == (Zb3 x13 x14))) then true else ((x11 : Int) != (mnI ((x8.length : Nat) : Int) x19))) else true)
theorem Zon (x0 x1 : Int) (x2 : List Int) (x3 x4 : Int) (x5 : List Int) (x6 : Bool) (x7 : Int) (x8 : List Int) (x9 : Bool) (x10 x11 : Int) (x12 : Bool) (x13 x14 : Int) (x15 x16 x17 x18 : Bool) (x19 : Int) (x20 : Bool) (x21 : List Zh) (x22 : Int) (x23 : Bool) : Zez x0 x2 x3 x4 x13 x23 = true → segG (runC E0 (cl E0) S10_3) [0, 2, 7, 10, 11, 12, 13, 20] [] [0, 2, 7, 10, 11, 12, 13, 142] 6 ([(V.d (.int .i64 x19)), (V.d (slD Zd true 3 x20 x21)), (V.ptr 0 1 0 0), (V.ptr 1 1 0 0), (V.ptr 2 1 0 0), (V.so false 5 x8.length), (V.d (.int .i64 x22)), (V.d (.bool x23))], [(Blk.flat 82 20 [([(.int .i64 x0), (.int .i64 x1)] ++ arrD .i64 x2 16 ++ [(.int .i64 x3), (.int .i64 x4)])] x9), (Blk.gen 84 3 [[(V.ptr 0 1 0 0), (V.d (.int .i64 x10)), (V.d (.int .i64 x11))]] x12), (Blk.gen 86 3 [[(V.d (.int .i64 x13)), (V.d (.int .i64 x14)), (V.d .nils)]] x15), (Blk.flat 3 1 (List.map (encI .i64) x5) x16), (Blk.flat 53 2 [[(.bool x6), (.int .i64 x7)]] x17), (Blk.flat 3 1 (List.map (encI .i64) x8) x18)]) = some (.normal, ([(V.d (.int .i64 x19)), (V.d (slD Zd true 3 x20 x21)), (V.ptr 0 1 0 0), (V.ptr 1 1 0 0), (V.ptr 2 1 0 0), (V.so false 5 x8.length), (V.d (.int .i64 x22)), (V.d (.bool (Zew x0 x1 x2 x3 x4 x8 x11 x13 x14 x19 x23)))], [(Blk.flat 82 20 [([(.int .i64 x0), (.int .i64 x1)] ++ arrD .i64 x2 16 ++ [(.int .i64 x3), (.int .i64 x4)])] x9), (Blk.gen 84 3 [[(V.ptr 0 1 0 0), (V.d (.int .i64 x10)), (V.d (.int .i64 x11))]] x12), (Blk.gen 86 3 [[(V.d (.int .i64 x13)), (V.d (.int .i64 x14)), (V.d .nils)]] x15), (Blk.flat 3 1 (List.map (encI .i64) x5) x16), (Blk.flat 53 2 [[(.bool x6), (.int .i64 x7)]] x17), (Blk.flat 3 1 (List.map (encI .i64) x8) x18)])) := by
 unfold Zez Zew
 cases h1 : tb (x23)
 ·exact fun g0 => Z2 [.b (notF (tbE h1))] (by kernel_rfl)
 ·cases h2 : tb (Zp x0 x2 x3 x4)
  ·exact ZN
  ·cases h3 : tb (Zbh x13)
   ·exact ZN
   ·cases h4 : tb (true != ((Zo x0 x1 x2 x3 x4) == (Zb3 x13 x14)))
    ·exact fun g0 => Z2 [.b (notT (tbE h1)), .c (Z0 x0 x1 x2 x3 x4 x9 (tbE h2)), .c (Zca x13 x14 x15 (tbE h3)), .b (tbE h4), .c (Zcc x0 x1 x2 x3 x4 x10 x11 x12 x9)] (by kernel_rfl)
    ·exact fun g0 => Z2 [.b (notT (tbE h1)), .c (Z0 x0 x1 x2 x3 x4 x9 (tbE h2)), .c (Zca x13 x14 x15 (tbE h3)), .b (tbE h4)] (by kernel_rfl)
def Zcx (x18 : List Zh) (x20 : Int) : Bool := (bif tb (decide (x20 < ((x18.length : Nat) : Int))) then true else false)
theorem Zdm (x0 x1 : Int) (x2 : List Int) (x3 x4 : Int) (x5 x6 : List Int) (x7 : Bool) (x8 x9 : Int) (x10 : Bool) (x11 x12 : Int) (x13 x14 x15 : Bool) (x16 : Int) (x17 : Bool) (x18 : List Zh) (x19 : Bool) (x20 : Int) : Zcx x18 x20 = true → segG (runC E0 (cl E0) S10_1) [0, 2, 7, 10, 11, 12, 13] [] [0, 2, 7, 10, 11, 12, 13] 5 ([(V.d (.int .i64 x16)), (V.d (slD Zd true 3 x17 x18)), (V.ptr 0 1 0 0), (V.ptr 1 1 0 0), (V.ptr 2 1 0 0), (V.so x19 3 x5.length), (V.d (.int .i64 x20))], [(Blk.flat 82 20 [([(.int .i64 x0), (.int .i64 x1)] ++ arrD .i64 x2 16 ++ [(.int .i64 x3), (.int .i64 x4)])] x7), (Blk.gen 84 3 [[(V.ptr 0 1 0 0), (V.d (.int .i64 x8)), (V.d (.int .i64 x9))]] x10), (Blk.gen 86 3 [[(V.d (.int .i64 x11)), (V.d (.int .i64 x12)), (V.so false 4 x6.length)]] x13), (Blk.flat 3 1 (List.map (encI .i64) x5) x14), (Blk.flat 3 1 (List.map (encI .i64) x6) x15)]) = some (.normal, ([(V.d (.int .i64 x16)), (V.d (slD Zd true 3 x17 x18)), (V.ptr 0 1 0 0), (V.ptr 1 1 0 0), (V.ptr 2 1 0 0), (V.so x19 3 x5.length), (V.d (.int .i64 x20))], [(Blk.flat 82 20 [([(.int .i64 x0), (.int .i64 x1)] ++ arrD .i64 x2 16 ++ [(.int .i64 x3), (.int .i64 x4)])] x7), (Blk.gen 84 3 [[(V.ptr 0 1 0 0), (V.d (.int .i64 x8)), (V.d (.int .i64 x9))]] x10), (Blk.gen 86 3 [[(V.d (.int .i64 x11)), (V.d (.int .i64 x12)), (V.so false 4 x6.length)]] x13), (Blk.flat 3 1 (List.map (encI .i64) x5) x14), (Blk.flat 3 1 (List.map (encI .i64) x6) x15)])) := by
 unfold Zcx
 cases h1 : tb (decide (x20 < ((x18.length : Nat) : Int)))
 ·exact ZN
 ·exact fun g0 => Z2 [.o 66 (fun _ => Zes (enc := Zd) (l := x18) (fl := true) (n := x17) (s := 3)), .b (tbE h1)] (by kernel_rfl)
theorem Zso (x0 x1 : Int) (x2 : List Int) (x3 x4 : Int) (x5 x6 : List Int) (x7 : Bool) (x8 x9 : Int) (x10 : Bool) (x11 x12 : Int) (x13 x14 x15 : Bool) (x16 : Int) (x17 : Bool) (x18 : List Zh) (x19 : Bool) (x20 : Int) : Zcx x18 x20 = false → segG (runC E0 (cl E0) S10_1) [0, 2, 7, 10, 11, 12, 13] [] [0, 2, 7, 10, 11, 12, 13] 5 ([(V.d (.int .i64 x16)), (V.d (slD Zd true 3 x17 x18)), (V.ptr 0 1 0 0), (V.ptr 1 1 0 0), (V.ptr 2 1 0 0), (V.so x19 3 x5.length), (V.d (.int .i64 x20))], [(Blk.flat 82 20 [([(.int .i64 x0), (.int .i64 x1)] ++ arrD .i64 x2 16 ++ [(.int .i64 x3), (.int .i64 x4)])] x7), (Blk.gen 84 3 [[(V.ptr 0 1 0 0), (V.d (.int .i64 x8)), (V.d (.int .i64 x9))]] x10), (Blk.gen 86 3 [[(V.d (.int .i64 x11)), (V.d (.int .i64 x12)), (V.so false 4 x6.length)]] x13), (Blk.flat 3 1 (List.map (encI .i64) x5) x14), (Blk.flat 3 1 (List.map (encI .i64) x6) x15)]) = some ((.exit 0), ([], [(Blk.flat 82 20 [([(.int .i64 x0), (.int .i64 x1)] ++ arrD .i64 x2 16 ++ [(.int .i64 x3), (.int .i64 x4)])] x7), (Blk.gen 84 3 [[(V.ptr 0 1 0 0), (V.d (.int .i64 x8)), (V.d (.int .i64 x9))]] x10), (Blk.gen 86 3 [[(V.d (.int .i64 x11)), (V.d (.int .i64 x12)), (V.so false 4 x6.length)]] x13), (Blk.flat 3 1 (List.map (encI .i64) x5) x14), (Blk.flat 3 1 (List.map (encI .i64) x6) x15)])) := by
 unfold Zcx
 cases h1 : tb (decide (x20 < ((x18.length : Nat) : Int)))
 ·exact fun g0 => Z2 [.o 66 (fun _ => Zes (enc := Zd) (l := x18) (fl := true) (n := x17) (s := 3)), .b (tbE h1)] (by kernel_rfl)
 ·exact fun g0 => absurd g0 tf
def Zoo (x0 : Int) (x2 : List Int) (x3 x4 : Int) : Bool := ((Za ([] : List Int) x0 x2 x3 x4 true).c4)
def Ze3 (x0 : Int) (x2 : List Int) (x3 x4 : Int) : List Int := ((Za ([] : List Int) x0 x2 x3 x4 true).c6)
def Zhi (x9 : List Int) (x14 : Int) : List Int := (sub x9 (mxI 0 (wi (((x9.length : Nat) : Int) - (wi (x14 - 1))))) ((x9.length : Nat) : Int))
def Zfu (x0 : Int) (x2 : List Int) (x3 x4 : Int) (x9 : List Int) (x14 : Int) : Bool := (bif tb (Zt x0 x2 x3 x4) then (bif tb (Zr x9 x14) then (bif tb (ins x9.length (mxI 0 (wi (((x9.length : Nat) : Int) - (wi (x14 - 1))))) ((x9.length : Nat) : Int)) then (bif tb (Zbq (Ze3 x0 x2 x3 x4) (Zhi x9 x14)) then true else false) else false) else (bif tb (Zbj x9 x14 false) then (bif tb (Zea (Ze3 x0 x2 x3 x4)) then true else false) else false)) else false)
def Zhr (x0 : Int) (x2 : List Int) (x3 x4 : Int) (x9 : List Int) (x14 : Int) : Bool := (bif tb (Zr x9 x14) then (Zb4 (Ze3 x0 x2 x3 x4) (Zhi x9 x14)) else (Zho (Ze3 x0 x2 x3 x4)))
theorem Zoj (x0 x1 : Int) (x2 : List Int) (x3 x4 : Int) (x5 x6 : List Int) (x7 : Bool) (x8 : Int) (x9 : List Int) (x10 : Bool) (x11 x12 : Int) (x13 : Bool) (x14 x15 : Int) (x16 x17 x18 x19 x20 : Bool) (x21 : Int) (x22 : Bool) (x23 : List Zh) (x24 : Bool) (x25 : Int) : Zfu x0 x2 x3 x4 x9 x14 = true → segG (runC E0 (cl E0) S10_2) [0, 2, 7, 10, 11, 12, 13] [] [0, 2, 7, 10, 11, 12, 13, 20] 7 ([(V.d (.int .i64 x21)), (V.d (slD Zd true 3 x22 x23)), (V.ptr 0 1 0 0), (V.ptr 1 1 0 0), (V.ptr 2 1 0 0), (V.so x24 3 x5.length), (V.d (.int .i64 x25))], [(Blk.flat 82 20 [([(.int .i64 x0), (.int .i64 x1)] ++ arrD .i64 x2 16 ++ [(.int .i64 x3), (.int .i64 x4)])] x10), (Blk.gen 84 3 [[(V.ptr 0 1 0 0), (V.d (.int .i64 x11)), (V.d (.int .i64 x12))]] x13), (Blk.gen 86 3 [[(V.d (.int .i64 x14)), (V.d (.int .i64 x15)), (V.so false 6 x9.length)]] x16), (Blk.flat 3 1 (List.map (encI .i64) x5) x17), (Blk.flat 3 1 (List.map (encI .i64) x6) x18), (Blk.flat 53 2 [[(.bool x7), (.int .i64 x8)]] x19), (Blk.flat 3 1 (List.map (encI .i64) x9) x20)]) = some (.normal, ([(V.d (.int .i64 x21)), (V.d (slD Zd true 3 x22 x23)), (V.ptr 0 1 0 0), (V.ptr 1 1 0 0), (V.ptr 2 1 0 0), (V.so x24 3 x5.length), (V.d (.int .i64 x25)), (V.d (.bool (Zhr x0 x2 x3 x4 x9 x14)))], [(Blk.flat 82 20 [([(.int .i64 x0), (.int .i64 x1)] ++ arrD .i64 x2 16 ++ [(.int .i64 x3), (.int .i64 x4)])] x10), (Blk.gen 84 3 [[(V.ptr 0 1 0 0), (V.d (.int .i64 x11)), (V.d (.int .i64 x12))]] x13), (Blk.gen 86 3 [[(V.d (.int .i64 x14)), (V.d (.int .i64 x15)), (V.so false 6 x9.length)]] x16), (Blk.flat 3 1 (List.map (encI .i64) x5) x17), (Blk.flat 3 1 (List.map (encI .i64) x6) x18), (Blk.flat 53 2 [[(.bool x7), (.int .i64 x8)]] x19), (Blk.flat 3 1 (List.map (encI .i64) x9) x20)])) := by
 unfold Zfu Zhr
 cases h1 : tb (Zt x0 x2 x3 x4)
 ·exact ZN
 ·cases h2 : tb (Zr x9 x14)
  ·cases h3 : tb (Zbj x9 x14 false)
   ·exact ZN
   ·cases h4 : tb (Zea (Ze3 x0 x2 x3 x4))
    ·exact ZN
    ·exact fun g0 => Z2 [.c (Zbd x0 x1 x2 x3 x4 x10 (tbE h1)), .c (Zef x9 x14 x15 false x16 x20 (tbE h2) (tbE h3)), .y (mm := [(Blk.flat 82 20 [([(.int .i64 x0), (.int .i64 x1)] ++ arrD .i64 x2 16 ++ [(.int .i64 x3), (.int .i64 x4)])] x10), (Blk.gen 84 3 [[(V.ptr 0 1 0 0), (V.d (.int .i64 x11)), (V.d (.int .i64 x12))]] x13), (Blk.gen 86 3 [[(V.d (.int .i64 x14)), (V.d (.int .i64 x15)), (V.so false 6 x9.length)]] x16), (Blk.flat 3 1 (List.map (encI .i64) x5) x17), (Blk.flat 3 1 (List.map (encI .i64) x6) x18), (Blk.flat 53 2 [[(.bool x7), (.int .i64 x8)]] x19), (Blk.flat 3 1 (List.map (encI .i64) x9) x20), (Blk.flat 3 1 (List.map (encI .i64) ((Za ([] : List Int) x0 x2 x3 x4 true).c6)) false)]) (args := [(V.so ((Za ([] : List Int) x0 x2 x3 x4 true).c4) 7 (((Za ([] : List Int) x0 x2 x3 x4 true).c6).length)), (V.d (.rs false 1 [] false))]) (args1 := [(V.d (slD (encI .i64) true 1 ((Za ([] : List Int) x0 x2 x3 x4 true).c4) ((Za ([] : List Int) x0 x2 x3 x4 true).c6))), (V.d (.rs false 1 [] false))]) (Zc8 (Zhz (enc := (encI .i64)) (l := ((Za ([] : List Int) x0 x2 x3 x4 true).c6)) (b := ((Za ([] : List Int) x0 x2 x3 x4 true).c4)) (e := 3) (s := 1) (p := false) (n := (((Za ([] : List Int) x0 x2 x3 x4 true).c6).length)) (Nat.beq_refl _) (by kernel_rfl)) (by kernel_rfl)), .c (Zi7 (Zoo x0 x2 x3 x4) (Ze3 x0 x2 x3 x4) (tbE h4))] (by kernel_rfl)
  ·cases h3 : tb (ins x9.length (mxI 0 (wi (((x9.length : Nat) : Int) - (wi (x14 - 1))))) ((x9.length : Nat) : Int))
   ·exact ZN
   ·cases h4 : tb (Zbq (Ze3 x0 x2 x3 x4) (Zhi x9 x14))
    ·exact ZN
    ·exact fun g0 => Z2 [.c (Zbd x0 x1 x2 x3 x4 x10 (tbE h1)), .c (Zeh x9 x14 x15 false x16 x20 (tbE h2)), .y (mm := [(Blk.flat 82 20 [([(.int .i64 x0), (.int .i64 x1)] ++ arrD .i64 x2 16 ++ [(.int .i64 x3), (.int .i64 x4)])] x10), (Blk.gen 84 3 [[(V.ptr 0 1 0 0), (V.d (.int .i64 x11)), (V.d (.int .i64 x12))]] x13), (Blk.gen 86 3 [[(V.d (.int .i64 x14)), (V.d (.int .i64 x15)), (V.so false 6 x9.length)]] x16), (Blk.flat 3 1 (List.map (encI .i64) x5) x17), (Blk.flat 3 1 (List.map (encI .i64) x6) x18), (Blk.flat 53 2 [[(.bool x7), (.int .i64 x8)]] x19), (Blk.flat 3 1 (List.map (encI .i64) x9) x20), (Blk.flat 3 1 (List.map (encI .i64) ((Za ([] : List Int) x0 x2 x3 x4 true).c6)) false)]) (args := [(V.so ((Za ([] : List Int) x0 x2 x3 x4 true).c4) 7 (((Za ([] : List Int) x0 x2 x3 x4 true).c6).length)), (V.sl 6 x9.length ((mxI 0 (wi (((x9.length : Nat) : Int) - (wi (x14 - 1))))) : Int).toNat ((((x9.length : Nat) : Int) : Int).toNat - ((mxI 0 (wi (((x9.length : Nat) : Int) - (wi (x14 - 1))))) : Int).toNat))]) (args1 := [(V.d (slD (encI .i64) true 1 ((Za ([] : List Int) x0 x2 x3 x4 true).c4) ((Za ([] : List Int) x0 x2 x3 x4 true).c6))), (V.d (.rs true 1 (List.map (encI .i64) (sub x9 (mxI 0 (wi (((x9.length : Nat) : Int) - (wi (x14 - 1))))) ((x9.length : Nat) : Int))) false))]) (Zc8 (Zhz (enc := (encI .i64)) (l := ((Za ([] : List Int) x0 x2 x3 x4 true).c6)) (b := ((Za ([] : List Int) x0 x2 x3 x4 true).c4)) (e := 3) (s := 1) (p := false) (n := (((Za ([] : List Int) x0 x2 x3 x4 true).c6).length)) (Nat.beq_refl _) (by kernel_rfl)) (Zc8 (Zml (enc := (encI .i64)) (l := x9) (e := 3) (s := 1) (p := x20) (n := x9.length) (lo := (mxI 0 (wi (((x9.length : Nat) : Int) - (wi (x14 - 1)))))) (hi := ((x9.length : Nat) : Int)) (Nat.beq_refl _) (by kernel_rfl) (tbE h3)) (by kernel_rfl))), .c (Zgm (Zoo x0 x2 x3 x4) (Ze3 x0 x2 x3 x4) false (Zhi x9 x14) (tbE h4))] (by kernel_rfl)
def Zfq (x0 : Int) (x2 : List Int) (x3 x4 : Int) (x9 : List Int) (x14 : Int) (x26 : Bool) : Bool := (bif tb (x26) then (bif tb (Zp x0 x2 x3 x4) then (bif tb (Z1 x9 x14 false) then true else false) else false) else true)
def Zft (x0 x1 : Int) (x2 : List Int) (x3 x4 : Int) (x5 x9 : List Int) (x12 x14 x15 x21 : Int) (x26 : Bool) : Bool := (bif tb (x26) then (bif tb (true != ((Zo x0 x1 x2 x3 x4) == (Zba x9 x14 x15))) then true else ((x12 : Int) != (mnI ((x5.length : Nat) : Int) x21))) else true)
theorem Zos (x0 x1 : Int) (x2 : List Int) (x3 x4 : Int) (x5 x6 : List Int) (x7 : Bool) (x8 : Int) (x9 : List Int) (x10 : Bool) (x11 x12 : Int) (x13 : Bool) (x14 x15 : Int) (x16 x17 x18 x19 x20 : Bool) (x21 : Int) (x22 : Bool) (x23 : List Zh) (x24 : Bool) (x25 : Int) (x26 : Bool) : Zfq x0 x2 x3 x4 x9 x14 x26 = true → segG (runC E0 (cl E0) S10_3) [0, 2, 7, 10, 11, 12, 13, 20] [] [0, 2, 7, 10, 11, 12, 13, 142] 7 ([(V.d (.int .i64 x21)), (V.d (slD Zd true 3 x22 x23)), (V.ptr 0 1 0 0), (V.ptr 1 1 0 0), (V.ptr 2 1 0 0), (V.so x24 3 x5.length), (V.d (.int .i64 x25)), (V.d (.bool x26))], [(Blk.flat 82 20 [([(.int .i64 x0), (.int .i64 x1)] ++ arrD .i64 x2 16 ++ [(.int .i64 x3), (.int .i64 x4)])] x10), (Blk.gen 84 3 [[(V.ptr 0 1 0 0), (V.d (.int .i64 x11)), (V.d (.int .i64 x12))]] x13), (Blk.gen 86 3 [[(V.d (.int .i64 x14)), (V.d (.int .i64 x15)), (V.so false 6 x9.length)]] x16), (Blk.flat 3 1 (List.map (encI .i64) x5) x17), (Blk.flat 3 1 (List.map (encI .i64) x6) x18), (Blk.flat 53 2 [[(.bool x7), (.int .i64 x8)]] x19), (Blk.flat 3 1 (List.map (encI .i64) x9) x20)]) = some (.normal, ([(V.d (.int .i64 x21)), (V.d (slD Zd true 3 x22 x23)), (V.ptr 0 1 0 0), (V.ptr 1 1 0 0), (V.ptr 2 1 0 0), (V.so x24 3 x5.length), (V.d (.int .i64 x25)), (V.d (.bool (Zft x0 x1 x2 x3 x4 x5 x9 x12 x14 x15 x21 x26)))], [(Blk.flat 82 20 [([(.int .i64 x0), (.int .i64 x1)] ++ arrD .i64 x2 16 ++ [(.int .i64 x3), (.int .i64 x4)])] x10), (Blk.gen 84 3 [[(V.ptr 0 1 0 0), (V.d (.int .i64 x11)), (V.d (.int .i64 x12))]] x13), (Blk.gen 86 3 [[(V.d (.int .i64 x14)), (V.d (.int .i64 x15)), (V.so false 6 x9.length)]] x16), (Blk.flat 3 1 (List.map (encI .i64) x5) x17), (Blk.flat 3 1 (List.map (encI .i64) x6) x18), (Blk.flat 53 2 [[(.bool x7), (.int .i64 x8)]] x19), (Blk.flat 3 1 (List.map (encI .i64) x9) x20)])) := by
 unfold Zfq Zft
 cases h1 : tb (x26)
 ·exact fun g0 => Z2 [.b (notF (tbE h1))] (by kernel_rfl)
 ·cases h2 : tb (Zp x0 x2 x3 x4)
  ·exact ZN
  ·cases h3 : tb (Z1 x9 x14 false)
   ·exact ZN
   ·cases h4 : tb (true != ((Zo x0 x1 x2 x3 x4) == (Zba x9 x14 x15)))
    ·exact fun g0 => Z2 [.b (notT (tbE h1)), .c (Z0 x0 x1 x2 x3 x4 x10 (tbE h2)), .c (Zbc x9 x14 x15 false x16 x20 (tbE h3)), .b (tbE h4), .c (Zcc x0 x1 x2 x3 x4 x11 x12 x13 x10)] (by kernel_rfl)
    ·exact fun g0 => Z2 [.b (notT (tbE h1)), .c (Z0 x0 x1 x2 x3 x4 x10 (tbE h2)), .c (Zbc x9 x14 x15 false x16 x20 (tbE h3)), .b (tbE h4)] (by kernel_rfl)
def Zn9 (x0 : Int) (x2 : List Int) (x3 x4 : Int) : Bool := ((Za ([] : List Int) x0 x2 x3 x4 true).c4)
def Ze5 (x0 : Int) (x2 : List Int) (x3 x4 : Int) : List Int := ((Za ([] : List Int) x0 x2 x3 x4 true).c6)
def Zhe (x6 : List Int) (x13 : Int) : List Int := (sub x6 (mxI 0 (wi (((x6.length : Nat) : Int) - (wi (x13 - 1))))) ((x6.length : Nat) : Int))
def Zc5 (x0 : Int) (x2 : List Int) (x3 x4 : Int) (x6 : List Int) (x13 : Int) : Bool := (bif tb (Zt x0 x2 x3 x4) then (bif tb (Zr x6 x13) then (bif tb (ins x6.length (mxI 0 (wi (((x6.length : Nat) : Int) - (wi (x13 - 1))))) ((x6.length : Nat) : Int)) then (bif tb (Zbq (Ze5 x0 x2 x3 x4) (Zhe x6 x13)) then true else false) else false) else (bif tb (Zbj x6 x13 false) then (bif tb (Zea (Ze5 x0 x2 x3 x4)) then true else false) else false)) else false)
def Zgw (x0 : Int) (x2 : List Int) (x3 x4 : Int) (x6 : List Int) (x13 : Int) : Bool := (bif tb (Zr x6 x13) then (Zb4 (Ze5 x0 x2 x3 x4) (Zhe x6 x13)) else (Zho (Ze5 x0 x2 x3 x4)))
theorem Zky (x0 x1 : Int) (x2 : List Int) (x3 x4 : Int) (x5 x6 : List Int) (x7 : Bool) (x8 : Int) (x9 : Bool) (x10 x11 : Int) (x12 : Bool) (x13 x14 : Int) (x15 x16 x17 x18 : Bool) (x19 : Int) (x20 : Bool) (x21 : List Zh) (x22 : Bool) (x23 : Int) : Zc5 x0 x2 x3 x4 x6 x13 = true → segG (runC E0 (cl E0) S10_2) [0, 2, 7, 10, 11, 12, 13] [] [0, 2, 7, 10, 11, 12, 13, 20] 6 ([(V.d (.int .i64 x19)), (V.d (slD Zd true 3 x20 x21)), (V.ptr 0 1 0 0), (V.ptr 1 1 0 0), (V.ptr 2 1 0 0), (V.so x22 3 x5.length), (V.d (.int .i64 x23))], [(Blk.flat 82 20 [([(.int .i64 x0), (.int .i64 x1)] ++ arrD .i64 x2 16 ++ [(.int .i64 x3), (.int .i64 x4)])] x9), (Blk.gen 84 3 [[(V.ptr 0 1 0 0), (V.d (.int .i64 x10)), (V.d (.int .i64 x11))]] x12), (Blk.gen 86 3 [[(V.d (.int .i64 x13)), (V.d (.int .i64 x14)), (V.so false 4 x6.length)]] x15), (Blk.flat 3 1 (List.map (encI .i64) x5) x16), (Blk.flat 3 1 (List.map (encI .i64) x6) x17), (Blk.flat 53 2 [[(.bool x7), (.int .i64 x8)]] x18)]) = some (.normal, ([(V.d (.int .i64 x19)), (V.d (slD Zd true 3 x20 x21)), (V.ptr 0 1 0 0), (V.ptr 1 1 0 0), (V.ptr 2 1 0 0), (V.so x22 3 x5.length), (V.d (.int .i64 x23)), (V.d (.bool (Zgw x0 x2 x3 x4 x6 x13)))], [(Blk.flat 82 20 [([(.int .i64 x0), (.int .i64 x1)] ++ arrD .i64 x2 16 ++ [(.int .i64 x3), (.int .i64 x4)])] x9), (Blk.gen 84 3 [[(V.ptr 0 1 0 0), (V.d (.int .i64 x10)), (V.d (.int .i64 x11))]] x12), (Blk.gen 86 3 [[(V.d (.int .i64 x13)), (V.d (.int .i64 x14)), (V.so false 4 x6.length)]] x15), (Blk.flat 3 1 (List.map (encI .i64) x5) x16), (Blk.flat 3 1 (List.map (encI .i64) x6) x17), (Blk.flat 53 2 [[(.bool x7), (.int .i64 x8)]] x18)])) := by
 unfold Zc5 Zgw
 cases h1 : tb (Zt x0 x2 x3 x4)
 ·exact ZN
 ·cases h2 : tb (Zr x6 x13)
  ·cases h3 : tb (Zbj x6 x13 false)
   ·exact ZN
   ·cases h4 : tb (Zea (Ze5 x0 x2 x3 x4))
    ·exact ZN
    ·exact fun g0 => Z2 [.c (Zbd x0 x1 x2 x3 x4 x9 (tbE h1)), .c (Zef x6 x13 x14 false x15 x17 (tbE h2) (tbE h3)), .y (mm := [(Blk.flat 82 20 [([(.int .i64 x0), (.int .i64 x1)] ++ arrD .i64 x2 16 ++ [(.int .i64 x3), (.int .i64 x4)])] x9), (Blk.gen 84 3 [[(V.ptr 0 1 0 0), (V.d (.int .i64 x10)), (V.d (.int .i64 x11))]] x12), (Blk.gen 86 3 [[(V.d (.int .i64 x13)), (V.d (.int .i64 x14)), (V.so false 4 x6.length)]] x15), (Blk.flat 3 1 (List.map (encI .i64) x5) x16), (Blk.flat 3 1 (List.map (encI .i64) x6) x17), (Blk.flat 53 2 [[(.bool x7), (.int .i64 x8)]] x18), (Blk.flat 3 1 (List.map (encI .i64) ((Za ([] : List Int) x0 x2 x3 x4 true).c6)) false)]) (args := [(V.so ((Za ([] : List Int) x0 x2 x3 x4 true).c4) 6 (((Za ([] : List Int) x0 x2 x3 x4 true).c6).length)), (V.d (.rs false 1 [] false))]) (args1 := [(V.d (slD (encI .i64) true 1 ((Za ([] : List Int) x0 x2 x3 x4 true).c4) ((Za ([] : List Int) x0 x2 x3 x4 true).c6))), (V.d (.rs false 1 [] false))]) (Zc8 (Zhz (enc := (encI .i64)) (l := ((Za ([] : List Int) x0 x2 x3 x4 true).c6)) (b := ((Za ([] : List Int) x0 x2 x3 x4 true).c4)) (e := 3) (s := 1) (p := false) (n := (((Za ([] : List Int) x0 x2 x3 x4 true).c6).length)) (Nat.beq_refl _) (by kernel_rfl)) (by kernel_rfl)), .c (Zi7 (Zn9 x0 x2 x3 x4) (Ze5 x0 x2 x3 x4) (tbE h4))] (by kernel_rfl)
  ·cases h3 : tb (ins x6.length (mxI 0 (wi (((x6.length : Nat) : Int) - (wi (x13 - 1))))) ((x6.length : Nat) : Int))
   ·exact ZN
   ·cases h4 : tb (Zbq (Ze5 x0 x2 x3 x4) (Zhe x6 x13))
    ·exact ZN
    ·exact fun g0 => Z2 [.c (Zbd x0 x1 x2 x3 x4 x9 (tbE h1)), .c (Zeh x6 x13 x14 false x15 x17 (tbE h2)), .y (mm := [(Blk.flat 82 20 [([(.int .i64 x0), (.int .i64 x1)] ++ arrD .i64 x2 16 ++ [(.int .i64 x3), (.int .i64 x4)])] x9), (Blk.gen 84 3 [[(V.ptr 0 1 0 0), (V.d (.int .i64 x10)), (V.d (.int .i64 x11))]] x12), (Blk.gen 86 3 [[(V.d (.int .i64 x13)), (V.d (.int .i64 x14)), (V.so false 4 x6.length)]] x15), (Blk.flat 3 1 (List.map (encI .i64) x5) x16), (Blk.flat 3 1 (List.map (encI .i64) x6) x17), (Blk.flat 53 2 [[(.bool x7), (.int .i64 x8)]] x18), (Blk.flat 3 1 (List.map (encI .i64) ((Za ([] : List Int) x0 x2 x3 x4 true).c6)) false)]) (args := [(V.so ((Za ([] : List Int) x0 x2 x3 x4 true).c4) 6 (((Za ([] : List Int) x0 x2 x3 x4 true).c6).length)), (V.sl 4 x6.length ((mxI 0 (wi (((x6.length : Nat) : Int) - (wi (x13 - 1))))) : Int).toNat ((((x6.length : Nat) : Int) : Int).toNat - ((mxI 0 (wi (((x6.length : Nat) : Int) - (wi (x13 - 1))))) : Int).toNat))]) (args1 := [(V.d (slD (encI .i64) true 1 ((Za ([] : List Int) x0 x2 x3 x4 true).c4) ((Za ([] : List Int) x0 x2 x3 x4 true).c6))), (V.d (.rs true 1 (List.map (encI .i64) (sub x6 (mxI 0 (wi (((x6.length : Nat) : Int) - (wi (x13 - 1))))) ((x6.length : Nat) : Int))) false))]) (Zc8 (Zhz (enc := (encI .i64)) (l := ((Za ([] : List Int) x0 x2 x3 x4 true).c6)) (b := ((Za ([] : List Int) x0 x2 x3 x4 true).c4)) (e := 3) (s := 1) (p := false) (n := (((Za ([] : List Int) x0 x2 x3 x4 true).c6).length)) (Nat.beq_refl _) (by kernel_rfl)) (Zc8 (Zml (enc := (encI .i64)) (l := x6) (e := 3) (s := 1) (p := x17) (n := x6.length) (lo := (mxI 0 (wi (((x6.length : Nat) : Int) - (wi (x13 - 1)))))) (hi := ((x6.length : Nat) : Int)) (Nat.beq_refl _) (by kernel_rfl) (tbE h3)) (by kernel_rfl))), .c (Zgm (Zn9 x0 x2 x3 x4) (Ze5 x0 x2 x3 x4) false (Zhe x6 x13) (tbE h4))] (by kernel_rfl)
def Zc6 (x0 : Int) (x2 : List Int) (x3 x4 : Int) (x6 : List Int) (x13 : Int) (x24 : Bool) : Bool := (bif tb (x24) then (bif tb (Zp x0 x2 x3 x4) then (bif tb (Z1 x6 x13 false) then true else false) else false) else true)
def Zdl (x0 x1 : Int) (x2 : List Int) (x3 x4 : Int) (x5 x6 : List Int) (x11 x13 x14 x19 : Int) (x24 : Bool) : Bool := (bif tb (x24) then (bif tb (true != ((Zo x0 x1 x2 x3 x4) == (Zba x6 x13 x14))) then true else ((x11 : Int) != (mnI ((x5.length : Nat) : Int) x19))) else true)
theorem Zkz (x0 x1 : Int) (x2 : List Int) (x3 x4 : Int) (x5 x6 : List Int) (x7 : Bool) (x8 : Int) (x9 : Bool) (x10 x11 : Int) (x12 : Bool) (x13 x14 : Int) (x15 x16 x17 x18 : Bool) (x19 : Int) (x20 : Bool) (x21 : List Zh) (x22 : Bool) (x23 : Int) (x24 : Bool) : Zc6 x0 x2 x3 x4 x6 x13 x24 = true → segG (runC E0 (cl E0) S10_3) [0, 2, 7, 10, 11, 12, 13, 20] [] [0, 2, 7, 10, 11, 12, 13, 142] 6 ([(V.d (.int .i64 x19)), (V.d (slD Zd true 3 x20 x21)), (V.ptr 0 1 0 0), (V.ptr 1 1 0 0), (V.ptr 2 1 0 0), (V.so x22 3 x5.length), (V.d (.int .i64 x23)), (V.d (.bool x24))], [(Blk.flat 82 20 [([(.int .i64 x0), (.int .i64 x1)] ++ arrD .i64 x2 16 ++ [(.int .i64 x3), (.int .i64 x4)])] x9), (Blk.gen 84 3 [[(V.ptr 0 1 0 0), (V.d (.int .i64 x10)), (V.d (.int .i64 x11))]] x12), (Blk.gen 86 3 [[(V.d (.int .i64 x13)), (V.d (.int .i64 x14)), (V.so false 4 x6.length)]] x15), (Blk.flat 3 1 (List.map (encI .i64) x5) x16), (Blk.flat 3 1 (List.map (encI .i64) x6) x17), (Blk.flat 53 2 [[(.bool x7), (.int .i64 x8)]] x18)]) = some (.normal, ([(V.d (.int .i64 x19)), (V.d (slD Zd true 3 x20 x21)), (V.ptr 0 1 0 0), (V.ptr 1 1 0 0), (V.ptr 2 1 0 0), (V.so x22 3 x5.length), (V.d (.int .i64 x23)), (V.d (.bool (Zdl x0 x1 x2 x3 x4 x5 x6 x11 x13 x14 x19 x24)))], [(Blk.flat 82 20 [([(.int .i64 x0), (.int .i64 x1)] ++ arrD .i64 x2 16 ++ [(.int .i64 x3), (.int .i64 x4)])] x9), (Blk.gen 84 3 [[(V.ptr 0 1 0 0), (V.d (.int .i64 x10)), (V.d (.int .i64 x11))]] x12), (Blk.gen 86 3 [[(V.d (.int .i64 x13)), (V.d (.int .i64 x14)), (V.so false 4 x6.length)]] x15), (Blk.flat 3 1 (List.map (encI .i64) x5) x16), (Blk.flat 3 1 (List.map (encI .i64) x6) x17), (Blk.flat 53 2 [[(.bool x7), (.int .i64 x8)]] x18)])) := by
 unfold Zc6 Zdl
 cases h1 : tb (x24)
 ·exact fun g0 => Z2 [.b (notF (tbE h1))] (by kernel_rfl)
 ·cases h2 : tb (Zp x0 x2 x3 x4)
  ·exact ZN
  ·cases h3 : tb (Z1 x6 x13 false)
   ·exact ZN
   ·cases h4 : tb (true != ((Zo x0 x1 x2 x3 x4) == (Zba x6 x13 x14)))
    ·exact fun g0 => Z2 [.b (notT (tbE h1)), .c (Z0 x0 x1 x2 x3 x4 x9 (tbE h2)), .c (Zbc x6 x13 x14 false x15 x17 (tbE h3)), .b (tbE h4), .c (Zcc x0 x1 x2 x3 x4 x10 x11 x12 x9)] (by kernel_rfl)
    ·exact fun g0 => Z2 [.b (notT (tbE h1)), .c (Z0 x0 x1 x2 x3 x4 x9 (tbE h2)), .c (Zbc x6 x13 x14 false x15 x17 (tbE h3)), .b (tbE h4)] (by kernel_rfl)
def Zn8 (x0 : Int) (x2 : List Int) (x3 x4 : Int) : Bool := ((Za ([] : List Int) x0 x2 x3 x4 true).c4)
def Ze8 (x0 : Int) (x2 : List Int) (x3 x4 : Int) : List Int := ((Za ([] : List Int) x0 x2 x3 x4 true).c6)
def Zhd (x6 : List Int) (x12 : Int) : List Int := (sub x6 (mxI 0 (wi (((x6.length : Nat) : Int) - (wi (x12 - 1))))) ((x6.length : Nat) : Int))
def Zfl (x0 : Int) (x2 : List Int) (x3 x4 : Int) (x6 : List Int) (x12 : Int) : Bool := (bif tb (Zt x0 x2 x3 x4) then (bif tb (Zr x6 x12) then (bif tb (ins x6.length (mxI 0 (wi (((x6.length : Nat) : Int) - (wi (x12 - 1))))) ((x6.length : Nat) : Int)) then (bif tb (Zbq (Ze8 x0 x2 x3 x4) (Zhd x6 x12)) then true else false) else false) else (bif tb (Zbj x6 x12 false) then (bif tb (Zea (Ze8 x0 x2 x3 x4)) then true else false) else false)) else false)
def Zhm (x0 : Int) (x2 : List Int) (x3 x4 : Int) (x6 : List Int) (x12 : Int) : Bool := (bif tb (Zr x6 x12) then (Zb4 (Ze8 x0 x2 x3 x4) (Zhd x6 x12)) else (Zho (Ze8 x0 x2 x3 x4)))
theorem Zoq (x0 x1 : Int) (x2 : List Int) (x3 x4 : Int) (x5 x6 : List Int) (x7 : Bool) (x8 : Int) (x9 : Bool) (x10 : Int) (x11 : Bool) (x12 x13 : Int) (x14 x15 x16 x17 x18 : Bool) (x19 : Int) (x20 : Bool) (x21 : List Zh) (x22 : Int) : Zfl x0 x2 x3 x4 x6 x12 = true → segG (runC E0 (cl E0) S10_2) [0, 2, 7, 10, 11, 12, 13] [] [0, 2, 7, 10, 11, 12, 13, 20] 7 ([(V.d (.int .i64 x19)), (V.d (slD Zd true 3 x20 x21)), (V.ptr 0 1 0 0), (V.ptr 1 1 0 0), (V.ptr 2 1 0 0), (V.so true 6 0), (V.d (.int .i64 x22))], [(Blk.flat 82 20 [([(.int .i64 x0), (.int .i64 x1)] ++ arrD .i64 x2 16 ++ [(.int .i64 x3), (.int .i64 x4)])] x9), (Blk.gen 84 3 [[(V.ptr 0 1 0 0), (V.d (.int .i64 x10)), (V.d (.int .i64 0))]] x11), (Blk.gen 86 3 [[(V.d (.int .i64 x12)), (V.d (.int .i64 x13)), (V.so false 4 x6.length)]] x14), (Blk.flat 3 1 (List.map (encI .i64) x5) x15), (Blk.flat 3 1 (List.map (encI .i64) x6) x16), (Blk.flat 53 2 [[(.bool x7), (.int .i64 x8)]] x17), (Blk.flat 3 1 [] x18)]) = some (.normal, ([(V.d (.int .i64 x19)), (V.d (slD Zd true 3 x20 x21)), (V.ptr 0 1 0 0), (V.ptr 1 1 0 0), (V.ptr 2 1 0 0), (V.so true 6 0), (V.d (.int .i64 x22)), (V.d (.bool (Zhm x0 x2 x3 x4 x6 x12)))], [(Blk.flat 82 20 [([(.int .i64 x0), (.int .i64 x1)] ++ arrD .i64 x2 16 ++ [(.int .i64 x3), (.int .i64 x4)])] x9), (Blk.gen 84 3 [[(V.ptr 0 1 0 0), (V.d (.int .i64 x10)), (V.d (.int .i64 0))]] x11), (Blk.gen 86 3 [[(V.d (.int .i64 x12)), (V.d (.int .i64 x13)), (V.so false 4 x6.length)]] x14), (Blk.flat 3 1 (List.map (encI .i64) x5) x15), (Blk.flat 3 1 (List.map (encI .i64) x6) x16), (Blk.flat 53 2 [[(.bool x7), (.int .i64 x8)]] x17), (Blk.flat 3 1 [] x18)])) := by
 unfold Zfl Zhm
 cases h1 : tb (Zt x0 x2 x3 x4)
 ·exact ZN
 ·cases h2 : tb (Zr x6 x12)
  ·cases h3 : tb (Zbj x6 x12 false)
   ·exact ZN
   ·cases h4 : tb (Zea (Ze8 x0 x2 x3 x4))
    ·exact ZN
    ·exact fun g0 => Z2 [.c (Zbd x0 x1 x2 x3 x4 x9 (tbE h1)), .c (Zef x6 x12 x13 false x14 x16 (tbE h2) (tbE h3)), .y (mm := [(Blk.flat 82 20 [([(.int .i64 x0), (.int .i64 x1)] ++ arrD .i64 x2 16 ++ [(.int .i64 x3), (.int .i64 x4)])] x9), (Blk.gen 84 3 [[(V.ptr 0 1 0 0), (V.d (.int .i64 x10)), (V.d (.int .i64 0))]] x11), (Blk.gen 86 3 [[(V.d (.int .i64 x12)), (V.d (.int .i64 x13)), (V.so false 4 x6.length)]] x14), (Blk.flat 3 1 (List.map (encI .i64) x5) x15), (Blk.flat 3 1 (List.map (encI .i64) x6) x16), (Blk.flat 53 2 [[(.bool x7), (.int .i64 x8)]] x17), (Blk.flat 3 1 [] x18), (Blk.flat 3 1 (List.map (encI .i64) ((Za ([] : List Int) x0 x2 x3 x4 true).c6)) false)]) (args := [(V.so ((Za ([] : List Int) x0 x2 x3 x4 true).c4) 7 (((Za ([] : List Int) x0 x2 x3 x4 true).c6).length)), (V.d (.rs false 1 [] false))]) (args1 := [(V.d (slD (encI .i64) true 1 ((Za ([] : List Int) x0 x2 x3 x4 true).c4) ((Za ([] : List Int) x0 x2 x3 x4 true).c6))), (V.d (.rs false 1 [] false))]) (Zc8 (Zhz (enc := (encI .i64)) (l := ((Za ([] : List Int) x0 x2 x3 x4 true).c6)) (b := ((Za ([] : List Int) x0 x2 x3 x4 true).c4)) (e := 3) (s := 1) (p := false) (n := (((Za ([] : List Int) x0 x2 x3 x4 true).c6).length)) (Nat.beq_refl _) (by kernel_rfl)) (by kernel_rfl)), .c (Zi7 (Zn8 x0 x2 x3 x4) (Ze8 x0 x2 x3 x4) (tbE h4))] (by kernel_rfl)
  ·cases h3 : tb (ins x6.length (mxI 0 (wi (((x6.length : Nat) : Int) - (wi (x12 - 1))))) ((x6.length : Nat) : Int))
   ·exact ZN
   ·cases h4 : tb (Zbq (Ze8 x0 x2 x3 x4) (Zhd x6 x12))
    ·exact ZN
    ·exact fun g0 => Z2 [.c (Zbd x0 x1 x2 x3 x4 x9 (tbE h1)), .c (Zeh x6 x12 x13 false x14 x16 (tbE h2)), .y (mm := [(Blk.flat 82 20 [([(.int .i64 x0), (.int .i64 x1)] ++ arrD .i64 x2 16 ++ [(.int .i64 x3), (.int .i64 x4)])] x9), (Blk.gen 84 3 [[(V.ptr 0 1 0 0), (V.d (.int .i64 x10)), (V.d (.int .i64 0))]] x11), (Blk.gen 86 3 [[(V.d (.int .i64 x12)), (V.d (.int .i64 x13)), (V.so false 4 x6.length)]] x14), (Blk.flat 3 1 (List.map (encI .i64) x5) x15), (Blk.flat 3 1 (List.map (encI .i64) x6) x16), (Blk.flat 53 2 [[(.bool x7), (.int .i64 x8)]] x17), (Blk.flat 3 1 [] x18), (Blk.flat 3 1 (List.map (encI .i64) ((Za ([] : List Int) x0 x2 x3 x4 true).c6)) false)]) (args := [(V.so ((Za ([] : List Int) x0 x2 x3 x4 true).c4) 7 (((Za ([] : List Int) x0 x2 x3 x4 true).c6).length)), (V.sl 4 x6.length ((mxI 0 (wi (((x6.length : Nat) : Int) - (wi (x12 - 1))))) : Int).toNat ((((x6.length : Nat) : Int) : Int).toNat - ((mxI 0 (wi (((x6.length : Nat) : Int) - (wi (x12 - 1))))) : Int).toNat))]) (args1 := [(V.d (slD (encI .i64) true 1 ((Za ([] : List Int) x0 x2 x3 x4 true).c4) ((Za ([] : List Int) x0 x2 x3 x4 true).c6))), (V.d (.rs true 1 (List.map (encI .i64) (sub x6 (mxI 0 (wi (((x6.length : Nat) : Int) - (wi (x12 - 1))))) ((x6.length : Nat) : Int))) false))]) (Zc8 (Zhz (enc := (encI .i64)) (l := ((Za ([] : List Int) x0 x2 x3 x4 true).c6)) (b := ((Za ([] : List Int) x0 x2 x3 x4 true).c4)) (e := 3) (s := 1) (p := false) (n := (((Za ([] : List Int) x0 x2 x3 x4 true).c6).length)) (Nat.beq_refl _) (by kernel_rfl)) (Zc8 (Zml (enc := (encI .i64)) (l := x6) (e := 3) (s := 1) (p := x16) (n := x6.length) (lo := (mxI 0 (wi (((x6.length : Nat) : Int) - (wi (x12 - 1)))))) (hi := ((x6.length : Nat) : Int)) (Nat.beq_refl _) (by kernel_rfl) (tbE h3)) (by kernel_rfl))), .c (Zgm (Zn8 x0 x2 x3 x4) (Ze8 x0 x2 x3 x4) false (Zhd x6 x12) (tbE h4))] (by kernel_rfl)
def Zfn (x0 : Int) (x2 : List Int) (x3 x4 : Int) (x6 : List Int) (x12 : Int) (x23 : Bool) : Bool := (bif tb (x23) then (bif tb (Zp x0 x2 x3 x4) then (bif tb (Z1 x6 x12 false) then true else false) else false) else true)
def Zfm (x0 x1 : Int) (x2 : List Int) (x3 x4 : Int) (x6 : List Int) (x12 x13 x19 : Int) (x23 : Bool) : Bool := (bif tb (x23) then (bif tb (true != ((Zo x0 x1 x2 x3 x4) == (Zba x6 x12 x13))) then true else ((0 : Int) != (mnI 0 x19))) else true)
theorem Zom (x0 x1 : Int) (x2 : List Int) (x3 x4 : Int) (x5 x6 : List Int) (x7 : Bool) (x8 : Int) (x9 : Bool) (x10 : Int) (x11 : Bool) (x12 x13 : Int) (x14 x15 x16 x17 x18 : Bool) (x19 : Int) (x20 : Bool) (x21 : List Zh) (x22 : Int) (x23 : Bool) : Zfn x0 x2 x3 x4 x6 x12 x23 = true → segG (runC E0 (cl E0) S10_3) [0, 2, 7, 10, 11, 12, 13, 20] [] [0, 2, 7, 10, 11, 12, 13, 142] 7 ([(V.d (.int .i64 x19)), (V.d (slD Zd true 3 x20 x21)), (V.ptr 0 1 0 0), (V.ptr 1 1 0 0), (V.ptr 2 1 0 0), (V.so true 6 0), (V.d (.int .i64 x22)), (V.d (.bool x23))], [(Blk.flat 82 20 [([(.int .i64 x0), (.int .i64 x1)] ++ arrD .i64 x2 16 ++ [(.int .i64 x3), (.int .i64 x4)])] x9), (Blk.gen 84 3 [[(V.ptr 0 1 0 0), (V.d (.int .i64 x10)), (V.d (.int .i64 0))]] x11), (Blk.gen 86 3 [[(V.d (.int .i64 x12)), (V.d (.int .i64 x13)), (V.so false 4 x6.length)]] x14), (Blk.flat 3 1 (List.map (encI .i64) x5) x15), (Blk.flat 3 1 (List.map (encI .i64) x6) x16), (Blk.flat 53 2 [[(.bool x7), (.int .i64 x8)]] x17), (Blk.flat 3 1 [] x18)]) = some (.normal, ([(V.d (.int .i64 x19)), (V.d (slD Zd true 3 x20 x21)), (V.ptr 0 1 0 0), (V.ptr 1 1 0 0), (V.ptr 2 1 0 0), (V.so true 6 0), (V.d (.int .i64 x22)), (V.d (.bool (Zfm x0 x1 x2 x3 x4 x6 x12 x13 x19 x23)))], [(Blk.flat 82 20 [([(.int .i64 x0), (.int .i64 x1)] ++ arrD .i64 x2 16 ++ [(.int .i64 x3), (.int .i64 x4)])] x9), (Blk.gen 84 3 [[(V.ptr 0 1 0 0), (V.d (.int .i64 x10)), (V.d (.int .i64 0))]] x11), (Blk.gen 86 3 [[(V.d (.int .i64 x12)), (V.d (.int .i64 x13)), (V.so false 4 x6.length)]] x14), (Blk.flat 3 1 (List.map (encI .i64) x5) x15), (Blk.flat 3 1 (List.map (encI .i64) x6) x16), (Blk.flat 53 2 [[(.bool x7), (.int .i64 x8)]] x17), (Blk.flat 3 1 [] x18)])) := by
 unfold Zfn Zfm
 cases h1 : tb (x23)
 ·exact fun g0 => Z2 [.b (notF (tbE h1))] (by kernel_rfl)
 ·cases h2 : tb (Zp x0 x2 x3 x4)
  ·exact ZN
  ·cases h3 : tb (Z1 x6 x12 false)
   ·exact ZN
   ·cases h4 : tb (true != ((Zo x0 x1 x2 x3 x4) == (Zba x6 x12 x13)))
    ·exact fun g0 => Z2 [.b (notT (tbE h1)), .c (Z0 x0 x1 x2 x3 x4 x9 (tbE h2)), .c (Zbc x6 x12 x13 false x14 x16 (tbE h3)), .b (tbE h4), .c (Zcc x0 x1 x2 x3 x4 x10 0 x11 x9)] (by kernel_rfl)
    ·exact fun g0 => Z2 [.b (notT (tbE h1)), .c (Z0 x0 x1 x2 x3 x4 x9 (tbE h2)), .c (Zbc x6 x12 x13 false x14 x16 (tbE h3)), .b (tbE h4)] (by kernel_rfl)
def Zob (x0 : Int) (x2 : List Int) (x3 x4 : Int) : Bool := ((Za ([] : List Int) x0 x2 x3 x4 true).c4)
def Zey (x0 : Int) (x2 : List Int) (x3 x4 : Int) : List Int := ((Za ([] : List Int) x0 x2 x3 x4 true).c6)
def Zhg (x6 : List Int) (x14 : Int) : List Int := (sub x6 (mxI 0 (wi (((x6.length : Nat) : Int) - (wi (x14 - 1))))) ((x6.length : Nat) : Int))
def Zfs (x0 : Int) (x2 : List Int) (x3 x4 : Int) (x6 : List Int) (x14 : Int) : Bool := (bif tb (Zt x0 x2 x3 x4) then (bif tb (Zr x6 x14) then (bif tb (ins x6.length (mxI 0 (wi (((x6.length : Nat) : Int) - (wi (x14 - 1))))) ((x6.length : Nat) : Int)) then (bif tb (Zbq (Zey x0 x2 x3 x4) (Zhg x6 x14)) then true else false) else false) else (bif tb (Zbj x6 x14 false) then (bif tb (Zea (Zey x0 x2 x3 x4)) then true else false) else false)) else false)
def Zhq (x0 : Int) (x2 : List Int) (x3 x4 : Int) (x6 : List Int) (x14 : Int) : Bool := (bif tb (Zr x6 x14) then (Zb4 (Zey x0 x2 x3 x4) (Zhg x6 x14)) else (Zho (Zey x0 x2 x3 x4)))
theorem Zoi (x0 x1 : Int) (x2 : List Int) (x3 x4 : Int) (x5 x6 : List Int) (x7 : Bool) (x8 : Int) (x9 : List Int) (x10 : Bool) (x11 x12 : Int) (x13 : Bool) (x14 x15 : Int) (x16 x17 x18 x19 x20 : Bool) (x21 : Int) (x22 : Bool) (x23 : List Zh) (x24 : Int) : Zfs x0 x2 x3 x4 x6 x14 = true → segG (runC E0 (cl E0) S10_2) [0, 2, 7, 10, 11, 12, 13] [] [0, 2, 7, 10, 11, 12, 13, 20] 7 ([(V.d (.int .i64 x21)), (V.d (slD Zd true 3 x22 x23)), (V.ptr 0 1 0 0), (V.ptr 1 1 0 0), (V.ptr 2 1 0 0), (V.so false 6 x9.length), (V.d (.int .i64 x24))], [(Blk.flat 82 20 [([(.int .i64 x0), (.int .i64 x1)] ++ arrD .i64 x2 16 ++ [(.int .i64 x3), (.int .i64 x4)])] x10), (Blk.gen 84 3 [[(V.ptr 0 1 0 0), (V.d (.int .i64 x11)), (V.d (.int .i64 x12))]] x13), (Blk.gen 86 3 [[(V.d (.int .i64 x14)), (V.d (.int .i64 x15)), (V.so false 4 x6.length)]] x16), (Blk.flat 3 1 (List.map (encI .i64) x5) x17), (Blk.flat 3 1 (List.map (encI .i64) x6) x18), (Blk.flat 53 2 [[(.bool x7), (.int .i64 x8)]] x19), (Blk.flat 3 1 (List.map (encI .i64) x9) x20)]) = some (.normal, ([(V.d (.int .i64 x21)), (V.d (slD Zd true 3 x22 x23)), (V.ptr 0 1 0 0), (V.ptr 1 1 0 0), (V.ptr 2 1 0 0), (V.so false 6 x9.length), (V.d (.int .i64 x24)), (V.d (.bool (Zhq x0 x2 x3 x4 x6 x14)))], [(Blk.flat 82 20 [([(.int .i64 x0), (.int .i64 x1)] ++ arrD .i64 x2 16 ++ [(.int .i64 x3), (.int .i64 x4)])] x10), (Blk.gen 84 3 [[(V.ptr 0 1 0 0), (V.d (.int .i64 x11)), (V.d (.int .i64 x12))]] x13), (Blk.gen 86 3 [[(V.d (.int .i64 x14)), (V.d (.int .i64 x15)), (V.so false 4 x6.length)]] x16), (Blk.flat 3 1 (List.map (encI .i64) x5) x17), (Blk.flat 3 1 (List.map (encI .i64) x6) x18), (Blk.flat 53 2 [[(.bool x7), (.int .i64 x8)]] x19), (Blk.flat 3 1 (List.map (encI .i64) x9) x20)])) := by
 unfold Zfs Zhq
 cases h1 : tb (Zt x0 x2 x3 x4)
 ·exact ZN
 ·cases h2 : tb (Zr x6 x14)
  ·cases h3 : tb (Zbj x6 x14 false)
   ·exact ZN
   ·cases h4 : tb (Zea (Zey x0 x2 x3 x4))
    ·exact ZN
    ·exact fun g0 => Z2 [.c (Zbd x0 x1 x2 x3 x4 x10 (tbE h1)), .c (Zef x6 x14 x15 false x16 x18 (tbE h2) (tbE h3)), .y (mm := [(Blk.flat 82 20 [([(.int .i64 x0), (.int .i64 x1)] ++ arrD .i64 x2 16 ++ [(.int .i64 x3), (.int .i64 x4)])] x10), (Blk.gen 84 3 [[(V.ptr 0 1 0 0), (V.d (.int .i64 x11)), (V.d (.int .i64 x12))]] x13), (Blk.gen 86 3 [[(V.d (.int .i64 x14)), (V.d (.int .i64 x15)), (V.so false 4 x6.length)]] x16), (Blk.flat 3 1 (List.map (encI .i64) x5) x17), (Blk.flat 3 1 (List.map (encI .i64) x6) x18), (Blk.flat 53 2 [[(.bool x7), (.int .i64 x8)]] x19), (Blk.flat 3 1 (List.map (encI .i64) x9) x20), (Blk.flat 3 1 (List.map (encI .i64) ((Za ([] : List Int) x0 x2 x3 x4 true).c6)) false)]) (args := [(V.so ((Za ([] : List Int) x0 x2 x3 x4 true).c4) 7 (((Za ([] : List Int) x0 x2 x3 x4 true).c6).length)), (V.d (.rs false 1 [] false))]) (args1 := [(V.d (slD (encI .i64) true 1 ((Za ([] : List Int) x0 x2 x3 x4 true).c4) ((Za ([] : List Int) x0 x2 x3 x4 true).c6))), (V.d (.rs false 1 [] false))]) (Zc8 (Zhz (enc := (encI .i64)) (l := ((Za ([] : List Int) x0 x2 x3 x4 true).c6)) (b := ((Za ([] : List Int) x0 x2 x3 x4 true).c4)) (e := 3) (s := 1) (p := false) (n := (((Za ([] : List Int) x0 x2 x3 x4 true).c6).length)) (Nat.beq_refl _) (by kernel_rfl)) (by kernel_rfl)), .c (Zi7 (Zob x0 x2 x3 x4) (Zey x0 x2 x3 x4) (tbE h4))] (by kernel_rfl)
  ·cases h3 : tb (ins x6.length (mxI 0 (wi (((x6.length : Nat) : Int) - (wi (x14 - 1))))) ((x6.length : Nat) : Int))
   ·exact ZN
   ·cases h4 : tb (Zbq (Zey x0 x2 x3 x4) (Zhg x6 x14))
    ·exact ZN
    ·exact fun g0 => Z2 [.c (Zbd x0 x1 x2 x3 x4 x10 (tbE h1)), .c (Zeh x6 x14 x15 false x16 x18 (tbE h2)), .y (mm := [(Blk.flat 82 20 [([(.int .i64 x0), (.int .i64 x1)] ++ arrD .i64 x2 16 ++ [(.int .i64 x3), (.int .i64 x4)])] x10), (Blk.gen 84 3 [[(V.ptr 0 1 0 0), (V.d (.int .i64 x11)), (V.d (.int .i64 x12))]] x13), (Blk.gen 86 3 [[(V.d (.int .i64 x14)), (V.d (.int .i64 x15)), (V.so false 4 x6.length)]] x16), (Blk.flat 3 1 (List.map (encI .i64) x5) x17), (Blk.flat 3 1 (List.map (encI .i64) x6) x18), (Blk.flat 53 2 [[(.bool x7), (.int .i64 x8)]] x19), (Blk.flat 3 1 (List.map (encI .i64) x9) x20), (Blk.flat 3 1 (List.map (encI .i64) ((Za ([] : List Int) x0 x2 x3 x4 true).c6)) false)]) (args := [(V.so ((Za ([] : List Int) x0 x2 x3 x4 true).c4) 7 (((Za ([] : List Int) x0 x2 x3 x4 true).c6).length)), (V.sl 4 x6.length ((mxI 0 (wi (((x6.length : Nat) : Int) - (wi (x14 - 1))))) : Int).toNat ((((x6.length : Nat) : Int) : Int).toNat - ((mxI 0 (wi (((x6.length : Nat) : Int) - (wi (x14 - 1))))) : Int).toNat))]) (args1 := [(V.d (slD (encI .i64) true 1 ((Za ([] : List Int) x0 x2 x3 x4 true).c4) ((Za ([] : List Int) x0 x2 x3 x4 true).c6))), (V.d (.rs true 1 (List.map (encI .i64) (sub x6 (mxI 0 (wi (((x6.length : Nat) : Int) - (wi (x14 - 1))))) ((x6.length : Nat) : Int))) false))]) (Zc8 (Zhz (enc := (encI .i64)) (l := ((Za ([] : List Int) x0 x2 x3 x4 true).c6)) (b := ((Za ([] : List Int) x0 x2 x3 x4 true).c4)) (e := 3) (s := 1) (p := false) (n := (((Za ([] : List Int) x0 x2 x3 x4 true).c6).length)) (Nat.beq_refl _) (by kernel_rfl)) (Zc8 (Zml (enc := (encI .i64)) (l := x6) (e := 3) (s := 1) (p := x18) (n := x6.length) (lo := (mxI 0 (wi (((x6.length : Nat) : Int) - (wi (x14 - 1)))))) (hi := ((x6.length : Nat) : Int)) (Nat.beq_refl _) (by kernel_rfl) (tbE h3)) (by kernel_rfl))), .c (Zgm (Zob x0 x2 x3 x4) (Zey x0 x2 x3 x4) false (Zhg x6 x14) (tbE h4))] (by kernel_rfl)
def Zfr (x0 : Int) (x2 : List Int) (x3 x4 : Int) (x6 : List Int) (x14 : Int) (x25 : Bool) : Bool := (bif tb (x25) then (bif tb (Zp x0 x2 x3 x4) then (bif tb (Z1 x6 x14 false) then true else false) else false) else true)
def Zfp (x0 x1 : Int) (x2 : List Int) (x3 x4 : Int) (x6 x9 : List Int) (x12 x14 x15 x21 : Int) (x25 : Bool) : Bool := (bif tb (x25) then (bif tb (true != ((Zo x0 x1 x2 x3 x4) == (Zba x6 x14 x15))) then true else ((x12 : Int) != (mnI ((x9.length : Nat) : Int) x21))) else true)
theorem Zoh (x0 x1 : Int) (x2 : List Int) (x3 x4 : Int) (x5 x6 : List Int) (x7 : Bool) (x8 : Int) (x9 : List Int) (x10 : Bool) (x11 x12 : Int) (x13 : Bool) (x14 x15 : Int) (x16 x17 x18 x19 x20 : Bool) (x21 : Int) (x22 : Bool) (x23 : List Zh) (x24 : Int) (x25 : Bool) : Zfr x0 x2 x3 x4 x6 x14 x25 = true → segG (runC E0 (cl E0) S10_3) [0, 2, 7, 10, 11, 12, 13, 20] [] [0, 2, 7, 10, 11, 12, 13, 142] 7 ([(V.d (.int .i64 x21)), (V.d (slD Zd true 3 x22 x23)), (V.ptr 0 1 0 0), (V.ptr 1 1 0 0), (V.ptr 2 1 0 0), (V.so false 6 x9.length), (V.d (.int .i64 x24)), (V.d (.bool x25))], [(Blk.flat 82 20 [([(.int .i64 x0), (.int .i64 x1)] ++ arrD .i64 x2 16 ++ [(.int .i64 x3), (.int .i64 x4)])] x10), (Blk.gen 84 3 [[(V.ptr 0 1 0 0), (V.d (.int .i64 x11)), (V.d (.int .i64 x12))]] x13), (Blk.gen 86 3 [[(V.d (.int .i64 x14)), (V.d (.int .i64 x15)), (V.so false 4 x6.length)]] x16), (Blk.flat 3 1 (List.map (encI .i64) x5) x17), (Blk.flat 3 1 (List.map (encI .i64) x6) x18), (Blk.flat 53 2 [[(.bool x7), (.int .i64 x8)]] x19), (Blk.flat 3 1 (List.map (encI .i64) x9) x20)]) = some (.normal, ([(V.d (.int .i64 x21)), (V.d (slD Zd true 3 x22 x23)), (V.ptr 0 1 0 0), (V.ptr 1 1 0 0), (V.ptr 2 1 0 0), (V.so false 6 x9.length), (V.d (.int .i64 x24)), (V.d (.bool (Zfp x0 x1 x2 x3 x4 x6 x9 x12 x14 x15 x21 x25)))], [(Blk.flat 82 20 [([(.int .i64 x0), (.int .i64 x1)] ++ arrD .i64 x2 16 ++ [(.int .i64 x3), (.int .i64 x4)])] x10), (Blk.gen 84 3 [[(V.ptr 0 1 0 0), (V.d (.int .i64 x11)), (V.d (.int .i64 x12))]] x13), (Blk.gen 86 3 [[(V.d (.int .i64 x14)), (V.d (.int .i64 x15)), (V.so false 4 x6.length)]] x16), (Blk.flat 3 1 (List.map (encI .i64) x5) x17), (Blk.flat 3 1 (List.map (encI .i64) x6) x18), (Blk.flat 53 2 [[(.bool x7), (.int .i64 x8)]] x19), (Blk.flat 3 1 (List.map (encI .i64) x9) x20)])) := by
 unfold Zfr Zfp
 cases h1 : tb (x25)
 ·exact fun g0 => Z2 [.b (notF (tbE h1))] (by kernel_rfl)
 ·cases h2 : tb (Zp x0 x2 x3 x4)
  ·exact ZN
  ·cases h3 : tb (Z1 x6 x14 false)
   ·exact ZN
   ·cases h4 : tb (true != ((Zo x0 x1 x2 x3 x4) == (Zba x6 x14 x15)))
    ·exact fun g0 => Z2 [.b (notT (tbE h1)), .c (Z0 x0 x1 x2 x3 x4 x10 (tbE h2)), .c (Zbc x6 x14 x15 false x16 x18 (tbE h3)), .b (tbE h4), .c (Zcc x0 x1 x2 x3 x4 x11 x12 x13 x10)] (by kernel_rfl)
    ·exact fun g0 => Z2 [.b (notT (tbE h1)), .c (Z0 x0 x1 x2 x3 x4 x10 (tbE h2)), .c (Zbc x6 x14 x15 false x16 x18 (tbE h3)), .b (tbE h4)] (by kernel_rfl)
def Zb9 (x18 : List Zh) (x20 : Int) : Bool := (bif tb (decide (x20 < ((x18.length : Nat) : Int))) then true else false)
theorem Zdo (x0 x1 : Int) (x2 : List Int) (x3 x4 : Int) (x5 x6 : List Int) (x7 : Bool) (x8 x9 : Int) (x10 : Bool) (x11 x12 : Int) (x13 x14 x15 : Bool) (x16 : Int) (x17 : Bool) (x18 : List Zh) (x19 : Bool) (x20 : Int) : Zb9 x18 x20 = true → segG (runC E0 (cl E0) S10_1) [0, 2, 7, 10, 11, 12, 13] [] [0, 2, 7, 10, 11, 12, 13] 5 ([(V.d (.int .i64 x16)), (V.d (slD Zd true 3 x17 x18)), (V.ptr 0 1 0 0), (V.ptr 1 1 0 0), (V.ptr 2 1 0 0), (V.so x19 4 x6.length), (V.d (.int .i64 x20))], [(Blk.flat 82 20 [([(.int .i64 x0), (.int .i64 x1)] ++ arrD .i64 x2 16 ++ [(.int .i64 x3), (.int .i64 x4)])] x7), (Blk.gen 84 3 [[(V.ptr 0 1 0 0), (V.d (.int .i64 x8)), (V.d (.int .i64 x9))]] x10), (Blk.gen 86 3 [[(V.d (.int .i64 x11)), (V.d (.int .i64 x12)), (V.d .nils)]] x13), (Blk.flat 3 1 (List.map (encI .i64) x5) x14), (Blk.flat 3 1 (List.map (encI .i64) x6) x15)]) = some (.normal, ([(V.d (.int .i64 x16)), (V.d (slD Zd true 3 x17 x18)), (V.ptr 0 1 0 0), (V.ptr 1 1 0 0), (V.ptr 2 1 0 0), (V.so x19 4 x6.length), (V.d (.int .i64 x20))], [(Blk.flat 82 20 [([(.int .i64 x0), (.int .i64 x1)] ++ arrD .i64 x2 16 ++ [(.int .i64 x3), (.int .i64 x4)])] x7), (Blk.gen 84 3 [[(V.ptr 0 1 0 0), (V.d (.int .i64 x8)), (V.d (.int .i64 x9))]] x10), (Blk.gen 86 3 [[(V.d (.int .i64 x11)), (V.d (.int .i64 x12)), (V.d .nils)]] x13), (Blk.flat 3 1 (List.map (encI .i64) x5) x14), (Blk.flat 3 1 (List.map (encI .i64) x6) x15)])) := by
 unfold Zb9
 cases h1 : tb (decide (x20 < ((x18.length : Nat) : Int)))
 ·exact ZN
 ·exact fun g0 => Z2 [.o 66 (fun _ => Zes (enc := Zd) (l := x18) (fl := true) (n := x17) (s := 3)), .b (tbE h1)] (by kernel_rfl)
theorem Zsu (x0 x1 : Int) (x2 : List Int) (x3 x4 : Int) (x5 x6 : List Int) (x7 : Bool) (x8 x9 : Int) (x10 : Bool) (x11 x12 : Int) (x13 x14 x15 : Bool) (x16 : Int) (x17 : Bool) (x18 : List Zh) (x19 : Bool) (x20 : Int) : Zb9 x18 x20 = false → segG (runC E0 (cl E0) S10_1) [0, 2, 7, 10, 11, 12, 13] [] [0, 2, 7, 10, 11, 12, 13] 5 ([(V.d (.int .i64 x16)), (V.d (slD Zd true 3 x17 x18)), (V.ptr 0 1 0 0), (V.ptr 1 1 0 0), (V.ptr 2 1 0 0), (V.so x19 4 x6.length), (V.d (.int .i64 x20))], [(Blk.flat 82 20 [([(.int .i64 x0), (.int .i64 x1)] ++ arrD .i64 x2 16 ++ [(.int .i64 x3), (.int .i64 x4)])] x7), (Blk.gen 84 3 [[(V.ptr 0 1 0 0), (V.d (.int .i64 x8)), (V.d (.int .i64 x9))]] x10), (Blk.gen 86 3 [[(V.d (.int .i64 x11)), (V.d (.int .i64 x12)), (V.d .nils)]] x13), (Blk.flat 3 1 (List.map (encI .i64) x5) x14), (Blk.flat 3 1 (List.map (encI .i64) x6) x15)]) = some ((.exit 0), ([], [(Blk.flat 82 20 [([(.int .i64 x0), (.int .i64 x1)] ++ arrD .i64 x2 16 ++ [(.int .i64 x3), (.int .i64 x4)])] x7), (Blk.gen 84 3 [[(V.ptr 0 1 0 0), (V.d (.int .i64 x8)), (V.d (.int .i64 x9))]] x10), (Blk.gen 86 3 [[(V.d (.int .i64 x11)), (V.d (.int .i64 x12)), (V.d .nils)]] x13), (Blk.flat 3 1 (List.map (encI .i64) x5) x14), (Blk.flat 3 1 (List.map (encI .i64) x6) x15)])) := by
 unfold Zb9
 cases h1 : tb (decide (x20 < ((x18.length : Nat) : Int)))
 ·exact fun g0 => Z2 [.o 66 (fun _ => Zes (enc := Zd) (l := x18) (fl := true) (n := x17) (s := 3)), .b (tbE h1)] (by kernel_rfl)
 ·exact fun g0 => absurd g0 tf
def Zot (x0 : Int) (x2 : List Int) (x3 x4 : Int) : Bool := ((Za ([] : List Int) x0 x2 x3 x4 true).c4)
def Ze1 (x0 : Int) (x2 : List Int) (x3 x4 : Int) : List Int := ((Za ([] : List Int) x0 x2 x3 x4 true).c6)
def Zhf (x9 x14 : Int) : List Int := (sub [x9] (mxI 0 (wi ((([x9].length : Nat) : Int) - (wi (x14 - 1))))) (([x9].length : Nat) : Int))
def Ze2 (x0 : Int) (x2 : List Int) (x3 x4 x9 x14 : Int) : Bool := (bif tb (Zt x0 x2 x3 x4) then (bif tb (Zr [x9] x14) then (bif tb (ins ([x9].length) (mxI 0 (wi ((([x9].length : Nat) : Int) - (wi (x14 - 1))))) (([x9].length : Nat) : Int)) then (bif tb (Zbq (Ze1 x0 x2 x3 x4) (Zhf x9 x14)) then true else false) else false) else (bif tb (Zbj [x9] x14 false) then (bif tb (Zea (Ze1 x0 x2 x3 x4)) then true else false) else false)) else false)
def Zhp (x0 : Int) (x2 : List Int) (x3 x4 x9 x14 : Int) : Bool := (bif tb (Zr [x9] x14) then (Zb4 (Ze1 x0 x2 x3 x4) (Zhf x9 x14)) else (Zho (Ze1 x0 x2 x3 x4)))
theorem Zor (x0 x1 : Int) (x2 : List Int) (x3 x4 : Int) (x5 x6 : List Int) (x7 : Bool) (x8 x9 : Int) (x10 : Bool) (x11 x12 : Int) (x13 : Bool) (x14 x15 : Int) (x16 x17 x18 x19 x20 : Bool) (x21 : Int) (x22 : Bool) (x23 : List Zh) (x24 : Bool) (x25 : Int) : Ze2 x0 x2 x3 x4 x9 x14 = true → segG (runC E0 (cl E0) S10_2) [0, 2, 7, 10, 11, 12, 13] [] [0, 2, 7, 10, 11, 12, 13, 20] 7 ([(V.d (.int .i64 x21)), (V.d (slD Zd true 3 x22 x23)), (V.ptr 0 1 0 0), (V.ptr 1 1 0 0), (V.ptr 2 1 0 0), (V.so x24 4 x6.length), (V.d (.int .i64 x25))], [(Blk.flat 82 20 [([(.int .i64 x0), (.int .i64 x1)] ++ arrD .i64 x2 16 ++ [(.int .i64 x3), (.int .i64 x4)])] x10), (Blk.gen 84 3 [[(V.ptr 0 1 0 0), (V.d (.int .i64 x11)), (V.d (.int .i64 x12))]] x13), (Blk.gen 86 3 [[(V.d (.int .i64 x14)), (V.d (.int .i64 x15)), (V.so false 6 1)]] x16), (Blk.flat 3 1 (List.map (encI .i64) x5) x17), (Blk.flat 3 1 (List.map (encI .i64) x6) x18), (Blk.flat 53 2 [[(.bool x7), (.int .i64 x8)]] x19), (Blk.flat 3 1 [[(.int .i64 x9)]] x20)]) = some (.normal, ([(V.d (.int .i64 x21)), (V.d (slD Zd true 3 x22 x23)), (V.ptr 0 1 0 0), (V.ptr 1 1 0 0), (V.ptr 2 1 0 0), (V.so x24 4 x6.length), (V.d (.int .i64 x25)), (V.d (.bool (Zhp x0 x2 x3 x4 x9 x14)))], [(Blk.flat 82 20 [([(.int .i64 x0), (.int .i64 x1)] ++ arrD .i64 x2 16 ++ [(.int .i64 x3), (.int .i64 x4)])] x10), (Blk.gen 84 3 [[(V.ptr 0 1 0 0), (V.d (.int .i64 x11)), (V.d (.int .i64 x12))]] x13), (Blk.gen 86 3 [[(V.d (.int .i64 x14)), (V.d (.int .i64 x15)), (V.so false 6 ([x9].length))]] x16), (Blk.flat 3 1 (List.map (encI .i64) x5) x17), (Blk.flat 3 1 (List.map (encI .i64) x6) x18), (Blk.flat 53 2 [[(.bool x7), (.int .i64 x8)]] x19), (Blk.flat 3 1 (List.map (encI .i64) [x9]) x20)])) := by
 unfold Ze2 Zhp
 cases h1 : tb (Zt x0 x2 x3 x4)
 ·exact ZN
 ·cases h2 : tb (Zr [x9] x14)
  ·cases h3 : tb (Zbj [x9] x14 false)
   ·exact ZN
   ·cases h4 : tb (Zea (Ze1 x0 x2 x3 x4))
    ·exact ZN
    ·exact fun g0 => Z2 [.c (Zbd x0 x1 x2 x3 x4 x10 (tbE h1)), .c (Zef [x9] x14 x15 false x16 x20 (tbE h2) (tbE h3)), .y (mm := [(Blk.flat 82 20 [([(.int .i64 x0), (.int .i64 x1)] ++ arrD .i64 x2 16 ++ [(.int .i64 x3), (.int .i64 x4)])] x10), (Blk.gen 84 3 [[(V.ptr 0 1 0 0), (V.d (.int .i64 x11)), (V.d (.int .i64 x12))]] x13), (Blk.gen 86 3 [[(V.d (.int .i64 x14)), (V.d (.int .i64 x15)), (V.so false 6 ([x9].length))]] x16), (Blk.flat 3 1 (List.map (encI .i64) x5) x17), (Blk.flat 3 1 (List.map (encI .i64) x6) x18), (Blk.flat 53 2 [[(.bool x7), (.int .i64 x8)]] x19), (Blk.flat 3 1 (List.map (encI .i64) [x9]) x20), (Blk.flat 3 1 (List.map (encI .i64) ((Za ([] : List Int) x0 x2 x3 x4 true).c6)) false)]) (args := [(V.so ((Za ([] : List Int) x0 x2 x3 x4 true).c4) 7 (((Za ([] : List Int) x0 x2 x3 x4 true).c6).length)), (V.d (.rs false 1 [] false))]) (args1 := [(V.d (slD (encI .i64) true 1 ((Za ([] : List Int) x0 x2 x3 x4 true).c4) ((Za ([] : List Int) x0 x2 x3 x4 true).c6))), (V.d (.rs false 1 [] false))]) (Zc8 (Zhz (enc := (encI .i64)) (l := ((Za ([] : List Int) x0 x2 x3 x4 true).c6)) (b := ((Za ([] : List Int) x0 x2 x3 x4 true).c4)) (e := 3) (s := 1) (p := false) (n := (((Za ([] : List Int) x0 x2 x3 x4 true).c6).length)) (Nat.beq_refl _) (by kernel_rfl)) (by kernel_rfl)), .c (Zi7 (Zot x0 x2 x3 x4) (Ze1 x0 x2 x3 x4) (tbE h4))] (by kernel_rfl)
  ·cases h3 : tb (ins ([x9].length) (mxI 0 (wi ((([x9].length : Nat) : Int) - (wi (x14 - 1))))) (([x9].length : Nat) : Int))
   ·exact ZN
   ·cases h4 : tb (Zbq (Ze1 x0 x2 x3 x4) (Zhf x9 x14))
    ·exact ZN
    ·exact fun g0 => Z2 [.c (Zbd x0 x1 x2 x3 x4 x10 (tbE h1)), .c (Zeh [x9] x14 x15 false x16 x20 (tbE h2)), .y (mm := [(Blk.flat 82 20 [([(.int .i64 x0), (.int .i64 x1)] ++ arrD .i64 x2 16 ++ [(.int .i64 x3), (.int .i64 x4)])] x10), (Blk.gen 84 3 [[(V.ptr 0 1 0 0), (V.d (.int .i64 x11)), (V.d (.int .i64 x12))]] x13), (Blk.gen 86 3 [[(V.d (.int .i64 x14)), (V.d (.int .i64 x15)), (V.so false 6 ([x9].length))]] x16), (Blk.flat 3 1 (List.map (encI .i64) x5) x17), (Blk.flat 3 1 (List.map (encI .i64) x6) x18), (Blk.flat 53 2 [[(.bool x7), (.int .i64 x8)]] x19), (Blk.flat 3 1 (List.map (encI .i64) [x9]) x20), (Blk.flat 3 1 (List.map (encI .i64) ((Za ([] : List Int) x0 x2 x3 x4 true).c6)) false)]) (args := [(V.so ((Za ([] : List Int) x0 x2 x3 x4 true).c4) 7 (((Za ([] : List Int) x0 x2 x3 x4 true).c6).length)), (V.sl 6 ([x9].length) ((mxI 0 (wi ((([x9].length : Nat) : Int) - (wi (x14 - 1))))) : Int).toNat (((([x9].length : Nat) : Int) : Int).toNat - ((mxI 0 (wi ((([x9].length : Nat) : Int) - (wi (x14 - 1))))) : Int).toNat))]) (args1 := [(V.d (slD (encI .i64) true 1 ((Za ([] : List Int) x0 x2 x3 x4 true).c4) ((Za ([] : List Int) x0 x2 x3 x4 true).c6))), (V.d (.rs true 1 (List.map (encI .i64) (sub [x9] (mxI 0 (wi ((([x9].length : Nat) : Int) - (wi (x14 - 1))))) (([x9].length : Nat) : Int))) false))]) (Zc8 (Zhz (enc := (encI .i64)) (l := ((Za ([] : List Int) x0 x2 x3 x4 true).c6)) (b := ((Za ([] : List Int) x0 x2 x3 x4 true).c4)) (e := 3) (s := 1) (p := false) (n := (((Za ([] : List Int) x0 x2 x3 x4 true).c6).length)) (Nat.beq_refl _) (by kernel_rfl)) (Zc8 (Zml (enc := (encI .i64)) (l := [x9]) (e := 3) (s := 1) (p := x20) (n := ([x9].length)) (lo := (mxI 0 (wi ((([x9].length : Nat) : Int) - (wi (x14 - 1)))))) (hi := (([x9].length : Nat) : Int)) (Nat.beq_refl _) (by kernel_rfl) (tbE h3)) (by kernel_rfl))), .c (Zgm (Zot x0 x2 x3 x4) (Ze1 x0 x2 x3 x4) false (Zhf x9 x14) (tbE h4))] (by kernel_rfl)
def Ze7 (x0 : Int) (x2 : List Int) (x3 x4 : Int) (x9 : List Int) (x14 : Int) (x26 : Bool) : Bool := (bif tb (x26) then (bif tb (Zp x0 x2 x3 x4) then (bif tb (Z1 x9 x14 false) then true else false) else false) else true)
def Zex (x0 x1 : Int) (x2 : List Int) (x3 x4 : Int) (x6 x9 : List Int) (x12 x14 x15 x21 : Int) (x26 : Bool) : Bool := (bif tb (x26) then (bif tb (true != ((Zo x0 x1 x2 x3 x4) == (Zba x9 x14 x15))) then true else ((x12 : Int) != (mnI ((x6.length : Nat) : Int) x21))) else true)
theorem Zoa (x0 x1 : Int) (x2 : List Int) (x3 x4 : Int) (x5 x6 : List Int) (x7 : Bool) (x8 : Int) (x9 : List Int) (x10 : Bool) (x11 x12 : Int) (x13 : Bool) (x14 x15 : Int) (x16 x17 x18 x19 x20 : Bool) (x21 : Int) (x22 : Bool) (x23 : List Zh) (x24 : Bool) (x25 : Int) (x26 : Bool) : Ze7 x0 x2 x3 x4 x9 x14 x26 = true → segG (runC E0 (cl E0) S10_3) [0, 2, 7, 10, 11, 12, 13, 20] [] [0, 2, 7, 10, 11, 12, 13, 142] 7 ([(V.d (.int .i64 x21)), (V.d (slD Zd true 3 x22 x23)), (V.ptr 0 1 0 0), (V.ptr 1 1 0 0), (V.ptr 2 1 0 0), (V.so x24 4 x6.length), (V.d (.int .i64 x25)), (V.d (.bool x26))], [(Blk.flat 82 20 [([(.int .i64 x0), (.int .i64 x1)] ++ arrD .i64 x2 16 ++ [(.int .i64 x3), (.int .i64 x4)])] x10), (Blk.gen 84 3 [[(V.ptr 0 1 0 0), (V.d (.int .i64 x11)), (V.d (.int .i64 x12))]] x13), (Blk.gen 86 3 [[(V.d (.int .i64 x14)), (V.d (.int .i64 x15)), (V.so false 6 x9.length)]] x16), (Blk.flat 3 1 (List.map (encI .i64) x5) x17), (Blk.flat 3 1 (List.map (encI .i64) x6) x18), (Blk.flat 53 2 [[(.bool x7), (.int .i64 x8)]] x19), (Blk.flat 3 1 (List.map (encI .i64) x9) x20)]) = some (.normal, ([(V.d (.int .i64 x21)), (V.d (slD Zd true 3 x22 x23)), (V.ptr 0 1 0 0), (V.ptr 1 1 0 0), (V.ptr 2 1 0 0), (V.so x24 4 x6.length), (V.d (.int .i64 x25)), (V.d (.bool (Zex x0 x1 x2 x3 x4 x6 x9 x12 x14 x15 x21 x26)))], [(Blk.flat 82 20 [([(.int .i64 x0), (.int .i64 x1)] ++ arrD .i64 x2 16 ++ [(.int .i64 x3), (.int .i64 x4)])] x10), (Blk.gen 84 3 [[(V.ptr 0 1 0 0), (V.d (.int .i64 x11)), (V.d (.int .i64 x12))]] x13), (Blk.gen 86 3 [[(V.d (.int .i64 x14)), (V.d (.int .i64 x15)), (V.so false 6 x9.length)]] x16), (Blk.flat 3 1 (List.map (encI .i64) x5) x17), (Blk.flat 3 1 (List.map (encI .i64) x6) x18), (Blk.flat 53 2 [[(.bool x7), (.int .i64 x8)]] x19), (Blk.flat 3 1 (List.map (encI .i64) x9) x20)])) := by
 unfold Ze7 Zex
 cases h1 : tb (x26)
 ·exact fun g0 => Z2 [.b (notF (tbE h1))] (by kernel_rfl)
 ·cases h2 : tb (Zp x0 x2 x3 x4)
  ·exact ZN
  ·cases h3 : tb (Z1 x9 x14 false)
   ·exact ZN
   ·cases h4 : tb (true != ((Zo x0 x1 x2 x3 x4) == (Zba x9 x14 x15)))
    ·exact fun g0 => Z2 [.b (notT (tbE h1)), .c (Z0 x0 x1 x2 x3 x4 x10 (tbE h2)), .c (Zbc x9 x14 x15 false x16 x20 (tbE h3)), .b (tbE h4), .c (Zcc x0 x1 x2 x3 x4 x11 x12 x13 x10)] (by kernel_rfl)
    ·exact fun g0 => Z2 [.b (notT (tbE h1)), .c (Z0 x0 x1 x2 x3 x4 x10 (tbE h2)), .c (Zbc x9 x14 x15 false x16 x20 (tbE h3)), .b (tbE h4)] (by kernel_rfl)
def Zsg (x0 : Int) (x2 : List Int) (x3 x4 : Int) : Bool := ((Za ([] : List Int) x0 x2 x3 x4 true).c4)
def Zgc (x0 : Int) (x2 : List Int) (x3 x4 : Int) : List Int := ((Za ([] : List Int) x0 x2 x3 x4 true).c6)
def Zce (x0 : Int) (x2 : List Int) (x3 x4 x13 : Int) : Bool := (bif tb (Zt x0 x2 x3 x4) then (bif tb (Zb7 x13) then (bif tb (Zbq (Zgc x0 x2 x3 x4) []) then true else false) else false) else false)
theorem Zkw (x0 x1 : Int) (x2 : List Int) (x3 x4 : Int) (x5 x6 : List Int) (x7 : Bool) (x8 : Int) (x9 : Bool) (x10 x11 : Int) (x12 : Bool) (x13 x14 : Int) (x15 x16 x17 x18 : Bool) (x19 : Int) (x20 : Bool) (x21 : List Zh) (x22 : Bool) (x23 : Int) : Zce x0 x2 x3 x4 x13 = true → segG (runC E0 (cl E0) S10_2) [0, 2, 7, 10, 11, 12, 13] [] [0, 2, 7, 10, 11, 12, 13, 20] 6 ([(V.d (.int .i64 x19)), (V.d (slD Zd true 3 x20 x21)), (V.ptr 0 1 0 0), (V.ptr 1 1 0 0), (V.ptr 2 1 0 0), (V.so x22 4 x6.length), (V.d (.int .i64 x23))], [(Blk.flat 82 20 [([(.int .i64 x0), (.int .i64 x1)] ++ arrD .i64 x2 16 ++ [(.int .i64 x3), (.int .i64 x4)])] x9), (Blk.gen 84 3 [[(V.ptr 0 1 0 0), (V.d (.int .i64 x10)), (V.d (.int .i64 x11))]] x12), (Blk.gen 86 3 [[(V.d (.int .i64 x13)), (V.d (.int .i64 x14)), (V.d .nils)]] x15), (Blk.flat 3 1 (List.map (encI .i64) x5) x16), (Blk.flat 3 1 (List.map (encI .i64) x6) x17), (Blk.flat 53 2 [[(.bool x7), (.int .i64 x8)]] x18)]) = some (.normal, ([(V.d (.int .i64 x19)), (V.d (slD Zd true 3 x20 x21)), (V.ptr 0 1 0 0), (V.ptr 1 1 0 0), (V.ptr 2 1 0 0), (V.so x22 4 x6.length), (V.d (.int .i64 x23)), (V.d (.bool (Zb4 (Zgc x0 x2 x3 x4) [])))], [(Blk.flat 82 20 [([(.int .i64 x0), (.int .i64 x1)] ++ arrD .i64 x2 16 ++ [(.int .i64 x3), (.int .i64 x4)])] x9), (Blk.gen 84 3 [[(V.ptr 0 1 0 0), (V.d (.int .i64 x10)), (V.d (.int .i64 x11))]] x12), (Blk.gen 86 3 [[(V.d (.int .i64 x13)), (V.d (.int .i64 x14)), (V.d .nils)]] x15), (Blk.flat 3 1 (List.map (encI .i64) x5) x16), (Blk.flat 3 1 (List.map (encI .i64) x6) x17), (Blk.flat 53 2 [[(.bool x7), (.int .i64 x8)]] x18)])) := by
 unfold Zce
 cases h1 : tb (Zt x0 x2 x3 x4)
 ·exact ZN
 ·cases h2 : tb (Zb7 x13)
  ·exact ZN
  ·cases h3 : tb (Zbq (Zgc x0 x2 x3 x4) [])
   ·exact ZN
   ·exact fun g0 => Z2 [.c (Zbd x0 x1 x2 x3 x4 x9 (tbE h1)), .c (Zhn x13 x14 x15 (tbE h2)), .y (mm := [(Blk.flat 82 20 [([(.int .i64 x0), (.int .i64 x1)] ++ arrD .i64 x2 16 ++ [(.int .i64 x3), (.int .i64 x4)])] x9), (Blk.gen 84 3 [[(V.ptr 0 1 0 0), (V.d (.int .i64 x10)), (V.d (.int .i64 x11))]] x12), (Blk.gen 86 3 [[(V.d (.int .i64 x13)), (V.d (.int .i64 x14)), (V.d .nils)]] x15), (Blk.flat 3 1 (List.map (encI .i64) x5) x16), (Blk.flat 3 1 (List.map (encI .i64) x6) x17), (Blk.flat 53 2 [[(.bool x7), (.int .i64 x8)]] x18), (Blk.flat 3 1 (List.map (encI .i64) ((Za ([] : List Int) x0 x2 x3 x4 true).c6)) false)]) (args := [(V.so ((Za ([] : List Int) x0 x2 x3 x4 true).c4) 6 (((Za ([] : List Int) x0 x2 x3 x4 true).c6).length)), (V.d .nils)]) (args1 := [(V.d (slD (encI .i64) true 1 ((Za ([] : List Int) x0 x2 x3 x4 true).c4) ((Za ([] : List Int) x0 x2 x3 x4 true).c6))), (V.d .nils)]) (Zc8 (Zhz (enc := (encI .i64)) (l := ((Za ([] : List Int) x0 x2 x3 x4 true).c6)) (b := ((Za ([] : List Int) x0 x2 x3 x4 true).c4)) (e := 3) (s := 1) (p := false) (n := (((Za ([] : List Int) x0 x2 x3 x4 true).c6).length)) (Nat.beq_refl _) (by kernel_rfl)) (by kernel_rfl)), .c (Zgm (Zsg x0 x2 x3 x4) (Zgc x0 x2 x3 x4) true [] (tbE h3))] (by kernel_rfl)
def Zch (x0 : Int) (x2 : List Int) (x3 x4 x13 : Int) (x24 : Bool) : Bool := (bif tb (x24) then (bif tb (Zp x0 x2 x3 x4) then (bif tb (Zbh x13) then true else false) else false) else true)
def Zcs (x0 x1 : Int) (x2 : List Int) (x3 x4 : Int) (x6 : List Int) (x11 x13 x14 x19 : Int) (x24 : Bool) : Bool := (bif tb (x24) then (bif tb (true != ((Zo x0 x1 x2 x3 x4) == (Zb3 x13 x14))) then true else ((x11 : Int) != (mnI ((x6.length : Nat) : Int) x19))) else true)
theorem Zkt (x0 x1 : Int) (x2 : List Int) (x3 x4 : Int) (x5 x6 : List Int) (x7 : Bool) (x8 : Int) (x9 : Bool) (x10 x11 : Int) (x12 : Bool) (x13 x14 : Int) (x15 x16 x17 x18 : Bool) (x19 : Int) (x20 : Bool) (x21 : List Zh) (x22 : Bool) (x23 : Int) (x24 : Bool) : Zch x0 x2 x3 x4 x13 x24 = true → segG (runC E0 (cl E0) S10_3) [0, 2, 7, 10, 11, 12, 13, 20] [] [0, 2, 7, 10, 11, 12, 13, 142] 6 ([(V.d (.int .i64 x19)), (V.d (slD Zd true 3 x20 x21)), (V.ptr 0 1 0 0), (V.ptr 1 1 0 0), (V.ptr 2 1 0 0), (V.so x22 4 x6.length), (V.d (.int .i64 x23)), (V.d (.bool x24))], [(Blk.flat 82 20 [([(.int .i64 x0), (.int .i64 x1)] ++ arrD .i64 x2 16 ++ [(.int .i64 x3), (.int .i64 x4)])] x9), (Blk.gen 84 3 [[(V.ptr 0 1 0 0), (V.d (.int .i64 x10)), (V.d (.int .i64 x11))]] x12), (Blk.gen 86 3 [[(V.d (.int .i64 x13)), (V.d (.int .i64 x14)), (V.d .nils)]] x15), (Blk.flat 3 1 (List.map (encI .i64) x5) x16), (Blk.flat 3 1 (List.map (encI .i64) x6) x17), (Blk.flat 53 2 [[(.bool x7), (.int .i64 x8)]] x18)]) = some (.normal, ([(V.d (.int .i64 x19)), (V.d (slD Zd true 3 x20 x21)), (V.ptr 0 1 0 0), (V.ptr 1 1 0 0), (V.ptr 2 1 0 0), (V.so x22 4 x6.length), (V.d (.int .i64 x23)), (V.d (.bool (Zcs x0 x1 x2 x3 x4 x6 x11 x13 x14 x19 x24)))], [(Blk.flat 82 20 [([(.int .i64 x0), (.int .i64 x1)] ++ arrD .i64 x2 16 ++ [(.int .i64 x3), (.int .i64 x4)])] x9), (Blk.gen 84 3 [[(V.ptr 0 1 0 0), (V.d (.int .i64 x10)), (V.d (.int .i64 x11))]] x12), (Blk.gen 86 3 [[(V.d (.int .i64 x13)), (V.d (.int .i64 x14)), (V.d .nils)]] x15), (Blk.flat 3 1 (List.map (encI .i64) x5) x16), (Blk.flat 3 1 (List.map (encI .i64) x6) x17), (Blk.flat 53 2 [[(.bool x7), (.int .i64 x8)]] x18)])) := by
 unfold Zch Zcs
 cases h1 : tb (x24)
 ·exact fun g0 => Z2 [.b (notF (tbE h1))] (by kernel_rfl)
 ·cases h2 : tb (Zp x0 x2 x3 x4)
  ·exact ZN
  ·cases h3 : tb (Zbh x13)
   ·exact ZN
   ·cases h4 : tb (true != ((Zo x0 x1 x2 x3 x4) == (Zb3 x13 x14)))
    ·exact fun g0 => Z2 [.b (notT (tbE h1)), .c (Z0 x0 x1 x2 x3 x4 x9 (tbE h2)), .c (Zca x13 x14 x15 (tbE h3)), .b (tbE h4), .c (Zcc x0 x1 x2 x3 x4 x10 x11 x12 x9)] (by kernel_rfl)
    ·exact fun g0 => Z2 [.b (notT (tbE h1)), .c (Z0 x0 x1 x2 x3 x4 x9 (tbE h2)), .c (Zca x13 x14 x15 (tbE h3)), .b (tbE h4)] (by kernel_rfl)
def Zrn (x0 : Int) (x2 : List Int) (x3 x4 : Int) : Bool := ((Za ([] : List Int) x0 x2 x3 x4 true).c4)
def Zgk (x0 : Int) (x2 : List Int) (x3 x4 : Int) : List Int := ((Za ([] : List Int) x0 x2 x3 x4 true).c6)
def Zek (x0 : Int) (x2 : List Int) (x3 x4 x12 : Int) : Bool := (bif tb (Zt x0 x2 x3 x4) then (bif tb (Zb7 x12) then (bif tb (Zbq (Zgk x0 x2 x3 x4) []) then true else false) else false) else false)
theorem Znp (x0 x1 : Int) (x2 : List Int) (x3 x4 : Int) (x5 x6 : List Int) (x7 : Bool) (x8 : Int) (x9 : Bool) (x10 : Int) (x11 : Bool) (x12 x13 : Int) (x14 x15 x16 x17 x18 : Bool) (x19 : Int) (x20 : Bool) (x21 : List Zh) (x22 : Int) : Zek x0 x2 x3 x4 x12 = true → segG (runC E0 (cl E0) S10_2) [0, 2, 7, 10, 11, 12, 13] [] [0, 2, 7, 10, 11, 12, 13, 20] 7 ([(V.d (.int .i64 x19)), (V.d (slD Zd true 3 x20 x21)), (V.ptr 0 1 0 0), (V.ptr 1 1 0 0), (V.ptr 2 1 0 0), (V.so true 6 0), (V.d (.int .i64 x22))], [(Blk.flat 82 20 [([(.int .i64 x0), (.int .i64 x1)] ++ arrD .i64 x2 16 ++ [(.int .i64 x3), (.int .i64 x4)])] x9), (Blk.gen 84 3 [[(V.ptr 0 1 0 0), (V.d (.int .i64 x10)), (V.d (.int .i64 0))]] x11), (Blk.gen 86 3 [[(V.d (.int .i64 x12)), (V.d (.int .i64 x13)), (V.d .nils)]] x14), (Blk.flat 3 1 (List.map (encI .i64) x5) x15), (Blk.flat 3 1 (List.map (encI .i64) x6) x16), (Blk.flat 53 2 [[(.bool x7), (.int .i64 x8)]] x17), (Blk.flat 3 1 [] x18)]) = some (.normal, ([(V.d (.int .i64 x19)), (V.d (slD Zd true 3 x20 x21)), (V.ptr 0 1 0 0), (V.ptr 1 1 0 0), (V.ptr 2 1 0 0), (V.so true 6 0), (V.d (.int .i64 x22)), (V.d (.bool (Zb4 (Zgk x0 x2 x3 x4) [])))], [(Blk.flat 82 20 [([(.int .i64 x0), (.int .i64 x1)] ++ arrD .i64 x2 16 ++ [(.int .i64 x3), (.int .i64 x4)])] x9), (Blk.gen 84 3 [[(V.ptr 0 1 0 0), (V.d (.int .i64 x10)), (V.d (.int .i64 0))]] x11), (Blk.gen 86 3 [[(V.d (.int .i64 x12)), (V.d (.int .i64 x13)), (V.d .nils)]] x14), (Blk.flat 3 1 (List.map (encI .i64) x5) x15), (Blk.flat 3 1 (List.map (encI .i64) x6) x16), (Blk.flat 53 2 [[(.bool x7), (.int .i64 x8)]] x17), (Blk.flat 3 1 [] x18)])) := by
 unfold Zek
 cases h1 : tb (Zt x0 x2 x3 x4)
 ·exact ZN
 ·cases h2 : tb (Zb7 x12)
  ·exact ZN
  ·cases h3 : tb (Zbq (Zgk x0 x2 x3 x4) [])
   ·exact ZN
   ·exact fun g0 => Z2 [.c (Zbd x0 x1 x2 x3 x4 x9 (tbE h1)), .c (Zhn x12 x13 x14 (tbE h2)), .y (mm := [(Blk.flat 82 20 [([(.int .i64 x0), (.int .i64 x1)] ++ arrD .i64 x2 16 ++ [(.int .i64 x3), (.int .i64 x4)])] x9), (Blk.gen 84 3 [[(V.ptr 0 1 0 0), (V.d (.int .i64 x10)), (V.d (.int .i64 0))]] x11), (Blk.gen 86 3 [[(V.d (.int .i64 x12)), (V.d (.int .i64 x13)), (V.d .nils)]] x14), (Blk.flat 3 1 (List.map (encI .i64) x5) x15), (Blk.flat 3 1 (List.map (encI .i64) x6) x16), (Blk.flat 53 2 [[(.bool x7), (.int .i64 x8)]] x17), (Blk.flat 3 1 [] x18), (Blk.flat 3 1 (List.map (encI .i64) ((Za ([] : List Int) x0 x2 x3 x4 true).c6)) false)]) (args := [(V.so ((Za ([] : List Int) x0 x2 x3 x4 true).c4) 7 (((Za ([] : List Int) x0 x2 x3 x4 true).c6).length)), (V.d .nils)]) (args1 := [(V.d (slD (encI .i64) true 1 ((Za ([] : List Int) x0 x2 x3 x4 true).c4) ((Za ([] : List Int) x0 x2 x3 x4 true).c6))), (V.d .nils)]) (Zc8 (Zhz (enc := (encI .i64)) (l := ((Za ([] : List Int) x0 x2 x3 x4 true).c6)) (b := ((Za ([] : List Int) x0 x2 x3 x4 true).c4)) (e := 3) (s := 1) (p := false) (n := (((Za ([] : List Int) x0 x2 x3 x4 true).c6).length)) (Nat.beq_refl _) (by kernel_rfl)) (by kernel_rfl)), .c (Zgm (Zrn x0 x2 x3 x4) (Zgk x0 x2 x3 x4) true [] (tbE h3))] (by kernel_rfl)
def Zep (x0 : Int) (x2 : List Int) (x3 x4 x12 : Int) (x23 : Bool) : Bool := (bif tb (x23) then (bif tb (Zp x0 x2 x3 x4) then (bif tb (Zbh x12) then true else false) else false) else true)
def Zeg (x0 x1 : Int) (x2 : List Int) (x3 x4 x12 x13 x19 : Int) (x23 : Bool) : Bool := (bif tb (x23) then (bif tb (true != ((Zo x0 x1 x2 x3 x4) == (Zb3 x12 x13))) then true else ((0 : Int) != (mnI 0 x19))) else true)
theorem Zn3 (x0 x1 : Int) (x2 : List Int) (x3 x4 : Int) (x5 x6 : List Int) (x7 : Bool) (x8 : Int) (x9 : Bool) (x10 : Int) (x11 : Bool) (x12 x13 : Int) (x14 x15 x16 x17 x18 : Bool) (x19 : Int) (x20 : Bool) (x21 : List Zh) (x22 : Int) (x23 : Bool) : Zep x0 x2 x3 x4 x12 x23 = true → segG (runC E0 (cl E0) S10_3) [0, 2, 7, 10, 11, 12, 13, 20] [] [0, 2, 7, 10, 11, 12, 13, 142] 7 ([(V.d (.int .i64 x19)), (V.d (slD Zd true 3 x20 x21)), (V.ptr 0 1 0 0), (V.ptr 1 1 0 0), (V.ptr 2 1 0 0), (V.so true 6 0), (V.d (.int .i64 x22)), (V.d (.bool x23))], [(Blk.flat 82 20 [([(.int .i64 x0), (.int .i64 x1)] ++ arrD .i64 x2 16 ++ [(.int .i64 x3), (.int .i64 x4)])] x9), (Blk.gen 84 3 [[(V.ptr 0 1 0 0), (V.d (.int .i64 x10)), (V.d (.int .i64 0))]] x11), (Blk.gen 86 3 [[(V.d (.int .i64 x12)), (V.d (.int .i64 x13)), (V.d .nils)]] x14), (Blk.flat 3 1 (List.map (encI .i64) x5) x15), (Blk.flat 3 1 (List.map (encI .i64) x6) x16), (Blk.flat 53 2 [[(.bool x7), (.int .i64 x8)]] x17), (Blk.flat 3 1 [] x18)]) = some (.normal, ([(V.d (.int .i64 x19)), (V.d (slD Zd true 3 x20 x21)), (V.ptr 0 1 0 0), (V.ptr 1 1 0 0), (V.ptr 2 1 0 0), (V.so true 6 0), (V.d (.int .i64 x22)), (V.d (.bool (Zeg x0 x1 x2 x3 x4 x12 x13 x19 x23)))], [(Blk.flat 82 20 [([(.int .i64 x0), (.int .i64 x1)] ++ arrD .i64 x2 16 ++ [(.int .i64 x3), (.int .i64 x4)])] x9), (Blk.gen 84 3 [[(V.ptr 0 1 0 0), (V.d (.int .i64 x10)), (V.d (.int .i64 0))]] x11), (Blk.gen 86 3 [[(V.d (.int .i64 x12)), (V.d (.int .i64 x13)), (V.d .nils)]] x14), (Blk.flat 3 1 (List.map (encI .i64) x5) x15), (Blk.flat 3 1 (List.map (encI .i64) x6) x16), (Blk.flat 53 2 [[(.bool x7), (.int .i64 x8)]] x17), (Blk.flat 3 1 [] x18)])) := by
 unfold Zep Zeg
 cases h1 : tb (x23)
 ·exact fun g0 => Z2 [.b (notF (tbE h1))] (by kernel_rfl)
 ·cases h2 : tb (Zp x0 x2 x3 x4)
  ·exact ZN
  ·cases h3 : tb (Zbh x12)
   ·exact ZN
   ·cases h4 : tb (true != ((Zo x0 x1 x2 x3 x4) == (Zb3 x12 x13)))
    ·exact fun g0 => Z2 [.b (notT (tbE h1)), .c (Z0 x0 x1 x2 x3 x4 x9 (tbE h2)), .c (Zca x12 x13 x14 (tbE h3)), .b (tbE h4), .c (Zcc x0 x1 x2 x3 x4 x10 0 x11 x9)] (by kernel_rfl)
    ·exact fun g0 => Z2 [.b (notT (tbE h1)), .c (Z0 x0 x1 x2 x3 x4 x9 (tbE h2)), .c (Zca x12 x13 x14 (tbE h3)), .b (tbE h4)] (by kernel_rfl)
def Zri (x0 : Int) (x2 : List Int) (x3 x4 : Int) : Bool := ((Za ([] : List Int) x0 x2 x3 x4 true).c4)
def Zgl (x0 : Int) (x2 : List Int) (x3 x4 : Int) : List Int := ((Za ([] : List Int) x0 x2 x3 x4 true).c6)
def Zej (x0 : Int) (x2 : List Int) (x3 x4 x14 : Int) : Bool := (bif tb (Zt x0 x2 x3 x4) then (bif tb (Zb7 x14) then (bif tb (Zbq (Zgl x0 x2 x3 x4) []) then true else false) else false) else false)
theorem Znx (x0 x1 : Int) (x2 : List Int) (x3 x4 : Int) (x5 x6 : List Int) (x7 : Bool) (x8 : Int) (x9 : List Int) (x10 : Bool) (x11 x12 : Int) (x13 : Bool) (x14 x15 : Int) (x16 x17 x18 x19 x20 : Bool) (x21 : Int) (x22 : Bool) (x23 : List Zh) (x24 : Int) : Zej x0 x2 x3 x4 x14 = true → segG (runC E0 (cl E0) S10_2) [0, 2, 7, 10, 11, 12, 13] [] [0, 2, 7, 10, 11, 12, 13, 20] 7 ([(V.d (.int .i64 x21)), (V.d (slD Zd true 3 x22 x23)), (V.ptr 0 1 0 0), (V.ptr 1 1 0 0), (V.ptr 2 1 0 0), (V.so false 6 x9.length), (V.d (.int .i64 x24))], [(Blk.flat 82 20 [([(.int .i64 x0), (.int .i64 x1)] ++ arrD .i64 x2 16 ++ [(.int .i64 x3), (.int .i64 x4)])] x10), (Blk.gen 84 3 [[(V.ptr 0 1 0 0), (V.d (.int .i64 x11)), (V.d (.int .i64 x12))]] x13), (Blk.gen 86 3 [[(V.d (.int .i64 x14)), (V.d (.int .i64 x15)), (V.d .nils)]] x16), (Blk.flat 3 1 (List.map (encI .i64) x5) x17), (Blk.flat 3 1 (List.map (encI .i64) x6) x18), (Blk.flat 53 2 [[(.bool x7), (.int .i64 x8)]] x19), (Blk.flat 3 1 (List.map (encI .i64) x9) x20)]) = some (.normal, ([(V.d (.int .i64 x21)), (V.d (slD Zd true 3 x22 x23)), (V.ptr 0 1 0 0), (V.ptr 1 1 0 0), (V.ptr 2 1 0 0), (V.so false 6 x9.length), (V.d (.int .i64 x24)), (V.d (.bool (Zb4 (Zgl x0 x2 x3 x4) [])))], [(Blk.flat 82 20 [([(.int .i64 x0), (.int .i64 x1)] ++ arrD .i64 x2 16 ++ [(.int .i64 x3), (.int .i64 x4)])] x10), (Blk.gen 84 3 [[(V.ptr 0 1 0 0), (V.d (.int .i64 x11)), (V.d (.int .i64 x12))]] x13), (Blk.gen 86 3 [[(V.d (.int .i64 x14)), (V.d (.int .i64 x15)), (V.d .nils)]] x16), (Blk.flat 3 1 (List.map (encI .i64) x5) x17), (Blk.flat 3 1 (List.map (encI .i64) x6) x18), (Blk.flat 53 2 [[(.bool x7), (.int .i64 x8)]] x19), (Blk.flat 3 1 (List.map (encI .i64) x9) x20)])) := by
 unfold Zej
 cases h1 : tb (Zt x0 x2 x3 x4)
 ·exact ZN
 ·cases h2 : tb (Zb7 x14)
  ·exact ZN
  ·cases h3 : tb (Zbq (Zgl x0 x2 x3 x4) [])
   ·exact ZN
   ·exact fun g0 => Z2 [.c (Zbd x0 x1 x2 x3 x4 x10 (tbE h1)), .c (Zhn x14 x15 x16 (tbE h2)), .y (mm := [(Blk.flat 82 20 [([(.int .i64 x0), (.int .i64 x1)] ++ arrD .i64 x2 16 ++ [(.int .i64 x3), (.int .i64 x4)])] x10), (Blk.gen 84 3 [[(V.ptr 0 1 0 0), (V.d (.int .i64 x11)), (V.d (.int .i64 x12))]] x13), (Blk.gen 86 3 [[(V.d (.int .i64 x14)), (V.d (.int .i64 x15)), (V.d .nils)]] x16), (Blk.flat 3 1 (List.map (encI .i64) x5) x17), (Blk.flat 3 1 (List.map (encI .i64) x6) x18), (Blk.flat 53 2 [[(.bool x7), (.int .i64 x8)]] x19), (Blk.flat 3 1 (List.map (encI .i64) x9) x20), (Blk.flat 3 1 (List.map (encI .i64) ((Za ([] : List Int) x0 x2 x3 x4 true).c6)) false)]) (args := [(V.so ((Za ([] : List Int) x0 x2 x3 x4 true).c4) 7 (((Za ([] : List Int) x0 x2 x3 x4 true).c6).length)), (V.d .nils)]) (args1 := [(V.d (slD (encI .i64) true 1 ((Za ([] : List Int) x0 x2 x3 x4 true).c4) ((Za ([] : List Int) x0 x2 x3 x4 true).c6))), (V.d .nils)]) (Zc8 (Zhz (enc := (encI .i64)) (l := ((Za ([] : List Int) x0 x2 x3 x4 true).c6)) (b := ((Za ([] : List Int) x0 x2 x3 x4 true).c4)) (e := 3) (s := 1) (p := false) (n := (((Za ([] : List Int) x0 x2 x3 x4 true).c6).length)) (Nat.beq_refl _) (by kernel_rfl)) (by kernel_rfl)), .c (Zgm (Zri x0 x2 x3 x4) (Zgl x0 x2 x3 x4) true [] (tbE h3))] (by kernel_rfl)
def Zeo (x0 : Int) (x2 : List Int) (x3 x4 x14 : Int) (x25 : Bool) : Bool := (bif tb (x25) then (bif tb (Zp x0 x2 x3 x4) then (bif tb (Zbh x14) then true else false) else false) else true)
def Zee (x0 x1 : Int) (x2 : List Int) (x3 x4 : Int) (x9 : List Int) (x12 x14 x15 x21 : Int) (x25 : Bool) : Bool := (bif tb (x25) then (bif tb (true != ((Zo x0 x1 x2 x3 x4) == (Zb3 x14 x15))) then true else ((x12 : Int) != (mnI ((x9.length : Nat) : Int) x21))) else true)
theorem Znt (x0 x1 : Int) (x2 : List Int) (x3 x4 : Int) (x5 x6 : List Int) (x7 : Bool) (x8 : Int) (x9 : List Int) (x10 : Bool) (x11 x12 : Int) (x13 : Bool) (x14 x15 : Int) (x16 x17 x18 x19 x20 : Bool) (x21 : Int) (x22 : Bool) (x23 : List Zh) (x24 : Int) (x25 : Bool) : Zeo x0 x2 x3 x4 x14 x25 = true → segG (runC E0 (cl E0) S10_3) [0, 2, 7, 10, 11, 12, 13, 20] [] [0, 2, 7, 10, 11, 12, 13, 142] 7 ([(V.d (.int .i64 x21)), (V.d (slD Zd true 3 x22 x23)), (V.ptr 0 1 0 0), (V.ptr 1 1 0 0), (V.ptr 2 1 0 0), (V.so false 6 x9.length), (V.d (.int .i64 x24)), (V.d (.bool x25))], [(Blk.flat 82 20 [([(.int .i64 x0), (.int .i64 x1)] ++ arrD .i64 x2 16 ++ [(.int .i64 x3), (.int .i64 x4)])] x10), (Blk.gen 84 3 [[(V.ptr 0 1 0 0), (V.d (.int .i64 x11)), (V.d (.int .i64 x12))]] x13), (Blk.gen 86 3 [[(V.d (.int .i64 x14)), (V.d (.int .i64 x15)), (V.d .nils)]] x16), (Blk.flat 3 1 (List.map (encI .i64) x5) x17), (Blk.flat 3 1 (List.map (encI .i64) x6) x18), (Blk.flat 53 2 [[(.bool x7), (.int .i64 x8)]] x19), (Blk.flat 3 1 (List.map (encI .i64) x9) x20)]) = some (.normal, ([(V.d (.int .i64 x21)), (V.d (slD Zd true 3 x22 x23)), (V.ptr 0 1 0 0), (V.ptr 1 1 0 0), (V.ptr 2 1 0 0), (V.so false 6 x9.length), (V.d (.int .i64 x24)), (V.d (.bool (Zee x0 x1 x2 x3 x4 x9 x12 x14 x15 x21 x25)))], [(Blk.flat 82 20 [([(.int .i64 x0), (.int .i64 x1)] ++ arrD .i64 x2 16 ++ [(.int .i64 x3), (.int .i64 x4)])] x10), (Blk.gen 84 3 [[(V.ptr 0 1 0 0), (V.d (.int .i64 x11)), (V.d (.int .i64 x12))]] x13), (Blk.gen 86 3 [[(V.d (.int .i64 x14)), (V.d (.int .i64 x15)), (V.d .nils)]] x16), (Blk.flat 3 1 (List.map (encI .i64) x5) x17), (Blk.flat 3 1 (List.map (encI .i64) x6) x18), (Blk.flat 53 2 [[(.bool x7), (.int .i64 x8)]] x19), (Blk.flat 3 1 (List.map (encI .i64) x9) x20)])) := by
 unfold Zeo Zee
 cases h1 : tb (x25)
 ·exact fun g0 => Z2 [.b (notF (tbE h1))] (by kernel_rfl)
 ·cases h2 : tb (Zp x0 x2 x3 x4)
  ·exact ZN
  ·cases h3 : tb (Zbh x14)
   ·exact ZN
   ·cases h4 : tb (true != ((Zo x0 x1 x2 x3 x4) == (Zb3 x14 x15)))
    ·exact fun g0 => Z2 [.b (notT (tbE h1)), .c (Z0 x0 x1 x2 x3 x4 x10 (tbE h2)), .c (Zca x14 x15 x16 (tbE h3)), .b (tbE h4), .c (Zcc x0 x1 x2 x3 x4 x11 x12 x13 x10)] (by kernel_rfl)
    ·exact fun g0 => Z2 [.b (notT (tbE h1)), .c (Z0 x0 x1 x2 x3 x4 x10 (tbE h2)), .c (Zca x14 x15 x16 (tbE h3)), .b (tbE h4)] (by kernel_rfl)
def Zcy (x20 : List Zh) (x22 : Int) : Bool := (bif tb (decide (x22 < ((x20.length : Nat) : Int))) then true else false)
theorem Zdp (x0 x1 : Int) (x2 : List Int) (x3 x4 : Int) (x5 x6 x7 : List Int) (x8 : Bool) (x9 x10 : Int) (x11 : Bool) (x12 x13 : Int) (x14 x15 x16 x17 : Bool) (x18 : Int) (x19 : Bool) (x20 : List Zh) (x21 : Bool) (x22 : Int) : Zcy x20 x22 = true → segG (runC E0 (cl E0) S10_1) [0, 2, 7, 10, 11, 12, 13] [] [0, 2, 7, 10, 11, 12, 13] 6 ([(V.d (.int .i64 x18)), (V.d (slD Zd true 3 x19 x20)), (V.ptr 0 1 0 0), (V.ptr 1 1 0 0), (V.ptr 2 1 0 0), (V.so x21 5 x7.length), (V.d (.int .i64 x22))], [(Blk.flat 82 20 [([(.int .i64 x0), (.int .i64 x1)] ++ arrD .i64 x2 16 ++ [(.int .i64 x3), (.int .i64 x4)])] x8), (Blk.gen 84 3 [[(V.ptr 0 1 0 0), (V.d (.int .i64 x9)), (V.d (.int .i64 x10))]] x11), (Blk.gen 86 3 [[(V.d (.int .i64 x12)), (V.d (.int .i64 x13)), (V.so false 4 x6.length)]] x14), (Blk.flat 3 1 (List.map (encI .i64) x5) x15), (Blk.flat 3 1 (List.map (encI .i64) x6) x16), (Blk.flat 3 1 (List.map (encI .i64) x7) x17)]) = some (.normal, ([(V.d (.int .i64 x18)), (V.d (slD Zd true 3 x19 x20)), (V.ptr 0 1 0 0), (V.ptr 1 1 0 0), (V.ptr 2 1 0 0), (V.so x21 5 x7.length), (V.d (.int .i64 x22))], [(Blk.flat 82 20 [([(.int .i64 x0), (.int .i64 x1)] ++ arrD .i64 x2 16 ++ [(.int .i64 x3), (.int .i64 x4)])] x8), (Blk.gen 84 3 [[(V.ptr 0 1 0 0), (V.d (.int .i64 x9)), (V.d (.int .i64 x10))]] x11), (Blk.gen 86 3 [[(V.d (.int .i64 x12)), (V.d (.int .i64 x13)), (V.so false 4 x6.length)]] x14), (Blk.flat 3 1 (List.map (encI .i64) x5) x15), (Blk.flat 3 1 (List.map (encI .i64) x6) x16), (Blk.flat 3 1 (List.map (encI .i64) x7) x17)])) := by
 unfold Zcy
 cases h1 : tb (decide (x22 < ((x20.length : Nat) : Int)))
 ·exact ZN
 ·exact fun g0 => Z2 [.o 66 (fun _ => Zes (enc := Zd) (l := x20) (fl := true) (n := x19) (s := 3)), .b (tbE h1)] (by kernel_rfl)
theorem Zsk (x0 x1 : Int) (x2 : List Int) (x3 x4 : Int) (x5 x6 x7 : List Int) (x8 : Bool) (x9 x10 : Int) (x11 : Bool) (x12 x13 : Int) (x14 x15 x16 x17 : Bool) (x18 : Int) (x19 : Bool) (x20 : List Zh) (x21 : Bool) (x22 : Int) : Zcy x20 x22 = false → segG (runC E0 (cl E0) S10_1) [0, 2, 7, 10, 11, 12, 13] [] [0, 2, 7, 10, 11, 12, 13] 6 ([(V.d (.int .i64 x18)), (V.d (slD Zd true 3 x19 x20)), (V.ptr 0 1 0 0), (V.ptr 1 1 0 0), (V.ptr 2 1 0 0), (V.so x21 5 x7.length), (V.d (.int .i64 x22))], [(Blk.flat 82 20 [([(.int .i64 x0), (.int .i64 x1)] ++ arrD .i64 x2 16 ++ [(.int .i64 x3), (.int .i64 x4)])] x8), (Blk.gen 84 3 [[(V.ptr 0 1 0 0), (V.d (.int .i64 x9)), (V.d (.int .i64 x10))]] x11), (Blk.gen 86 3 [[(V.d (.int .i64 x12)), (V.d (.int .i64 x13)), (V.so false 4 x6.length)]] x14), (Blk.flat 3 1 (List.map (encI .i64) x5) x15), (Blk.flat 3 1 (List.map (encI .i64) x6) x16), (Blk.flat 3 1 (List.map (encI .i64) x7) x17)]) = some ((.exit 0), ([], [(Blk.flat 82 20 [([(.int .i64 x0), (.int .i64 x1)] ++ arrD .i64 x2 16 ++ [(.int .i64 x3), (.int .i64 x4)])] x8), (Blk.gen 84 3 [[(V.ptr 0 1 0 0), (V.d (.int .i64 x9)), (V.d (.int .i64 x10))]] x11), (Blk.gen 86 3 [[(V.d (.int .i64 x12)), (V.d (.int .i64 x13)), (V.so false 4 x6.length)]] x14), (Blk.flat 3 1 (List.map (encI .i64) x5) x15), (Blk.flat 3 1 (List.map (encI .i64) x6) x16), (Blk.flat 3 1 (List.map (encI .i64) x7) x17)])) := by
 unfold Zcy
 cases h1 : tb (decide (x22 < ((x20.length : Nat) : Int)))
 ·exact fun g0 => Z2 [.o 66 (fun _ => Zes (enc := Zd) (l := x20) (fl := true) (n := x19) (s := 3)), .b (tbE h1)] (by kernel_rfl)
 ·exact fun g0 => absurd g0 tf
def Zno (x0 : Int) (x2 : List Int) (x3 x4 : Int) : Bool := ((Za ([] : List Int) x0 x2 x3 x4 true).c4)
def Zeq (x0 : Int) (x2 : List Int) (x3 x4 : Int) : List Int := ((Za ([] : List Int) x0 x2 x3 x4 true).c6)
def Zg4 (x10 : List Int) (x15 : Int) : List Int := (sub x10 (mxI 0 (wi (((x10.length : Nat) : Int) - (wi (x15 - 1))))) ((x10.length : Nat) : Int))
def Zfa (x0 : Int) (x2 : List Int) (x3 x4 : Int) (x10 : List Int) (x15 : Int) : Bool := (bif tb (Zt x0 x2 x3 x4) then (bif tb (Zr x10 x15) then (bif tb (ins x10.length (mxI 0 (wi (((x10.length : Nat) : Int) - (wi (x15 - 1))))) ((x10.length : Nat) : Int)) then (bif tb (Zbq (Zeq x0 x2 x3 x4) (Zg4 x10 x15)) then true else false) else false) else (bif tb (Zbj x10 x15 false) then (bif tb (Zea (Zeq x0 x2 x3 x4)) then true else false) else false)) else false)
def Zha (x0 : Int) (x2 : List Int) (x3 x4 : Int) (x10 : List Int) (x15 : Int) : Bool := (bif tb (Zr x10 x15) then (Zb4 (Zeq x0 x2 x3 x4) (Zg4 x10 x15)) else (Zho (Zeq x0 x2 x3 x4)))
theorem Zn2 (x0 x1 : Int) (x2 : List Int) (x3 x4 : Int) (x5 x6 x7 : List Int) (x8 : Bool) (x9 : Int) (x10 : List Int) (x11 : Bool) (x12 x13 : Int) (x14 : Bool) (x15 x16 : Int) (x17 x18 x19 x20 x21 x22 : Bool) (x23 : Int) (x24 : Bool) (x25 : List Zh) (x26 : Bool) (x27 : Int) : Zfa x0 x2 x3 x4 x10 x15 = true → segG (runC E0 (cl E0) S10_2) [0, 2, 7, 10, 11, 12, 13] [] [0, 2, 7, 10, 11, 12, 13, 20] 8 ([(V.d (.int .i64 x23)), (V.d (slD Zd true 3 x24 x25)), (V.ptr 0 1 0 0), (V.ptr 1 1 0 0), (V.ptr 2 1 0 0), (V.so x26 5 x7.length), (V.d (.int .i64 x27))], [(Blk.flat 82 20 [([(.int .i64 x0), (.int .i64 x1)] ++ arrD .i64 x2 16 ++ [(.int .i64 x3), (.int .i64 x4)])] x11), (Blk.gen 84 3 [[(V.ptr 0 1 0 0), (V.d (.int .i64 x12)), (V.d (.int .i64 x13))]] x14), (Blk.gen 86 3 [[(V.d (.int .i64 x15)), (V.d (.int .i64 x16)), (V.so false 7 x10.length)]] x17), (Blk.flat 3 1 (List.map (encI .i64) x5) x18), (Blk.flat 3 1 (List.map (encI .i64) x6) x19), (Blk.flat 3 1 (List.map (encI .i64) x7) x20), (Blk.flat 53 2 [[(.bool x8), (.int .i64 x9)]] x21), (Blk.flat 3 1 (List.map (encI .i64) x10) x22)]) = some (.normal, ([(V.d (.int .i64 x23)), (V.d (slD Zd true 3 x24 x25)), (V.ptr 0 1 0 0), (V.ptr 1 1 0 0), (V.ptr 2 1 0 0), (V.so x26 5 x7.length), (V.d (.int .i64 x27)), (V.d (.bool (Zha x0 x2 x3 x4 x10 x15)))], [(Blk.flat 82 20 [([(.int .i64 x0), (.int .i64 x1)] ++ arrD .i64 x2 16 ++ [(.int .i64 x3), (.int .i64 x4)])] x11), (Blk.gen 84 3 [[(V.ptr 0 1 0 0), (V.d (.int .i64 x12)), (V.d (.int .i64 x13))]] x14), (Blk.gen 86 3 [[(V.d (.int .i64 x15)), (V.d (.int .i64 x16)), (V.so false 7 x10.length)]] x17), (Blk.flat 3 1 (List.map (encI .i64) x5) x18), (Blk.flat 3 1 (List.map (encI .i64) x6) x19), (Blk.flat 3 1 (List.map (encI .i64) x7) x20), (Blk.flat 53 2 [[(.bool x8), (.int .i64 x9)]] x21), (Blk.flat 3 1 (List.map (encI .i64) x10) x22)])) := by
 unfold Zfa Zha
 cases h1 : tb (Zt x0 x2 x3 x4)
 ·exact ZN
 ·cases h2 : tb (Zr x10 x15)
  ·cases h3 : tb (Zbj x10 x15 false)
   ·exact ZN
   ·cases h4 : tb (Zea (Zeq x0 x2 x3 x4))
    ·exact ZN
    ·exact fun g0 => Z2 [.c (Zbd x0 x1 x2 x3 x4 x11 (tbE h1)), .c (Zef x10 x15 x16 false x17 x22 (tbE h2) (tbE h3)), .y (mm := [(Blk.flat 82 20 [([(.int .i64 x0), (.int .i64 x1)] ++ arrD .i64 x2 16 ++ [(.int .i64 x3), (.int .i64 x4)])] x11), (Blk.gen 84 3 [[(V.ptr 0 1 0 0), (V.d (.int .i64 x12)), (V.d (.int .i64 x13))]] x14), (Blk.gen 86 3 [[(V.d (.int .i64 x15)), (V.d (.int .i64 x16)), (V.so false 7 x10.length)]] x17), (Blk.flat 3 1 (List.map (encI .i64) x5) x18), (Blk.flat 3 1 (List.map (encI .i64) x6) x19), (Blk.flat 3 1 (List.map (encI .i64) x7) x20), (Blk.flat 53 2 [[(.bool x8), (.int .i64 x9)]] x21), (Blk.flat 3 1 (List.map (encI .i64) x10) x22), (Blk.flat 3 1 (List.map (encI .i64) ((Za ([] : List Int) x0 x2 x3 x4 true).c6)) false)]) (args := [(V.so ((Za ([] : List Int) x0 x2 x3 x4 true).c4) 8 (((Za ([] : List Int) x0 x2 x3 x4 true).c6).length)), (V.d (.rs false 1 [] false))]) (args1 := [(V.d (slD (encI .i64) true 1 ((Za ([] : List Int) x0 x2 x3 x4 true).c4) ((Za ([] : List Int) x0 x2 x3 x4 true).c6))), (V.d (.rs false 1 [] false))]) (Zc8 (Zhz (enc := (encI .i64)) (l := ((Za ([] : List Int) x0 x2 x3 x4 true).c6)) (b := ((Za ([] : List Int) x0 x2 x3 x4 true).c4)) (e := 3) (s := 1) (p := false) (n := (((Za ([] : List Int) x0 x2 x3 x4 true).c6).length)) (Nat.beq_refl _) (by kernel_rfl)) (by kernel_rfl)), .c (Zi7 (Zno x0 x2 x3 x4) (Zeq x0 x2 x3 x4) (tbE h4))] (by kernel_rfl)
  ·cases h3 : tb (ins x10.length (mxI 0 (wi (((x10.length : Nat) : Int) - (wi (x15 - 1))))) ((x10.length : Nat) : Int))
   ·exact ZN
   ·cases h4 : tb (Zbq (Zeq x0 x2 x3 x4) (Zg4 x10 x15))
    ·exact ZN
    ·exact fun g0 => Z2 [.c (Zbd x0 x1 x2 x3 x4 x11 (tbE h1)), .c (Zeh x10 x15 x16 false x17 x22 (tbE h2)), .y (mm := [(Blk.flat 82 20 [([(.int .i64 x0), (.int .i64 x1)] ++ arrD .i64 x2 16 ++ [(.int .i64 x3), (.int .i64 x4)])] x11), (Blk.gen 84 3 [[(V.ptr 0 1 0 0), (V.d (.int .i64 x12)), (V.d (.int .i64 x13))]] x14), (Blk.gen 86 3 [[(V.d (.int .i64 x15)), (V.d (.int .i64 x16)), (V.so false 7 x10.length)]] x17), (Blk.flat 3 1 (List.map (encI .i64) x5) x18), (Blk.flat 3 1 (List.map (encI .i64) x6) x19), (Blk.flat 3 1 (List.map (encI .i64) x7) x20), (Blk.flat 53 2 [[(.bool x8), (.int .i64 x9)]] x21), (Blk.flat 3 1 (List.map (encI .i64) x10) x22), (Blk.flat 3 1 (List.map (encI .i64) ((Za ([] : List Int) x0 x2 x3 x4 true).c6)) false)]) (args := [(V.so ((Za ([] : List Int) x0 x2 x3 x4 true).c4) 8 (((Za ([] : List Int) x0 x2 x3 x4 true).c6).length)), (V.sl 7 x10.length ((mxI 0 (wi (((x10.length : Nat) : Int) - (wi (x15 - 1))))) : Int).toNat ((((x10.length : Nat) : Int) : Int).toNat - ((mxI 0 (wi (((x10.length : Nat) : Int) - (wi (x15 - 1))))) : Int).toNat))]) (args1 := [(V.d (slD (encI .i64) true 1 ((Za ([] : List Int) x0 x2 x3 x4 true).c4) ((Za ([] : List Int) x0 x2 x3 x4 true).c6))), (V.d (.rs true 1 (List.map (encI .i64) (sub x10 (mxI 0 (wi (((x10.length : Nat) : Int) - (wi (x15 - 1))))) ((x10.length : Nat) : Int))) false))]) (Zc8 (Zhz (enc := (encI .i64)) (l := ((Za ([] : List Int) x0 x2 x3 x4 true).c6)) (b := ((Za ([] : List Int) x0 x2 x3 x4 true).c4)) (e := 3) (s := 1) (p := false) (n := (((Za ([] : List Int) x0 x2 x3 x4 true).c6).length)) (Nat.beq_refl _) (by kernel_rfl)) (Zc8 (Zml (enc := (encI .i64)) (l := x10) (e := 3) (s := 1) (p := x22) (n := x10.length) (lo := (mxI 0 (wi (((x10.length : Nat) : Int) - (wi (x15 - 1)))))) (hi := ((x10.length : Nat) : Int)) (Nat.beq_refl _) (by kernel_rfl) (tbE h3)) (by kernel_rfl))), .c (Zgm (Zno x0 x2 x3 x4) (Zeq x0 x2 x3 x4) false (Zg4 x10 x15) (tbE h4))] (by kernel_rfl)
def Zff (x0 : Int) (x2 : List Int) (x3 x4 : Int) (x10 : List Int) (x15 : Int) (x28 : Bool) : Bool := (bif tb (x28) then (bif tb (Zp x0 x2 x3 x4) then (bif tb (Z1 x10 x15 false) then true else false) else false) else true)
def Zfi (x0 x1 : Int) (x2 : List Int) (x3 x4 : Int) (x7 x10 : List Int) (x13 x15 x16 x23 : Int) (x28 : Bool) : Bool := (bif tb (x28) then (bif tb (true != ((Zo x0 x1 x2 x3 x4) == (Zba x10 x15 x16))) then true else ((x13 : Int) != (mnI ((x7.length : Nat) : Int) x23))) else true)
theorem Zn1 (x0 x1 : Int) (x2 : List Int) (x3 x4 : Int) (x5 x6 x7 : List Int) (x8 : Bool) (x9 : Int) (x10 : List Int) (x11 : Bool) (x12 x13 : Int) (x14 : Bool) (x15 x16 : Int) (x17 x18 x19 x20 x21 x22 : Bool) (x23 : Int) (x24 : Bool) (x25 : List Zh) (x26 : Bool) (x27 : Int) (x28 : Bool) : Zff x0 x2 x3 x4 x10 x15 x28 = true → segG (runC E0 (cl E0) S10_3) [0, 2, 7, 10, 11, 12, 13, 20] [] [0, 2, 7, 10, 11, 12, 13, 142] 8 ([(V.d (.int .i64 x23)), (V.d (slD Zd true 3 x24 x25)), (V.ptr 0 1 0 0), (V.ptr 1 1 0 0), (V.ptr 2 1 0 0), (V.so x26 5 x7.length), (V.d (.int .i64 x27)), (V.d (.bool x28))], [(Blk.flat 82 20 [([(.int .i64 x0), (.int .i64 x1)] ++ arrD .i64 x2 16 ++ [(.int .i64 x3), (.int .i64 x4)])] x11), (Blk.gen 84 3 [[(V.ptr 0 1 0 0), (V.d (.int .i64 x12)), (V.d (.int .i64 x13))]] x14), (Blk.gen 86 3 [[(V.d (.int .i64 x15)), (V.d (.int .i64 x16)), (V.so false 7 x10.length)]] x17), (Blk.flat 3 1 (List.map (encI .i64) x5) x18), (Blk.flat 3 1 (List.map (encI .i64) x6) x19), (Blk.flat 3 1 (List.map (encI .i64) x7) x20), (Blk.flat 53 2 [[(.bool x8), (.int .i64 x9)]] x21), (Blk.flat 3 1 (List.map (encI .i64) x10) x22)]) = some (.normal, ([(V.d (.int .i64 x23)), (V.d (slD Zd true 3 x24 x25)), (V.ptr 0 1 0 0), (V.ptr 1 1 0 0), (V.ptr 2 1 0 0), (V.so x26 5 x7.length), (V.d (.int .i64 x27)), (V.d (.bool (Zfi x0 x1 x2 x3 x4 x7 x10 x13 x15 x16 x23 x28)))], [(Blk.flat 82 20 [([(.int .i64 x0), (.int .i64 x1)] ++ arrD .i64 x2 16 ++ [(.int .i64 x3), (.int .i64 x4)])] x11), (Blk.gen 84 3 [[(V.ptr 0 1 0 0), (V.d (.int .i64 x12)), (V.d (.int .i64 x13))]] x14), (Blk.gen 86 3 [[(V.d (.int .i64 x15)), (V.d (.int .i64 x16)), (V.so false 7 x10.length)]] x17), (Blk.flat 3 1 (List.map (encI .i64) x5) x18), (Blk.flat 3 1 (List.map (encI .i64) x6) x19), (Blk.flat 3 1 (List.map (encI .i64) x7) x20), (Blk.flat 53 2 [[(.bool x8), (.int .i64 x9)]] x21), (Blk.flat 3 1 (List.map (encI .i64) x10) x22)])) := by
 unfold Zff Zfi
 cases h1 : tb (x28)
 ·exact fun g0 => Z2 [.b (notF (tbE h1))] (by kernel_rfl)
 ·cases h2 : tb (Zp x0 x2 x3 x4)
  ·exact ZN
  ·cases h3 : tb (Z1 x10 x15 false)
   ·exact ZN
   ·cases h4 : tb (true != ((Zo x0 x1 x2 x3 x4) == (Zba x10 x15 x16)))
    ·exact fun g0 => Z2 [.b (notT (tbE h1)), .c (Z0 x0 x1 x2 x3 x4 x11 (tbE h2)), .c (Zbc x10 x15 x16 false x17 x22 (tbE h3)), .b (tbE h4), .c (Zcc x0 x1 x2 x3 x4 x12 x13 x14 x11)] (by kernel_rfl)
    ·exact fun g0 => Z2 [.b (notT (tbE h1)), .c (Z0 x0 x1 x2 x3 x4 x11 (tbE h2)), .c (Zbc x10 x15 x16 false x17 x22 (tbE h3)), .b (tbE h4)] (by kernel_rfl)
def Znq (x0 : Int) (x2 : List Int) (x3 x4 : Int) : Bool := ((Za ([] : List Int) x0 x2 x3 x4 true).c4)
def Zei (x0 : Int) (x2 : List Int) (x3 x4 : Int) : List Int := ((Za ([] : List Int) x0 x2 x3 x4 true).c6)
def Zg5 (x6 : List Int) (x14 : Int) : List Int := (sub x6 (mxI 0 (wi (((x6.length : Nat) : Int) - (wi (x14 - 1))))) ((x6.length : Nat) : Int))
def Zc0 (x0 : Int) (x2 : List Int) (x3 x4 : Int) (x6 : List Int) (x14 : Int) : Bool := (bif tb (Zt x0 x2 x3 x4) then (bif tb (Zr x6 x14) then (bif tb (ins x6.length (mxI 0 (wi (((x6.length : Nat) : Int) - (wi (x14 - 1))))) ((x6.length : Nat) : Int)) then (bif tb (Zbq (Zei x0 x2 x3 x4) (Zg5 x6 x14)) then true else false) else false) else (bif tb (Zbj x6 x14 false) then (bif tb (Zea (Zei x0 x2 x3 x4)) then true else false) else false)) else false)
def Zgp (x0 : Int) (x2 : List Int) (x3 x4 : Int) (x6 : List Int) (x14 : Int) : Bool := (bif tb (Zr x6 x14) then (Zb4 (Zei x0 x2 x3 x4) (Zg5 x6 x14)) else (Zho (Zei x0 x2 x3 x4)))
theorem Zkq (x0 x1 : Int) (x2 : List Int) (x3 x4 : Int) (x5 x6 x7 : List Int) (x8 : Bool) (x9 : Int) (x10 : Bool) (x11 x12 : Int) (x13 : Bool) (x14 x15 : Int) (x16 x17 x18 x19 x20 : Bool) (x21 : Int) (x22 : Bool) (x23 : List Zh) (x24 : Bool) (x25 : Int) : Zc0 x0 x2 x3 x4 x6 x14 = true → segG (runC E0 (cl E0) S10_2) [0, 2, 7, 10, 11, 12, 13] [] [0, 2, 7, 10, 11, 12, 13, 20] 7 ([(V.d (.int .i64 x21)), (V.d (slD Zd true 3 x22 x23)), (V.ptr 0 1 0 0), (V.ptr 1 1 0 0), (V.ptr 2 1 0 0), (V.so x24 5 x7.length), (V.d (.int .i64 x25))], [(Blk.flat 82 20 [([(.int .i64 x0), (.int .i64 x1)] ++ arrD .i64 x2 16 ++ [(.int .i64 x3), (.int .i64 x4)])] x10), (Blk.gen 84 3 [[(V.ptr 0 1 0 0), (V.d (.int .i64 x11)), (V.d (.int .i64 x12))]] x13), (Blk.gen 86 3 [[(V.d (.int .i64 x14)), (V.d (.int .i64 x15)), (V.so false 4 x6.length)]] x16), (Blk.flat 3 1 (List.map (encI .i64) x5) x17), (Blk.flat 3 1 (List.map (encI .i64) x6) x18), (Blk.flat 3 1 (List.map (encI .i64) x7) x19), (Blk.flat 53 2 [[(.bool x8), (.int .i64 x9)]] x20)]) = some (.normal, ([(V.d (.int .i64 x21)), (V.d (slD Zd true 3 x22 x23)), (V.ptr 0 1 0 0), (V.ptr 1 1 0 0), (V.ptr 2 1 0 0), (V.so x24 5 x7.length), (V.d (.int .i64 x25)), (V.d (.bool (Zgp x0 x2 x3 x4 x6 x14)))], [(Blk.flat 82 20 [([(.int .i64 x0), (.int .i64 x1)] ++ arrD .i64 x2 16 ++ [(.int .i64 x3), (.int .i64 x4)])] x10), (Blk.gen 84 3 [[(V.ptr 0 1 0 0), (V.d (.int .i64 x11)), (V.d (.int .i64 x12))]] x13), (Blk.gen 86 3 [[(V.d (.int .i64 x14)), (V.d (.int .i64 x15)), (V.so false 4 x6.length)]] x16), (Blk.flat 3 1 (List.map (encI .i64) x5) x17), (Blk.flat 3 1 (List.map (encI .i64) x6) x18), (Blk.flat 3 1 (List.map (encI .i64) x7) x19), (Blk.flat 53 2 [[(.bool x8), (.int .i64 x9)]] x20)])) := by
 unfold Zc0 Zgp
 cases h1 : tb (Zt x0 x2 x3 x4)
 ·exact ZN
 ·cases h2 : tb (Zr x6 x14)
  ·cases h3 : tb (Zbj x6 x14 false)
   ·exact ZN
   ·cases h4 : tb (Zea (Zei x0 x2 x3 x4))
    ·exact ZN
    ·exact fun g0 => Z2 [.c (Zbd x0 x1 x2 x3 x4 x10 (tbE h1)), .c (Zef x6 x14 x15 false x16 x18 (tbE h2) (tbE h3)), .y (mm := [(Blk.flat 82 20 [([(.int .i64 x0), (.int .i64 x1)] ++ arrD .i64 x2 16 ++ [(.int .i64 x3), (.int .i64 x4)])] x10), (Blk.gen 84 3 [[(V.ptr 0 1 0 0), (V.d (.int .i64 x11)), (V.d (.int .i64 x12))]] x13), (Blk.gen 86 3 [[(V.d (.int .i64 x14)), (V.d (.int .i64 x15)), (V.so false 4 x6.length)]] x16), (Blk.flat 3 1 (List.map (encI .i64) x5) x17), (Blk.flat 3 1 (List.map (encI .i64) x6) x18), (Blk.flat 3 1 (List.map (encI .i64) x7) x19), (Blk.flat 53 2 [[(.bool x8), (.int .i64 x9)]] x20), (Blk.flat 3 1 (List.map (encI .i64) ((Za ([] : List Int) x0 x2 x3 x4 true).c6)) false)]) (args := [(V.so ((Za ([] : List Int) x0 x2 x3 x4 true).c4) 7 (((Za ([] : List Int) x0 x2 x3 x4 true).c6).length)), (V.d (.rs false 1 [] false))]) (args1 := [(V.d (slD (encI .i64) true 1 ((Za ([] : List Int) x0 x2 x3 x4 true).c4) ((Za ([] : List Int) x0 x2 x3 x4 true).c6))), (V.d (.rs false 1 [] false))]) (Zc8 (Zhz (enc := (encI .i64)) (l := ((Za ([] : List Int) x0 x2 x3 x4 true).c6)) (b := ((Za ([] : List Int) x0 x2 x3 x4 true).c4)) (e := 3) (s := 1) (p := false) (n := (((Za ([] : List Int) x0 x2 x3 x4 true).c6).length)) (Nat.beq_refl _) (by kernel_rfl)) (by kernel_rfl)), .c (Zi7 (Znq x0 x2 x3 x4) (Zei x0 x2 x3 x4) (tbE h4))] (by kernel_rfl)
  ·cases h3 : tb (ins x6.length (mxI 0 (wi (((x6.length : Nat) : Int) - (wi (x14 - 1))))) ((x6.length : Nat) : Int))
   ·exact ZN
   ·cases h4 : tb (Zbq (Zei x0 x2 x3 x4) (Zg5 x6 x14))
    ·exact ZN
    ·exact fun g0 => Z2 [.c (Zbd x0 x1 x2 x3 x4 x10 (tbE h1)), .c (Zeh x6 x14 x15 false x16 x18 (tbE h2)), .y (mm := [(Blk.flat 82 20 [([(.int .i64 x0), (.int .i64 x1)] ++ arrD .i64 x2 16 ++ [(.int .i64 x3), (.int .i64 x4)])] x10), (Blk.gen 84 3 [[(V.ptr 0 1 0 0), (V.d (.int .i64 x11)), (V.d (.int .i64 x12))]] x13), (Blk.gen 86 3 [[(V.d (.int .i64 x14)), (V.d (.int .i64 x15)), (V.so false 4 x6.length)]] x16), (Blk.flat 3 1 (List.map (encI .i64) x5) x17), (Blk.flat 3 1 (List.map (encI .i64) x6) x18), (Blk.flat 3 1 (List.map (encI .i64) x7) x19), (Blk.flat 53 2 [[(.bool x8), (.int .i64 x9)]] x20), (Blk.flat 3 1 (List.map (encI .i64) ((Za ([] : List Int) x0 x2 x3 x4 true).c6)) false)]) (args := [(V.so ((Za ([] : List Int) x0 x2 x3 x4 true).c4) 7 (((Za ([] : List Int) x0 x2 x3 x4 true).c6).length)), (V.sl 4 x6.length ((mxI 0 (wi (((x6.length : Nat) : Int) - (wi (x14 - 1))))) : Int).toNat ((((x6.length : Nat) : Int) : Int).toNat - ((mxI 0 (wi (((x6.length : Nat) : Int) - (wi (x14 - 1))))) : Int).toNat))]) (args1 := [(V.d (slD (encI .i64) true 1 ((Za ([] : List Int) x0 x2 x3 x4 true).c4) ((Za ([] : List Int) x0 x2 x3 x4 true).c6))), (V.d (.rs true 1 (List.map (encI .i64) (sub x6 (mxI 0 (wi (((x6.length : Nat) : Int) - (wi (x14 - 1))))) ((x6.length : Nat) : Int))) false))]) (Zc8 (Zhz (enc := (encI .i64)) (l := ((Za ([] : List Int) x0 x2 x3 x4 true).c6)) (b := ((Za ([] : List Int) x0 x2 x3 x4 true).c4)) (e := 3) (s := 1) (p := false) (n := (((Za ([] : List Int) x0 x2 x3 x4 true).c6).length)) (Nat.beq_refl _) (by kernel_rfl)) (Zc8 (Zml (enc := (encI .i64)) (l := x6) (e := 3) (s := 1) (p := x18) (n := x6.length) (lo := (mxI 0 (wi (((x6.length : Nat) : Int) - (wi (x14 - 1)))))) (hi := ((x6.length : Nat) : Int)) (Nat.beq_refl _) (by kernel_rfl) (tbE h3)) (by kernel_rfl))), .c (Zgm (Znq x0 x2 x3 x4) (Zei x0 x2 x3 x4) false (Zg5 x6 x14) (tbE h4))] (by kernel_rfl)
def Zc1 (x0 : Int) (x2 : List Int) (x3 x4 : Int) (x6 : List Int) (x14 : Int) (x26 : Bool) : Bool := (bif tb (x26) then (bif tb (Zp x0 x2 x3 x4) then (bif tb (Z1 x6 x14 false) then true else false) else false) else true)
def Zc4 (x0 x1 : Int) (x2 : List Int) (x3 x4 : Int) (x6 x7 : List Int) (x12 x14 x15 x21 : Int) (x26 : Bool) : Bool := (bif tb (x26) then (bif tb (true != ((Zo x0 x1 x2 x3 x4) == (Zba x6 x14 x15))) then true else ((x12 : Int) != (mnI ((x7.length : Nat) : Int) x21))) else true)
theorem Zkp (x0 x1 : Int) (x2 : List Int) (x3 x4 : Int) (x5 x6 x7 : List Int) (x8 : Bool) (x9 : Int) (x10 : Bool) (x11 x12 : Int) (x13 : Bool) (x14 x15 : Int) (x16 x17 x18 x19 x20 : Bool) (x21 : Int) (x22 : Bool) (x23 : List Zh) (x24 : Bool) (x25 : Int) (x26 : Bool) : Zc1 x0 x2 x3 x4 x6 x14 x26 = true → segG (runC E0 (cl E0) S10_3) [0, 2, 7, 10, 11, 12, 13, 20] [] [0, 2, 7, 10, 11, 12, 13, 142] 7 ([(V.d (.int .i64 x21)), (V.d (slD Zd true 3 x22 x23)), (V.ptr 0 1 0 0), (V.ptr 1 1 0 0), (V.ptr 2 1 0 0), (V.so x24 5 x7.length), (V.d (.int .i64 x25)), (V.d (.bool x26))], [(Blk.flat 82 20 [([(.int .i64 x0), (.int .i64 x1)] ++ arrD .i64 x2 16 ++ [(.int .i64 x3), (.int .i64 x4)])] x10), (Blk.gen 84 3 [[(V.ptr 0 1 0 0), (V.d (.int .i64 x11)), (V.d (.int .i64 x12))]] x13), (Blk.gen 86 3 [[(V.d (.int .i64 x14)), (V.d (.int .i64 x15)), (V.so false 4 x6.length)]] x16), (Blk.flat 3 1 (List.map (encI .i64) x5) x17), (Blk.flat 3 1 (List.map (encI .i64) x6) x18), (Blk.flat 3 1 (List.map (encI .i64) x7) x19), (Blk.flat 53 2 [[(.bool x8), (.int .i64 x9)]] x20)]) = some (.normal, ([(V.d (.int .i64 x21)), (V.d (slD Zd true 3 x22 x23)), (V.ptr 0 1 0 0), (V.ptr 1 1 0 0), (V.ptr 2 1 0 0), (V.so x24 5 x7.length), (V.d (.int .i64 x25)), (V.d (.bool (Zc4 x0 x1 x2 x3 x4 x6 x7 x12 x14 x15 x21 x26)))], [(Blk.flat 82 20 [([(.int .i64 x0), (.int .i64 x1)] ++ arrD .i64 x2 16 ++ [(.int .i64 x3), (.int .i64 x4)])] x10), (Blk.gen 84 3 [[(V.ptr 0 1 0 0), (V.d (.int .i64 x11)), (V.d (.int .i64 x12))]] x13), (Blk.gen 86 3 [[(V.d (.int .i64 x14)), (V.d (.int .i64 x15)), (V.so false 4 x6.length)]] x16), (Blk.flat 3 1 (List.map (encI .i64) x5) x17), (Blk.flat 3 1 (List.map (encI .i64) x6) x18), (Blk.flat 3 1 (List.map (encI .i64) x7) x19), (Blk.flat 53 2 [[(.bool x8), (.int .i64 x9)]] x20)])) := by
 unfold Zc1 Zc4
 cases h1 : tb (x26)
 ·exact fun g0 => Z2 [.b (notF (tbE h1))] (by kernel_rfl)
 ·cases h2 : tb (Zp x0 x2 x3 x4)
  ·exact ZN
  ·cases h3 : tb (Z1 x6 x14 false)
   ·exact ZN
   ·cases h4 : tb (true != ((Zo x0 x1 x2 x3 x4) == (Zba x6 x14 x15)))
    ·exact fun g0 => Z2 [.b (notT (tbE h1)), .c (Z0 x0 x1 x2 x3 x4 x10 (tbE h2)), .c (Zbc x6 x14 x15 false x16 x18 (tbE h3)), .b (tbE h4), .c (Zcc x0 x1 x2 x3 x4 x11 x12 x13 x10)] (by kernel_rfl)
    ·exact fun g0 => Z2 [.b (notT (tbE h1)), .c (Z0 x0 x1 x2 x3 x4 x10 (tbE h2)), .c (Zbc x6 x14 x15 false x16 x18 (tbE h3)), .b (tbE h4)] (by kernel_rfl)
def Zns (x0 : Int) (x2 : List Int) (x3 x4 : Int) : Bool := ((Za ([] : List Int) x0 x2 x3 x4 true).c4)
def Zen (x0 : Int) (x2 : List Int) (x3 x4 : Int) : List Int := ((Za ([] : List Int) x0 x2 x3 x4 true).c6)
def Zg6 (x6 : List Int) (x13 : Int) : List Int := (sub x6 (mxI 0 (wi (((x6.length : Nat) : Int) - (wi (x13 - 1))))) ((x6.length : Nat) : Int))
def Zfb (x0 : Int) (x2 : List Int) (x3 x4 : Int) (x6 : List Int) (x13 : Int) : Bool := (bif tb (Zt x0 x2 x3 x4) then (bif tb (Zr x6 x13) then (bif tb (ins x6.length (mxI 0 (wi (((x6.length : Nat) : Int) - (wi (x13 - 1))))) ((x6.length : Nat) : Int)) then (bif tb (Zbq (Zen x0 x2 x3 x4) (Zg6 x6 x13)) then true else false) else false) else (bif tb (Zbj x6 x13 false) then (bif tb (Zea (Zen x0 x2 x3 x4)) then true else false) else false)) else false)
def Zg8 (x0 : Int) (x2 : List Int) (x3 x4 : Int) (x6 : List Int) (x13 : Int) : Bool := (bif tb (Zr x6 x13) then (Zb4 (Zen x0 x2 x3 x4) (Zg6 x6 x13)) else (Zho (Zen x0 x2 x3 x4)))
theorem Znw (x0 x1 : Int) (x2 : List Int) (x3 x4 : Int) (x5 x6 x7 : List Int) (x8 : Bool) (x9 : Int) (x10 : Bool) (x11 : Int) (x12 : Bool) (x13 x14 : Int) (x15 x16 x17 x18 x19 x20 : Bool) (x21 : Int) (x22 : Bool) (x23 : List Zh) (x24 : Int) : Zfb x0 x2 x3 x4 x6 x13 = true → segG (runC E0 (cl E0) S10_2) [0, 2, 7, 10, 11, 12, 13] [] [0, 2, 7, 10, 11, 12, 13, 20] 8 ([(V.d (.int .i64 x21)), (V.d (slD Zd true 3 x22 x23)), (V.ptr 0 1 0 0), (V.ptr 1 1 0 0), (V.ptr 2 1 0 0), (V.so true 7 0), (V.d (.int .i64 x24))], [(Blk.flat 82 20 [([(.int .i64 x0), (.int .i64 x1)] ++ arrD .i64 x2 16 ++ [(.int .i64 x3), (.int .i64 x4)])] x10), (Blk.gen 84 3 [[(V.ptr 0 1 0 0), (V.d (.int .i64 x11)), (V.d (.int .i64 0))]] x12), (Blk.gen 86 3 [[(V.d (.int .i64 x13)), (V.d (.int .i64 x14)), (V.so false 4 x6.length)]] x15), (Blk.flat 3 1 (List.map (encI .i64) x5) x16), (Blk.flat 3 1 (List.map (encI .i64) x6) x17), (Blk.flat 3 1 (List.map (encI .i64) x7) x18), (Blk.flat 53 2 [[(.bool x8), (.int .i64 x9)]] x19), (Blk.flat 3 1 [] x20)]) = some (.normal, ([(V.d (.int .i64 x21)), (V.d (slD Zd true 3 x22 x23)), (V.ptr 0 1 0 0), (V.ptr 1 1 0 0), (V.ptr 2 1 0 0), (V.so true 7 0), (V.d (.int .i64 x24)), (V.d (.bool (Zg8 x0 x2 x3 x4 x6 x13)))], [(Blk.flat 82 20 [([(.int .i64 x0), (.int .i64 x1)] ++ arrD .i64 x2 16 ++ [(.int .i64 x3), (.int .i64 x4)])] x10), (Blk.gen 84 3 [[(V.ptr 0 1 0 0), (V.d (.int .i64 x11)), (V.d (.int .i64 0))]] x12), (Blk.gen 86 3 [[(V.d (.int .i64 x13)), (V.d (.int .i64 x14)), (V.so false 4 x6.length)]] x15), (Blk.flat 3 1 (List.map (encI .i64) x5) x16), (Blk.flat 3 1 (List.map (encI .i64) x6) x17), (Blk.flat 3 1 (List.map (encI .i64) x7) x18), (Blk.flat 53 2 [[(.bool x8), (.int .i64 x9)]] x19), (Blk.flat 3 1 [] x20)])) := by
 unfold Zfb Zg8
 cases h1 : tb (Zt x0 x2 x3 x4)
 ·exact ZN
 ·cases h2 : tb (Zr x6 x13)
  ·cases h3 : tb (Zbj x6 x13 false)
   ·exact ZN
   ·cases h4 : tb (Zea (Zen x0 x2 x3 x4))
    ·exact ZN
    ·exact fun g0 => Z2 [.c (Zbd x0 x1 x2 x3 x4 x10 (tbE h1)), .c (Zef x6 x13 x14 false x15 x17 (tbE h2) (tbE h3)), .y (mm := [(Blk.flat 82 20 [([(.int .i64 x0), (.int .i64 x1)] ++ arrD .i64 x2 16 ++ [(.int .i64 x3), (.int .i64 x4)])] x10), (Blk.gen 84 3 [[(V.ptr 0 1 0 0), (V.d (.int .i64 x11)), (V.d (.int .i64 0))]] x12), (Blk.gen 86 3 [[(V.d (.int .i64 x13)), (V.d (.int .i64 x14)), (V.so false 4 x6.length)]] x15), (Blk.flat 3 1 (List.map (encI .i64) x5) x16), (Blk.flat 3 1 (List.map (encI .i64) x6) x17), (Blk.flat 3 1 (List.map (encI .i64) x7) x18), (Blk.flat 53 2 [[(.bool x8), (.int .i64 x9)]] x19), (Blk.flat 3 1 [] x20), (Blk.flat 3 1 (List.map (encI .i64) ((Za ([] : List Int) x0 x2 x3 x4 true).c6)) false)]) (args := [(V.so ((Za ([] : List Int) x0 x2 x3 x4 true).c4) 8 (((Za ([] : List Int) x0 x2 x3 x4 true).c6).length)), (V.d (.rs false 1 [] false))]) (args1 := [(V.d (slD (encI .i64) true 1 ((Za ([] : List Int) x0 x2 x3 x4 true).c4) ((Za ([] : List Int) x0 x2 x3 x4 true).c6))), (V.d (.rs false 1 [] false))]) (Zc8 (Zhz (enc := (encI .i64)) (l := ((Za ([] : List Int) x0 x2 x3 x4 true).c6)) (b := ((Za ([] : List Int) x0 x2 x3 x4 true).c4)) (e := 3) (s := 1) (p := false) (n := (((Za ([] : List Int) x0 x2 x3 x4 true).c6).length)) (Nat.beq_refl _) (by kernel_rfl)) (by kernel_rfl)), .c (Zi7 (Zns x0 x2 x3 x4) (Zen x0 x2 x3 x4) (tbE h4))] (by kernel_rfl)
  ·cases h3 : tb (ins x6.length (mxI 0 (wi (((x6.length : Nat) : Int) - (wi (x13 - 1))))) ((x6.length : Nat) : Int))
   ·exact ZN
   ·cases h4 : tb (Zbq (Zen x0 x2 x3 x4) (Zg6 x6 x13))
    ·exact ZN
    ·exact fun g0 => Z2 [.c (Zbd x0 x1 x2 x3 x4 x10 (tbE h1)), .c (Zeh x6 x13 x14 false x15 x17 (tbE h2)), .y (mm := [(Blk.flat 82 20 [([(.int .i64 x0), (.int .i64 x1)] ++ arrD .i64 x2 16 ++ [(.int .i64 x3), (.int .i64 x4)])] x10), (Blk.gen 84 3 [[(V.ptr 0 1 0 0), (V.d (.int .i64 x11)), (V.d (.int .i64 0))]] x12), (Blk.gen 86 3 [[(V.d (.int .i64 x13)), (V.d (.int .i64 x14)), (V.so false 4 x6.length)]] x15), (Blk.flat 3 1 (List.map (encI .i64) x5) x16), (Blk.flat 3 1 (List.map (encI .i64) x6) x17), (Blk.flat 3 1 (List.map (encI .i64) x7) x18), (Blk.flat 53 2 [[(.bool x8), (.int .i64 x9)]] x19), (Blk.flat 3 1 [] x20), (Blk.flat 3 1 (List.map (encI .i64) ((Za ([] : List Int) x0 x2 x3 x4 true).c6)) false)]) (args := [(V.so ((Za ([] : List Int) x0 x2 x3 x4 true).c4) 8 (((Za ([] : List Int) x0 x2 x3 x4 true).c6).length)), (V.sl 4 x6.length ((mxI 0 (wi (((x6.length : Nat) : Int) - (wi (x13 - 1))))) : Int).toNat ((((x6.length : Nat) : Int) : Int).toNat - ((mxI 0 (wi (((x6.length : Nat) : Int) - (wi (x13 - 1))))) : Int).toNat))]) (args1 := [(V.d (slD (encI .i64) true 1 ((Za ([] : List Int) x0 x2 x3 x4 true).c4) ((Za ([] : List Int) x0 x2 x3 x4 true).c6))), (V.d (.rs true 1 (List.map (encI .i64) (sub x6 (mxI 0 (wi (((x6.length : Nat) : Int) - (wi (x13 - 1))))) ((x6.length : Nat) : Int))) false))]) (Zc8 (Zhz (enc := (encI .i64)) (l := ((Za ([] : List Int) x0 x2 x3 x4 true).c6)) (b := ((Za ([] : List Int) x0 x2 x3 x4 true).c4)) (e := 3) (s := 1) (p := false) (n := (((Za ([] : List Int) x0 x2 x3 x4 true).c6).length)) (Nat.beq_refl _) (by kernel_rfl)) (Zc8 (Zml (enc := (encI .i64)) (l := x6) (e := 3) (s := 1) (p := x17) (n := x6.length) (lo := (mxI 0 (wi (((x6.length : Nat) : Int) - (wi (x13 - 1)))))) (hi := ((x6.length : Nat) : Int)) (Nat.beq_refl _) (by kernel_rfl) (tbE h3)) (by kernel_rfl))), .c (Zgm (Zns x0 x2 x3 x4) (Zen x0 x2 x3 x4) false (Zg6 x6 x13) (tbE h4))] (by kernel_rfl)
def Zfc (x0 : Int) (x2 : List Int) (x3 x4 : Int) (x6 : List Int) (x13 : Int) (x25 : Bool) : Bool := (bif tb (x25) then (bif tb (Zp x0 x2 x3 x4) then (bif tb (Z1 x6 x13 false) then true else false) else false) else true)
def Zfg (x0 x1 : Int) (x2 : List Int) (x3 x4 : Int) (x6 : List Int) (x13 x14 x21 : Int) (x25 : Bool) : Bool := (bif tb (x25) then (bif tb (true != ((Zo x0 x1 x2 x3 x4) == (Zba x6 x13 x14))) then true else ((0 : Int) != (mnI 0 x21))) else true)
theorem Zn0 (x0 x1 : Int) (x2 : List Int) (x3 x4 : Int) (x5 x6 x7 : List Int) (x8 : Bool) (x9 : Int) (x10 : Bool) (x11 : Int) (x12 : Bool) (x13 x14 : Int) (x15 x16 x17 x18 x19 x20 : Bool) (x21 : Int) (x22 : Bool) (x23 : List Zh) (x24 : Int) (x25 : Bool) : Zfc x0 x2 x3 x4 x6 x13 x25 = true → segG (runC E0 (cl E0) S10_3) [0, 2, 7, 10, 11, 12, 13, 20] [] [0, 2, 7, 10, 11, 12, 13, 142] 8 ([(V.d (.int .i64 x21)), (V.d (slD Zd true 3 x22 x23)), (V.ptr 0 1 0 0), (V.ptr 1 1 0 0), (V.ptr 2 1 0 0), (V.so true 7 0), (V.d (.int .i64 x24)), (V.d (.bool x25))], [(Blk.flat 82 20 [([(.int .i64 x0), (.int .i64 x1)] ++ arrD .i64 x2 16 ++ [(.int .i64 x3), (.int .i64 x4)])] x10), (Blk.gen 84 3 [[(V.ptr 0 1 0 0), (V.d (.int .i64 x11)), (V.d (.int .i64 0))]] x12), (Blk.gen 86 3 [[(V.d (.int .i64 x13)), (V.d (.int .i64 x14)), (V.so false 4 x6.length)]] x15), (Blk.flat 3 1 (List.map (encI .i64) x5) x16), (Blk.flat 3 1 (List.map (encI .i64) x6) x17), (Blk.flat 3 1 (List.map (encI .i64) x7) x18), (Blk.flat 53 2 [[(.bool x8), (.int .i64 x9)]] x19), (Blk.flat 3 1 [] x20)]) = some (.normal, ([(V.d (.int .i64 x21)), (V.d (slD Zd true 3 x22 x23)), (V.ptr 0 1 0 0), (V.ptr 1 1 0 0), (V.ptr 2 1 0 0), (V.so true 7 0), (V.d (.int .i64 x24)), (V.d (.bool (Zfg x0 x1 x2 x3 x4 x6 x13 x14 x21 x25)))], [(Blk.flat 82 20 [([(.int .i64 x0), (.int .i64 x1)] ++ arrD .i64 x2 16 ++ [(.int .i64 x3), (.int .i64 x4)])] x10), (Blk.gen 84 3 [[(V.ptr 0 1 0 0), (V.d (.int .i64 x11)), (V.d (.int .i64 0))]] x12), (Blk.gen 86 3 [[(V.d (.int .i64 x13)), (V.d (.int .i64 x14)), (V.so false 4 x6.length)]] x15), (Blk.flat 3 1 (List.map (encI .i64) x5) x16), (Blk.flat 3 1 (List.map (encI .i64) x6) x17), (Blk.flat 3 1 (List.map (encI .i64) x7) x18), (Blk.flat 53 2 [[(.bool x8), (.int .i64 x9)]] x19), (Blk.flat 3 1 [] x20)])) := by
 unfold Zfc Zfg
 cases h1 : tb (x25)
 ·exact fun g0 => Z2 [.b (notF (tbE h1))] (by kernel_rfl)
 ·cases h2 : tb (Zp x0 x2 x3 x4)
  ·exact ZN
  ·cases h3 : tb (Z1 x6 x13 false)
   ·exact ZN
   ·cases h4 : tb (true != ((Zo x0 x1 x2 x3 x4) == (Zba x6 x13 x14)))
    ·exact fun g0 => Z2 [.b (notT (tbE h1)), .c (Z0 x0 x1 x2 x3 x4 x10 (tbE h2)), .c (Zbc x6 x13 x14 false x15 x17 (tbE h3)), .b (tbE h4), .c (Zcc x0 x1 x2 x3 x4 x11 0 x12 x10)] (by kernel_rfl)
    ·exact fun g0 => Z2 [.b (notT (tbE h1)), .c (Z0 x0 x1 x2 x3 x4 x10 (tbE h2)), .c (Zbc x6 x13 x14 false x15 x17 (tbE h3)), .b (tbE h4)] (by kernel_rfl)
def Znr (x0 : Int) (x2 : List Int) (x3 x4 : Int) : Bool := ((Za ([] : List Int) x0 x2 x3 x4 true).c4)
def Zem (x0 : Int) (x2 : List Int) (x3 x4 : Int) : List Int := ((Za ([] : List Int) x0 x2 x3 x4 true).c6)
def Zg3 (x6 : List Int) (x15 : Int) : List Int := (sub x6 (mxI 0 (wi (((x6.length : Nat) : Int) - (wi (x15 - 1))))) ((x6.length : Nat) : Int))
def Zfd (x0 : Int) (x2 : List Int) (x3 x4 : Int) (x6 : List Int) (x15 : Int) : Bool := (bif tb (Zt x0 x2 x3 x4) then (bif tb (Zr x6 x15) then (bif tb (ins x6.length (mxI 0 (wi (((x6.length : Nat) : Int) - (wi (x15 - 1))))) ((x6.length : Nat) : Int)) then (bif tb (Zbq (Zem x0 x2 x3 x4) (Zg3 x6 x15)) then true else false) else false) else (bif tb (Zbj x6 x15 false) then (bif tb (Zea (Zem x0 x2 x3 x4)) then true else false) else false)) else false)
def Zg9 (x0 : Int) (x2 : List Int) (x3 x4 : Int) (x6 : List Int) (x15 : Int) : Bool := (bif tb (Zr x6 x15) then (Zb4 (Zem x0 x2 x3 x4) (Zg3 x6 x15)) else (Zho (Zem x0 x2 x3 x4)))
theorem Zny (x0 x1 : Int) (x2 : List Int) (x3 x4 : Int) (x5 x6 x7 : List Int) (x8 : Bool) (x9 : Int) (x10 : List Int) (x11 : Bool) (x12 x13 : Int) (x14 : Bool) (x15 x16 : Int) (x17 x18 x19 x20 x21 x22 : Bool) (x23 : Int) (x24 : Bool) (x25 : List Zh) (x26 : Int) : Zfd x0 x2 x3 x4 x6 x15 = true → segG (runC E0 (cl E0) S10_2) [0, 2, 7, 10, 11, 12, 13] [] [0, 2, 7, 10, 11, 12, 13, 20] 8 ([(V.d (.int .i64 x23)), (V.d (slD Zd true 3 x24 x25)), (V.ptr 0 1 0 0), (V.ptr 1 1 0 0), (V.ptr 2 1 0 0), (V.so false 7 x10.length), (V.d (.int .i64 x26))], [(Blk.flat 82 20 [([(.int .i64 x0), (.int .i64 x1)] ++ arrD .i64 x2 16 ++ [(.int .i64 x3), (.int .i64 x4)])] x11), (Blk.gen 84 3 [[(V.ptr 0 1 0 0), (V.d (.int .i64 x12)), (V.d (.int .i64 x13))]] x14), (Blk.gen 86 3 [[(V.d (.int .i64 x15)), (V.d (.int .i64 x16)), (V.so false 4 x6.length)]] x17), (Blk.flat 3 1 (List.map (encI .i64) x5) x18), (Blk.flat 3 1 (List.map (encI .i64) x6) x19), (Blk.flat 3 1 (List.map (encI .i64) x7) x20), (Blk.flat 53 2 [[(.bool x8), (.int .i64 x9)]] x21), (Blk.flat 3 1 (List.map (encI .i64) x10) x22)]) = some (.normal, ([(V.d (.int .i64 x23)), (V.d (slD Zd true 3 x24 x25)), (V.ptr 0 1 0 0), (V.ptr 1 1 0 0), (V.ptr 2 1 0 0), (V.so false 7 x10.length), (V.d (.int .i64 x26)), (V.d (.bool (Zg9 x0 x2 x3 x4 x6 x15)))], [(Blk.flat 82 20 [([(.int .i64 x0), (.int .i64 x1)] ++ arrD .i64 x2 16 ++ [(.int .i64 x3), (.int .i64 x4)])] x11), (Blk.gen 84 3 [[(V.ptr 0 1 0 0), (V.d (.int .i64 x12)), (V.d (.int .i64 x13))]] x14), (Blk.gen 86 3 [[(V.d (.int .i64 x15)), (V.d (.int .i64 x16)), (V.so false 4 x6.length)]] x17), (Blk.flat 3 1 (List.map (encI .i64) x5) x18), (Blk.flat 3 1 (List.map (encI .i64) x6) x19), (Blk.flat 3 1 (List.map (encI .i64) x7) x20), (Blk.flat 53 2 [[(.bool x8), (.int .i64 x9)]] x21), (Blk.flat 3 1 (List.map (encI .i64) x10) x22)])) := by
 unfold Zfd Zg9
 cases h1 : tb (Zt x0 x2 x3 x4)
 ·exact ZN
 ·cases h2 : tb (Zr x6 x15)
  ·cases h3 : tb (Zbj x6 x15 false)
   ·exact ZN
   ·cases h4 : tb (Zea (Zem x0 x2 x3 x4))
    ·exact ZN
    ·exact fun g0 => Z2 [.c (Zbd x0 x1 x2 x3 x4 x11 (tbE h1)), .c (Zef x6 x15 x16 false x17 x19 (tbE h2) (tbE h3)), .y (mm := [(Blk.flat 82 20 [([(.int .i64 x0), (.int .i64 x1)] ++ arrD .i64 x2 16 ++ [(.int .i64 x3), (.int .i64 x4)])] x11), (Blk.gen 84 3 [[(V.ptr 0 1 0 0), (V.d (.int .i64 x12)), (V.d (.int .i64 x13))]] x14), (Blk.gen 86 3 [[(V.d (.int .i64 x15)), (V.d (.int .i64 x16)), (V.so false 4 x6.length)]] x17), (Blk.flat 3 1 (List.map (encI .i64) x5) x18), (Blk.flat 3 1 (List.map (encI .i64) x6) x19), (Blk.flat 3 1 (List.map (encI .i64) x7) x20), (Blk.flat 53 2 [[(.bool x8), (.int .i64 x9)]] x21), (Blk.flat 3 1 (List.map (encI .i64) x10) x22), (Blk.flat 3 1 (List.map (encI .i64) ((Za ([] : List Int) x0 x2 x3 x4 true).c6)) false)]) (args := [(V.so ((Za ([] : List Int) x0 x2 x3 x4 true).c4) 8 (((Za ([] : List Int) x0 x2 x3 x4 true).c6).length)), (V.d (.rs false 1 [] false))]) (args1 := [(V.d (slD (encI .i64) true 1 ((Za ([] : List Int) x0 x2 x3 x4 true).c4) ((Za ([] : List Int) x0 x2 x3 x4 true).c6))), (V.d (.rs false 1 [] false))]) (Zc8 (Zhz (enc := (encI .i64)) (l := ((Za ([] : List Int) x0 x2 x3 x4 true).c6)) (b := ((Za ([] : List Int) x0 x2 x3 x4 true).c4)) (e := 3) (s := 1) (p := false) (n := (((Za ([] : List Int) x0 x2 x3 x4 true).c6).length)) (Nat.beq_refl _) (by kernel_rfl)) (by kernel_rfl)), .c (Zi7 (Znr x0 x2 x3 x4) (Zem x0 x2 x3 x4) (tbE h4))] (by kernel_rfl)
  ·cases h3 : tb (ins x6.length (mxI 0 (wi (((x6.length : Nat) : Int) - (wi (x15 - 1))))) ((x6.length : Nat) : Int))
   ·exact ZN
   ·cases h4 : tb (Zbq (Zem x0 x2 x3 x4) (Zg3 x6 x15))
    ·exact ZN
    ·exact fun g0 => Z2 [.c (Zbd x0 x1 x2 x3 x4 x11 (tbE h1)), .c (Zeh x6 x15 x16 false x17 x19 (tbE h2)), .y (mm := [(Blk.flat 82 20 [([(.int .i64 x0), (.int .i64 x1)] ++ arrD .i64 x2 16 ++ [(.int .i64 x3), (.int .i64 x4)])] x11), (Blk.gen 84 3 [[(V.ptr 0 1 0 0), (V.d (.int .i64 x12)), (V.d (.int .i64 x13))]] x14), (Blk.gen 86 3 [[(V.d (.int .i64 x15)), (V.d (.int .i64 x16)), (V.so false 4 x6.length)]] x17), (Blk.flat 3 1 (List.map (encI .i64) x5) x18), (Blk.flat 3 1 (List.map (encI .i64) x6) x19), (Blk.flat 3 1 (List.map (encI .i64) x7) x20), (Blk.flat 53 2 [[(.bool x8), (.int .i64 x9)]] x21), (Blk.flat 3 1 (List.map (encI .i64) x10) x22), (Blk.flat 3 1 (List.map (encI .i64) ((Za ([] : List Int) x0 x2 x3 x4 true).c6)) false)]) (args := [(V.so ((Za ([] : List Int) x0 x2 x3 x4 true).c4) 8 (((Za ([] : List Int) x0 x2 x3 x4 true).c6).length)), (V.sl 4 x6.length ((mxI 0 (wi (((x6.length : Nat) : Int) - (wi (x15 - 1))))) : Int).toNat ((((x6.length : Nat) : Int) : Int).toNat - ((mxI 0 (wi (((x6.length : Nat) : Int) - (wi (x15 - 1))))) : Int).toNat))]) (args1 := [(V.d (slD (encI .i64) true 1 ((Za ([] : List Int) x0 x2 x3 x4 true).c4) ((Za ([] : List Int) x0 x2 x3 x4 true).c6))), (V.d (.rs true 1 (List.map (encI .i64) (sub x6 (mxI 0 (wi (((x6.length : Nat) : Int) - (wi (x15 - 1))))) ((x6.length : Nat) : Int))) false))]) (Zc8 (Zhz (enc := (encI .i64)) (l := ((Za ([] : List Int) x0 x2 x3 x4 true).c6)) (b := ((Za ([] : List Int) x0 x2 x3 x4 true).c4)) (e := 3) (s := 1) (p := false) (n := (((Za ([] : List Int) x0 x2 x3 x4 true).c6).length)) (Nat.beq_refl _) (by kernel_rfl)) (Zc8 (Zml (enc := (encI .i64)) (l := x6) (e := 3) (s := 1) (p := x19) (n := x6.length) (lo := (mxI 0 (wi (((x6.length : Nat) : Int) - (wi (x15 - 1)))))) (hi := ((x6.length : Nat) : Int)) (Nat.beq_refl _) (by kernel_rfl) (tbE h3)) (by kernel_rfl))), .c (Zgm (Znr x0 x2 x3 x4) (Zem x0 x2 x3 x4) false (Zg3 x6 x15) (tbE h4))] (by kernel_rfl)
def Zfe (x0 : Int) (x2 : List Int) (x3 x4 : Int) (x6 : List Int) (x15 : Int) (x27 : Bool) : Bool := (bif tb (x27) then (bif tb (Zp x0 x2 x3 x4) then (bif tb (Z1 x6 x15 false) then true else false) else false) else true)
def Zfh (x0 x1 : Int) (x2 : List Int) (x3 x4 : Int) (x6 x10 : List Int) (x13 x15 x16 x23 : Int) (x27 : Bool) : Bool := (bif tb (x27) then (bif tb (true != ((Zo x0 x1 x2 x3 x4) == (Zba x6 x15 x16))) then true else ((x13 : Int) != (mnI ((x10.length : Nat) : Int) x23))) else true)
theorem Znv (x0 x1 : Int) (x2 : List Int) (x3 x4 : Int) (x5 x6 x7 : List Int) (x8 : Bool) (x9 : Int) (x10 : List Int) (x11 : Bool) (x12 x13 : Int) (x14 : Bool) (x15 x16 : Int) (x17 x18 x19 x20 x21 x22 : Bool) (x23 : Int) (x24 : Bool) (x25 : List Zh) (x26 : Int) (x27 : Bool) : Zfe x0 x2 x3 x4 x6 x15 x27 = true → segG (runC E0 (cl E0) S10_3) [0, 2, 7, 10, 11, 12, 13, 20] [] [0, 2, 7, 10, 11, 12, 13, 142] 8 ([(V.d (.int .i64 x23)), (V.d (slD Zd true 3 x24 x25)), (V.ptr 0 1 0 0), (V.ptr 1 1 0 0), (V.ptr 2 1 0 0), (V.so false 7 x10.length), (V.d (.int .i64 x26)), (V.d (.bool x27))], [(Blk.flat 82 20 [([(.int .i64 x0), (.int .i64 x1)] ++ arrD .i64 x2 16 ++ [(.int .i64 x3), (.int .i64 x4)])] x11), (Blk.gen 84 3 [[(V.ptr 0 1 0 0), (V.d (.int .i64 x12)), (V.d (.int .i64 x13))]] x14), (Blk.gen 86 3 [[(V.d (.int .i64 x15)), (V.d (.int .i64 x16)), (V.so false 4 x6.length)]] x17), (Blk.flat 3 1 (List.map (encI .i64) x5) x18), (Blk.flat 3 1 (List.map (encI .i64) x6) x19), (Blk.flat 3 1 (List.map (encI .i64) x7) x20), (Blk.flat 53 2 [[(.bool x8), (.int .i64 x9)]] x21), (Blk.flat 3 1 (List.map (encI .i64) x10) x22)]) = some (.normal, ([(V.d (.int .i64 x23)), (V.d (slD Zd true 3 x24 x25)), (V.ptr 0 1 0 0), (V.ptr 1 1 0 0), (V.ptr 2 1 0 0), (V.so false 7 x10.length), (V.d (.int .i64 x26)), (V.d (.bool (Zfh x0 x1 x2 x3 x4 x6 x10 x13 x15 x16 x23 x27)))], [(Blk.flat 82 20 [([(.int .i64 x0), (.int .i64 x1)] ++ arrD .i64 x2 16 ++ [(.int .i64 x3), (.int .i64 x4)])] x11), (Blk.gen 84 3 [[(V.ptr 0 1 0 0), (V.d (.int .i64 x12)), (V.d (.int .i64 x13))]] x14), (Blk.gen 86 3 [[(V.d (.int .i64 x15)), (V.d (.int .i64 x16)), (V.so false 4 x6.length)]] x17), (Blk.flat 3 1 (List.map (encI .i64) x5) x18), (Blk.flat 3 1 (List.map (encI .i64) x6) x19), (Blk.flat 3 1 (List.map (encI .i64) x7) x20), (Blk.flat 53 2 [[(.bool x8), (.int .i64 x9)]] x21), (Blk.flat 3 1 (List.map (encI .i64) x10) x22)])) := by
 unfold Zfe Zfh
 cases h1 : tb (x27)
 ·exact fun g0 => Z2 [.b (notF (tbE h1))] (by kernel_rfl)
 ·cases h2 : tb (Zp x0 x2 x3 x4)
  ·exact ZN
  ·cases h3 : tb (Z1 x6 x15 false)
   ·exact ZN
   ·cases h4 : tb (true != ((Zo x0 x1 x2 x3 x4) == (Zba x6 x15 x16)))
    ·exact fun g0 => Z2 [.b (notT (tbE h1)), .c (Z0 x0 x1 x2 x3 x4 x11 (tbE h2)), .c (Zbc x6 x15 x16 false x17 x19 (tbE h3)), .b (tbE h4), .c (Zcc x0 x1 x2 x3 x4 x12 x13 x14 x11)] (by kernel_rfl)
    ·exact fun g0 => Z2 [.b (notT (tbE h1)), .c (Z0 x0 x1 x2 x3 x4 x11 (tbE h2)), .c (Zbc x6 x15 x16 false x17 x19 (tbE h3)), .b (tbE h4)] (by kernel_rfl)
structure Zbo where
 c4 : Int
 c7 : List Int
 c8 : Int
 c9 : Int
 c11 : Int
 c12 : Int
 deriving Inhabited
structure Zbw where
 c4 : Int
 c7 : List Int
 c8 : Int
 c9 : Int
 c11 : Int
 c12 : Int
 c20 : List Int
 deriving Inhabited
structure Zbp where
 c3 : Bool
 c4 : Int
 c7 : List Int
 c8 : Int
 c9 : Int
 c11 : Int
 c12 : Int
 c19 : List Int
 deriving Inhabited
structure Zbx where
 c3 : Bool
 c4 : Int
 c7 : List Int
 c8 : Int
 c9 : Int
 c11 : Int
 c12 : Int
 c20 : List Int
 c22 : List Int
 deriving Inhabited
inductive Zs where
 | h0 (v : Zbo)
 | h1 (v : Zbw)
 | h2 (v : Zbp)
 | h3 (v : Zbx)
 deriving Inhabited
def Zcv : Zs → Bool
 | .h0 _ => true
 | _ => false
def Zx : Zs → Zbo
 | .h0 v => v
 | _ => default
theorem Zmq {s : Zs} (h : Zcv s = true) : s = .h0 (Zx s) := by cases s <;> first | rfl | cases h
def Zeb : Zs → Bool
 | .h1 _ => true
 | _ => false
def Zbg : Zs → Zbw
 | .h1 v => v
 | _ => default
theorem Zoz {s : Zs} (h : Zeb s = true) : s = .h1 (Zbg s) := by cases s <;> first | rfl | cases h
def Zf9 : Zs → Bool
 | .h2 _ => true
 | _ => false
def Zw : Zs → Zbp
 | .h2 v => v
 | _ => default
theorem Zmp {s : Zs} (h : Zf9 s = true) : s = .h2 (Zw s) := by cases s <;> first | rfl | cases h
def Zbe : Zs → Zbx
 | .h3 v => v
 | _ => default
def Zbf (x0 x1 : Int) (x2 : List Int) (x3 x4 : Int) (x5 : List Int) (x6 : Bool) (x7 x8 : Int) (x9 : Bool) (x10 x11 : Int) (x12 x13 : Bool) (x14 : Int) (x15 : Bool) (x16 : List Zh) (x17 : Bool) (x18 : Int) : Zs → List V × Mem
 | .h0 s0 => ([(V.d (.int .i64 x14)), (V.d (slD Zd true 3 x15 x16)), (V.ptr 0 1 0 0), (V.ptr 1 1 0 0), (V.ptr 2 1 0 0), (V.so x17 3 x5.length), (V.d (.int .i64 s0.c4))], [(Blk.flat 82 20 [([(.int .i64 x0), (.int .i64 x1)] ++ arrD .i64 s0.c7 16 ++ [(.int .i64 s0.c8), (.int .i64 s0.c9)])] false), (Blk.gen 84 3 [[(V.ptr 0 1 0 0), (V.d (.int .i64 s0.c11)), (V.d (.int .i64 s0.c12))]] false), (Blk.gen 86 3 [[(V.d (.int .i64 x10)), (V.d (.int .i64 x11)), (V.d .nils)]] false), (Blk.flat 3 1 (List.map (encI .i64) x5) x13)])
 | .h1 s0 => ([(V.d (.int .i64 x14)), (V.d (slD Zd true 3 x15 x16)), (V.ptr 0 1 0 0), (V.ptr 1 1 0 0), (V.ptr 2 1 0 0), (V.so x17 3 x5.length), (V.d (.int .i64 s0.c4))], [(Blk.flat 82 20 [([(.int .i64 x0), (.int .i64 x1)] ++ arrD .i64 s0.c7 16 ++ [(.int .i64 s0.c8), (.int .i64 s0.c9)])] false), (Blk.gen 84 3 [[(V.ptr 0 1 0 0), (V.d (.int .i64 s0.c11)), (V.d (.int .i64 s0.c12))]] false), (Blk.gen 86 3 [[(V.d (.int .i64 x10)), (V.d (.int .i64 x11)), (V.so false 4 s0.c20.length)]] false), (Blk.flat 3 1 (List.map (encI .i64) x5) x13), (Blk.flat 3 1 (List.map (encI .i64) s0.c20) false)])
 | .h2 s0 => ([(V.d (.int .i64 x14)), (V.d (slD Zd true 3 x15 x16)), (V.ptr 0 1 0 0), (V.ptr 1 1 0 0), (V.ptr 2 1 0 0), (V.so s0.c3 4 s0.c19.length), (V.d (.int .i64 s0.c4))], [(Blk.flat 82 20 [([(.int .i64 x0), (.int .i64 x1)] ++ arrD .i64 s0.c7 16 ++ [(.int .i64 s0.c8), (.int .i64 s0.c9)])] false), (Blk.gen 84 3 [[(V.ptr 0 1 0 0), (V.d (.int .i64 s0.c11)), (V.d (.int .i64 s0.c12))]] false), (Blk.gen 86 3 [[(V.d (.int .i64 x10)), (V.d (.int .i64 x11)), (V.d .nils)]] false), (Blk.flat 3 1 (List.map (encI .i64) x5) x13), (Blk.flat 3 1 (List.map (encI .i64) s0.c19) false)])
 | .h3 s0 => ([(V.d (.int .i64 x14)), (V.d (slD Zd true 3 x15 x16)), (V.ptr 0 1 0 0), (V.ptr 1 1 0 0), (V.ptr 2 1 0 0), (V.so s0.c3 5 s0.c22.length), (V.d (.int .i64 s0.c4))], [(Blk.flat 82 20 [([(.int .i64 x0), (.int .i64 x1)] ++ arrD .i64 s0.c7 16 ++ [(.int .i64 s0.c8), (.int .i64 s0.c9)])] false), (Blk.gen 84 3 [[(V.ptr 0 1 0 0), (V.d (.int .i64 s0.c11)), (V.d (.int .i64 s0.c12))]] false), (Blk.gen 86 3 [[(V.d (.int .i64 x10)), (V.d (.int .i64 x11)), (V.so false 4 s0.c20.length)]] false), (Blk.flat 3 1 (List.map (encI .i64) x5) x13), (Blk.flat 3 1 (List.map (encI .i64) s0.c20) false), (Blk.flat 3 1 (List.map (encI .i64) s0.c22) false)])
def Zk (x16 : List Zh) (s0 : Zbo) : List Int := (Zbs s0.c7 s0.c8 (gt x16 s0.c4).c2)
def Zcr (x0 x10 : Int) (x16 : List Zh) (s0 : Zbo) : Bool := (Zh4 x0 (Zk x16 s0) (Zc x0 s0.c8 (gt x16 s0.c4).c2) (Zb x0 s0.c9 (gt x16 s0.c4).c2) (gt x16 s0.c4).c2 x10)
def Zck (x0 : Int) (x16 : List Zh) (s0 : Zbo) : Bool := (Zb4 (Zgd x0 (Zk x16 s0) (Zc x0 s0.c8 (gt x16 s0.c4).c2) (Zb x0 s0.c9 (gt x16 s0.c4).c2)) [])
def Zcq (x0 : Int) (s0 : Zbo) : Bool := (Zb4 (Zgv x0 s0.c7 s0.c8 s0.c9) [])
def Zb2 (x16 : List Zh) (s0 : Zbo) : Int := (Z7 s0.c11 (gt x16 s0.c4).c2)
def Zy (x0 : Int) (x16 : List Zh) (s0 : Zbo) : Int := (Z8 x0 s0.c11 s0.c12 (gt x16 s0.c4).c2)
def Zco (x0 : Int) (s0 : Zbo) : Bool := (Zb4 (Zgu x0 s0.c7 s0.c8 s0.c9) [])
def Zcm (x0 : Int) (s0 : Zbo) : Bool := (Zb4 (Zgd x0 s0.c7 s0.c8 s0.c9) [])
def Zm (x16 : List Zh) (s0 : Zbw) : List Int := (Zbs s0.c7 s0.c8 (gt x16 s0.c4).c2)
def Zda (x0 x10 : Int) (x16 : List Zh) (s0 : Zbw) : Bool := (Zhr x0 (Zm x16 s0) (Zc x0 s0.c8 (gt x16 s0.c4).c2) (Zb x0 s0.c9 (gt x16 s0.c4).c2) (s0.c20 ++ [(gt x16 s0.c4).c2]) x10)
def Zde (x0 x10 : Int) (x16 : List Zh) (s0 : Zbw) : Bool := (Zgw x0 (Zm x16 s0) (Zc x0 s0.c8 (gt x16 s0.c4).c2) (Zb x0 s0.c9 (gt x16 s0.c4).c2) s0.c20 x10)
def Zdb (x0 x10 : Int) (s0 : Zbw) : Bool := (Zhm x0 s0.c7 s0.c8 s0.c9 s0.c20 x10)
def Zbz (x16 : List Zh) (s0 : Zbw) : Int := (Z7 s0.c11 (gt x16 s0.c4).c2)
def Z4 (x0 : Int) (x16 : List Zh) (s0 : Zbw) : Int := (Z8 x0 s0.c11 s0.c12 (gt x16 s0.c4).c2)
def Zdc (x0 x10 : Int) (s0 : Zbw) : Bool := (Zhq x0 s0.c7 s0.c8 s0.c9 s0.c20 x10)
def Zdf (x0 x10 : Int) (s0 : Zbw) : Bool := (Zgw x0 s0.c7 s0.c8 s0.c9 s0.c20 x10)
def Zj (x16 : List Zh) (s0 : Zbp) : List Int := (Zbs s0.c7 s0.c8 (gt x16 s0.c4).c2)
def Zcl (x0 x10 : Int) (x16 : List Zh) (s0 : Zbp) : Bool := (Zhp x0 (Zj x16 s0) (Zc x0 s0.c8 (gt x16 s0.c4).c2) (Zb x0 s0.c9 (gt x16 s0.c4).c2) (gt x16 s0.c4).c2 x10)
def Zcj (x0 : Int) (x16 : List Zh) (s0 : Zbp) : Bool := (Zb4 (Zgc x0 (Zj x16 s0) (Zc x0 s0.c8 (gt x16 s0.c4).c2) (Zb x0 s0.c9 (gt x16 s0.c4).c2)) [])
def Zcn (x0 : Int) (s0 : Zbp) : Bool := (Zb4 (Zgk x0 s0.c7 s0.c8 s0.c9) [])
def Zb0 (x16 : List Zh) (s0 : Zbp) : Int := (Z7 s0.c11 (gt x16 s0.c4).c2)
def Zz (x0 : Int) (x16 : List Zh) (s0 : Zbp) : Int := (Z8 x0 s0.c11 s0.c12 (gt x16 s0.c4).c2)
def Zci (x0 : Int) (s0 : Zbp) : Bool := (Zb4 (Zgl x0 s0.c7 s0.c8 s0.c9) [])
def Zcp (x0 : Int) (s0 : Zbp) : Bool := (Zb4 (Zgc x0 s0.c7 s0.c8 s0.c9) [])
def Zl (x16 : List Zh) (s0 : Zbx) : List Int := (Zbs s0.c7 s0.c8 (gt x16 s0.c4).c2)
def Zdh (x0 x10 : Int) (x16 : List Zh) (s0 : Zbx) : Bool := (Zha x0 (Zl x16 s0) (Zc x0 s0.c8 (gt x16 s0.c4).c2) (Zb x0 s0.c9 (gt x16 s0.c4).c2) (s0.c20 ++ [(gt x16 s0.c4).c2]) x10)
def Zdd (x0 x10 : Int) (x16 : List Zh) (s0 : Zbx) : Bool := (Zgp x0 (Zl x16 s0) (Zc x0 s0.c8 (gt x16 s0.c4).c2) (Zb x0 s0.c9 (gt x16 s0.c4).c2) s0.c20 x10)
def Zdi (x0 x10 : Int) (s0 : Zbx) : Bool := (Zg8 x0 s0.c7 s0.c8 s0.c9 s0.c20 x10)
def Zb1 (x16 : List Zh) (s0 : Zbx) : Int := (Z7 s0.c11 (gt x16 s0.c4).c2)
def Z5 (x0 : Int) (x16 : List Zh) (s0 : Zbx) : Int := (Z8 x0 s0.c11 s0.c12 (gt x16 s0.c4).c2)
def Zdg (x0 x10 : Int) (s0 : Zbx) : Bool := (Zg9 x0 s0.c7 s0.c8 s0.c9 s0.c20 x10)
def Zc9 (x0 x10 : Int) (s0 : Zbx) : Bool := (Zgp x0 s0.c7 s0.c8 s0.c9 s0.c20 x10)
def Zc2 (x0 x1 : Int) (x5 : List Int) (x10 x11 x14 : Int) (x16 : List Zh) (s0 : Zbo) : Bool := (bif tb (Zcu x16 s0.c4) then (bif tb (inb x16.length s0.c4) then (bif tb (((remI .u8 (gt x16 s0.c4).c0 2) : Int) == 1) then (bif tb (Zbb x0 s0.c8 (gt x16 s0.c4).c2) then (bif tb (Zbl (gt x16 s0.c4).c2) then (bif tb (((Zi (gt x16 s0.c4).c2) : Int) != 0) then false else (bif tb (Zfx x0 (Zk x16 s0) (Zc x0 s0.c8 (gt x16 s0.c4).c2) (Zb x0 s0.c9 (gt x16 s0.c4).c2) (gt x16 s0.c4).c2 x10) then (bif tb (Zfw x0 (Zk x16 s0) (Zc x0 s0.c8 (gt x16 s0.c4).c2) (Zb x0 s0.c9 (gt x16 s0.c4).c2) [(gt x16 s0.c4).c2] x10 (Zcr x0 x10 x16 s0)) then (bif tb (Zfo x0 x1 (Zk x16 s0) (Zc x0 s0.c8 (gt x16 s0.c4).c2) (Zb x0 s0.c9 (gt x16 s0.c4).c2) x5 [(gt x16 s0.c4).c2] s0.c12 x10 x11 x14 (Zcr x0 x10 x16 s0)) then false else true) else false) else false)) else (bif tb (((Zi (gt x16 s0.c4).c2) : Int) != 1) then false else (bif tb (Zcf x0 (Zk x16 s0) (Zc x0 s0.c8 (gt x16 s0.c4).c2) (Zb x0 s0.c9 (gt x16 s0.c4).c2) x10) then (bif tb (Zcg x0 (Zk x16 s0) (Zc x0 s0.c8 (gt x16 s0.c4).c2) (Zb x0 s0.c9 (gt x16 s0.c4).c2) x10 (Zck x0 x16 s0)) then (bif tb (Zct x0 x1 (Zk x16 s0) (Zc x0 s0.c8 (gt x16 s0.c4).c2) (Zb x0 s0.c9 (gt x16 s0.c4).c2) x5 s0.c12 x10 x11 x14 (Zck x0 x16 s0)) then false else true) else false) else false))) else false) else (bif tb (gt x16 s0.c4).c1 then (bif tb (Ze0 x0 s0.c7 s0.c8 s0.c9 x10) then (bif tb (Ze4 x0 s0.c7 s0.c8 s0.c9 x10 (Zcq x0 s0)) then (bif tb (Zev x0 x1 s0.c7 s0.c8 s0.c9 x10 x11 x14 (Zcq x0 s0)) then false else true) else false) else false) else (bif tb (Z6 x0 s0.c7 s0.c8 s0.c9 s0.c11 s0.c12 (gt x16 s0.c4).c2) then (bif tb (Zbr x5 x10 (gt x16 s0.c4).c2) then (bif tb (true != ((Zg x0 x1 s0.c7 s0.c8 s0.c9 s0.c11 s0.c12 (gt x16 s0.c4).c2) == (Zb6 x5 x10 x11 (gt x16 s0.c4).c2))) then false else (bif tb (((Zf (gt x16 s0.c4).c2) : Int) != 0) then false else (bif tb (Ze6 x0 s0.c7 s0.c8 s0.c9 x10) then (bif tb (Zez x0 s0.c7 s0.c8 s0.c9 x10 (Zco x0 s0)) then (bif tb (Zew x0 x1 s0.c7 s0.c8 s0.c9 (Zbk x5 (gt x16 s0.c4).c2) (Zy x0 x16 s0) x10 x11 x14 (Zco x0 s0)) then false else true) else false) else false))) else (bif tb (Zdx (gt x16 s0.c4).c2) then (bif tb (true != ((Zg x0 x1 s0.c7 s0.c8 s0.c9 s0.c11 s0.c12 (gt x16 s0.c4).c2) == false)) then false else (bif tb (((Zf (gt x16 s0.c4).c2) : Int) != 1) then false else (bif tb (Zcf x0 s0.c7 s0.c8 s0.c9 x10) then (bif tb (Zcg x0 s0.c7 s0.c8 s0.c9 x10 (Zcm x0 s0)) then (bif tb (Zct x0 x1 s0.c7 s0.c8 s0.c9 x5 (Zy x0 x16 s0) x10 x11 x14 (Zcm x0 s0)) then false else true) else false) else false))) else false)) else false))) else false) else false)
def Zdu (x0 x1 : Int) (x5 : List Int) (x10 x11 x14 : Int) (x16 : List Zh) (s0 : Zbo) : Zs := (bif tb (((remI .u8 (gt x16 s0.c4).c0 2) : Int) == 1) then (bif tb (Zbl (gt x16 s0.c4).c2) then .h1 ⟨(wi (s0.c4 + 1)), (Zk x16 s0), (Zc x0 s0.c8 (gt x16 s0.c4).c2), (Zb x0 s0.c9 (gt x16 s0.c4).c2), s0.c11, s0.c12, [(gt x16 s0.c4).c2]⟩ else .h0 ⟨(wi (s0.c4 + 1)), (Zk x16 s0), (Zc x0 s0.c8 (gt x16 s0.c4).c2), (Zb x0 s0.c9 (gt x16 s0.c4).c2), s0.c11, s0.c12⟩) else (bif tb (gt x16 s0.c4).c1 then .h2 ⟨true, (wi (s0.c4 + 1)), s0.c7, s0.c8, s0.c9, s0.c11, 0, ([] : List Int)⟩ else (bif tb (Zbr x5 x10 (gt x16 s0.c4).c2) then .h2 ⟨false, (wi (s0.c4 + 1)), s0.c7, s0.c8, s0.c9, (Zb2 x16 s0), (Zy x0 x16 s0), (Zbk x5 (gt x16 s0.c4).c2)⟩ else .h0 ⟨(wi (s0.c4 + 1)), s0.c7, s0.c8, s0.c9, (Zb2 x16 s0), (Zy x0 x16 s0)⟩)))
def Zdz (x0 x1 : Int) (x5 : List Int) (x10 x11 x14 : Int) (x16 : List Zh) (s0 : Zbw) : Bool := (bif tb (Zcx x16 s0.c4) then (bif tb (inb x16.length s0.c4) then (bif tb (((remI .u8 (gt x16 s0.c4).c0 2) : Int) == 1) then (bif tb (Zbb x0 s0.c8 (gt x16 s0.c4).c2) then (bif tb (Zbi s0.c20 (gt x16 s0.c4).c2) then (bif tb (((Zi (gt x16 s0.c4).c2) : Int) != 0) then false else (bif tb (Zfu x0 (Zm x16 s0) (Zc x0 s0.c8 (gt x16 s0.c4).c2) (Zb x0 s0.c9 (gt x16 s0.c4).c2) (s0.c20 ++ [(gt x16 s0.c4).c2]) x10) then (bif tb (Zfq x0 (Zm x16 s0) (Zc x0 s0.c8 (gt x16 s0.c4).c2) (Zb x0 s0.c9 (gt x16 s0.c4).c2) (s0.c20 ++ [(gt x16 s0.c4).c2]) x10 (Zda x0 x10 x16 s0)) then (bif tb (Zft x0 x1 (Zm x16 s0) (Zc x0 s0.c8 (gt x16 s0.c4).c2) (Zb x0 s0.c9 (gt x16 s0.c4).c2) x5 (s0.c20 ++ [(gt x16 s0.c4).c2]) s0.c12 x10 x11 x14 (Zda x0 x10 x16 s0)) then false else true) else false) else false)) else (bif tb (Zdq (gt x16 s0.c4).c2) then (bif tb (((Zi (gt x16 s0.c4).c2) : Int) != 1) then false else (bif tb (Zc5 x0 (Zm x16 s0) (Zc x0 s0.c8 (gt x16 s0.c4).c2) (Zb x0 s0.c9 (gt x16 s0.c4).c2) s0.c20 x10) then (bif tb (Zc6 x0 (Zm x16 s0) (Zc x0 s0.c8 (gt x16 s0.c4).c2) (Zb x0 s0.c9 (gt x16 s0.c4).c2) s0.c20 x10 (Zde x0 x10 x16 s0)) then (bif tb (Zdl x0 x1 (Zm x16 s0) (Zc x0 s0.c8 (gt x16 s0.c4).c2) (Zb x0 s0.c9 (gt x16 s0.c4).c2) x5 s0.c20 s0.c12 x10 x11 x14 (Zde x0 x10 x16 s0)) then false else true) else false) else false)) else false)) else false) else (bif tb (gt x16 s0.c4).c1 then (bif tb (Zfl x0 s0.c7 s0.c8 s0.c9 s0.c20 x10) then (bif tb (Zfn x0 s0.c7 s0.c8 s0.c9 s0.c20 x10 (Zdb x0 x10 s0)) then (bif tb (Zfm x0 x1 s0.c7 s0.c8 s0.c9 s0.c20 x10 x11 x14 (Zdb x0 x10 s0)) then false else true) else false) else false) else (bif tb (Z6 x0 s0.c7 s0.c8 s0.c9 s0.c11 s0.c12 (gt x16 s0.c4).c2) then (bif tb (Zbv s0.c20 x5 x10 false (gt x16 s0.c4).c2) then (bif tb (true != ((Zg x0 x1 s0.c7 s0.c8 s0.c9 s0.c11 s0.c12 (gt x16 s0.c4).c2) == (Zcb s0.c20 x5 x10 x11 (gt x16 s0.c4).c2))) then false else (bif tb (((Zf (gt x16 s0.c4).c2) : Int) != 0) then false else (bif tb (Zfs x0 s0.c7 s0.c8 s0.c9 s0.c20 x10) then (bif tb (Zfr x0 s0.c7 s0.c8 s0.c9 s0.c20 x10 (Zdc x0 x10 s0)) then (bif tb (Zfp x0 x1 s0.c7 s0.c8 s0.c9 s0.c20 (Zbn x5 (gt x16 s0.c4).c2) (Z4 x0 x16 s0) x10 x11 x14 (Zdc x0 x10 s0)) then false else true) else false) else false))) else (bif tb (Zec (gt x16 s0.c4).c2) then (bif tb (true != ((Zg x0 x1 s0.c7 s0.c8 s0.c9 s0.c11 s0.c12 (gt x16 s0.c4).c2) == false)) then false else (bif tb (((Zf (gt x16 s0.c4).c2) : Int) != 1) then false else (bif tb (Zc5 x0 s0.c7 s0.c8 s0.c9 s0.c20 x10) then (bif tb (Zc6 x0 s0.c7 s0.c8 s0.c9 s0.c20 x10 (Zdf x0 x10 s0)) then (bif tb (Zdl x0 x1 s0.c7 s0.c8 s0.c9 x5 s0.c20 (Z4 x0 x16 s0) x10 x11 x14 (Zdf x0 x10 s0)) then false else true) else false) else false))) else false)) else false))) else false) else false)
def Zdt (x0 x1 : Int) (x5 : List Int) (x10 x11 x14 : Int) (x16 : List Zh) (s0 : Zbw) : Zs := (bif tb (((remI .u8 (gt x16 s0.c4).c0 2) : Int) == 1) then (bif tb (Zbi s0.c20 (gt x16 s0.c4).c2) then .h1 ⟨(wi (s0.c4 + 1)), (Zm x16 s0), (Zc x0 s0.c8 (gt x16 s0.c4).c2), (Zb x0 s0.c9 (gt x16 s0.c4).c2), s0.c11, s0.c12, (s0.c20 ++ [(gt x16 s0.c4).c2])⟩ else .h1 ⟨(wi (s0.c4 + 1)), (Zm x16 s0), (Zc x0 s0.c8 (gt x16 s0.c4).c2), (Zb x0 s0.c9 (gt x16 s0.c4).c2), s0.c11, s0.c12, s0.c20⟩) else (bif tb (gt x16 s0.c4).c1 then .h3 ⟨true, (wi (s0.c4 + 1)), s0.c7, s0.c8, s0.c9, s0.c11, 0, s0.c20, ([] : List Int)⟩ else (bif tb (Zbv s0.c20 x5 x10 false (gt x16 s0.c4).c2) then .h3 ⟨false, (wi (s0.c4 + 1)), s0.c7, s0.c8, s0.c9, (Zbz x16 s0), (Z4 x0 x16 s0), s0.c20, (Zbn x5 (gt x16 s0.c4).c2)⟩ else .h1 ⟨(wi (s0.c4 + 1)), s0.c7, s0.c8, s0.c9, (Zbz x16 s0), (Z4 x0 x16 s0), s0.c20⟩)))
def Zc3 (x0 x1 : Int) (x5 : List Int) (x10 x11 x14 : Int) (x16 : List Zh) (s0 : Zbp) : Bool := (bif tb (Zb9 x16 s0.c4) then (bif tb (inb x16.length s0.c4) then (bif tb (((remI .u8 (gt x16 s0.c4).c0 2) : Int) == 1) then (bif tb (Zbb x0 s0.c8 (gt x16 s0.c4).c2) then (bif tb (Zbl (gt x16 s0.c4).c2) then (bif tb (((Zi (gt x16 s0.c4).c2) : Int) != 0) then false else (bif tb (Ze2 x0 (Zj x16 s0) (Zc x0 s0.c8 (gt x16 s0.c4).c2) (Zb x0 s0.c9 (gt x16 s0.c4).c2) (gt x16 s0.c4).c2 x10) then (bif tb (Ze7 x0 (Zj x16 s0) (Zc x0 s0.c8 (gt x16 s0.c4).c2) (Zb x0 s0.c9 (gt x16 s0.c4).c2) [(gt x16 s0.c4).c2] x10 (Zcl x0 x10 x16 s0)) then (bif tb (Zex x0 x1 (Zj x16 s0) (Zc x0 s0.c8 (gt x16 s0.c4).c2) (Zb x0 s0.c9 (gt x16 s0.c4).c2) s0.c19 [(gt x16 s0.c4).c2] s0.c12 x10 x11 x14 (Zcl x0 x10 x16 s0)) then false else true) else false) else false)) else (bif tb (((Zi (gt x16 s0.c4).c2) : Int) != 1) then false else (bif tb (Zce x0 (Zj x16 s0) (Zc x0 s0.c8 (gt x16 s0.c4).c2) (Zb x0 s0.c9 (gt x16 s0.c4).c2) x10) then (bif tb (Zch x0 (Zj x16 s0) (Zc x0 s0.c8 (gt x16 s0.c4).c2) (Zb x0 s0.c9 (gt x16 s0.c4).c2) x10 (Zcj x0 x16 s0)) then (bif tb (Zcs x0 x1 (Zj x16 s0) (Zc x0 s0.c8 (gt x16 s0.c4).c2) (Zb x0 s0.c9 (gt x16 s0.c4).c2) s0.c19 s0.c12 x10 x11 x14 (Zcj x0 x16 s0)) then false else true) else false) else false))) else false) else (bif tb (gt x16 s0.c4).c1 then (bif tb (Zek x0 s0.c7 s0.c8 s0.c9 x10) then (bif tb (Zep x0 s0.c7 s0.c8 s0.c9 x10 (Zcn x0 s0)) then (bif tb (Zeg x0 x1 s0.c7 s0.c8 s0.c9 x10 x11 x14 (Zcn x0 s0)) then false else true) else false) else false) else (bif tb (Z6 x0 s0.c7 s0.c8 s0.c9 s0.c11 s0.c12 (gt x16 s0.c4).c2) then (bif tb (Zbr s0.c19 x10 (gt x16 s0.c4).c2) then (bif tb (true != ((Zg x0 x1 s0.c7 s0.c8 s0.c9 s0.c11 s0.c12 (gt x16 s0.c4).c2) == (Zb6 s0.c19 x10 x11 (gt x16 s0.c4).c2))) then false else (bif tb (((Zf (gt x16 s0.c4).c2) : Int) != 0) then false else (bif tb (Zej x0 s0.c7 s0.c8 s0.c9 x10) then (bif tb (Zeo x0 s0.c7 s0.c8 s0.c9 x10 (Zci x0 s0)) then (bif tb (Zee x0 x1 s0.c7 s0.c8 s0.c9 (Zbk s0.c19 (gt x16 s0.c4).c2) (Zz x0 x16 s0) x10 x11 x14 (Zci x0 s0)) then false else true) else false) else false))) else (bif tb (Zdx (gt x16 s0.c4).c2) then (bif tb (true != ((Zg x0 x1 s0.c7 s0.c8 s0.c9 s0.c11 s0.c12 (gt x16 s0.c4).c2) == false)) then false else (bif tb (((Zf (gt x16 s0.c4).c2) : Int) != 1) then false else (bif tb (Zce x0 s0.c7 s0.c8 s0.c9 x10) then (bif tb (Zch x0 s0.c7 s0.c8 s0.c9 x10 (Zcp x0 s0)) then (bif tb (Zcs x0 x1 s0.c7 s0.c8 s0.c9 s0.c19 (Zz x0 x16 s0) x10 x11 x14 (Zcp x0 s0)) then false else true) else false) else false))) else false)) else false))) else false) else false)
def Zdv (x0 x1 : Int) (x5 : List Int) (x10 x11 x14 : Int) (x16 : List Zh) (s0 : Zbp) : Zs := (bif tb (((remI .u8 (gt x16 s0.c4).c0 2) : Int) == 1) then (bif tb (Zbl (gt x16 s0.c4).c2) then .h3 ⟨s0.c3, (wi (s0.c4 + 1)), (Zj x16 s0), (Zc x0 s0.c8 (gt x16 s0.c4).c2), (Zb x0 s0.c9 (gt x16 s0.c4).c2), s0.c11, s0.c12, [(gt x16 s0.c4).c2], s0.c19⟩ else .h2 ⟨s0.c3, (wi (s0.c4 + 1)), (Zj x16 s0), (Zc x0 s0.c8 (gt x16 s0.c4).c2), (Zb x0 s0.c9 (gt x16 s0.c4).c2), s0.c11, s0.c12, s0.c19⟩) else (bif tb (gt x16 s0.c4).c1 then .h2 ⟨true, (wi (s0.c4 + 1)), s0.c7, s0.c8, s0.c9, s0.c11, 0, ([] : List Int)⟩ else (bif tb (Zbr s0.c19 x10 (gt x16 s0.c4).c2) then .h2 ⟨false, (wi (s0.c4 + 1)), s0.c7, s0.c8, s0.c9, (Zb0 x16 s0), (Zz x0 x16 s0), (Zbk s0.c19 (gt x16 s0.c4).c2)⟩ else .h2 ⟨s0.c3, (wi (s0.c4 + 1)), s0.c7, s0.c8, s0.c9, (Zb0 x16 s0), (Zz x0 x16 s0), s0.c19⟩)))
def Zd0 (x0 x1 : Int) (x5 : List Int) (x10 x11 x14 : Int) (x16 : List Zh) (s0 : Zbx) : Bool := (bif tb (Zcy x16 s0.c4) then (bif tb (inb x16.length s0.c4) then (bif tb (((remI .u8 (gt x16 s0.c4).c0 2) : Int) == 1) then (bif tb (Zbb x0 s0.c8 (gt x16 s0.c4).c2) then (bif tb (Zbi s0.c20 (gt x16 s0.c4).c2) then (bif tb (((Zi (gt x16 s0.c4).c2) : Int) != 0) then false else (bif tb (Zfa x0 (Zl x16 s0) (Zc x0 s0.c8 (gt x16 s0.c4).c2) (Zb x0 s0.c9 (gt x16 s0.c4).c2) (s0.c20 ++ [(gt x16 s0.c4).c2]) x10) then (bif tb (Zff x0 (Zl x16 s0) (Zc x0 s0.c8 (gt x16 s0.c4).c2) (Zb x0 s0.c9 (gt x16 s0.c4).c2) (s0.c20 ++ [(gt x16 s0.c4).c2]) x10 (Zdh x0 x10 x16 s0)) then (bif tb (Zfi x0 x1 (Zl x16 s0) (Zc x0 s0.c8 (gt x16 s0.c4).c2) (Zb x0 s0.c9 (gt x16 s0.c4).c2) s0.c22 (s0.c20 ++ [(gt x16 s0.c4).c2]) s0.c12 x10 x11 x14 (Zdh x0 x10 x16 s0)) then false else true) else false) else false)) else (bif tb (Zdq (gt x16 s0.c4).c2) then (bif tb (((Zi (gt x16 s0.c4).c2) : Int) != 1) then false else (bif tb (Zc0 x0 (Zl x16 s0) (Zc x0 s0.c8 (gt x16 s0.c4).c2) (Zb x0 s0.c9 (gt x16 s0.c4).c2) s0.c20 x10) then (bif tb (Zc1 x0 (Zl x16 s0) (Zc x0 s0.c8 (gt x16 s0.c4).c2) (Zb x0 s0.c9 (gt x16 s0.c4).c2) s0.c20 x10 (Zdd x0 x10 x16 s0)) then (bif tb (Zc4 x0 x1 (Zl x16 s0) (Zc x0 s0.c8 (gt x16 s0.c4).c2) (Zb x0 s0.c9 (gt x16 s0.c4).c2) s0.c20 s0.c22 s0.c12 x10 x11 x14 (Zdd x0 x10 x16 s0)) then false else true) else false) else false)) else false)) else false) else (bif tb (gt x16 s0.c4).c1 then (bif tb (Zfb x0 s0.c7 s0.c8 s0.c9 s0.c20 x10) then (bif tb (Zfc x0 s0.c7 s0.c8 s0.c9 s0.c20 x10 (Zdi x0 x10 s0)) then (bif tb (Zfg x0 x1 s0.c7 s0.c8 s0.c9 s0.c20 x10 x11 x14 (Zdi x0 x10 s0)) then false else true) else false) else false) else (bif tb (Z6 x0 s0.c7 s0.c8 s0.c9 s0.c11 s0.c12 (gt x16 s0.c4).c2) then (bif tb (Zbv s0.c20 s0.c22 x10 false (gt x16 s0.c4).c2) then (bif tb (true != ((Zg x0 x1 s0.c7 s0.c8 s0.c9 s0.c11 s0.c12 (gt x16 s0.c4).c2) == (Zcb s0.c20 s0.c22 x10 x11 (gt x16 s0.c4).c2))) then false else (bif tb (((Zf (gt x16 s0.c4).c2) : Int) != 0) then false else (bif tb (Zfd x0 s0.c7 s0.c8 s0.c9 s0.c20 x10) then (bif tb (Zfe x0 s0.c7 s0.c8 s0.c9 s0.c20 x10 (Zdg x0 x10 s0)) then (bif tb (Zfh x0 x1 s0.c7 s0.c8 s0.c9 s0.c20 (Zbn s0.c22 (gt x16 s0.c4).c2) (Z5 x0 x16 s0) x10 x11 x14 (Zdg x0 x10 s0)) then false else true) else false) else false))) else (bif tb (Zec (gt x16 s0.c4).c2) then (bif tb (true != ((Zg x0 x1 s0.c7 s0.c8 s0.c9 s0.c11 s0.c12 (gt x16 s0.c4).c2) == false)) then false else (bif tb (((Zf (gt x16 s0.c4).c2) : Int) != 1) then false else (bif tb (Zc0 x0 s0.c7 s0.c8 s0.c9 s0.c20 x10) then (bif tb (Zc1 x0 s0.c7 s0.c8 s0.c9 s0.c20 x10 (Zc9 x0 x10 s0)) then (bif tb (Zc4 x0 x1 s0.c7 s0.c8 s0.c9 s0.c20 s0.c22 (Z5 x0 x16 s0) x10 x11 x14 (Zc9 x0 x10 s0)) then false else true) else false) else false))) else false)) else false))) else false) else false)
def Zds (x0 x1 : Int) (x5 : List Int) (x10 x11 x14 : Int) (x16 : List Zh) (s0 : Zbx) : Zs := (bif tb (((remI .u8 (gt x16 s0.c4).c0 2) : Int) == 1) then (bif tb (Zbi s0.c20 (gt x16 s0.c4).c2) then .h3 ⟨s0.c3, (wi (s0.c4 + 1)), (Zl x16 s0), (Zc x0 s0.c8 (gt x16 s0.c4).c2), (Zb x0 s0.c9 (gt x16 s0.c4).c2), s0.c11, s0.c12, (s0.c20 ++ [(gt x16 s0.c4).c2]), s0.c22⟩ else .h3 ⟨s0.c3, (wi (s0.c4 + 1)), (Zl x16 s0), (Zc x0 s0.c8 (gt x16 s0.c4).c2), (Zb x0 s0.c9 (gt x16 s0.c4).c2), s0.c11, s0.c12, s0.c20, s0.c22⟩) else (bif tb (gt x16 s0.c4).c1 then .h3 ⟨true, (wi (s0.c4 + 1)), s0.c7, s0.c8, s0.c9, s0.c11, 0, s0.c20, ([] : List Int)⟩ else (bif tb (Zbv s0.c20 s0.c22 x10 false (gt x16 s0.c4).c2) then .h3 ⟨false, (wi (s0.c4 + 1)), s0.c7, s0.c8, s0.c9, (Zb1 x16 s0), (Z5 x0 x16 s0), s0.c20, (Zbn s0.c22 (gt x16 s0.c4).c2)⟩ else .h3 ⟨s0.c3, (wi (s0.c4 + 1)), s0.c7, s0.c8, s0.c9, (Zb1 x16 s0), (Z5 x0 x16 s0), s0.c20, s0.c22⟩)))
def Zcw (x0 x1 : Int) (x5 : List Int) (x10 x11 x14 : Int) (x16 : List Zh) : Zs → Bool
 | .h0 v => Zc2 x0 x1 x5 x10 x11 x14 x16 v
 | .h1 v => Zdz x0 x1 x5 x10 x11 x14 x16 v
 | .h2 v => Zc3 x0 x1 x5 x10 x11 x14 x16 v
 | .h3 v => Zd0 x0 x1 x5 x10 x11 x14 x16 v
def Zd7 (x0 x1 : Int) (x5 : List Int) (x10 x11 x14 : Int) (x16 : List Zh) : Zs → Zs
 | .h0 v => Zdu x0 x1 x5 x10 x11 x14 x16 v
 | .h1 v => Zdt x0 x1 x5 x10 x11 x14 x16 v
 | .h2 v => Zdv x0 x1 x5 x10 x11 x14 x16 v
 | .h3 v => Zds x0 x1 x5 x10 x11 x14 x16 v
def Zd6 (x0 x1 : Int) (x5 : List Int) (x10 x11 x14 : Int) (x16 : List Zh) (s0 : Zs) : Bool := (itS (Zcw x0 x1 x5 x10 x11 x14 x16) (Zd7 x0 x1 x5 x10 x11 x14 x16) bound s0).isSome
def Ze (x0 x1 : Int) (x5 : List Int) (x10 x11 x14 : Int) (x16 : List Zh) (s0 : Zs) : Zs := (itS (Zcw x0 x1 x5 x10 x11 x14 x16) (Zd7 x0 x1 x5 x10 x11 x14 x16) bound s0).getD default
theorem Zrm (x0 x1 : Int) (x2 : List Int) (x3 x4 : Int) (x5 : List Int) (x6 : Bool) (x7 x8 : Int) (x9 : Bool) (x10 x11 : Int) (x12 x13 : Bool) (x14 : Int) (x15 : Bool) (x16 : List Zh) (x17 : Bool) (x18 : Int) (s0 : Zbo) : Zc2 x0 x1 x5 x10 x11 x14 x16 s0 = true → (roundG (runC E0 (cl E0) L10_4) [0, 2, 7, 10, 11, 12, 13] [6] 4) (Zbf x0 x1 x2 x3 x4 x5 x6 x7 x8 x9 x10 x11 x12 x13 x14 x15 x16 x17 x18 (.h0 s0)) = some (.normal, Zbf x0 x1 x2 x3 x4 x5 x6 x7 x8 x9 x10 x11 x12 x13 x14 x15 x16 x17 x18 (Zdu x0 x1 x5 x10 x11 x14 x16 s0)) := by
 unfold Zc2 Zdu
 cases h1 : tb (Zcu x16 s0.c4)
 ·exact ZN
 ·cases h2 : tb (inb x16.length s0.c4)
  ·exact ZN
  ·cases h3 : tb (((remI .u8 (gt x16 s0.c4).c0 2) : Int) == 1)
   ·cases h4 : tb (gt x16 s0.c4).c1
    ·cases h5 : tb (Z6 x0 s0.c7 s0.c8 s0.c9 s0.c11 s0.c12 (gt x16 s0.c4).c2)
     ·exact ZN
     ·cases h6 : tb (Zbr x5 x10 (gt x16 s0.c4).c2)
      ·cases h7 : tb (Zdx (gt x16 s0.c4).c2)
       ·exact ZN
       ·cases h8 : tb (true != ((Zg x0 x1 s0.c7 s0.c8 s0.c9 s0.c11 s0.c12 (gt x16 s0.c4).c2) == false))
        ·cases h9 : tb (((Zf (gt x16 s0.c4).c2) : Int) != 1)
         ·cases h10 : tb (Zcf x0 s0.c7 s0.c8 s0.c9 x10)
          ·exact ZN
          ·cases h11 : tb (Zcg x0 s0.c7 s0.c8 s0.c9 x10 (Zcm x0 s0))
           ·exact ZN
           ·cases h12 : tb (Zct x0 x1 s0.c7 s0.c8 s0.c9 x5 (Zy x0 x16 s0) x10 x11 x14 (Zcm x0 s0))
            ·exact fun _ => Zv [.s (Zd5 x0 x1 s0.c7 s0.c8 s0.c9 x5 false s0.c11 s0.c12 false x10 x11 false x13 x14 x15 x16 x17 s0.c4 (tbE h1)), .o 72 (fun _ => Zn (enc := Zd) (l := x16) (fl := true) (n := x15) (s := 3) (k := .i64) (tbE h2)), .o 77 (fun _ => Zn (enc := Zd) (l := x16) (fl := true) (n := x15) (s := 3) (k := .i64) (tbE h2)), .b (tbE h3), .b (tbE h4), .c (Zu x0 x1 s0.c7 s0.c8 s0.c9 s0.c11 s0.c12 false (gt x16 s0.c4).c2 (tbE h5)), .c (Zib x5 x10 x11 false x13 x17 (gt x16 s0.c4).c2 (tbE h6) (tbE h7)), .b (tbE h8), .b (tbE h9), .s (Zkv x0 x1 s0.c7 s0.c8 s0.c9 x5 (gt x16 s0.c4).c1 (gt x16 s0.c4).c2 false (Zb2 x16 s0) (Zy x0 x16 s0) false x10 x11 false x13 false x14 x15 x16 x17 s0.c4 (tbE h10)), .s (Zku x0 x1 s0.c7 s0.c8 s0.c9 x5 (gt x16 s0.c4).c1 (gt x16 s0.c4).c2 false (Zb2 x16 s0) (Zy x0 x16 s0) false x10 x11 false x13 false x14 x15 x16 x17 s0.c4 (Zcm x0 s0) (tbE h11)), .b (tbE h12)] (by kernel_rfl)
            ·exact ZN
         ·exact ZN
        ·exact ZN
      ·cases h7 : tb (true != ((Zg x0 x1 s0.c7 s0.c8 s0.c9 s0.c11 s0.c12 (gt x16 s0.c4).c2) == (Zb6 x5 x10 x11 (gt x16 s0.c4).c2)))
       ·cases h8 : tb (((Zf (gt x16 s0.c4).c2) : Int) != 0)
        ·cases h9 : tb (Ze6 x0 s0.c7 s0.c8 s0.c9 x10)
         ·exact ZN
         ·cases h10 : tb (Zez x0 s0.c7 s0.c8 s0.c9 x10 (Zco x0 s0))
          ·exact ZN
          ·cases h11 : tb (Zew x0 x1 s0.c7 s0.c8 s0.c9 (Zbk x5 (gt x16 s0.c4).c2) (Zy x0 x16 s0) x10 x11 x14 (Zco x0 s0))
           ·exact fun _ => Zv [.s (Zd5 x0 x1 s0.c7 s0.c8 s0.c9 x5 false s0.c11 s0.c12 false x10 x11 false x13 x14 x15 x16 x17 s0.c4 (tbE h1)), .o 72 (fun _ => Zn (enc := Zd) (l := x16) (fl := true) (n := x15) (s := 3) (k := .i64) (tbE h2)), .o 77 (fun _ => Zn (enc := Zd) (l := x16) (fl := true) (n := x15) (s := 3) (k := .i64) (tbE h2)), .b (tbE h3), .b (tbE h4), .c (Zu x0 x1 s0.c7 s0.c8 s0.c9 s0.c11 s0.c12 false (gt x16 s0.c4).c2 (tbE h5)), .c (Zic x5 x10 x11 false x13 x17 (gt x16 s0.c4).c2 (tbE h6)), .b (tbE h7), .b (tbE h8), .s (Zoc x0 x1 s0.c7 s0.c8 s0.c9 x5 (gt x16 s0.c4).c1 (gt x16 s0.c4).c2 (Zbk x5 (gt x16 s0.c4).c2) false (Zb2 x16 s0) (Zy x0 x16 s0) false x10 x11 false x13 false false x14 x15 x16 s0.c4 (tbE h9)), .s (Zon x0 x1 s0.c7 s0.c8 s0.c9 x5 (gt x16 s0.c4).c1 (gt x16 s0.c4).c2 (Zbk x5 (gt x16 s0.c4).c2) false (Zb2 x16 s0) (Zy x0 x16 s0) false x10 x11 false x13 false false x14 x15 x16 s0.c4 (Zco x0 s0) (tbE h10)), .b (tbE h11)] (by kernel_rfl)
           ·exact ZN
        ·exact ZN
       ·exact ZN
    ·cases h5 : tb (Ze0 x0 s0.c7 s0.c8 s0.c9 x10)
     ·exact ZN
     ·cases h6 : tb (Ze4 x0 s0.c7 s0.c8 s0.c9 x10 (Zcq x0 s0))
      ·exact ZN
      ·cases h7 : tb (Zev x0 x1 s0.c7 s0.c8 s0.c9 x10 x11 x14 (Zcq x0 s0))
       ·exact fun _ => Zv [.s (Zd5 x0 x1 s0.c7 s0.c8 s0.c9 x5 false s0.c11 s0.c12 false x10 x11 false x13 x14 x15 x16 x17 s0.c4 (tbE h1)), .o 72 (fun _ => Zn (enc := Zd) (l := x16) (fl := true) (n := x15) (s := 3) (k := .i64) (tbE h2)), .o 77 (fun _ => Zn (enc := Zd) (l := x16) (fl := true) (n := x15) (s := 3) (k := .i64) (tbE h2)), .b (tbE h3), .b (tbE h4), .c (Zgo x0 x1 s0.c7 s0.c8 s0.c9 s0.c11 s0.c12 false), .s (Zog x0 x1 s0.c7 s0.c8 s0.c9 x5 (gt x16 s0.c4).c1 (gt x16 s0.c4).c2 false s0.c11 false x10 x11 false x13 false false x14 x15 x16 s0.c4 (tbE h5)), .s (Zn6 x0 x1 s0.c7 s0.c8 s0.c9 x5 (gt x16 s0.c4).c1 (gt x16 s0.c4).c2 false s0.c11 false x10 x11 false x13 false false x14 x15 x16 s0.c4 (Zcq x0 s0) (tbE h6)), .b (tbE h7)] (by kernel_rfl)
       ·exact ZN
   ·cases h4 : tb (Zbb x0 s0.c8 (gt x16 s0.c4).c2)
    ·exact ZN
    ·cases h5 : tb (Zbl (gt x16 s0.c4).c2)
     ·cases h6 : tb (((Zi (gt x16 s0.c4).c2) : Int) != 1)
      ·cases h7 : tb (Zcf x0 (Zk x16 s0) (Zc x0 s0.c8 (gt x16 s0.c4).c2) (Zb x0 s0.c9 (gt x16 s0.c4).c2) x10)
       ·exact ZN
       ·cases h8 : tb (Zcg x0 (Zk x16 s0) (Zc x0 s0.c8 (gt x16 s0.c4).c2) (Zb x0 s0.c9 (gt x16 s0.c4).c2) x10 (Zck x0 x16 s0))
        ·exact ZN
        ·cases h9 : tb (Zct x0 x1 (Zk x16 s0) (Zc x0 s0.c8 (gt x16 s0.c4).c2) (Zb x0 s0.c9 (gt x16 s0.c4).c2) x5 s0.c12 x10 x11 x14 (Zck x0 x16 s0))
         ·exact fun _ => Zv [.s (Zd5 x0 x1 s0.c7 s0.c8 s0.c9 x5 false s0.c11 s0.c12 false x10 x11 false x13 x14 x15 x16 x17 s0.c4 (tbE h1)), .o 72 (fun _ => Zn (enc := Zd) (l := x16) (fl := true) (n := x15) (s := 3) (k := .i64) (tbE h2)), .o 77 (fun _ => Zn (enc := Zd) (l := x16) (fl := true) (n := x15) (s := 3) (k := .i64) (tbE h2)), .b (tbE h3), .c (Zbm x0 x1 s0.c7 s0.c8 s0.c9 (gt x16 s0.c4).c2 (tbE h4)), .c (Zi2 x10 x11 (gt x16 s0.c4).c2 (tbE h5)), .b (tbE h6), .s (Zkv x0 x1 (Zk x16 s0) (Zc x0 s0.c8 (gt x16 s0.c4).c2) (Zb x0 s0.c9 (gt x16 s0.c4).c2) x5 (gt x16 s0.c4).c1 (gt x16 s0.c4).c2 false s0.c11 s0.c12 false x10 x11 false x13 false x14 x15 x16 x17 s0.c4 (tbE h7)), .s (Zku x0 x1 (Zk x16 s0) (Zc x0 s0.c8 (gt x16 s0.c4).c2) (Zb x0 s0.c9 (gt x16 s0.c4).c2) x5 (gt x16 s0.c4).c1 (gt x16 s0.c4).c2 false s0.c11 s0.c12 false x10 x11 false x13 false x14 x15 x16 x17 s0.c4 (Zck x0 x16 s0) (tbE h8)), .b (tbE h9)] (by kernel_rfl)
         ·exact ZN
      ·exact ZN
     ·cases h6 : tb (((Zi (gt x16 s0.c4).c2) : Int) != 0)
      ·cases h7 : tb (Zfx x0 (Zk x16 s0) (Zc x0 s0.c8 (gt x16 s0.c4).c2) (Zb x0 s0.c9 (gt x16 s0.c4).c2) (gt x16 s0.c4).c2 x10)
       ·exact ZN
       ·cases h8 : tb (Zfw x0 (Zk x16 s0) (Zc x0 s0.c8 (gt x16 s0.c4).c2) (Zb x0 s0.c9 (gt x16 s0.c4).c2) [(gt x16 s0.c4).c2] x10 (Zcr x0 x10 x16 s0))
        ·exact ZN
        ·cases h9 : tb (Zfo x0 x1 (Zk x16 s0) (Zc x0 s0.c8 (gt x16 s0.c4).c2) (Zb x0 s0.c9 (gt x16 s0.c4).c2) x5 [(gt x16 s0.c4).c2] s0.c12 x10 x11 x14 (Zcr x0 x10 x16 s0))
         ·exact fun _ => Zv [.s (Zd5 x0 x1 s0.c7 s0.c8 s0.c9 x5 false s0.c11 s0.c12 false x10 x11 false x13 x14 x15 x16 x17 s0.c4 (tbE h1)), .o 72 (fun _ => Zn (enc := Zd) (l := x16) (fl := true) (n := x15) (s := 3) (k := .i64) (tbE h2)), .o 77 (fun _ => Zn (enc := Zd) (l := x16) (fl := true) (n := x15) (s := 3) (k := .i64) (tbE h2)), .b (tbE h3), .c (Zbm x0 x1 s0.c7 s0.c8 s0.c9 (gt x16 s0.c4).c2 (tbE h4)), .c (Zi0 x10 x11 (gt x16 s0.c4).c2 (tbE h5)), .b (tbE h6), .s (Zo6 x0 x1 (Zk x16 s0) (Zc x0 s0.c8 (gt x16 s0.c4).c2) (Zb x0 s0.c9 (gt x16 s0.c4).c2) x5 (gt x16 s0.c4).c1 (gt x16 s0.c4).c2 (gt x16 s0.c4).c2 false s0.c11 s0.c12 false x10 x11 false x13 false false x14 x15 x16 x17 s0.c4 (tbE h7)), .s (Zo3 x0 x1 (Zk x16 s0) (Zc x0 s0.c8 (gt x16 s0.c4).c2) (Zb x0 s0.c9 (gt x16 s0.c4).c2) x5 (gt x16 s0.c4).c1 (gt x16 s0.c4).c2 [(gt x16 s0.c4).c2] false s0.c11 s0.c12 false x10 x11 false x13 false false x14 x15 x16 x17 s0.c4 (Zcr x0 x10 x16 s0) (tbE h8)), .b (tbE h9)] (by kernel_rfl)
         ·exact ZN
      ·exact ZN
def Zd4 (x0 x10 : Int) (x16 : List Zh) (s0 : Zbo) : Bool := (bif tb (Zcu x16 s0.c4) then (bif tb (inb x16.length s0.c4) then (bif tb (((remI .u8 (gt x16 s0.c4).c0 2) : Int) == 1) then (bif tb (Zbb x0 s0.c8 (gt x16 s0.c4).c2) then (bif tb (Zbl (gt x16 s0.c4).c2) then (bif tb (((Zi (gt x16 s0.c4).c2) : Int) != 0) then true else (bif tb (Zfx x0 (Zk x16 s0) (Zc x0 s0.c8 (gt x16 s0.c4).c2) (Zb x0 s0.c9 (gt x16 s0.c4).c2) (gt x16 s0.c4).c2 x10) then (bif tb (Zfw x0 (Zk x16 s0) (Zc x0 s0.c8 (gt x16 s0.c4).c2) (Zb x0 s0.c9 (gt x16 s0.c4).c2) [(gt x16 s0.c4).c2] x10 (Zcr x0 x10 x16 s0)) then true else false) else false)) else false) else false) else false) else false) else false)
def Zl4 (x16 : List Zh) (s0 : Zbo) : List Int := (bif tb (((Zi (gt x16 s0.c4).c2) : Int) != 0) then (Zbs s0.c7 s0.c8 (gt x16 s0.c4).c2) else (Zk x16 s0))
def Zf6 (x0 x1 : Int) (x5 : List Int) (x10 x11 : Int) (x16 : List Zh) (s0 : Zbo) : Bool := (bif tb (Zcu x16 s0.c4) then (bif tb (inb x16.length s0.c4) then (bif tb (((remI .u8 (gt x16 s0.c4).c0 2) : Int) == 1) then (bif tb (Zbb x0 s0.c8 (gt x16 s0.c4).c2) then (bif tb (Zbl (gt x16 s0.c4).c2) then false else (bif tb (((Zi (gt x16 s0.c4).c2) : Int) != 1) then true else (bif tb (Zcf x0 (Zk x16 s0) (Zc x0 s0.c8 (gt x16 s0.c4).c2) (Zb x0 s0.c9 (gt x16 s0.c4).c2) x10) then (bif tb (Zcg x0 (Zk x16 s0) (Zc x0 s0.c8 (gt x16 s0.c4).c2) (Zb x0 s0.c9 (gt x16 s0.c4).c2) x10 (Zck x0 x16 s0)) then true else false) else false))) else false) else (bif tb (gt x16 s0.c4).c1 then (bif tb (Ze0 x0 s0.c7 s0.c8 s0.c9 x10) then (bif tb (Ze4 x0 s0.c7 s0.c8 s0.c9 x10 (Zcq x0 s0)) then true else false) else false) else (bif tb (Z6 x0 s0.c7 s0.c8 s0.c9 s0.c11 s0.c12 (gt x16 s0.c4).c2) then (bif tb (Zbr x5 x10 (gt x16 s0.c4).c2) then (bif tb (true != ((Zg x0 x1 s0.c7 s0.c8 s0.c9 s0.c11 s0.c12 (gt x16 s0.c4).c2) == (Zb6 x5 x10 x11 (gt x16 s0.c4).c2))) then true else (bif tb (((Zf (gt x16 s0.c4).c2) : Int) != 0) then true else (bif tb (Ze6 x0 s0.c7 s0.c8 s0.c9 x10) then (bif tb (Zez x0 s0.c7 s0.c8 s0.c9 x10 (Zco x0 s0)) then true else false) else false))) else (bif tb (Zdx (gt x16 s0.c4).c2) then (bif tb (true != ((Zg x0 x1 s0.c7 s0.c8 s0.c9 s0.c11 s0.c12 (gt x16 s0.c4).c2) == false)) then true else (bif tb (((Zf (gt x16 s0.c4).c2) : Int) != 1) then true else (bif tb (Zcf x0 s0.c7 s0.c8 s0.c9 x10) then (bif tb (Zcg x0 s0.c7 s0.c8 s0.c9 x10 (Zcm x0 s0)) then true else false) else false))) else false)) else false))) else false) else false)
def Zlo (x16 : List Zh) (s0 : Zbo) : List Int := (bif tb (((remI .u8 (gt x16 s0.c4).c0 2) : Int) == 1) then (bif tb (((Zi (gt x16 s0.c4).c2) : Int) != 1) then (Zbs s0.c7 s0.c8 (gt x16 s0.c4).c2) else (Zk x16 s0)) else s0.c7)
def Zl1 (x0 : Int) (x16 : List Zh) (s0 : Zbo) : Int := (bif tb (((remI .u8 (gt x16 s0.c4).c0 2) : Int) == 1) then (Zc x0 s0.c8 (gt x16 s0.c4).c2) else s0.c8)
def Zlk (x0 : Int) (x16 : List Zh) (s0 : Zbo) : Int := (bif tb (((remI .u8 (gt x16 s0.c4).c0 2) : Int) == 1) then (Zb x0 s0.c9 (gt x16 s0.c4).c2) else s0.c9)
def Zlq (x0 x1 : Int) (x5 : List Int) (x10 x11 : Int) (x16 : List Zh) (s0 : Zbo) : Int := (bif tb (((remI .u8 (gt x16 s0.c4).c0 2) : Int) == 1) then s0.c11 else (bif tb (gt x16 s0.c4).c1 then s0.c11 else (bif tb (Zbr x5 x10 (gt x16 s0.c4).c2) then (bif tb (true != ((Zg x0 x1 s0.c7 s0.c8 s0.c9 s0.c11 s0.c12 (gt x16 s0.c4).c2) == (Zb6 x5 x10 x11 (gt x16 s0.c4).c2))) then (Z7 s0.c11 (gt x16 s0.c4).c2) else (bif tb (((Zf (gt x16 s0.c4).c2) : Int) != 0) then (Z7 s0.c11 (gt x16 s0.c4).c2) else (Zb2 x16 s0))) else (bif tb (true != ((Zg x0 x1 s0.c7 s0.c8 s0.c9 s0.c11 s0.c12 (gt x16 s0.c4).c2) == false)) then (Z7 s0.c11 (gt x16 s0.c4).c2) else (bif tb (((Zf (gt x16 s0.c4).c2) : Int) != 1) then (Z7 s0.c11 (gt x16 s0.c4).c2) else (Zb2 x16 s0))))))
def Zlm (x0 x1 : Int) (x5 : List Int) (x10 x11 : Int) (x16 : List Zh) (s0 : Zbo) : Int := (bif tb (((remI .u8 (gt x16 s0.c4).c0 2) : Int) == 1) then s0.c12 else (bif tb (gt x16 s0.c4).c1 then 0 else (bif tb (Zbr x5 x10 (gt x16 s0.c4).c2) then (bif tb (true != ((Zg x0 x1 s0.c7 s0.c8 s0.c9 s0.c11 s0.c12 (gt x16 s0.c4).c2) == (Zb6 x5 x10 x11 (gt x16 s0.c4).c2))) then (Z8 x0 s0.c11 s0.c12 (gt x16 s0.c4).c2) else (bif tb (((Zf (gt x16 s0.c4).c2) : Int) != 0) then (Z8 x0 s0.c11 s0.c12 (gt x16 s0.c4).c2) else (Zy x0 x16 s0))) else (bif tb (true != ((Zg x0 x1 s0.c7 s0.c8 s0.c9 s0.c11 s0.c12 (gt x16 s0.c4).c2) == false)) then (Z8 x0 s0.c11 s0.c12 (gt x16 s0.c4).c2) else (bif tb (((Zf (gt x16 s0.c4).c2) : Int) != 1) then (Z8 x0 s0.c11 s0.c12 (gt x16 s0.c4).c2) else (Zy x0 x16 s0))))))
def Zie (x16 : List Zh) (s0 : Zbo) : Bool := (bif tb (Zcu x16 s0.c4) then false else true)
theorem Zrk (x0 x1 : Int) (x2 : List Int) (x3 x4 : Int) (x5 : List Int) (x6 : Bool) (x7 x8 : Int) (x9 : Bool) (x10 x11 : Int) (x12 x13 : Bool) (x14 : Int) (x15 : Bool) (x16 : List Zh) (x17 : Bool) (x18 : Int) (s0 : Zbo) : Zc2 x0 x1 x5 x10 x11 x14 x16 s0 = false → Zd4 x0 x10 x16 s0 = true → (roundG (runC E0 (cl E0) L10_4) [0, 2, 7, 10, 11, 12, 13] [6] 4) (Zbf x0 x1 x2 x3 x4 x5 x6 x7 x8 x9 x10 x11 x12 x13 x14 x15 x16 x17 x18 (.h0 s0)) = some (.ret, ([(V.d (.bool false))], [(Blk.flat 82 20 [([(.int .i64 x0), (.int .i64 x1)] ++ arrD .i64 (Zl4 x16 s0) 16 ++ [(.int .i64 (Zc x0 s0.c8 (gt x16 s0.c4).c2)), (.int .i64 (Zb x0 s0.c9 (gt x16 s0.c4).c2))])] false), (Blk.gen 84 3 [[(V.ptr 0 1 0 0), (V.d (.int .i64 s0.c11)), (V.d (.int .i64 s0.c12))]] false), (Blk.gen 86 3 [[(V.d (.int .i64 x10)), (V.d (.int .i64 x11)), (V.so false 4 ([(gt x16 s0.c4).c2].length))]] false), (Blk.flat 3 1 (List.map (encI .i64) x5) x13), (Blk.flat 3 1 (List.map (encI .i64) [(gt x16 s0.c4).c2]) false)])) := by
 unfold Zc2 Zd4 Zl4
 cases h1 : tb (Zcu x16 s0.c4)
 ·intro g0 g1
  exact absurd g1 ft
 ·cases h2 : tb (inb x16.length s0.c4)
  ·intro g0 g1
   exact absurd g1 ft
  ·cases h3 : tb (((remI .u8 (gt x16 s0.c4).c0 2) : Int) == 1)
   ·cases h4 : tb (gt x16 s0.c4).c1
    ·cases h5 : tb (Z6 x0 s0.c7 s0.c8 s0.c9 s0.c11 s0.c12 (gt x16 s0.c4).c2)
     ·intro g0 g1
      exact absurd g1 ft
     ·cases h6 : tb (Zbr x5 x10 (gt x16 s0.c4).c2)
      ·cases h7 : tb (Zdx (gt x16 s0.c4).c2)
       ·intro g0 g1
        exact absurd g1 ft
       ·cases h8 : tb (true != ((Zg x0 x1 s0.c7 s0.c8 s0.c9 s0.c11 s0.c12 (gt x16 s0.c4).c2) == false))
        ·cases h9 : tb (((Zf (gt x16 s0.c4).c2) : Int) != 1)
         ·cases h10 : tb (Zcf x0 s0.c7 s0.c8 s0.c9 x10)
          ·intro g0 g1
           exact absurd g1 ft
          ·cases h11 : tb (Zcg x0 s0.c7 s0.c8 s0.c9 x10 (Zcm x0 s0))
           ·intro g0 g1
            exact absurd g1 ft
           ·cases h12 : tb (Zct x0 x1 s0.c7 s0.c8 s0.c9 x5 (Zy x0 x16 s0) x10 x11 x14 (Zcm x0 s0))
            ·intro g0 g1
             exact absurd g0 tf
            ·intro g0 g1
             exact absurd g1 ft
         ·intro g0 g1
          exact absurd g1 ft
        ·intro g0 g1
         exact absurd g1 ft
      ·cases h7 : tb (true != ((Zg x0 x1 s0.c7 s0.c8 s0.c9 s0.c11 s0.c12 (gt x16 s0.c4).c2) == (Zb6 x5 x10 x11 (gt x16 s0.c4).c2)))
       ·cases h8 : tb (((Zf (gt x16 s0.c4).c2) : Int) != 0)
        ·cases h9 : tb (Ze6 x0 s0.c7 s0.c8 s0.c9 x10)
         ·intro g0 g1
          exact absurd g1 ft
         ·cases h10 : tb (Zez x0 s0.c7 s0.c8 s0.c9 x10 (Zco x0 s0))
          ·intro g0 g1
           exact absurd g1 ft
          ·cases h11 : tb (Zew x0 x1 s0.c7 s0.c8 s0.c9 (Zbk x5 (gt x16 s0.c4).c2) (Zy x0 x16 s0) x10 x11 x14 (Zco x0 s0))
           ·intro g0 g1
            exact absurd g0 tf
           ·intro g0 g1
            exact absurd g1 ft
        ·intro g0 g1
         exact absurd g1 ft
       ·intro g0 g1
        exact absurd g1 ft
    ·cases h5 : tb (Ze0 x0 s0.c7 s0.c8 s0.c9 x10)
     ·intro g0 g1
      exact absurd g1 ft
     ·cases h6 : tb (Ze4 x0 s0.c7 s0.c8 s0.c9 x10 (Zcq x0 s0))
      ·intro g0 g1
       exact absurd g1 ft
      ·cases h7 : tb (Zev x0 x1 s0.c7 s0.c8 s0.c9 x10 x11 x14 (Zcq x0 s0))
       ·intro g0 g1
        exact absurd g0 tf
       ·intro g0 g1
        exact absurd g1 ft
   ·cases h4 : tb (Zbb x0 s0.c8 (gt x16 s0.c4).c2)
    ·intro g0 g1
     exact absurd g1 ft
    ·cases h5 : tb (Zbl (gt x16 s0.c4).c2)
     ·cases h6 : tb (((Zi (gt x16 s0.c4).c2) : Int) != 1)
      ·cases h7 : tb (Zcf x0 (Zk x16 s0) (Zc x0 s0.c8 (gt x16 s0.c4).c2) (Zb x0 s0.c9 (gt x16 s0.c4).c2) x10)
       ·intro g0 g1
        exact absurd g1 ft
       ·cases h8 : tb (Zcg x0 (Zk x16 s0) (Zc x0 s0.c8 (gt x16 s0.c4).c2) (Zb x0 s0.c9 (gt x16 s0.c4).c2) x10 (Zck x0 x16 s0))
        ·intro g0 g1
         exact absurd g1 ft
        ·cases h9 : tb (Zct x0 x1 (Zk x16 s0) (Zc x0 s0.c8 (gt x16 s0.c4).c2) (Zb x0 s0.c9 (gt x16 s0.c4).c2) x5 s0.c12 x10 x11 x14 (Zck x0 x16 s0))
         ·intro g0 g1
          exact absurd g0 tf
         ·intro g0 g1
          exact absurd g1 ft
      ·intro g0 g1
       exact absurd g1 ft
     ·cases h6 : tb (((Zi (gt x16 s0.c4).c2) : Int) != 0)
      ·cases h7 : tb (Zfx x0 (Zk x16 s0) (Zc x0 s0.c8 (gt x16 s0.c4).c2) (Zb x0 s0.c9 (gt x16 s0.c4).c2) (gt x16 s0.c4).c2 x10)
       ·intro g0 g1
        exact absurd g1 ft
       ·cases h8 : tb (Zfw x0 (Zk x16 s0) (Zc x0 s0.c8 (gt x16 s0.c4).c2) (Zb x0 s0.c9 (gt x16 s0.c4).c2) [(gt x16 s0.c4).c2] x10 (Zcr x0 x10 x16 s0))
        ·intro g0 g1
         exact absurd g1 ft
        ·cases h9 : tb (Zfo x0 x1 (Zk x16 s0) (Zc x0 s0.c8 (gt x16 s0.c4).c2) (Zb x0 s0.c9 (gt x16 s0.c4).c2) x5 [(gt x16 s0.c4).c2] s0.c12 x10 x11 x14 (Zcr x0 x10 x16 s0))
         ·intro g0 g1
          exact absurd g0 tf
         ·intro g0 g1
          exact Zv [.s (Zd5 x0 x1 s0.c7 s0.c8 s0.c9 x5 false s0.c11 s0.c12 false x10 x11 false x13 x14 x15 x16 x17 s0.c4 (tbE h1)), .o 72 (fun _ => Zn (enc := Zd) (l := x16) (fl := true) (n := x15) (s := 3) (k := .i64) (tbE h2)), .o 77 (fun _ => Zn (enc := Zd) (l := x16) (fl := true) (n := x15) (s := 3) (k := .i64) (tbE h2)), .b (tbE h3), .c (Zbm x0 x1 s0.c7 s0.c8 s0.c9 (gt x16 s0.c4).c2 (tbE h4)), .c (Zi0 x10 x11 (gt x16 s0.c4).c2 (tbE h5)), .b (tbE h6), .s (Zo6 x0 x1 (Zk x16 s0) (Zc x0 s0.c8 (gt x16 s0.c4).c2) (Zb x0 s0.c9 (gt x16 s0.c4).c2) x5 (gt x16 s0.c4).c1 (gt x16 s0.c4).c2 (gt x16 s0.c4).c2 false s0.c11 s0.c12 false x10 x11 false x13 false false x14 x15 x16 x17 s0.c4 (tbE h7)), .s (Zo3 x0 x1 (Zk x16 s0) (Zc x0 s0.c8 (gt x16 s0.c4).c2) (Zb x0 s0.c9 (gt x16 s0.c4).c2) x5 (gt x16 s0.c4).c1 (gt x16 s0.c4).c2 [(gt x16 s0.c4).c2] false s0.c11 s0.c12 false x10 x11 false x13 false false x14 x15 x16 x17 s0.c4 (Zcr x0 x10 x16 s0) (tbE h8)), .b (tbE h9)] (by kernel_rfl)
      ·intro g0 g1
       exact Zv [.s (Zd5 x0 x1 s0.c7 s0.c8 s0.c9 x5 false s0.c11 s0.c12 false x10 x11 false x13 x14 x15 x16 x17 s0.c4 (tbE h1)), .o 72 (fun _ => Zn (enc := Zd) (l := x16) (fl := true) (n := x15) (s := 3) (k := .i64) (tbE h2)), .o 77 (fun _ => Zn (enc := Zd) (l := x16) (fl := true) (n := x15) (s := 3) (k := .i64) (tbE h2)), .b (tbE h3), .c (Zbm x0 x1 s0.c7 s0.c8 s0.c9 (gt x16 s0.c4).c2 (tbE h4)), .c (Zi0 x10 x11 (gt x16 s0.c4).c2 (tbE h5)), .b (tbE h6)] (by kernel_rfl)
theorem Zrj (x0 x1 : Int) (x2 : List Int) (x3 x4 : Int) (x5 : List Int) (x6 : Bool) (x7 x8 : Int) (x9 : Bool) (x10 x11 : Int) (x12 x13 : Bool) (x14 : Int) (x15 : Bool) (x16 : List Zh) (x17 : Bool) (x18 : Int) (s0 : Zbo) : Zc2 x0 x1 x5 x10 x11 x14 x16 s0 = false → Zd4 x0 x10 x16 s0 = false → Zf6 x0 x1 x5 x10 x11 x16 s0 = true → (roundG (runC E0 (cl E0) L10_4) [0, 2, 7, 10, 11, 12, 13] [6] 4) (Zbf x0 x1 x2 x3 x4 x5 x6 x7 x8 x9 x10 x11 x12 x13 x14 x15 x16 x17 x18 (.h0 s0)) = some (.ret, ([(V.d (.bool false))], [(Blk.flat 82 20 [([(.int .i64 x0), (.int .i64 x1)] ++ arrD .i64 (Zlo x16 s0) 16 ++ [(.int .i64 (Zl1 x0 x16 s0)), (.int .i64 (Zlk x0 x16 s0))])] false), (Blk.gen 84 3 [[(V.ptr 0 1 0 0), (V.d (.int .i64 (Zlq x0 x1 x5 x10 x11 x16 s0))), (V.d (.int .i64 (Zlm x0 x1 x5 x10 x11 x16 s0)))]] false), (Blk.gen 86 3 [[(V.d (.int .i64 x10)), (V.d (.int .i64 x11)), (V.d .nils)]] false), (Blk.flat 3 1 (List.map (encI .i64) x5) x13)])) := by
 unfold Zc2 Zd4 Zf6 Zlo Zl1 Zlk Zlq Zlm
 cases h1 : tb (Zcu x16 s0.c4)
 ·intro g0 g1 g2
  exact absurd g2 ft
 ·cases h2 : tb (inb x16.length s0.c4)
  ·intro g0 g1 g2
   exact absurd g2 ft
  ·cases h3 : tb (((remI .u8 (gt x16 s0.c4).c0 2) : Int) == 1)
   ·cases h4 : tb (gt x16 s0.c4).c1
    ·cases h5 : tb (Z6 x0 s0.c7 s0.c8 s0.c9 s0.c11 s0.c12 (gt x16 s0.c4).c2)
     ·intro g0 g1 g2
      exact absurd g2 ft
     ·cases h6 : tb (Zbr x5 x10 (gt x16 s0.c4).c2)
      ·cases h7 : tb (Zdx (gt x16 s0.c4).c2)
       ·intro g0 g1 g2
        exact absurd g2 ft
       ·cases h8 : tb (true != ((Zg x0 x1 s0.c7 s0.c8 s0.c9 s0.c11 s0.c12 (gt x16 s0.c4).c2) == false))
        ·cases h9 : tb (((Zf (gt x16 s0.c4).c2) : Int) != 1)
         ·cases h10 : tb (Zcf x0 s0.c7 s0.c8 s0.c9 x10)
          ·intro g0 g1 g2
           exact absurd g2 ft
          ·cases h11 : tb (Zcg x0 s0.c7 s0.c8 s0.c9 x10 (Zcm x0 s0))
           ·intro g0 g1 g2
            exact absurd g2 ft
           ·cases h12 : tb (Zct x0 x1 s0.c7 s0.c8 s0.c9 x5 (Zy x0 x16 s0) x10 x11 x14 (Zcm x0 s0))
            ·intro g0 g1 g2
             exact absurd g0 tf
            ·intro g0 g1 g2
             exact Zv [.s (Zd5 x0 x1 s0.c7 s0.c8 s0.c9 x5 false s0.c11 s0.c12 false x10 x11 false x13 x14 x15 x16 x17 s0.c4 (tbE h1)), .o 72 (fun _ => Zn (enc := Zd) (l := x16) (fl := true) (n := x15) (s := 3) (k := .i64) (tbE h2)), .o 77 (fun _ => Zn (enc := Zd) (l := x16) (fl := true) (n := x15) (s := 3) (k := .i64) (tbE h2)), .b (tbE h3), .b (tbE h4), .c (Zu x0 x1 s0.c7 s0.c8 s0.c9 s0.c11 s0.c12 false (gt x16 s0.c4).c2 (tbE h5)), .c (Zib x5 x10 x11 false x13 x17 (gt x16 s0.c4).c2 (tbE h6) (tbE h7)), .b (tbE h8), .b (tbE h9), .s (Zkv x0 x1 s0.c7 s0.c8 s0.c9 x5 (gt x16 s0.c4).c1 (gt x16 s0.c4).c2 false (Zb2 x16 s0) (Zy x0 x16 s0) false x10 x11 false x13 false x14 x15 x16 x17 s0.c4 (tbE h10)), .s (Zku x0 x1 s0.c7 s0.c8 s0.c9 x5 (gt x16 s0.c4).c1 (gt x16 s0.c4).c2 false (Zb2 x16 s0) (Zy x0 x16 s0) false x10 x11 false x13 false x14 x15 x16 x17 s0.c4 (Zcm x0 s0) (tbE h11)), .b (tbE h12)] (by kernel_rfl)
         ·intro g0 g1 g2
          exact Zv [.s (Zd5 x0 x1 s0.c7 s0.c8 s0.c9 x5 false s0.c11 s0.c12 false x10 x11 false x13 x14 x15 x16 x17 s0.c4 (tbE h1)), .o 72 (fun _ => Zn (enc := Zd) (l := x16) (fl := true) (n := x15) (s := 3) (k := .i64) (tbE h2)), .o 77 (fun _ => Zn (enc := Zd) (l := x16) (fl := true) (n := x15) (s := 3) (k := .i64) (tbE h2)), .b (tbE h3), .b (tbE h4), .c (Zu x0 x1 s0.c7 s0.c8 s0.c9 s0.c11 s0.c12 false (gt x16 s0.c4).c2 (tbE h5)), .c (Zib x5 x10 x11 false x13 x17 (gt x16 s0.c4).c2 (tbE h6) (tbE h7)), .b (tbE h8), .b (tbE h9)] (by kernel_rfl)
        ·intro g0 g1 g2
         exact Zv [.s (Zd5 x0 x1 s0.c7 s0.c8 s0.c9 x5 false s0.c11 s0.c12 false x10 x11 false x13 x14 x15 x16 x17 s0.c4 (tbE h1)), .o 72 (fun _ => Zn (enc := Zd) (l := x16) (fl := true) (n := x15) (s := 3) (k := .i64) (tbE h2)), .o 77 (fun _ => Zn (enc := Zd) (l := x16) (fl := true) (n := x15) (s := 3) (k := .i64) (tbE h2)), .b (tbE h3), .b (tbE h4), .c (Zu x0 x1 s0.c7 s0.c8 s0.c9 s0.c11 s0.c12 false (gt x16 s0.c4).c2 (tbE h5)), .c (Zib x5 x10 x11 false x13 x17 (gt x16 s0.c4).c2 (tbE h6) (tbE h7)), .b (tbE h8)] (by kernel_rfl)
      ·cases h7 : tb (true != ((Zg x0 x1 s0.c7 s0.c8 s0.c9 s0.c11 s0.c12 (gt x16 s0.c4).c2) == (Zb6 x5 x10 x11 (gt x16 s0.c4).c2)))
       ·cases h8 : tb (((Zf (gt x16 s0.c4).c2) : Int) != 0)
        ·cases h9 : tb (Ze6 x0 s0.c7 s0.c8 s0.c9 x10)
         ·intro g0 g1 g2
          exact absurd g2 ft
         ·cases h10 : tb (Zez x0 s0.c7 s0.c8 s0.c9 x10 (Zco x0 s0))
          ·intro g0 g1 g2
           exact absurd g2 ft
          ·cases h11 : tb (Zew x0 x1 s0.c7 s0.c8 s0.c9 (Zbk x5 (gt x16 s0.c4).c2) (Zy x0 x16 s0) x10 x11 x14 (Zco x0 s0))
           ·intro g0 g1 g2
            exact absurd g0 tf
           ·intro g0 g1 g2
            exact Zv [.s (Zd5 x0 x1 s0.c7 s0.c8 s0.c9 x5 false s0.c11 s0.c12 false x10 x11 false x13 x14 x15 x16 x17 s0.c4 (tbE h1)), .o 72 (fun _ => Zn (enc := Zd) (l := x16) (fl := true) (n := x15) (s := 3) (k := .i64) (tbE h2)), .o 77 (fun _ => Zn (enc := Zd) (l := x16) (fl := true) (n := x15) (s := 3) (k := .i64) (tbE h2)), .b (tbE h3), .b (tbE h4), .c (Zu x0 x1 s0.c7 s0.c8 s0.c9 s0.c11 s0.c12 false (gt x16 s0.c4).c2 (tbE h5)), .c (Zic x5 x10 x11 false x13 x17 (gt x16 s0.c4).c2 (tbE h6)), .b (tbE h7), .b (tbE h8), .s (Zoc x0 x1 s0.c7 s0.c8 s0.c9 x5 (gt x16 s0.c4).c1 (gt x16 s0.c4).c2 (Zbk x5 (gt x16 s0.c4).c2) false (Zb2 x16 s0) (Zy x0 x16 s0) false x10 x11 false x13 false false x14 x15 x16 s0.c4 (tbE h9)), .s (Zon x0 x1 s0.c7 s0.c8 s0.c9 x5 (gt x16 s0.c4).c1 (gt x16 s0.c4).c2 (Zbk x5 (gt x16 s0.c4).c2) false (Zb2 x16 s0) (Zy x0 x16 s0) false x10 x11 false x13 false false x14 x15 x16 s0.c4 (Zco x0 s0) (tbE h10)), .b (tbE h11)] (by kernel_rfl)
        ·intro g0 g1 g2
         exact Zv [.s (Zd5 x0 x1 s0.c7 s0.c8 s0.c9 x5 false s0.c11 s0.c12 false x10 x11 false x13 x14 x15 x16 x17 s0.c4 (tbE h1)), .o 72 (fun _ => Zn (enc := Zd) (l := x16) (fl := true) (n := x15) (s := 3) (k := .i64) (tbE h2)), .o 77 (fun _ => Zn (enc := Zd) (l := x16) (fl := true) (n := x15) (s := 3) (k := .i64) (tbE h2)), .b (tbE h3), .b (tbE h4), .c (Zu x0 x1 s0.c7 s0.c8 s0.c9 s0.c11 s0.c12 false (gt x16 s0.c4).c2 (tbE h5)), .c (Zic x5 x10 x11 false x13 x17 (gt x16 s0.c4).c2 (tbE h6)), .b (tbE h7), .b (tbE h8)] (by kernel_rfl)
       ·intro g0 g1 g2
        exact Zv [.s (Zd5 x0 x1 s0.c7 s0.c8 s0.c9 x5 false s0.c11 s0.c12 false x10 x11 false x13 x14 x15 x16 x17 s0.c4 (tbE h1)), .o 72 (fun _ => Zn (enc := Zd) (l := x16) (fl := true) (n := x15) (s := 3) (k := .i64) (tbE h2)), .o 77 (fun _ => Zn (enc := Zd) (l := x16) (fl := true) (n := x15) (s := 3) (k := .i64) (tbE h2)), .b (tbE h3), .b (tbE h4), .c (Zu x0 x1 s0.c7 s0.c8 s0.c9 s0.c11 s0.c12 false (gt x16 s0.c4).c2 (tbE h5)), .c (Zic x5 x10 x11 false x13 x17 (gt x16 s0.c4).c2 (tbE h6)), .b (tbE h7)] (by kernel_rfl)
    ·cases h5 : tb (Ze0 x0 s0.c7 s0.c8 s0.c9 x10)
     ·intro g0 g1 g2
      exact absurd g2 ft
     ·cases h6 : tb (Ze4 x0 s0.c7 s0.c8 s0.c9 x10 (Zcq x0 s0))
      ·intro g0 g1 g2
       exact absurd g2 ft
      ·cases h7 : tb (Zev x0 x1 s0.c7 s0.c8 s0.c9 x10 x11 x14 (Zcq x0 s0))
       ·intro g0 g1 g2
        exact absurd g0 tf
       ·intro g0 g1 g2
        exact Zv [.s (Zd5 x0 x1 s0.c7 s0.c8 s0.c9 x5 false s0.c11 s0.c12 false x10 x11 false x13 x14 x15 x16 x17 s0.c4 (tbE h1)), .o 72 (fun _ => Zn (enc := Zd) (l := x16) (fl := true) (n := x15) (s := 3) (k := .i64) (tbE h2)), .o 77 (fun _ => Zn (enc := Zd) (l := x16) (fl := true) (n := x15) (s := 3) (k := .i64) (tbE h2)), .b (tbE h3), .b (tbE h4), .c (Zgo x0 x1 s0.c7 s0.c8 s0.c9 s0.c11 s0.c12 false), .s (Zog x0 x1 s0.c7 s0.c8 s0.c9 x5 (gt x16 s0.c4).c1 (gt x16 s0.c4).c2 false s0.c11 false x10 x11 false x13 false false x14 x15 x16 s0.c4 (tbE h5)), .s (Zn6 x0 x1 s0.c7 s0.c8 s0.c9 x5 (gt x16 s0.c4).c1 (gt x16 s0.c4).c2 false s0.c11 false x10 x11 false x13 false false x14 x15 x16 s0.c4 (Zcq x0 s0) (tbE h6)), .b (tbE h7)] (by kernel_rfl)
   ·cases h4 : tb (Zbb x0 s0.c8 (gt x16 s0.c4).c2)
    ·intro g0 g1 g2
     exact absurd g2 ft
    ·cases h5 : tb (Zbl (gt x16 s0.c4).c2)
     ·cases h6 : tb (((Zi (gt x16 s0.c4).c2) : Int) != 1)
      ·cases h7 : tb (Zcf x0 (Zk x16 s0) (Zc x0 s0.c8 (gt x16 s0.c4).c2) (Zb x0 s0.c9 (gt x16 s0.c4).c2) x10)
       ·intro g0 g1 g2
        exact absurd g2 ft
       ·cases h8 : tb (Zcg x0 (Zk x16 s0) (Zc x0 s0.c8 (gt x16 s0.c4).c2) (Zb x0 s0.c9 (gt x16 s0.c4).c2) x10 (Zck x0 x16 s0))
        ·intro g0 g1 g2
         exact absurd g2 ft
        ·cases h9 : tb (Zct x0 x1 (Zk x16 s0) (Zc x0 s0.c8 (gt x16 s0.c4).c2) (Zb x0 s0.c9 (gt x16 s0.c4).c2) x5 s0.c12 x10 x11 x14 (Zck x0 x16 s0))
         ·intro g0 g1 g2
          exact absurd g0 tf
         ·intro g0 g1 g2
          exact Zv [.s (Zd5 x0 x1 s0.c7 s0.c8 s0.c9 x5 false s0.c11 s0.c12 false x10 x11 false x13 x14 x15 x16 x17 s0.c4 (tbE h1)), .o 72 (fun _ => Zn (enc := Zd) (l := x16) (fl := true) (n := x15) (s := 3) (k := .i64) (tbE h2)), .o 77 (fun _ => Zn (enc := Zd) (l := x16) (fl := true) (n := x15) (s := 3) (k := .i64) (tbE h2)), .b (tbE h3), .c (Zbm x0 x1 s0.c7 s0.c8 s0.c9 (gt x16 s0.c4).c2 (tbE h4)), .c (Zi2 x10 x11 (gt x16 s0.c4).c2 (tbE h5)), .b (tbE h6), .s (Zkv x0 x1 (Zk x16 s0) (Zc x0 s0.c8 (gt x16 s0.c4).c2) (Zb x0 s0.c9 (gt x16 s0.c4).c2) x5 (gt x16 s0.c4).c1 (gt x16 s0.c4).c2 false s0.c11 s0.c12 false x10 x11 false x13 false x14 x15 x16 x17 s0.c4 (tbE h7)), .s (Zku x0 x1 (Zk x16 s0) (Zc x0 s0.c8 (gt x16 s0.c4).c2) (Zb x0 s0.c9 (gt x16 s0.c4).c2) x5 (gt x16 s0.c4).c1 (gt x16 s0.c4).c2 false s0.c11 s0.c12 false x10 x11 false x13 false x14 x15 x16 x17 s0.c4 (Zck x0 x16 s0) (tbE h8)), .b (tbE h9)] (by kernel_rfl)
      ·intro g0 g1 g2
       exact Zv [.s (Zd5 x0 x1 s0.c7 s0.c8 s0.c9 x5 false s0.c11 s0.c12 false x10 x11 false x13 x14 x15 x16 x17 s0.c4 (tbE h1)), .o 72 (fun _ => Zn (enc := Zd) (l := x16) (fl := true) (n := x15) (s := 3) (k := .i64) (tbE h2)), .o 77 (fun _ => Zn (enc := Zd) (l := x16) (fl := true) (n := x15) (s := 3) (k := .i64) (tbE h2)), .b (tbE h3), .c (Zbm x0 x1 s0.c7 s0.c8 s0.c9 (gt x16 s0.c4).c2 (tbE h4)), .c (Zi2 x10 x11 (gt x16 s0.c4).c2 (tbE h5)), .b (tbE h6)] (by kernel_rfl)
     ·cases h6 : tb (((Zi (gt x16 s0.c4).c2) : Int) != 0)
      ·cases h7 : tb (Zfx x0 (Zk x16 s0) (Zc x0 s0.c8 (gt x16 s0.c4).c2) (Zb x0 s0.c9 (gt x16 s0.c4).c2) (gt x16 s0.c4).c2 x10)
       ·intro g0 g1 g2
        exact absurd g2 ft
       ·cases h8 : tb (Zfw x0 (Zk x16 s0) (Zc x0 s0.c8 (gt x16 s0.c4).c2) (Zb x0 s0.c9 (gt x16 s0.c4).c2) [(gt x16 s0.c4).c2] x10 (Zcr x0 x10 x16 s0))
        ·intro g0 g1 g2
         exact absurd g2 ft
        ·cases h9 : tb (Zfo x0 x1 (Zk x16 s0) (Zc x0 s0.c8 (gt x16 s0.c4).c2) (Zb x0 s0.c9 (gt x16 s0.c4).c2) x5 [(gt x16 s0.c4).c2] s0.c12 x10 x11 x14 (Zcr x0 x10 x16 s0))
         ·intro g0 g1 g2
          exact absurd g0 tf
         ·intro g0 g1 g2
          exact absurd g1 tf
      ·intro g0 g1 g2
       exact absurd g1 tf
theorem Zrg (x0 x1 : Int) (x2 : List Int) (x3 x4 : Int) (x5 : List Int) (x6 : Bool) (x7 x8 : Int) (x9 : Bool) (x10 x11 : Int) (x12 x13 : Bool) (x14 : Int) (x15 : Bool) (x16 : List Zh) (x17 : Bool) (x18 : Int) (s0 : Zbo) : Zc2 x0 x1 x5 x10 x11 x14 x16 s0 = false → Zd4 x0 x10 x16 s0 = false → Zf6 x0 x1 x5 x10 x11 x16 s0 = false → Zie x16 s0 = true → (roundG (runC E0 (cl E0) L10_4) [0, 2, 7, 10, 11, 12, 13] [6] 4) (Zbf x0 x1 x2 x3 x4 x5 x6 x7 x8 x9 x10 x11 x12 x13 x14 x15 x16 x17 x18 (.h0 s0)) = some ((.exit 0), ([V.un], [(Blk.flat 82 20 [([(.int .i64 x0), (.int .i64 x1)] ++ arrD .i64 s0.c7 16 ++ [(.int .i64 s0.c8), (.int .i64 s0.c9)])] false), (Blk.gen 84 3 [[(V.ptr 0 1 0 0), (V.d (.int .i64 s0.c11)), (V.d (.int .i64 s0.c12))]] false), (Blk.gen 86 3 [[(V.d (.int .i64 x10)), (V.d (.int .i64 x11)), (V.d .nils)]] false), (Blk.flat 3 1 (List.map (encI .i64) x5) x13)])) := by
 unfold Zc2 Zd4 Zf6 Zie
 cases h1 : tb (Zcu x16 s0.c4)
 ·intro g0 g1 g2 g3
  exact Zv [.s (Ztk x0 x1 s0.c7 s0.c8 s0.c9 x5 false s0.c11 s0.c12 false x10 x11 false x13 x14 x15 x16 x17 s0.c4 (tbE h1))] (by kernel_rfl)
 ·cases h2 : tb (inb x16.length s0.c4)
  ·intro g0 g1 g2 g3
   exact absurd g3 ft
  ·cases h3 : tb (((remI .u8 (gt x16 s0.c4).c0 2) : Int) == 1)
   ·cases h4 : tb (gt x16 s0.c4).c1
    ·cases h5 : tb (Z6 x0 s0.c7 s0.c8 s0.c9 s0.c11 s0.c12 (gt x16 s0.c4).c2)
     ·intro g0 g1 g2 g3
      exact absurd g3 ft
     ·cases h6 : tb (Zbr x5 x10 (gt x16 s0.c4).c2)
      ·cases h7 : tb (Zdx (gt x16 s0.c4).c2)
       ·intro g0 g1 g2 g3
        exact absurd g3 ft
       ·cases h8 : tb (true != ((Zg x0 x1 s0.c7 s0.c8 s0.c9 s0.c11 s0.c12 (gt x16 s0.c4).c2) == false))
        ·cases h9 : tb (((Zf (gt x16 s0.c4).c2) : Int) != 1)
         ·cases h10 : tb (Zcf x0 s0.c7 s0.c8 s0.c9 x10)
          ·intro g0 g1 g2 g3
           exact absurd g3 ft
          ·cases h11 : tb (Zcg x0 s0.c7 s0.c8 s0.c9 x10 (Zcm x0 s0))
           ·intro g0 g1 g2 g3
            exact absurd g3 ft
           ·cases h12 : tb (Zct x0 x1 s0.c7 s0.c8 s0.c9 x5 (Zy x0 x16 s0) x10 x11 x14 (Zcm x0 s0))
            ·intro g0 g1 g2 g3
             exact absurd g0 tf
            ·intro g0 g1 g2 g3
             exact absurd g2 tf
         ·intro g0 g1 g2 g3
          exact absurd g2 tf
        ·intro g0 g1 g2 g3
         exact absurd g2 tf
      ·cases h7 : tb (true != ((Zg x0 x1 s0.c7 s0.c8 s0.c9 s0.c11 s0.c12 (gt x16 s0.c4).c2) == (Zb6 x5 x10 x11 (gt x16 s0.c4).c2)))
       ·cases h8 : tb (((Zf (gt x16 s0.c4).c2) : Int) != 0)
        ·cases h9 : tb (Ze6 x0 s0.c7 s0.c8 s0.c9 x10)
         ·intro g0 g1 g2 g3
          exact absurd g3 ft
         ·cases h10 : tb (Zez x0 s0.c7 s0.c8 s0.c9 x10 (Zco x0 s0))
          ·intro g0 g1 g2 g3
           exact absurd g3 ft
          ·cases h11 : tb (Zew x0 x1 s0.c7 s0.c8 s0.c9 (Zbk x5 (gt x16 s0.c4).c2) (Zy x0 x16 s0) x10 x11 x14 (Zco x0 s0))
           ·intro g0 g1 g2 g3
            exact absurd g0 tf
           ·intro g0 g1 g2 g3
            exact absurd g2 tf
        ·intro g0 g1 g2 g3
         exact absurd g2 tf
       ·intro g0 g1 g2 g3
        exact absurd g2 tf
    ·cases h5 : tb (Ze0 x0 s0.c7 s0.c8 s0.c9 x10)
     ·intro g0 g1 g2 g3
      exact absurd g3 ft
     ·cases h6 : tb (Ze4 x0 s0.c7 s0.c8 s0.c9 x10 (Zcq x0 s0))
      ·intro g0 g1 g2 g3
       exact absurd g3 ft
      ·cases h7 : tb (Zev x0 x1 s0.c7 s0.c8 s0.c9 x10 x11 x14 (Zcq x0 s0))
       ·intro g0 g1 g2 g3
        exact absurd g0 tf
       ·intro g0 g1 g2 g3
        exact absurd g2 tf
   ·cases h4 : tb (Zbb x0 s0.c8 (gt x16 s0.c4).c2)
    ·intro g0 g1 g2 g3
     exact absurd g3 ft
    ·cases h5 : tb (Zbl (gt x16 s0.c4).c2)
     ·cases h6 : tb (((Zi (gt x16 s0.c4).c2) : Int) != 1)
      ·cases h7 : tb (Zcf x0 (Zk x16 s0) (Zc x0 s0.c8 (gt x16 s0.c4).c2) (Zb x0 s0.c9 (gt x16 s0.c4).c2) x10)
       ·intro g0 g1 g2 g3
        exact absurd g3 ft
       ·cases h8 : tb (Zcg x0 (Zk x16 s0) (Zc x0 s0.c8 (gt x16 s0.c4).c2) (Zb x0 s0.c9 (gt x16 s0.c4).c2) x10 (Zck x0 x16 s0))
        ·intro g0 g1 g2 g3
         exact absurd g3 ft
        ·cases h9 : tb (Zct x0 x1 (Zk x16 s0) (Zc x0 s0.c8 (gt x16 s0.c4).c2) (Zb x0 s0.c9 (gt x16 s0.c4).c2) x5 s0.c12 x10 x11 x14 (Zck x0 x16 s0))
         ·intro g0 g1 g2 g3
          exact absurd g0 tf
         ·intro g0 g1 g2 g3
          exact absurd g2 tf
      ·intro g0 g1 g2 g3
       exact absurd g2 tf
     ·cases h6 : tb (((Zi (gt x16 s0.c4).c2) : Int) != 0)
      ·cases h7 : tb (Zfx x0 (Zk x16 s0) (Zc x0 s0.c8 (gt x16 s0.c4).c2) (Zb x0 s0.c9 (gt x16 s0.c4).c2) (gt x16 s0.c4).c2 x10)
       ·intro g0 g1 g2 g3
        exact absurd g3 ft
       ·cases h8 : tb (Zfw x0 (Zk x16 s0) (Zc x0 s0.c8 (gt x16 s0.c4).c2) (Zb x0 s0.c9 (gt x16 s0.c4).c2) [(gt x16 s0.c4).c2] x10 (Zcr x0 x10 x16 s0))
        ·intro g0 g1 g2 g3
         exact absurd g3 ft
        ·cases h9 : tb (Zfo x0 x1 (Zk x16 s0) (Zc x0 s0.c8 (gt x16 s0.c4).c2) (Zb x0 s0.c9 (gt x16 s0.c4).c2) x5 [(gt x16 s0.c4).c2] s0.c12 x10 x11 x14 (Zcr x0 x10 x16 s0))
         ·intro g0 g1 g2 g3
          exact absurd g0 tf
         ·intro g0 g1 g2 g3
          exact absurd g1 tf
      ·intro g0 g1 g2 g3
       exact absurd g1 tf
theorem Zrf (x0 x1 : Int) (x2 : List Int) (x3 x4 : Int) (x5 : List Int) (x6 : Bool) (x7 x8 : Int) (x9 : Bool) (x10 x11 : Int) (x12 x13 : Bool) (x14 : Int) (x15 : Bool) (x16 : List Zh) (x17 : Bool) (x18 : Int) (s0 : Zbw) : Zdz x0 x1 x5 x10 x11 x14 x16 s0 = true → (roundG (runC E0 (cl E0) L10_4) [0, 2, 7, 10, 11, 12, 13] [6] 4) (Zbf x0 x1 x2 x3 x4 x5 x6 x7 x8 x9 x10 x11 x12 x13 x14 x15 x16 x17 x18 (.h1 s0)) = some (.normal, Zbf x0 x1 x2 x3 x4 x5 x6 x7 x8 x9 x10 x11 x12 x13 x14 x15 x16 x17 x18 (Zdt x0 x1 x5 x10 x11 x14 x16 s0)) := by
 unfold Zdz Zdt
 cases h1 : tb (Zcx x16 s0.c4)
 ·exact ZN
 ·cases h2 : tb (inb x16.length s0.c4)
  ·exact ZN
  ·cases h3 : tb (((remI .u8 (gt x16 s0.c4).c0 2) : Int) == 1)
   ·cases h4 : tb (gt x16 s0.c4).c1
    ·cases h5 : tb (Z6 x0 s0.c7 s0.c8 s0.c9 s0.c11 s0.c12 (gt x16 s0.c4).c2)
     ·exact ZN
     ·cases h6 : tb (Zbv s0.c20 x5 x10 false (gt x16 s0.c4).c2)
      ·cases h7 : tb (Zec (gt x16 s0.c4).c2)
       ·exact ZN
       ·cases h8 : tb (true != ((Zg x0 x1 s0.c7 s0.c8 s0.c9 s0.c11 s0.c12 (gt x16 s0.c4).c2) == false))
        ·cases h9 : tb (((Zf (gt x16 s0.c4).c2) : Int) != 1)
         ·cases h10 : tb (Zc5 x0 s0.c7 s0.c8 s0.c9 s0.c20 x10)
          ·exact ZN
          ·cases h11 : tb (Zc6 x0 s0.c7 s0.c8 s0.c9 s0.c20 x10 (Zdf x0 x10 s0))
           ·exact ZN
           ·cases h12 : tb (Zdl x0 x1 s0.c7 s0.c8 s0.c9 x5 s0.c20 (Z4 x0 x16 s0) x10 x11 x14 (Zdf x0 x10 s0))
            ·exact fun _ => Zv [.s (Zdm x0 x1 s0.c7 s0.c8 s0.c9 x5 s0.c20 false s0.c11 s0.c12 false x10 x11 false x13 false x14 x15 x16 x17 s0.c4 (tbE h1)), .o 72 (fun _ => Zn (enc := Zd) (l := x16) (fl := true) (n := x15) (s := 3) (k := .i64) (tbE h2)), .o 77 (fun _ => Zn (enc := Zd) (l := x16) (fl := true) (n := x15) (s := 3) (k := .i64) (tbE h2)), .b (tbE h3), .b (tbE h4), .c (Zu x0 x1 s0.c7 s0.c8 s0.c9 s0.c11 s0.c12 false (gt x16 s0.c4).c2 (tbE h5)), .c (Zh5 s0.c20 x5 x10 x11 false false false x13 x17 (gt x16 s0.c4).c2 (tbE h6) (tbE h7)), .b (tbE h8), .b (tbE h9), .s (Zky x0 x1 s0.c7 s0.c8 s0.c9 x5 s0.c20 (gt x16 s0.c4).c1 (gt x16 s0.c4).c2 false (Zbz x16 s0) (Z4 x0 x16 s0) false x10 x11 false x13 false false x14 x15 x16 x17 s0.c4 (tbE h10)), .s (Zkz x0 x1 s0.c7 s0.c8 s0.c9 x5 s0.c20 (gt x16 s0.c4).c1 (gt x16 s0.c4).c2 false (Zbz x16 s0) (Z4 x0 x16 s0) false x10 x11 false x13 false false x14 x15 x16 x17 s0.c4 (Zdf x0 x10 s0) (tbE h11)), .b (tbE h12)] (by kernel_rfl)
            ·exact ZN
         ·exact ZN
        ·exact ZN
      ·cases h7 : tb (true != ((Zg x0 x1 s0.c7 s0.c8 s0.c9 s0.c11 s0.c12 (gt x16 s0.c4).c2) == (Zcb s0.c20 x5 x10 x11 (gt x16 s0.c4).c2)))
       ·cases h8 : tb (((Zf (gt x16 s0.c4).c2) : Int) != 0)
        ·cases h9 : tb (Zfs x0 s0.c7 s0.c8 s0.c9 s0.c20 x10)
         ·exact ZN
         ·cases h10 : tb (Zfr x0 s0.c7 s0.c8 s0.c9 s0.c20 x10 (Zdc x0 x10 s0))
          ·exact ZN
          ·cases h11 : tb (Zfp x0 x1 s0.c7 s0.c8 s0.c9 s0.c20 (Zbn x5 (gt x16 s0.c4).c2) (Z4 x0 x16 s0) x10 x11 x14 (Zdc x0 x10 s0))
           ·exact fun _ => Zv [.s (Zdm x0 x1 s0.c7 s0.c8 s0.c9 x5 s0.c20 false s0.c11 s0.c12 false x10 x11 false x13 false x14 x15 x16 x17 s0.c4 (tbE h1)), .o 72 (fun _ => Zn (enc := Zd) (l := x16) (fl := true) (n := x15) (s := 3) (k := .i64) (tbE h2)), .o 77 (fun _ => Zn (enc := Zd) (l := x16) (fl := true) (n := x15) (s := 3) (k := .i64) (tbE h2)), .b (tbE h3), .b (tbE h4), .c (Zu x0 x1 s0.c7 s0.c8 s0.c9 s0.c11 s0.c12 false (gt x16 s0.c4).c2 (tbE h5)), .c (Zh3 s0.c20 x5 x10 x11 false false false x13 x17 (gt x16 s0.c4).c2 (tbE h6)), .b (tbE h7), .b (tbE h8), .s (Zoi x0 x1 s0.c7 s0.c8 s0.c9 x5 s0.c20 (gt x16 s0.c4).c1 (gt x16 s0.c4).c2 (Zbn x5 (gt x16 s0.c4).c2) false (Zbz x16 s0) (Z4 x0 x16 s0) false x10 x11 false x13 false false false x14 x15 x16 s0.c4 (tbE h9)), .s (Zoh x0 x1 s0.c7 s0.c8 s0.c9 x5 s0.c20 (gt x16 s0.c4).c1 (gt x16 s0.c4).c2 (Zbn x5 (gt x16 s0.c4).c2) false (Zbz x16 s0) (Z4 x0 x16 s0) false x10 x11 false x13 false false false x14 x15 x16 s0.c4 (Zdc x0 x10 s0) (tbE h10)), .b (tbE h11)] (by kernel_rfl)
           ·exact ZN
        ·exact ZN
       ·exact ZN
    ·cases h5 : tb (Zfl x0 s0.c7 s0.c8 s0.c9 s0.c20 x10)
     ·exact ZN
     ·cases h6 : tb (Zfn x0 s0.c7 s0.c8 s0.c9 s0.c20 x10 (Zdb x0 x10 s0))
      ·exact ZN
      ·cases h7 : tb (Zfm x0 x1 s0.c7 s0.c8 s0.c9 s0.c20 x10 x11 x14 (Zdb x0 x10 s0))
       ·exact fun _ => Zv [.s (Zdm x0 x1 s0.c7 s0.c8 s0.c9 x5 s0.c20 false s0.c11 s0.c12 false x10 x11 false x13 false x14 x15 x16 x17 s0.c4 (tbE h1)), .o 72 (fun _ => Zn (enc := Zd) (l := x16) (fl := true) (n := x15) (s := 3) (k := .i64) (tbE h2)), .o 77 (fun _ => Zn (enc := Zd) (l := x16) (fl := true) (n := x15) (s := 3) (k := .i64) (tbE h2)), .b (tbE h3), .b (tbE h4), .c (Zgo x0 x1 s0.c7 s0.c8 s0.c9 s0.c11 s0.c12 false), .s (Zoq x0 x1 s0.c7 s0.c8 s0.c9 x5 s0.c20 (gt x16 s0.c4).c1 (gt x16 s0.c4).c2 false s0.c11 false x10 x11 false x13 false false false x14 x15 x16 s0.c4 (tbE h5)), .s (Zom x0 x1 s0.c7 s0.c8 s0.c9 x5 s0.c20 (gt x16 s0.c4).c1 (gt x16 s0.c4).c2 false s0.c11 false x10 x11 false x13 false false false x14 x15 x16 s0.c4 (Zdb x0 x10 s0) (tbE h6)), .b (tbE h7)] (by kernel_rfl)
       ·exact ZN
   ·cases h4 : tb (Zbb x0 s0.c8 (gt x16 s0.c4).c2)
    ·exact ZN
    ·cases h5 : tb (Zbi s0.c20 (gt x16 s0.c4).c2)
     ·cases h6 : tb (Zdq (gt x16 s0.c4).c2)
      ·exact ZN
      ·cases h7 : tb (((Zi (gt x16 s0.c4).c2) : Int) != 1)
       ·cases h8 : tb (Zc5 x0 (Zm x16 s0) (Zc x0 s0.c8 (gt x16 s0.c4).c2) (Zb x0 s0.c9 (gt x16 s0.c4).c2) s0.c20 x10)
        ·exact ZN
        ·cases h9 : tb (Zc6 x0 (Zm x16 s0) (Zc x0 s0.c8 (gt x16 s0.c4).c2) (Zb x0 s0.c9 (gt x16 s0.c4).c2) s0.c20 x10 (Zde x0 x10 x16 s0))
         ·exact ZN
         ·cases h10 : tb (Zdl x0 x1 (Zm x16 s0) (Zc x0 s0.c8 (gt x16 s0.c4).c2) (Zb x0 s0.c9 (gt x16 s0.c4).c2) x5 s0.c20 s0.c12 x10 x11 x14 (Zde x0 x10 x16 s0))
          ·exact fun _ => Zv [.s (Zdm x0 x1 s0.c7 s0.c8 s0.c9 x5 s0.c20 false s0.c11 s0.c12 false x10 x11 false x13 false x14 x15 x16 x17 s0.c4 (tbE h1)), .o 72 (fun _ => Zn (enc := Zd) (l := x16) (fl := true) (n := x15) (s := 3) (k := .i64) (tbE h2)), .o 77 (fun _ => Zn (enc := Zd) (l := x16) (fl := true) (n := x15) (s := 3) (k := .i64) (tbE h2)), .b (tbE h3), .c (Zbm x0 x1 s0.c7 s0.c8 s0.c9 (gt x16 s0.c4).c2 (tbE h4)), .c (Zir s0.c20 x10 x11 false false (gt x16 s0.c4).c2 (tbE h5) (tbE h6)), .b (tbE h7), .s (Zky x0 x1 (Zm x16 s0) (Zc x0 s0.c8 (gt x16 s0.c4).c2) (Zb x0 s0.c9 (gt x16 s0.c4).c2) x5 s0.c20 (gt x16 s0.c4).c1 (gt x16 s0.c4).c2 false s0.c11 s0.c12 false x10 x11 false x13 false false x14 x15 x16 x17 s0.c4 (tbE h8)), .s (Zkz x0 x1 (Zm x16 s0) (Zc x0 s0.c8 (gt x16 s0.c4).c2) (Zb x0 s0.c9 (gt x16 s0.c4).c2) x5 s0.c20 (gt x16 s0.c4).c1 (gt x16 s0.c4).c2 false s0.c11 s0.c12 false x10 x11 false x13 false false x14 x15 x16 x17 s0.c4 (Zde x0 x10 x16 s0) (tbE h9)), .b (tbE h10)] (by kernel_rfl)
          ·exact ZN
       ·exact ZN
     ·cases h6 : tb (((Zi (gt x16 s0.c4).c2) : Int) != 0)
      ·cases h7 : tb (Zfu x0 (Zm x16 s0) (Zc x0 s0.c8 (gt x16 s0.c4).c2) (Zb x0 s0.c9 (gt x16 s0.c4).c2) (s0.c20 ++ [(gt x16 s0.c4).c2]) x10)
       ·exact ZN
       ·cases h8 : tb (Zfq x0 (Zm x16 s0) (Zc x0 s0.c8 (gt x16 s0.c4).c2) (Zb x0 s0.c9 (gt x16 s0.c4).c2) (s0.c20 ++ [(gt x16 s0.c4).c2]) x10 (Zda x0 x10 x16 s0))
        ·exact ZN
        ·cases h9 : tb (Zft x0 x1 (Zm x16 s0) (Zc x0 s0.c8 (gt x16 s0.c4).c2) (Zb x0 s0.c9 (gt x16 s0.c4).c2) x5 (s0.c20 ++ [(gt x16 s0.c4).c2]) s0.c12 x10 x11 x14 (Zda x0 x10 x16 s0))
         ·exact fun _ => Zv [.s (Zdm x0 x1 s0.c7 s0.c8 s0.c9 x5 s0.c20 false s0.c11 s0.c12 false x10 x11 false x13 false x14 x15 x16 x17 s0.c4 (tbE h1)), .o 72 (fun _ => Zn (enc := Zd) (l := x16) (fl := true) (n := x15) (s := 3) (k := .i64) (tbE h2)), .o 77 (fun _ => Zn (enc := Zd) (l := x16) (fl := true) (n := x15) (s := 3) (k := .i64) (tbE h2)), .b (tbE h3), .c (Zbm x0 x1 s0.c7 s0.c8 s0.c9 (gt x16 s0.c4).c2 (tbE h4)), .c (Zio s0.c20 x10 x11 false false (gt x16 s0.c4).c2 (tbE h5)), .b (tbE h6), .s (Zoj x0 x1 (Zm x16 s0) (Zc x0 s0.c8 (gt x16 s0.c4).c2) (Zb x0 s0.c9 (gt x16 s0.c4).c2) x5 s0.c20 (gt x16 s0.c4).c1 (gt x16 s0.c4).c2 (s0.c20 ++ [(gt x16 s0.c4).c2]) false s0.c11 s0.c12 false x10 x11 false x13 false false false x14 x15 x16 x17 s0.c4 (tbE h7)), .s (Zos x0 x1 (Zm x16 s0) (Zc x0 s0.c8 (gt x16 s0.c4).c2) (Zb x0 s0.c9 (gt x16 s0.c4).c2) x5 s0.c20 (gt x16 s0.c4).c1 (gt x16 s0.c4).c2 (s0.c20 ++ [(gt x16 s0.c4).c2]) false s0.c11 s0.c12 false x10 x11 false x13 false false false x14 x15 x16 x17 s0.c4 (Zda x0 x10 x16 s0) (tbE h8)), .b (tbE h9)] (by kernel_rfl)
         ·exact ZN
      ·exact ZN
def Zf8 (x0 x1 : Int) (x5 : List Int) (x10 x11 : Int) (x16 : List Zh) (s0 : Zbw) : Bool := (bif tb (Zcx x16 s0.c4) then (bif tb (inb x16.length s0.c4) then (bif tb (((remI .u8 (gt x16 s0.c4).c0 2) : Int) == 1) then (bif tb (Zbb x0 s0.c8 (gt x16 s0.c4).c2) then (bif tb (Zbi s0.c20 (gt x16 s0.c4).c2) then (bif tb (((Zi (gt x16 s0.c4).c2) : Int) != 0) then true else (bif tb (Zfu x0 (Zm x16 s0) (Zc x0 s0.c8 (gt x16 s0.c4).c2) (Zb x0 s0.c9 (gt x16 s0.c4).c2) (s0.c20 ++ [(gt x16 s0.c4).c2]) x10) then (bif tb (Zfq x0 (Zm x16 s0) (Zc x0 s0.c8 (gt x16 s0.c4).c2) (Zb x0 s0.c9 (gt x16 s0.c4).c2) (s0.c20 ++ [(gt x16 s0.c4).c2]) x10 (Zda x0 x10 x16 s0)) then true else false) else false)) else (bif tb (Zdq (gt x16 s0.c4).c2) then (bif tb (((Zi (gt x16 s0.c4).c2) : Int) != 1) then true else (bif tb (Zc5 x0 (Zm x16 s0) (Zc x0 s0.c8 (gt x16 s0.c4).c2) (Zb x0 s0.c9 (gt x16 s0.c4).c2) s0.c20 x10) then (bif tb (Zc6 x0 (Zm x16 s0) (Zc x0 s0.c8 (gt x16 s0.c4).c2) (Zb x0 s0.c9 (gt x16 s0.c4).c2) s0.c20 x10 (Zde x0 x10 x16 s0)) then true else false) else false)) else false)) else false) else (bif tb (gt x16 s0.c4).c1 then (bif tb (Zfl x0 s0.c7 s0.c8 s0.c9 s0.c20 x10) then (bif tb (Zfn x0 s0.c7 s0.c8 s0.c9 s0.c20 x10 (Zdb x0 x10 s0)) then true else false) else false) else (bif tb (Z6 x0 s0.c7 s0.c8 s0.c9 s0.c11 s0.c12 (gt x16 s0.c4).c2) then (bif tb (Zbv s0.c20 x5 x10 false (gt x16 s0.c4).c2) then (bif tb (true != ((Zg x0 x1 s0.c7 s0.c8 s0.c9 s0.c11 s0.c12 (gt x16 s0.c4).c2) == (Zcb s0.c20 x5 x10 x11 (gt x16 s0.c4).c2))) then true else (bif tb (((Zf (gt x16 s0.c4).c2) : Int) != 0) then true else (bif tb (Zfs x0 s0.c7 s0.c8 s0.c9 s0.c20 x10) then (bif tb (Zfr x0 s0.c7 s0.c8 s0.c9 s0.c20 x10 (Zdc x0 x10 s0)) then true else false) else false))) else (bif tb (Zec (gt x16 s0.c4).c2) then (bif tb (true != ((Zg x0 x1 s0.c7 s0.c8 s0.c9 s0.c11 s0.c12 (gt x16 s0.c4).c2) == false)) then true else (bif tb (((Zf (gt x16 s0.c4).c2) : Int) != 1) then true else (bif tb (Zc5 x0 s0.c7 s0.c8 s0.c9 s0.c20 x10) then (bif tb (Zc6 x0 s0.c7 s0.c8 s0.c9 s0.c20 x10 (Zdf x0 x10 s0)) then true else false) else false))) else false)) else false))) else false) else false)
def Zlp (x16 : List Zh) (s0 : Zbw) : List Int := (bif tb (((remI .u8 (gt x16 s0.c4).c0 2) : Int) == 1) then (bif tb (Zbi s0.c20 (gt x16 s0.c4).c2) then (bif tb (((Zi (gt x16 s0.c4).c2) : Int) != 0) then (Zbs s0.c7 s0.c8 (gt x16 s0.c4).c2) else (Zm x16 s0)) else (bif tb (((Zi (gt x16 s0.c4).c2) : Int) != 1) then (Zbs s0.c7 s0.c8 (gt x16 s0.c4).c2) else (Zm x16 s0))) else s0.c7)
def Zlz (x0 : Int) (x16 : List Zh) (s0 : Zbw) : Int := (bif tb (((remI .u8 (gt x16 s0.c4).c0 2) : Int) == 1) then (Zc x0 s0.c8 (gt x16 s0.c4).c2) else s0.c8)
def Zl6 (x0 : Int) (x16 : List Zh) (s0 : Zbw) : Int := (bif tb (((remI .u8 (gt x16 s0.c4).c0 2) : Int) == 1) then (Zb x0 s0.c9 (gt x16 s0.c4).c2) else s0.c9)
def Zln (x0 x1 : Int) (x5 : List Int) (x10 x11 : Int) (x16 : List Zh) (s0 : Zbw) : Int := (bif tb (((remI .u8 (gt x16 s0.c4).c0 2) : Int) == 1) then s0.c11 else (bif tb (gt x16 s0.c4).c1 then s0.c11 else (bif tb (Zbv s0.c20 x5 x10 false (gt x16 s0.c4).c2) then (bif tb (true != ((Zg x0 x1 s0.c7 s0.c8 s0.c9 s0.c11 s0.c12 (gt x16 s0.c4).c2) == (Zcb s0.c20 x5 x10 x11 (gt x16 s0.c4).c2))) then (Z7 s0.c11 (gt x16 s0.c4).c2) else (bif tb (((Zf (gt x16 s0.c4).c2) : Int) != 0) then (Z7 s0.c11 (gt x16 s0.c4).c2) else (Zbz x16 s0))) else (bif tb (true != ((Zg x0 x1 s0.c7 s0.c8 s0.c9 s0.c11 s0.c12 (gt x16 s0.c4).c2) == false)) then (Z7 s0.c11 (gt x16 s0.c4).c2) else (bif tb (((Zf (gt x16 s0.c4).c2) : Int) != 1) then (Z7 s0.c11 (gt x16 s0.c4).c2) else (Zbz x16 s0))))))
def Zlt (x0 x1 : Int) (x5 : List Int) (x10 x11 : Int) (x16 : List Zh) (s0 : Zbw) : Int := (bif tb (((remI .u8 (gt x16 s0.c4).c0 2) : Int) == 1) then s0.c12 else (bif tb (gt x16 s0.c4).c1 then 0 else (bif tb (Zbv s0.c20 x5 x10 false (gt x16 s0.c4).c2) then (bif tb (true != ((Zg x0 x1 s0.c7 s0.c8 s0.c9 s0.c11 s0.c12 (gt x16 s0.c4).c2) == (Zcb s0.c20 x5 x10 x11 (gt x16 s0.c4).c2))) then (Z8 x0 s0.c11 s0.c12 (gt x16 s0.c4).c2) else (bif tb (((Zf (gt x16 s0.c4).c2) : Int) != 0) then (Z8 x0 s0.c11 s0.c12 (gt x16 s0.c4).c2) else (Z4 x0 x16 s0))) else (bif tb (true != ((Zg x0 x1 s0.c7 s0.c8 s0.c9 s0.c11 s0.c12 (gt x16 s0.c4).c2) == false)) then (Z8 x0 s0.c11 s0.c12 (gt x16 s0.c4).c2) else (bif tb (((Zf (gt x16 s0.c4).c2) : Int) != 1) then (Z8 x0 s0.c11 s0.c12 (gt x16 s0.c4).c2) else (Z4 x0 x16 s0))))))
def Zjd (x16 : List Zh) (s0 : Zbw) : List Int := (bif tb (((remI .u8 (gt x16 s0.c4).c0 2) : Int) == 1) then (bif tb (Zbi s0.c20 (gt x16 s0.c4).c2) then (s0.c20 ++ [(gt x16 s0.c4).c2]) else s0.c20) else s0.c20)
def Zif (x16 : List Zh) (s0 : Zbw) : Bool := (bif tb (Zcx x16 s0.c4) then false else true)
end Go.Proofs.Ytdlhhoejnhjbhaa.Den
