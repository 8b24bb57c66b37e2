/- StuckPlays: part 5 of what its proof rests on: an evaluator of the program's code, proved sound; plain functions printed from the code by a program of this session, with proofs; plain laws. No condition. -/
import Derived.Test.YtdlhhoejnhjbhaaDenstuckPlays4

namespace Go.Proofs.Ytdlhhoejnhjbhaa.Den
open Go Go.Proofs
set_option maxRecDepth 100000
set_option maxHeartbeats 4000000
set_option linter.unusedVariables false
set_option linter.unusedSimpArgs false
def Zlb (x1 : List Int) : Bool := (bif tb (Zmj x1) then true else false)
def Zh1 (x1 : List Int) : Bool := (bif tb (Zlc x1) then (decide (((x1.length : Nat) : Int) ≤ 16)) else false)
theorem Zpc (x0 : Bool) (x1 : List Int) : Zlb x1 = true → cl E0 24 [(V.d (slD (encI .i64) true 1 x0 x1))] [] = some ([(V.d (.bool (Zh1 x1)))], []) := by
 unfold Zlb Zh1
 cases h1 : tb (Zmj x1)
 ·exact ZN
 ·cases h2 : tb (Zlc x1)
  ·exact fun g0 => w24 [.c (Zud x0 x1 (tbE h1)), .b (tbE h2)] (by kernel_rfl)
  ·exact fun g0 => w24 [.c (Zud x0 x1 (tbE h1)), .b (tbE h2), .o 9 (fun _ => Zes (enc := (encI .i64)) (l := x1) (fl := true) (n := x0) (s := 1))] (by kernel_rfl)
def Zgn (x3 : Bool) : Bool := (bif tb (x3) then true else false)
theorem Zq5 (x0 x1 : Bool) (x2 : List Int) (x3 : Bool) : Zgn x3 = true → segG (runC E0 (cl E0) S19_0) [0, 3] [2] [0] 1 ([(V.d (slD (encI .i64) true 1 x1 x2)), (V.d (.bool x3))], [(Blk.flat 3 1 [] x0)]) = some (.normal, ([(V.d (slD (encI .i64) true 1 x1 x2))], [(Blk.flat 3 1 [] x0)])) := by
 unfold Zgn
 cases h1 : tb (x3)
 ·exact ZN
 ·exact fun g0 => Z2 [.b (notT (tbE h1))] (by kernel_rfl)
theorem Zv5 (x0 x1 : Bool) (x2 : List Int) (x3 : Bool) : Zgn x3 = false → segG (runC E0 (cl E0) S19_0) [0, 3] [2] [0] 1 ([(V.d (slD (encI .i64) true 1 x1 x2)), (V.d (.bool x3))], [(Blk.flat 3 1 [] x0)]) = some (.ret, ([(V.so true 1 0)], [(Blk.flat 3 1 [] x0), (Blk.flat 3 1 [] false)])) := by
 unfold Zgn
 cases h1 : tb (x3)
 ·exact fun g0 => Z2 [.b (notF (tbE h1))] (by kernel_rfl)
 ·exact fun g0 => absurd g0 tf
def Zh6 (x4 : List Int) (x6 : Int) : Bool := (bif tb (decide (x6 < ((x4.length : Nat) : Int))) then true else false)
theorem Zqx (x0 : List Int) (x1 x2 x3 : Bool) (x4 : List Int) (x5 : Bool) (x6 : Int) : Zh6 x4 x6 = true → segG (runC E0 (cl E0) S19_1) [0, 4, 5] [4] [0, 4, 5] 2 ([(V.d (slD (encI .i64) true 1 x3 x4)), (V.so x5 1 x0.length), (V.d (.int .i64 x6))], [(Blk.flat 3 1 [] x1), (Blk.flat 3 1 (List.map (encI .i64) x0) x2)]) = some (.normal, ([(V.d (slD (encI .i64) true 1 x3 x4)), (V.so x5 1 x0.length), (V.d (.int .i64 x6))], [(Blk.flat 3 1 [] x1), (Blk.flat 3 1 (List.map (encI .i64) x0) x2)])) := by
 unfold Zh6
 cases h1 : tb (decide (x6 < ((x4.length : Nat) : Int)))
 ·exact ZN
 ·exact fun g0 => Z2 [.o 15 (fun _ => Zes (enc := (encI .i64)) (l := x4) (fl := true) (n := x3) (s := 1)), .b (tbE h1)] (by kernel_rfl)
theorem Zwh (x0 : List Int) (x1 x2 x3 : Bool) (x4 : List Int) (x5 : Bool) (x6 : Int) : Zh6 x4 x6 = false → segG (runC E0 (cl E0) S19_1) [0, 4, 5] [4] [0, 4, 5] 2 ([(V.d (slD (encI .i64) true 1 x3 x4)), (V.so x5 1 x0.length), (V.d (.int .i64 x6))], [(Blk.flat 3 1 [] x1), (Blk.flat 3 1 (List.map (encI .i64) x0) x2)]) = some ((.exit 0), ([(V.so x5 1 x0.length)], [(Blk.flat 3 1 [] x1), (Blk.flat 3 1 (List.map (encI .i64) x0) x2)])) := by
 unfold Zh6
 cases h1 : tb (decide (x6 < ((x4.length : Nat) : Int)))
 ·exact fun g0 => Z2 [.o 15 (fun _ => Zes (enc := (encI .i64)) (l := x4) (fl := true) (n := x3) (s := 1)), .b (tbE h1)] (by kernel_rfl)
 ·exact fun g0 => absurd g0 tf
structure Zeu where
 c4 : Bool
 c5 : Bool
 c6 : Int
 c10 : List Int
 deriving Inhabited
def Zmn (x0 x1 : List Int) (x2 x3 x4 x5 : Bool) (x6 : List Int) (x7 : Bool) (x8 : Int) (x9 x10 : Bool) (x11 : Int) (s0 : Zeu) : List V × Mem := ([(V.d (slD (encI .i64) true 1 x5 x6)), (V.so x7 1 x0.length), (V.d (.int .i64 x8)), (V.so s0.c4 2 s0.c10.length), (V.d (.bool s0.c5)), (V.d (.int .i64 s0.c6))], [(Blk.flat 3 1 [] x2), (Blk.flat 3 1 (List.map (encI .i64) x0) x3), (Blk.flat 3 1 (List.map (encI .i64) s0.c10) false)])
def Zia (x0 x6 : List Int) (x8 : Int) (s0 : Zeu) : Bool := (bif tb (decide (s0.c6 < ((x0.length : Nat) : Int))) then (bif tb (s0.c5) then (bif tb (inb x0.length s0.c6) then (bif tb (decide ((s0.c10.length + [(gt x0 s0.c6)].length) * 8 ≤ 140737488355328)) then true else false) else false) else (bif tb (inb x0.length s0.c6) then (bif tb (inb x6.length x8) then (bif tb (decide ((gt x6 x8) < (gt x0 s0.c6))) then (bif tb (decide ((s0.c10.length + [(gt x6 x8)].length) * 8 ≤ 140737488355328)) then (bif tb (decide (((s0.c10 ++ [(gt x6 x8)]).length + [(gt x0 s0.c6)].length) * 8 ≤ 140737488355328)) then true else false) else false) else (bif tb (decide ((s0.c10.length + [(gt x0 s0.c6)].length) * 8 ≤ 140737488355328)) then true else false)) else false) else false)) else false)
def Zj4 (x0 x6 : List Int) (x8 : Int) (s0 : Zeu) : Zeu := ⟨false, (bif tb (s0.c5) then s0.c5 else (bif tb (decide ((gt x6 x8) < (gt x0 s0.c6))) then true else s0.c5)), (wi (s0.c6 + 1)), (bif tb (s0.c5) then (s0.c10 ++ [(gt x0 s0.c6)]) else (bif tb (decide ((gt x6 x8) < (gt x0 s0.c6))) then ((s0.c10 ++ [(gt x6 x8)]) ++ [(gt x0 s0.c6)]) else (s0.c10 ++ [(gt x0 s0.c6)])))⟩
def Zkl (x0 x6 : List Int) (x8 : Int) (s0 : Zeu) : Bool := (itS (Zia x0 x6 x8) (Zj4 x0 x6 x8) bound s0).isSome
def Zh9 (x0 x6 : List Int) (x8 : Int) (s0 : Zeu) : Zeu := (itS (Zia x0 x6 x8) (Zj4 x0 x6 x8) bound s0).getD default
theorem Zwb (x0 x1 : List Int) (x2 x3 x4 x5 : Bool) (x6 : List Int) (x7 : Bool) (x8 : Int) (x9 x10 : Bool) (x11 : Int) (s0 : Zeu) : Zia x0 x6 x8 s0 = true → (roundG (runC E0 (cl E0) L19_2) [0, 4, 5, 6, 7, 8] [0, 5, 6, 7] 3) (Zmn x0 x1 x2 x3 x4 x5 x6 x7 x8 x9 x10 x11 s0) = some (.normal, Zmn x0 x1 x2 x3 x4 x5 x6 x7 x8 x9 x10 x11 (Zj4 x0 x6 x8 s0)) := by
 unfold Zia Zj4
 cases h1 : tb (decide (s0.c6 < ((x0.length : Nat) : Int)))
 ·exact ZN
 ·cases h2 : tb (s0.c5)
  ·cases h3 : tb (inb x0.length s0.c6)
   ·exact ZN
   ·cases h4 : tb (inb x6.length x8)
    ·exact ZN
    ·cases h5 : tb (decide ((gt x6 x8) < (gt x0 s0.c6)))
     ·cases h6 : tb (decide ((s0.c10.length + [(gt x0 s0.c6)].length) * 8 ≤ 140737488355328))
      ·exact ZN
      ·exact fun _ => Zv [.b (tbE h1), .b (notF (tbE h2)), .m 30 (Ziy (m := [(Blk.flat 3 1 [] true), (Blk.flat 3 1 (List.map (encI .i64) x0) true), (Blk.flat 3 1 (List.map (encI .i64) s0.c10) true)]) (b := x7) (id := 1) (n := x0.length) (s := 1) (k := .i64) (by kernel_rfl) (tbE h3)), .m 31 (Ziv (m := [(Blk.flat 3 1 [] true), (Blk.flat 3 1 (List.map (encI .i64) x0) true), (Blk.flat 3 1 (List.map (encI .i64) s0.c10) true)]) (enc := (encI .i64)) (l := x0) (id := 1) (e := 3) (s := 1) (off := 0) (size := 1) (p := true) (agg := false) (i := s0.c6) (v := (V.d (.int .i64 (gt x0 s0.c6)))) (n := x0.length) (Nat.beq_refl _) (by kernel_rfl) (tbE h3) (by kernel_rfl)), .o 34 (fun _ => Zn (enc := (encI .i64)) (l := x6) (fl := true) (n := x5) (s := 1) (k := .i64) (tbE h4)), .b (tbE h5), .m 48 (Ziy (m := [(Blk.flat 3 1 [] x2), (Blk.flat 3 1 (List.map (encI .i64) x0) x3), (Blk.flat 3 1 (List.map (encI .i64) s0.c10) false)]) (b := x7) (id := 1) (n := x0.length) (s := 1) (k := .i64) (by kernel_rfl) (tbE h3)), .m 49 (Ziv (m := [(Blk.flat 3 1 [] x2), (Blk.flat 3 1 (List.map (encI .i64) x0) x3), (Blk.flat 3 1 (List.map (encI .i64) s0.c10) false)]) (enc := (encI .i64)) (l := x0) (id := 1) (e := 3) (s := 1) (off := 0) (size := 1) (p := x3) (agg := false) (i := s0.c6) (v := (V.d (.int .i64 (gt x0 s0.c6)))) (n := x0.length) (Nat.beq_refl _) (by kernel_rfl) (tbE h3) (by kernel_rfl)), .m 51 (Zjt (nl := s0.c4) (m := [(Blk.flat 3 1 [] x2), (Blk.flat 3 1 (List.map (encI .i64) x0) x3), (Blk.flat 3 1 (List.map (encI .i64) s0.c10) false), (Blk.flat 3 1 [[(.int .i64 (gt x0 s0.c6))]] false)]) (enc := (encI .i64)) (l0 := s0.c10) (l1 := [(gt x0 s0.c6)]) (id := 2) (e := 3) (s := 1) (bytes := 8) (x := (V.so false 3 1)) (n := s0.c10.length) (Nat.beq_refl _) (by kernel_rfl) (by kernel_rfl) (by kernel_rfl) (tbE h6))] (by kernel_rfl)
     ·cases h6 : tb (decide ((s0.c10.length + [(gt x6 x8)].length) * 8 ≤ 140737488355328))
      ·exact ZN
      ·cases h7 : tb (decide (((s0.c10 ++ [(gt x6 x8)]).length + [(gt x0 s0.c6)].length) * 8 ≤ 140737488355328))
       ·exact ZN
       ·exact fun _ => Zv [.b (tbE h1), .b (notF (tbE h2)), .m 30 (Ziy (m := [(Blk.flat 3 1 [] true), (Blk.flat 3 1 (List.map (encI .i64) x0) true), (Blk.flat 3 1 (List.map (encI .i64) s0.c10) true)]) (b := x7) (id := 1) (n := x0.length) (s := 1) (k := .i64) (by kernel_rfl) (tbE h3)), .m 31 (Ziv (m := [(Blk.flat 3 1 [] true), (Blk.flat 3 1 (List.map (encI .i64) x0) true), (Blk.flat 3 1 (List.map (encI .i64) s0.c10) true)]) (enc := (encI .i64)) (l := x0) (id := 1) (e := 3) (s := 1) (off := 0) (size := 1) (p := true) (agg := false) (i := s0.c6) (v := (V.d (.int .i64 (gt x0 s0.c6)))) (n := x0.length) (Nat.beq_refl _) (by kernel_rfl) (tbE h3) (by kernel_rfl)), .o 34 (fun _ => Zn (enc := (encI .i64)) (l := x6) (fl := true) (n := x5) (s := 1) (k := .i64) (tbE h4)), .b (tbE h5), .o 41 (fun _ => Zn (enc := (encI .i64)) (l := x6) (fl := true) (n := x5) (s := 1) (k := .i64) (tbE h4)), .m 44 (Zjt (nl := s0.c4) (m := [(Blk.flat 3 1 [] x2), (Blk.flat 3 1 (List.map (encI .i64) x0) x3), (Blk.flat 3 1 (List.map (encI .i64) s0.c10) false), (Blk.flat 3 1 [[(.int .i64 (gt x6 x8))]] false)]) (enc := (encI .i64)) (l0 := s0.c10) (l1 := [(gt x6 x8)]) (id := 2) (e := 3) (s := 1) (bytes := 8) (x := (V.so false 3 1)) (n := s0.c10.length) (Nat.beq_refl _) (by kernel_rfl) (by kernel_rfl) (by kernel_rfl) (tbE h6)), .m 48 (Ziy (m := [(Blk.flat 3 1 [] x2), (Blk.flat 3 1 (List.map (encI .i64) x0) x3), (Blk.flat 3 1 (List.map (encI .i64) (s0.c10 ++ [(gt x6 x8)])) false), (Blk.flat 3 1 [[(.int .i64 (gt x6 x8))]] false)]) (b := x7) (id := 1) (n := x0.length) (s := 1) (k := .i64) (by kernel_rfl) (tbE h3)), .m 49 (Ziv (m := [(Blk.flat 3 1 [] x2), (Blk.flat 3 1 (List.map (encI .i64) x0) x3), (Blk.flat 3 1 (List.map (encI .i64) (s0.c10 ++ [(gt x6 x8)])) false), (Blk.flat 3 1 [[(.int .i64 (gt x6 x8))]] false)]) (enc := (encI .i64)) (l := x0) (id := 1) (e := 3) (s := 1) (off := 0) (size := 1) (p := x3) (agg := false) (i := s0.c6) (v := (V.d (.int .i64 (gt x0 s0.c6)))) (n := x0.length) (Nat.beq_refl _) (by kernel_rfl) (tbE h3) (by kernel_rfl)), .m 51 (Zul (m := [(Blk.flat 3 1 [] x2), (Blk.flat 3 1 (List.map (encI .i64) x0) x3), (Blk.flat 3 1 (List.map (encI .i64) (s0.c10 ++ [(gt x6 x8)])) false), (Blk.flat 3 1 [[(.int .i64 (gt x6 x8))]] false), (Blk.flat 3 1 [[(.int .i64 (gt x0 s0.c6))]] false)]) (enc := (encI .i64)) (l0 := (s0.c10 ++ [(gt x6 x8)])) (l1 := [(gt x0 s0.c6)]) (id := 2) (e := 3) (s := 1) (bytes := 8) (x := (V.so false 4 1)) (n := ((s0.c10 ++ [(gt x6 x8)]).length)) (Nat.beq_refl _) (by kernel_rfl) (by kernel_rfl) (by kernel_rfl) (tbE h7))] (by kernel_rfl)
  ·cases h3 : tb (inb x0.length s0.c6)
   ·exact ZN
   ·cases h4 : tb (decide ((s0.c10.length + [(gt x0 s0.c6)].length) * 8 ≤ 140737488355328))
    ·exact ZN
    ·exact fun _ => Zv [.b (tbE h1), .b (notT (tbE h2)), .m 48 (Ziy (m := [(Blk.flat 3 1 [] x2), (Blk.flat 3 1 (List.map (encI .i64) x0) x3), (Blk.flat 3 1 (List.map (encI .i64) s0.c10) false)]) (b := x7) (id := 1) (n := x0.length) (s := 1) (k := .i64) (by kernel_rfl) (tbE h3)), .m 49 (Ziv (m := [(Blk.flat 3 1 [] x2), (Blk.flat 3 1 (List.map (encI .i64) x0) x3), (Blk.flat 3 1 (List.map (encI .i64) s0.c10) false)]) (enc := (encI .i64)) (l := x0) (id := 1) (e := 3) (s := 1) (off := 0) (size := 1) (p := x3) (agg := false) (i := s0.c6) (v := (V.d (.int .i64 (gt x0 s0.c6)))) (n := x0.length) (Nat.beq_refl _) (by kernel_rfl) (tbE h3) (by kernel_rfl)), .m 51 (Zjt (nl := s0.c4) (m := [(Blk.flat 3 1 [] x2), (Blk.flat 3 1 (List.map (encI .i64) x0) x3), (Blk.flat 3 1 (List.map (encI .i64) s0.c10) false), (Blk.flat 3 1 [[(.int .i64 (gt x0 s0.c6))]] false)]) (enc := (encI .i64)) (l0 := s0.c10) (l1 := [(gt x0 s0.c6)]) (id := 2) (e := 3) (s := 1) (bytes := 8) (x := (V.so false 3 1)) (n := s0.c10.length) (Nat.beq_refl _) (by kernel_rfl) (by kernel_rfl) (by kernel_rfl) (tbE h4))] (by kernel_rfl)
def Zj2 (x0 : List Int) (s0 : Zeu) : Bool := (bif tb (decide (s0.c6 < ((x0.length : Nat) : Int))) then false else true)
theorem Zwk (x0 x1 : List Int) (x2 x3 x4 x5 : Bool) (x6 : List Int) (x7 : Bool) (x8 : Int) (x9 x10 : Bool) (x11 : Int) (s0 : Zeu) : Zia x0 x6 x8 s0 = false → Zj2 x0 s0 = true → (roundG (runC E0 (cl E0) L19_2) [0, 4, 5, 6, 7, 8] [0, 5, 6, 7] 3) (Zmn x0 x1 x2 x3 x4 x5 x6 x7 x8 x9 x10 x11 s0) = some ((.exit 2), ([(V.d (slD (encI .i64) true 1 x5 x6)), (V.d (.int .i64 x8)), (V.so s0.c4 2 s0.c10.length), (V.d (.bool s0.c5))], [(Blk.flat 3 1 [] x2), (Blk.flat 3 1 (List.map (encI .i64) x0) x3), (Blk.flat 3 1 (List.map (encI .i64) s0.c10) false)])) := by
 unfold Zia Zj2
 cases h1 : tb (decide (s0.c6 < ((x0.length : Nat) : Int)))
 ·intro g0 g1
  exact Zv [.b (tbE h1)] (by kernel_rfl)
 ·cases h2 : tb (s0.c5)
  ·cases h3 : tb (inb x0.length s0.c6)
   ·intro g0 g1
    exact absurd g1 ft
   ·cases h4 : tb (inb x6.length x8)
    ·intro g0 g1
     exact absurd g1 ft
    ·cases h5 : tb (decide ((gt x6 x8) < (gt x0 s0.c6)))
     ·cases h6 : tb (decide ((s0.c10.length + [(gt x0 s0.c6)].length) * 8 ≤ 140737488355328))
      ·intro g0 g1
       exact absurd g1 ft
      ·intro g0 g1
       exact absurd g0 tf
     ·cases h6 : tb (decide ((s0.c10.length + [(gt x6 x8)].length) * 8 ≤ 140737488355328))
      ·intro g0 g1
       exact absurd g1 ft
      ·cases h7 : tb (decide (((s0.c10 ++ [(gt x6 x8)]).length + [(gt x0 s0.c6)].length) * 8 ≤ 140737488355328))
       ·intro g0 g1
        exact absurd g1 ft
       ·intro g0 g1
        exact absurd g0 tf
  ·cases h3 : tb (inb x0.length s0.c6)
   ·intro g0 g1
    exact absurd g1 ft
   ·cases h4 : tb (decide ((s0.c10.length + [(gt x0 s0.c6)].length) * 8 ≤ 140737488355328))
    ·intro g0 g1
     exact absurd g1 ft
    ·intro g0 g1
     exact absurd g0 tf
theorem Zp0 (x0 x1 : List Int) (x2 x3 x4 x5 : Bool) (x6 : List Int) (x7 : Bool) (x8 : Int) (x9 x10 : Bool) (x11 : Int) (s : Zeu) (hok : Zkl x0 x6 x8 s = true) (c0 : Zj2 x0 (Zh9 x0 x6 x8 s) = true) : loopG (roundG (runC E0 (cl E0) L19_2) [0, 4, 5, 6, 7, 8] [0, 5, 6, 7] 3) bound (Zmn x0 x1 x2 x3 x4 x5 x6 x7 x8 x9 x10 x11 s) = some ((.exit 2), ([(V.d (slD (encI .i64) true 1 x5 x6)), (V.d (.int .i64 x8)), (V.so ((Zh9 x0 x6 x8 s).c4) 2 (((Zh9 x0 x6 x8 s).c10).length)), (V.d (.bool ((Zh9 x0 x6 x8 s).c5)))], [(Blk.flat 3 1 [] x2), (Blk.flat 3 1 (List.map (encI .i64) x0) x3), (Blk.flat 3 1 (List.map (encI .i64) ((Zh9 x0 x6 x8 s).c10)) false)])) := by
 have e : itS (Zia x0 x6 x8) (Zj4 x0 x6 x8) bound s = some (Zh9 x0 x6 x8 s) := Zis hok
 have f := Zgz e
 exact Zil (Zwb x0 x1 x2 x3 x4 x5 x6 x7 x8 x9 x10 x11) bound s _ _ _ e (fun h => by cases h) (Zwk x0 x1 x2 x3 x4 x5 x6 x7 x8 x9 x10 x11 (Zh9 x0 x6 x8 s) f c0)
def Zhh (x6 : List Int) (x8 : Int) : Bool := (bif tb (decide (x8 < ((x6.length : Nat) : Int))) then true else false)
theorem Zpt (x0 x1 : List Int) (x2 x3 x4 x5 : Bool) (x6 : List Int) (x7 : Bool) (x8 : Int) : Zhh x6 x8 = true → segG (runC E0 (cl E0) S19_1) [0, 4, 5] [4] [0, 4, 5] 3 ([(V.d (slD (encI .i64) true 1 x5 x6)), (V.so x7 2 x1.length), (V.d (.int .i64 x8))], [(Blk.flat 3 1 [] x2), (Blk.flat 3 1 (List.map (encI .i64) x0) x3), (Blk.flat 3 1 (List.map (encI .i64) x1) x4)]) = some (.normal, ([(V.d (slD (encI .i64) true 1 x5 x6)), (V.so x7 2 x1.length), (V.d (.int .i64 x8))], [(Blk.flat 3 1 [] x2), (Blk.flat 3 1 (List.map (encI .i64) x0) x3), (Blk.flat 3 1 (List.map (encI .i64) x1) x4)])) := by
 unfold Zhh
 cases h1 : tb (decide (x8 < ((x6.length : Nat) : Int)))
 ·exact ZN
 ·exact fun g0 => Z2 [.o 15 (fun _ => Zes (enc := (encI .i64)) (l := x6) (fl := true) (n := x5) (s := 1)), .b (tbE h1)] (by kernel_rfl)
theorem Zuv (x0 x1 : List Int) (x2 x3 x4 x5 : Bool) (x6 : List Int) (x7 : Bool) (x8 : Int) : Zhh x6 x8 = false → segG (runC E0 (cl E0) S19_1) [0, 4, 5] [4] [0, 4, 5] 3 ([(V.d (slD (encI .i64) true 1 x5 x6)), (V.so x7 2 x1.length), (V.d (.int .i64 x8))], [(Blk.flat 3 1 [] x2), (Blk.flat 3 1 (List.map (encI .i64) x0) x3), (Blk.flat 3 1 (List.map (encI .i64) x1) x4)]) = some ((.exit 0), ([(V.so x7 2 x1.length)], [(Blk.flat 3 1 [] x2), (Blk.flat 3 1 (List.map (encI .i64) x0) x3), (Blk.flat 3 1 (List.map (encI .i64) x1) x4)])) := by
 unfold Zhh
 cases h1 : tb (decide (x8 < ((x6.length : Nat) : Int)))
 ·exact fun g0 => Z2 [.o 15 (fun _ => Zes (enc := (encI .i64)) (l := x6) (fl := true) (n := x5) (s := 1)), .b (tbE h1)] (by kernel_rfl)
 ·exact fun g0 => absurd g0 tf
structure Zd1 where
 c4 : Bool
 c5 : Bool
 c6 : Int
 c12 : List Int
 deriving Inhabited
def Zl7 (x0 x1 x2 : List Int) (x3 x4 x5 x6 x7 : Bool) (x8 : List Int) (x9 : Bool) (x10 : Int) (x11 x12 : Bool) (x13 : Int) (s0 : Zd1) : List V × Mem := ([(V.d (slD (encI .i64) true 1 x7 x8)), (V.so x9 2 x1.length), (V.d (.int .i64 x10)), (V.so s0.c4 3 s0.c12.length), (V.d (.bool s0.c5)), (V.d (.int .i64 s0.c6))], [(Blk.flat 3 1 [] x3), (Blk.flat 3 1 (List.map (encI .i64) x0) x4), (Blk.flat 3 1 (List.map (encI .i64) x1) x5), (Blk.flat 3 1 (List.map (encI .i64) s0.c12) false)])
def Zg1 (x1 x8 : List Int) (x10 : Int) (s0 : Zd1) : Bool := (bif tb (decide (s0.c6 < ((x1.length : Nat) : Int))) then (bif tb (s0.c5) then (bif tb (inb x1.length s0.c6) then (bif tb (decide ((s0.c12.length + [(gt x1 s0.c6)].length) * 8 ≤ 140737488355328)) then true else false) else false) else (bif tb (inb x1.length s0.c6) then (bif tb (inb x8.length x10) then (bif tb (decide ((gt x8 x10) < (gt x1 s0.c6))) then (bif tb (decide ((s0.c12.length + [(gt x8 x10)].length) * 8 ≤ 140737488355328)) then (bif tb (decide (((s0.c12 ++ [(gt x8 x10)]).length + [(gt x1 s0.c6)].length) * 8 ≤ 140737488355328)) then true else false) else false) else (bif tb (decide ((s0.c12.length + [(gt x1 s0.c6)].length) * 8 ≤ 140737488355328)) then true else false)) else false) else false)) else false)
def Zi3 (x1 x8 : List Int) (x10 : Int) (s0 : Zd1) : Zd1 := ⟨false, (bif tb (s0.c5) then s0.c5 else (bif tb (decide ((gt x8 x10) < (gt x1 s0.c6))) then true else s0.c5)), (wi (s0.c6 + 1)), (bif tb (s0.c5) then (s0.c12 ++ [(gt x1 s0.c6)]) else (bif tb (decide ((gt x8 x10) < (gt x1 s0.c6))) then ((s0.c12 ++ [(gt x8 x10)]) ++ [(gt x1 s0.c6)]) else (s0.c12 ++ [(gt x1 s0.c6)])))⟩
def Zj7 (x1 x8 : List Int) (x10 : Int) (s0 : Zd1) : Bool := (itS (Zg1 x1 x8 x10) (Zi3 x1 x8 x10) bound s0).isSome
def Zhs (x1 x8 : List Int) (x10 : Int) (s0 : Zd1) : Zd1 := (itS (Zg1 x1 x8 x10) (Zi3 x1 x8 x10) bound s0).getD default
theorem Zur (x0 x1 x2 : List Int) (x3 x4 x5 x6 x7 : Bool) (x8 : List Int) (x9 : Bool) (x10 : Int) (x11 x12 : Bool) (x13 : Int) (s0 : Zd1) : Zg1 x1 x8 x10 s0 = true → (roundG (runC E0 (cl E0) L19_2) [0, 4, 5, 6, 7, 8] [0, 5, 6, 7] 4) (Zl7 x0 x1 x2 x3 x4 x5 x6 x7 x8 x9 x10 x11 x12 x13 s0) = some (.normal, Zl7 x0 x1 x2 x3 x4 x5 x6 x7 x8 x9 x10 x11 x12 x13 (Zi3 x1 x8 x10 s0)) := by
 unfold Zg1 Zi3
 cases h1 : tb (decide (s0.c6 < ((x1.length : Nat) : Int)))
 ·exact ZN
 ·cases h2 : tb (s0.c5)
  ·cases h3 : tb (inb x1.length s0.c6)
   ·exact ZN
   ·cases h4 : tb (inb x8.length x10)
    ·exact ZN
    ·cases h5 : tb (decide ((gt x8 x10) < (gt x1 s0.c6)))
     ·cases h6 : tb (decide ((s0.c12.length + [(gt x1 s0.c6)].length) * 8 ≤ 140737488355328))
      ·exact ZN
      ·exact fun _ => Zv [.b (tbE h1), .b (notF (tbE h2)), .m 30 (Ziy (m := [(Blk.flat 3 1 [] true), (Blk.flat 3 1 (List.map (encI .i64) x0) true), (Blk.flat 3 1 (List.map (encI .i64) x1) true), (Blk.flat 3 1 (List.map (encI .i64) s0.c12) true)]) (b := x9) (id := 2) (n := x1.length) (s := 1) (k := .i64) (by kernel_rfl) (tbE h3)), .m 31 (Ziv (m := [(Blk.flat 3 1 [] true), (Blk.flat 3 1 (List.map (encI .i64) x0) true), (Blk.flat 3 1 (List.map (encI .i64) x1) true), (Blk.flat 3 1 (List.map (encI .i64) s0.c12) true)]) (enc := (encI .i64)) (l := x1) (id := 2) (e := 3) (s := 1) (off := 0) (size := 1) (p := true) (agg := false) (i := s0.c6) (v := (V.d (.int .i64 (gt x1 s0.c6)))) (n := x1.length) (Nat.beq_refl _) (by kernel_rfl) (tbE h3) (by kernel_rfl)), .o 34 (fun _ => Zn (enc := (encI .i64)) (l := x8) (fl := true) (n := x7) (s := 1) (k := .i64) (tbE h4)), .b (tbE h5), .m 48 (Ziy (m := [(Blk.flat 3 1 [] x3), (Blk.flat 3 1 (List.map (encI .i64) x0) x4), (Blk.flat 3 1 (List.map (encI .i64) x1) x5), (Blk.flat 3 1 (List.map (encI .i64) s0.c12) false)]) (b := x9) (id := 2) (n := x1.length) (s := 1) (k := .i64) (by kernel_rfl) (tbE h3)), .m 49 (Ziv (m := [(Blk.flat 3 1 [] x3), (Blk.flat 3 1 (List.map (encI .i64) x0) x4), (Blk.flat 3 1 (List.map (encI .i64) x1) x5), (Blk.flat 3 1 (List.map (encI .i64) s0.c12) false)]) (enc := (encI .i64)) (l := x1) (id := 2) (e := 3) (s := 1) (off := 0) (size := 1) (p := x5) (agg := false) (i := s0.c6) (v := (V.d (.int .i64 (gt x1 s0.c6)))) (n := x1.length) (Nat.beq_refl _) (by kernel_rfl) (tbE h3) (by kernel_rfl)), .m 51 (Zjt (nl := s0.c4) (m := [(Blk.flat 3 1 [] x3), (Blk.flat 3 1 (List.map (encI .i64) x0) x4), (Blk.flat 3 1 (List.map (encI .i64) x1) x5), (Blk.flat 3 1 (List.map (encI .i64) s0.c12) false), (Blk.flat 3 1 [[(.int .i64 (gt x1 s0.c6))]] false)]) (enc := (encI .i64)) (l0 := s0.c12) (l1 := [(gt x1 s0.c6)]) (id := 3) (e := 3) (s := 1) (bytes := 8) (x := (V.so false 4 1)) (n := s0.c12.length) (Nat.beq_refl _) (by kernel_rfl) (by kernel_rfl) (by kernel_rfl) (tbE h6))] (by kernel_rfl)
     ·cases h6 : tb (decide ((s0.c12.length + [(gt x8 x10)].length) * 8 ≤ 140737488355328))
      ·exact ZN
      ·cases h7 : tb (decide (((s0.c12 ++ [(gt x8 x10)]).length + [(gt x1 s0.c6)].length) * 8 ≤ 140737488355328))
       ·exact ZN
       ·exact fun _ => Zv [.b (tbE h1), .b (notF (tbE h2)), .m 30 (Ziy (m := [(Blk.flat 3 1 [] true), (Blk.flat 3 1 (List.map (encI .i64) x0) true), (Blk.flat 3 1 (List.map (encI .i64) x1) true), (Blk.flat 3 1 (List.map (encI .i64) s0.c12) true)]) (b := x9) (id := 2) (n := x1.length) (s := 1) (k := .i64) (by kernel_rfl) (tbE h3)), .m 31 (Ziv (m := [(Blk.flat 3 1 [] true), (Blk.flat 3 1 (List.map (encI .i64) x0) true), (Blk.flat 3 1 (List.map (encI .i64) x1) true), (Blk.flat 3 1 (List.map (encI .i64) s0.c12) true)]) (enc := (encI .i64)) (l := x1) (id := 2) (e := 3) (s := 1) (off := 0) (size := 1) (p := true) (agg := false) (i := s0.c6) (v := (V.d (.int .i64 (gt x1 s0.c6)))) (n := x1.length) (Nat.beq_refl _) (by kernel_rfl) (tbE h3) (by kernel_rfl)), .o 34 (fun _ => Zn (enc := (encI .i64)) (l := x8) (fl := true) (n := x7) (s := 1) (k := .i64) (tbE h4)), .b (tbE h5), .o 41 (fun _ => Zn (enc := (encI .i64)) (l := x8) (fl := true) (n := x7) (s := 1) (k := .i64) (tbE h4)), .m 44 (Zjt (nl := s0.c4) (m := [(Blk.flat 3 1 [] x3), (Blk.flat 3 1 (List.map (encI .i64) x0) x4), (Blk.flat 3 1 (List.map (encI .i64) x1) x5), (Blk.flat 3 1 (List.map (encI .i64) s0.c12) false), (Blk.flat 3 1 [[(.int .i64 (gt x8 x10))]] false)]) (enc := (encI .i64)) (l0 := s0.c12) (l1 := [(gt x8 x10)]) (id := 3) (e := 3) (s := 1) (bytes := 8) (x := (V.so false 4 1)) (n := s0.c12.length) (Nat.beq_refl _) (by kernel_rfl) (by kernel_rfl) (by kernel_rfl) (tbE h6)), .m 48 (Ziy (m := [(Blk.flat 3 1 [] x3), (Blk.flat 3 1 (List.map (encI .i64) x0) x4), (Blk.flat 3 1 (List.map (encI .i64) x1) x5), (Blk.flat 3 1 (List.map (encI .i64) (s0.c12 ++ [(gt x8 x10)])) false), (Blk.flat 3 1 [[(.int .i64 (gt x8 x10))]] false)]) (b := x9) (id := 2) (n := x1.length) (s := 1) (k := .i64) (by kernel_rfl) (tbE h3)), .m 49 (Ziv (m := [(Blk.flat 3 1 [] x3), (Blk.flat 3 1 (List.map (encI .i64) x0) x4), (Blk.flat 3 1 (List.map (encI .i64) x1) x5), (Blk.flat 3 1 (List.map (encI .i64) (s0.c12 ++ [(gt x8 x10)])) false), (Blk.flat 3 1 [[(.int .i64 (gt x8 x10))]] false)]) (enc := (encI .i64)) (l := x1) (id := 2) (e := 3) (s := 1) (off := 0) (size := 1) (p := x5) (agg := false) (i := s0.c6) (v := (V.d (.int .i64 (gt x1 s0.c6)))) (n := x1.length) (Nat.beq_refl _) (by kernel_rfl) (tbE h3) (by kernel_rfl)), .m 51 (Zul (m := [(Blk.flat 3 1 [] x3), (Blk.flat 3 1 (List.map (encI .i64) x0) x4), (Blk.flat 3 1 (List.map (encI .i64) x1) x5), (Blk.flat 3 1 (List.map (encI .i64) (s0.c12 ++ [(gt x8 x10)])) false), (Blk.flat 3 1 [[(.int .i64 (gt x8 x10))]] false), (Blk.flat 3 1 [[(.int .i64 (gt x1 s0.c6))]] false)]) (enc := (encI .i64)) (l0 := (s0.c12 ++ [(gt x8 x10)])) (l1 := [(gt x1 s0.c6)]) (id := 3) (e := 3) (s := 1) (bytes := 8) (x := (V.so false 5 1)) (n := ((s0.c12 ++ [(gt x8 x10)]).length)) (Nat.beq_refl _) (by kernel_rfl) (by kernel_rfl) (by kernel_rfl) (tbE h7))] (by kernel_rfl)
  ·cases h3 : tb (inb x1.length s0.c6)
   ·exact ZN
   ·cases h4 : tb (decide ((s0.c12.length + [(gt x1 s0.c6)].length) * 8 ≤ 140737488355328))
    ·exact ZN
    ·exact fun _ => Zv [.b (tbE h1), .b (notT (tbE h2)), .m 48 (Ziy (m := [(Blk.flat 3 1 [] x3), (Blk.flat 3 1 (List.map (encI .i64) x0) x4), (Blk.flat 3 1 (List.map (encI .i64) x1) x5), (Blk.flat 3 1 (List.map (encI .i64) s0.c12) false)]) (b := x9) (id := 2) (n := x1.length) (s := 1) (k := .i64) (by kernel_rfl) (tbE h3)), .m 49 (Ziv (m := [(Blk.flat 3 1 [] x3), (Blk.flat 3 1 (List.map (encI .i64) x0) x4), (Blk.flat 3 1 (List.map (encI .i64) x1) x5), (Blk.flat 3 1 (List.map (encI .i64) s0.c12) false)]) (enc := (encI .i64)) (l := x1) (id := 2) (e := 3) (s := 1) (off := 0) (size := 1) (p := x5) (agg := false) (i := s0.c6) (v := (V.d (.int .i64 (gt x1 s0.c6)))) (n := x1.length) (Nat.beq_refl _) (by kernel_rfl) (tbE h3) (by kernel_rfl)), .m 51 (Zjt (nl := s0.c4) (m := [(Blk.flat 3 1 [] x3), (Blk.flat 3 1 (List.map (encI .i64) x0) x4), (Blk.flat 3 1 (List.map (encI .i64) x1) x5), (Blk.flat 3 1 (List.map (encI .i64) s0.c12) false), (Blk.flat 3 1 [[(.int .i64 (gt x1 s0.c6))]] false)]) (enc := (encI .i64)) (l0 := s0.c12) (l1 := [(gt x1 s0.c6)]) (id := 3) (e := 3) (s := 1) (bytes := 8) (x := (V.so false 4 1)) (n := s0.c12.length) (Nat.beq_refl _) (by kernel_rfl) (by kernel_rfl) (by kernel_rfl) (tbE h4))] (by kernel_rfl)
def Zi4 (x1 : List Int) (s0 : Zd1) : Bool := (bif tb (decide (s0.c6 < ((x1.length : Nat) : Int))) then false else true)
theorem Zu1 (x0 x1 x2 : List Int) (x3 x4 x5 x6 x7 : Bool) (x8 : List Int) (x9 : Bool) (x10 : Int) (x11 x12 : Bool) (x13 : Int) (s0 : Zd1) : Zg1 x1 x8 x10 s0 = false → Zi4 x1 s0 = true → (roundG (runC E0 (cl E0) L19_2) [0, 4, 5, 6, 7, 8] [0, 5, 6, 7] 4) (Zl7 x0 x1 x2 x3 x4 x5 x6 x7 x8 x9 x10 x11 x12 x13 s0) = some ((.exit 2), ([(V.d (slD (encI .i64) true 1 x7 x8)), (V.d (.int .i64 x10)), (V.so s0.c4 3 s0.c12.length), (V.d (.bool s0.c5))], [(Blk.flat 3 1 [] x3), (Blk.flat 3 1 (List.map (encI .i64) x0) x4), (Blk.flat 3 1 (List.map (encI .i64) x1) x5), (Blk.flat 3 1 (List.map (encI .i64) s0.c12) false)])) := by
 unfold Zg1 Zi4
 cases h1 : tb (decide (s0.c6 < ((x1.length : Nat) : Int)))
 ·intro g0 g1
  exact Zv [.b (tbE h1)] (by kernel_rfl)
 ·cases h2 : tb (s0.c5)
  ·cases h3 : tb (inb x1.length s0.c6)
   ·intro g0 g1
    exact absurd g1 ft
   ·cases h4 : tb (inb x8.length x10)
    ·intro g0 g1
     exact absurd g1 ft
    ·cases h5 : tb (decide ((gt x8 x10) < (gt x1 s0.c6)))
     ·cases h6 : tb (decide ((s0.c12.length + [(gt x1 s0.c6)].length) * 8 ≤ 140737488355328))
      ·intro g0 g1
       exact absurd g1 ft
      ·intro g0 g1
       exact absurd g0 tf
     ·cases h6 : tb (decide ((s0.c12.length + [(gt x8 x10)].length) * 8 ≤ 140737488355328))
      ·intro g0 g1
       exact absurd g1 ft
      ·cases h7 : tb (decide (((s0.c12 ++ [(gt x8 x10)]).length + [(gt x1 s0.c6)].length) * 8 ≤ 140737488355328))
       ·intro g0 g1
        exact absurd g1 ft
       ·intro g0 g1
        exact absurd g0 tf
  ·cases h3 : tb (inb x1.length s0.c6)
   ·intro g0 g1
    exact absurd g1 ft
   ·cases h4 : tb (decide ((s0.c12.length + [(gt x1 s0.c6)].length) * 8 ≤ 140737488355328))
    ·intro g0 g1
     exact absurd g1 ft
    ·intro g0 g1
     exact absurd g0 tf
theorem Zo7 (x0 x1 x2 : List Int) (x3 x4 x5 x6 x7 : Bool) (x8 : List Int) (x9 : Bool) (x10 : Int) (x11 x12 : Bool) (x13 : Int) (s : Zd1) (hok : Zj7 x1 x8 x10 s = true) (c0 : Zi4 x1 (Zhs x1 x8 x10 s) = true) : loopG (roundG (runC E0 (cl E0) L19_2) [0, 4, 5, 6, 7, 8] [0, 5, 6, 7] 4) bound (Zl7 x0 x1 x2 x3 x4 x5 x6 x7 x8 x9 x10 x11 x12 x13 s) = some ((.exit 2), ([(V.d (slD (encI .i64) true 1 x7 x8)), (V.d (.int .i64 x10)), (V.so ((Zhs x1 x8 x10 s).c4) 3 (((Zhs x1 x8 x10 s).c12).length)), (V.d (.bool ((Zhs x1 x8 x10 s).c5)))], [(Blk.flat 3 1 [] x3), (Blk.flat 3 1 (List.map (encI .i64) x0) x4), (Blk.flat 3 1 (List.map (encI .i64) x1) x5), (Blk.flat 3 1 (List.map (encI .i64) ((Zhs x1 x8 x10 s).c12)) false)])) := by
 have e : itS (Zg1 x1 x8 x10) (Zi3 x1 x8 x10) bound s = some (Zhs x1 x8 x10 s) := Zis hok
 have f := Zgz e
 exact Zil (Zur x0 x1 x2 x3 x4 x5 x6 x7 x8 x9 x10 x11 x12 x13) bound s _ _ _ e (fun h => by cases h) (Zu1 x0 x1 x2 x3 x4 x5 x6 x7 x8 x9 x10 x11 x12 x13 (Zhs x1 x8 x10 s) f c0)
structure Zkn where mk ::
 deriving Inhabited
structure Zjh where
 c2 : Bool
 c3 : Int
 c7 : List Int
 deriving Inhabited
inductive Zdy where
 | h0 (v : Zkn)
 | h1 (v : Zjh)
 deriving Inhabited
def Zhv : Zdy → Bool
 | .h0 _ => true
 | _ => false
def Zpv : Zdy → Zkn
 | .h0 v => v
 | _ => default
theorem Zvi {s : Zdy} (h : Zhv s = true) : s = .h0 (Zpv s) := by cases s <;> first | rfl | cases h
def Zgx : Zdy → Zjh
 | .h1 v => v
 | _ => default
def Zh8 (x0 : List Int) (x1 x2 x3 : Bool) (x4 : List Int) (x5 : Bool) (x6 : Int) : Zdy → List V × Mem
 | .h0 s0 => ([(V.d (slD (encI .i64) true 1 x3 x4)), (V.so x5 1 x0.length), (V.d (.int .i64 x6))], [(Blk.flat 3 1 [] x1), (Blk.flat 3 1 (List.map (encI .i64) x0) x2)])
 | .h1 s0 => ([(V.d (slD (encI .i64) true 1 x3 x4)), (V.so s0.c2 2 s0.c7.length), (V.d (.int .i64 s0.c3))], [(Blk.flat 3 1 [] x1), (Blk.flat 3 1 (List.map (encI .i64) x0) x2), (Blk.flat 3 1 (List.map (encI .i64) s0.c7) false)])
def Zdj (x0 x4 : List Int) (x6 : Int) : Zeu := Zh9 x0 x4 x6 (⟨true, false, 0, ([] : List Int)⟩ : Zeu)
def Zdk (x4 : List Int) (s0 : Zjh) : Zd1 := Zhs s0.c7 x4 s0.c3 (⟨true, false, 0, ([] : List Int)⟩ : Zd1)
def Zi8 (x0 x4 : List Int) (x6 : Int) (s0 : Zkn) : Bool := (bif tb (Zh6 x4 x6) then (bif tb (Zkl x0 x4 x6 (⟨true, false, 0, ([] : List Int)⟩ : Zeu)) then (bif tb (Zj2 x0 (Zdj x0 x4 x6)) then (bif tb ((Zdj x0 x4 x6).c5) then true else (bif tb (inb x4.length x6) then (bif tb (decide ((((Zdj x0 x4 x6).c10).length + [(gt x4 x6)].length) * 8 ≤ 140737488355328)) then true else false) else false)) else false) else false) else false)
def Zl9 (x0 x4 : List Int) (x6 : Int) (s0 : Zkn) : Zdy := (bif tb ((Zdj x0 x4 x6).c5) then .h1 ⟨((Zdj x0 x4 x6).c4), (wi (x6 + 1)), ((Zdj x0 x4 x6).c10)⟩ else .h1 ⟨false, (wi (x6 + 1)), (((Zdj x0 x4 x6).c10) ++ [(gt x4 x6)])⟩)
def Zi9 (x0 x4 : List Int) (x6 : Int) (s0 : Zjh) : Bool := (bif tb (Zhh x4 s0.c3) then (bif tb (Zj7 s0.c7 x4 s0.c3 (⟨true, false, 0, ([] : List Int)⟩ : Zd1)) then (bif tb (Zi4 s0.c7 (Zdk x4 s0)) then (bif tb ((Zdk x4 s0).c5) then true else (bif tb (inb x4.length s0.c3) then (bif tb (decide ((((Zdk x4 s0).c12).length + [(gt x4 s0.c3)].length) * 8 ≤ 140737488355328)) then true else false) else false)) else false) else false) else false)
def Zma (x0 x4 : List Int) (x6 : Int) (s0 : Zjh) : Zdy := (bif tb ((Zdk x4 s0).c5) then .h1 ⟨((Zdk x4 s0).c4), (wi (s0.c3 + 1)), ((Zdk x4 s0).c12)⟩ else .h1 ⟨false, (wi (s0.c3 + 1)), (((Zdk x4 s0).c12) ++ [(gt x4 s0.c3)])⟩)
def Zhu (x0 x4 : List Int) (x6 : Int) : Zdy → Bool
 | .h0 v => Zi8 x0 x4 x6 v
 | .h1 v => Zi9 x0 x4 x6 v
def Zi5 (x0 x4 : List Int) (x6 : Int) : Zdy → Zdy
 | .h0 v => Zl9 x0 x4 x6 v
 | .h1 v => Zma x0 x4 x6 v
def Zko (x0 x4 : List Int) (x6 : Int) (s0 : Zdy) : Bool := (itS (Zhu x0 x4 x6) (Zi5 x0 x4 x6) bound s0).isSome
def Zf1 (x0 x4 : List Int) (x6 : Int) (s0 : Zdy) : Zdy := (itS (Zhu x0 x4 x6) (Zi5 x0 x4 x6) bound s0).getD default
theorem Zub (x0 : List Int) (x1 x2 x3 : Bool) (x4 : List Int) (x5 : Bool) (x6 : Int) (s0 : Zkn) : Zi8 x0 x4 x6 s0 = true → (roundG (runC E0 (cl E0) L19_3) [0, 4, 5] [4] 2) (Zh8 x0 x1 x2 x3 x4 x5 x6 (.h0 s0)) = some (.normal, Zh8 x0 x1 x2 x3 x4 x5 x6 (Zl9 x0 x4 x6 s0)) := by
 unfold Zi8 Zl9
 cases h1 : tb (Zh6 x4 x6)
 ·exact ZN
 ·cases h2 : tb (Zkl x0 x4 x6 (⟨true, false, 0, ([] : List Int)⟩ : Zeu))
  ·exact ZN
  ·cases h3 : tb (Zj2 x0 (Zdj x0 x4 x6))
   ·exact ZN
   ·cases h4 : tb ((Zdj x0 x4 x6).c5)
    ·cases h5 : tb (inb x4.length x6)
     ·exact ZN
     ·cases h6 : tb (decide ((((Zdj x0 x4 x6).c10).length + [(gt x4 x6)].length) * 8 ≤ 140737488355328))
      ·exact ZN
      ·exact fun _ => Zv [.s (Zqx x0 x1 x2 x3 x4 x5 x6 (tbE h1)), .l (Zp0 x0 ([] : List Int) x1 x2 false x3 x4 x5 x6 true false 0 (⟨true, false, 0, ([] : List Int)⟩ : Zeu) (tbE h2) (tbE h3)), .b (notF (tbE h4)), .o 57 (fun _ => Zn (enc := (encI .i64)) (l := x4) (fl := true) (n := x3) (s := 1) (k := .i64) (tbE h5)), .m 60 (Zjt (nl := ((Zdj x0 x4 x6).c4)) (m := [(Blk.flat 3 1 [] x1), (Blk.flat 3 1 (List.map (encI .i64) x0) x2), (Blk.flat 3 1 (List.map (encI .i64) ((Zdj x0 x4 x6).c10)) false), (Blk.flat 3 1 [[(.int .i64 (gt x4 x6))]] false)]) (enc := (encI .i64)) (l0 := ((Zdj x0 x4 x6).c10)) (l1 := [(gt x4 x6)]) (id := 2) (e := 3) (s := 1) (bytes := 8) (x := (V.so false 3 1)) (n := (((Zdj x0 x4 x6).c10).length)) (Nat.beq_refl _) (by kernel_rfl) (by kernel_rfl) (by kernel_rfl) (tbE h6))] (by kernel_rfl)
    ·exact fun _ => Zv [.s (Zqx x0 x1 x2 x3 x4 x5 x6 (tbE h1)), .l (Zp0 x0 ([] : List Int) x1 x2 false x3 x4 x5 x6 true false 0 (⟨true, false, 0, ([] : List Int)⟩ : Zeu) (tbE h2) (tbE h3)), .b (notT (tbE h4))] (by kernel_rfl)
def Zjy (x4 : List Int) (x6 : Int) : Bool := (bif tb (Zh6 x4 x6) then false else true)
theorem Zty (x0 : List Int) (x1 x2 x3 : Bool) (x4 : List Int) (x5 : Bool) (x6 : Int) (s0 : Zkn) : Zi8 x0 x4 x6 s0 = false → Zjy x4 x6 = true → (roundG (runC E0 (cl E0) L19_3) [0, 4, 5] [4] 2) (Zh8 x0 x1 x2 x3 x4 x5 x6 (.h0 s0)) = some ((.exit 0), ([(V.so x5 1 x0.length)], [(Blk.flat 3 1 [] x1), (Blk.flat 3 1 (List.map (encI .i64) x0) x2)])) := by
 unfold Zi8 Zjy
 cases h1 : tb (Zh6 x4 x6)
 ·intro g0 g1
  exact Zv [.s (Zwh x0 x1 x2 x3 x4 x5 x6 (tbE h1))] (by kernel_rfl)
 ·cases h2 : tb (Zkl x0 x4 x6 (⟨true, false, 0, ([] : List Int)⟩ : Zeu))
  ·intro g0 g1
   exact absurd g1 ft
  ·cases h3 : tb (Zj2 x0 (Zdj x0 x4 x6))
   ·intro g0 g1
    exact absurd g1 ft
   ·cases h4 : tb ((Zdj x0 x4 x6).c5)
    ·cases h5 : tb (inb x4.length x6)
     ·intro g0 g1
      exact absurd g1 ft
     ·cases h6 : tb (decide ((((Zdj x0 x4 x6).c10).length + [(gt x4 x6)].length) * 8 ≤ 140737488355328))
      ·intro g0 g1
       exact absurd g1 ft
      ·intro g0 g1
       exact absurd g0 tf
    ·intro g0 g1
     exact absurd g0 tf
theorem Zue (x0 : List Int) (x1 x2 x3 : Bool) (x4 : List Int) (x5 : Bool) (x6 : Int) (s0 : Zjh) : Zi9 x0 x4 x6 s0 = true → (roundG (runC E0 (cl E0) L19_3) [0, 4, 5] [4] 2) (Zh8 x0 x1 x2 x3 x4 x5 x6 (.h1 s0)) = some (.normal, Zh8 x0 x1 x2 x3 x4 x5 x6 (Zma x0 x4 x6 s0)) := by
 unfold Zi9 Zma
 cases h1 : tb (Zhh x4 s0.c3)
 ·exact ZN
 ·cases h2 : tb (Zj7 s0.c7 x4 s0.c3 (⟨true, false, 0, ([] : List Int)⟩ : Zd1))
  ·exact ZN
  ·cases h3 : tb (Zi4 s0.c7 (Zdk x4 s0))
   ·exact ZN
   ·cases h4 : tb ((Zdk x4 s0).c5)
    ·cases h5 : tb (inb x4.length s0.c3)
     ·exact ZN
     ·cases h6 : tb (decide ((((Zdk x4 s0).c12).length + [(gt x4 s0.c3)].length) * 8 ≤ 140737488355328))
      ·exact ZN
      ·exact fun _ => Zv [.s (Zpt x0 s0.c7 x1 x2 false x3 x4 s0.c2 s0.c3 (tbE h1)), .l (Zo7 x0 s0.c7 ([] : List Int) x1 x2 false false x3 x4 s0.c2 s0.c3 true false 0 (⟨true, false, 0, ([] : List Int)⟩ : Zd1) (tbE h2) (tbE h3)), .b (notF (tbE h4)), .o 57 (fun _ => Zn (enc := (encI .i64)) (l := x4) (fl := true) (n := x3) (s := 1) (k := .i64) (tbE h5)), .m 60 (Zjt (nl := ((Zdk x4 s0).c4)) (m := [(Blk.flat 3 1 [] x1), (Blk.flat 3 1 (List.map (encI .i64) x0) x2), (Blk.flat 3 1 (List.map (encI .i64) s0.c7) false), (Blk.flat 3 1 (List.map (encI .i64) ((Zdk x4 s0).c12)) false), (Blk.flat 3 1 [[(.int .i64 (gt x4 s0.c3))]] false)]) (enc := (encI .i64)) (l0 := ((Zdk x4 s0).c12)) (l1 := [(gt x4 s0.c3)]) (id := 3) (e := 3) (s := 1) (bytes := 8) (x := (V.so false 4 1)) (n := (((Zdk x4 s0).c12).length)) (Nat.beq_refl _) (by kernel_rfl) (by kernel_rfl) (by kernel_rfl) (tbE h6))] (by kernel_rfl)
    ·exact fun _ => Zv [.s (Zpt x0 s0.c7 x1 x2 false x3 x4 s0.c2 s0.c3 (tbE h1)), .l (Zo7 x0 s0.c7 ([] : List Int) x1 x2 false false x3 x4 s0.c2 s0.c3 true false 0 (⟨true, false, 0, ([] : List Int)⟩ : Zd1) (tbE h2) (tbE h3)), .b (notT (tbE h4))] (by kernel_rfl)
def Zj0 (x4 : List Int) (s0 : Zjh) : Bool := (bif tb (Zhh x4 s0.c3) then false else true)
theorem Zt2 (x0 : List Int) (x1 x2 x3 : Bool) (x4 : List Int) (x5 : Bool) (x6 : Int) (s0 : Zjh) : Zi9 x0 x4 x6 s0 = false → Zj0 x4 s0 = true → (roundG (runC E0 (cl E0) L19_3) [0, 4, 5] [4] 2) (Zh8 x0 x1 x2 x3 x4 x5 x6 (.h1 s0)) = some ((.exit 0), ([(V.so s0.c2 2 s0.c7.length)], [(Blk.flat 3 1 [] x1), (Blk.flat 3 1 (List.map (encI .i64) x0) x2), (Blk.flat 3 1 (List.map (encI .i64) s0.c7) false)])) := by
 unfold Zi9 Zj0
 cases h1 : tb (Zhh x4 s0.c3)
 ·intro g0 g1
  exact Zv [.s (Zuv x0 s0.c7 x1 x2 false x3 x4 s0.c2 s0.c3 (tbE h1))] (by kernel_rfl)
 ·cases h2 : tb (Zj7 s0.c7 x4 s0.c3 (⟨true, false, 0, ([] : List Int)⟩ : Zd1))
  ·intro g0 g1
   exact absurd g1 ft
  ·cases h3 : tb (Zi4 s0.c7 (Zdk x4 s0))
   ·intro g0 g1
    exact absurd g1 ft
   ·cases h4 : tb ((Zdk x4 s0).c5)
    ·cases h5 : tb (inb x4.length s0.c3)
     ·intro g0 g1
      exact absurd g1 ft
     ·cases h6 : tb (decide ((((Zdk x4 s0).c12).length + [(gt x4 s0.c3)].length) * 8 ≤ 140737488355328))
      ·intro g0 g1
       exact absurd g1 ft
      ·intro g0 g1
       exact absurd g0 tf
    ·intro g0 g1
     exact absurd g0 tf
theorem Zq0 (x0 : List Int) (x1 x2 x3 : Bool) (x4 : List Int) (x5 : Bool) (x6 : Int) : ∀ s, Zhu x0 x4 x6 s = true → (roundG (runC E0 (cl E0) L19_3) [0, 4, 5] [4] 2) (Zh8 x0 x1 x2 x3 x4 x5 x6 s) = some (.normal, Zh8 x0 x1 x2 x3 x4 x5 x6 (Zi5 x0 x4 x6 s))
 | .h0 s0, h => Zub x0 x1 x2 x3 x4 x5 x6 s0 h
 | .h1 s0, h => Zue x0 x1 x2 x3 x4 x5 x6 s0 h
theorem Zu8 (x0 : List Int) (x1 x2 x3 : Bool) (x4 : List Int) (x5 : Bool) (x6 : Int) (s : Zdy) (hok : Zko x0 x4 x6 s = true) (k0 : Zhv (Zf1 x0 x4 x6 s) = true) (c0 : Zjy x4 x6 = true) : loopG (roundG (runC E0 (cl E0) L19_3) [0, 4, 5] [4] 2) bound (Zh8 x0 x1 x2 x3 x4 x5 x6 s) = some ((.exit 0), ([(V.so x5 1 x0.length)], [(Blk.flat 3 1 [] x1), (Blk.flat 3 1 (List.map (encI .i64) x0) x2)])) := by
 have e : itS (Zhu x0 x4 x6) (Zi5 x0 x4 x6) bound s = some (Zf1 x0 x4 x6 s) := Zis hok
 have f := Zgz e
 have a := Zvi k0
 have g := Zty x0 x1 x2 x3 x4 x5 x6 (Zpv (Zf1 x0 x4 x6 s)) (by rw [a] at f; exact f) c0
 exact Zil (Zq0 x0 x1 x2 x3 x4 x5 x6) bound s _ _ _ e (fun h => by cases h) (by rw [a]; exact g)
theorem Zvd (x0 : List Int) (x1 x2 x3 : Bool) (x4 : List Int) (x5 : Bool) (x6 : Int) (s : Zdy) (hok : Zko x0 x4 x6 s = true) (k0 : Zhv (Zf1 x0 x4 x6 s) = false) (c0 : Zj0 x4 (Zgx (Zf1 x0 x4 x6 s)) = true) : loopG (roundG (runC E0 (cl E0) L19_3) [0, 4, 5] [4] 2) bound (Zh8 x0 x1 x2 x3 x4 x5 x6 s) = some ((.exit 0), ([(V.so ((Zgx (Zf1 x0 x4 x6 s)).c2) 2 (((Zgx (Zf1 x0 x4 x6 s)).c7).length))], [(Blk.flat 3 1 [] x1), (Blk.flat 3 1 (List.map (encI .i64) x0) x2), (Blk.flat 3 1 (List.map (encI .i64) ((Zgx (Zf1 x0 x4 x6 s)).c7)) false)])) := by
 have e : itS (Zhu x0 x4 x6) (Zi5 x0 x4 x6) bound s = some (Zf1 x0 x4 x6 s) := Zis hok
 have f := Zgz e
 have a : (Zf1 x0 x4 x6 s) = .h1 (Zgx (Zf1 x0 x4 x6 s)) := by
  revert k0
  cases (Zf1 x0 x4 x6 s) with
  | h0 w => intros; contradiction
  | h1 w => intros; rfl
 have g := Zt2 x0 x1 x2 x3 x4 x5 x6 (Zgx (Zf1 x0 x4 x6 s)) (by rw [a] at f; exact f) c0
 exact Zil (Zq0 x0 x1 x2 x3 x4 x5 x6) bound s _ _ _ e (fun h => by cases h) (by rw [a]; exact g)
def Zjg (x1 : List Int) : Zdy := Zf1 ([] : List Int) x1 0 (.h0 ⟨⟩ : Zdy)
def Zkd (x1 : List Int) : Bool := (bif tb (Zlb x1) then (bif tb (Zgn (Zh1 x1)) then (bif tb (Zko ([] : List Int) x1 0 (.h0 ⟨⟩ : Zdy)) then (bif tb (Zhv (Zjg x1)) then (bif tb (Zjy x1 0) then true else false) else (bif tb (Zj0 x1 (Zgx (Zjg x1))) then true else false)) else false) else true) else false)
def Zm6 (x1 : List Int) : Bool := (bif tb (Zgn (Zh1 x1)) then (bif tb (Zhv (Zjg x1)) then true else ((Zgx (Zjg x1)).c2)) else true)
def Zby (x1 : List Int) : List Int := (bif tb (Zgn (Zh1 x1)) then (bif tb (Zhv (Zjg x1)) then ([] : List Int) else ((Zgx (Zjg x1)).c7)) else ([] : List Int))
theorem Zs0 (x0 : Bool) (x1 : List Int) : Zkd x1 = true → cl E0 19 [(V.d (slD (encI .i64) true 1 x0 x1))] [] = some ([(V.so (Zm6 x1) 0 ((Zby x1).length))], [(Blk.flat 3 1 (List.map (encI .i64) (Zby x1)) false)]) := by
 unfold Zkd Zm6 Zby
 cases h1 : tb (Zlb x1)
 ·exact ZN
 ·cases h2 : tb (Zgn (Zh1 x1))
  ·exact fun g0 => w19 [.c (Zpc x0 x1 (tbE h1)), .s (Zv5 false x0 x1 (Zh1 x1) (tbE h2))] (by kernel_rfl)
  ·cases h3 : tb (Zko ([] : List Int) x1 0 (.h0 ⟨⟩ : Zdy))
   ·exact ZN
   ·cases h4 : tb (Zhv (Zjg x1))
    ·cases h5 : tb (Zj0 x1 (Zgx (Zjg x1)))
     ·exact ZN
     ·exact fun g0 => w19 [.c (Zpc x0 x1 (tbE h1)), .s (Zq5 false x0 x1 (Zh1 x1) (tbE h2)), .l (Zvd ([] : List Int) false false x0 x1 true 0 (.h0 ⟨⟩ : Zdy) (tbE h3) (tbE h4) (tbE h5))] (by kernel_rfl)
    ·cases h5 : tb (Zjy x1 0)
     ·exact ZN
     ·exact fun g0 => w19 [.c (Zpc x0 x1 (tbE h1)), .s (Zq5 false x0 x1 (Zh1 x1) (tbE h2)), .l (Zu8 ([] : List Int) false false x0 x1 true 0 (.h0 ⟨⟩ : Zdy) (tbE h3) (tbE h4) (tbE h5))] (by kernel_rfl)
structure Zcz where
 c4 : Int
 deriving Inhabited
def Zj9 (x0 : Bool) (x1 : List Int) (x2 : Bool) (x3 : List Int) (x4 : Int) (s0 : Zcz) : List V × Mem := ([(V.d (slD (encI .i64) true 1 x0 x1)), (V.d (slD (encI .i64) true 1 x2 x3)), (V.d (.int .i64 s0.c4))], [])
def Zf5 (x1 x3 : List Int) (s0 : Zcz) : Bool := (bif tb (decide (s0.c4 < ((x1.length : Nat) : Int))) then (bif tb (inb x1.length s0.c4) then (bif tb (inb x3.length s0.c4) then (bif tb (((gt x1 s0.c4) : Int) != (gt x3 s0.c4)) then false else true) else false) else false) else false)
def Zjr (x1 x3 : List Int) (s0 : Zcz) : Zcz := ⟨(wi (s0.c4 + 1))⟩
def Zla (x1 x3 : List Int) (s0 : Zcz) : Bool := (itS (Zf5 x1 x3) (Zjr x1 x3) bound s0).isSome
def Zgg (x1 x3 : List Int) (s0 : Zcz) : Zcz := (itS (Zf5 x1 x3) (Zjr x1 x3) bound s0).getD default
theorem Zp7 (x0 : Bool) (x1 : List Int) (x2 : Bool) (x3 : List Int) (x4 : Int) (s0 : Zcz) : Zf5 x1 x3 s0 = true → (roundG (runC E0 (cl E0) L17_0) [0, 1, 5] [4] 0) (Zj9 x0 x1 x2 x3 x4 s0) = some (.normal, Zj9 x0 x1 x2 x3 x4 (Zjr x1 x3 s0)) := by
 unfold Zf5 Zjr
 cases h1 : tb (decide (s0.c4 < ((x1.length : Nat) : Int)))
 ·exact ZN
 ·cases h2 : tb (inb x1.length s0.c4)
  ·exact ZN
  ·cases h3 : tb (inb x3.length s0.c4)
   ·exact ZN
   ·cases h4 : tb (((gt x1 s0.c4) : Int) != (gt x3 s0.c4))
    ·exact fun _ => Zv [.o 13 (fun _ => Zes (enc := (encI .i64)) (l := x1) (fl := true) (n := x0) (s := 1)), .b (tbE h1), .o 19 (fun _ => Zn (enc := (encI .i64)) (l := x1) (fl := true) (n := x0) (s := 1) (k := .i64) (tbE h2)), .o 23 (fun _ => Zn (enc := (encI .i64)) (l := x3) (fl := true) (n := x2) (s := 1) (k := .i64) (tbE h3)), .b (tbE h4)] (by kernel_rfl)
    ·exact ZN
def Zhw (x1 x3 : List Int) (s0 : Zcz) : Bool := (bif tb (decide (s0.c4 < ((x1.length : Nat) : Int))) then (bif tb (inb x1.length s0.c4) then (bif tb (inb x3.length s0.c4) then true else false) else false) else false)
def Zjs (x1 : List Int) (s0 : Zcz) : Bool := (bif tb (decide (s0.c4 < ((x1.length : Nat) : Int))) then false else true)
theorem Zvr (x0 : Bool) (x1 : List Int) (x2 : Bool) (x3 : List Int) (x4 : Int) (s0 : Zcz) : Zf5 x1 x3 s0 = false → Zhw x1 x3 s0 = true → (roundG (runC E0 (cl E0) L17_0) [0, 1, 5] [4] 0) (Zj9 x0 x1 x2 x3 x4 s0) = some (.ret, ([(V.d (.bool false))], [])) := by
 unfold Zf5 Zhw
 cases h1 : tb (decide (s0.c4 < ((x1.length : Nat) : Int)))
 ·intro g0 g1
  exact absurd g1 ft
 ·cases h2 : tb (inb x1.length s0.c4)
  ·intro g0 g1
   exact absurd g1 ft
  ·cases h3 : tb (inb x3.length s0.c4)
   ·intro g0 g1
    exact absurd g1 ft
   ·cases h4 : tb (((gt x1 s0.c4) : Int) != (gt x3 s0.c4))
    ·intro g0 g1
     exact absurd g0 tf
    ·intro g0 g1
     exact Zv [.o 13 (fun _ => Zes (enc := (encI .i64)) (l := x1) (fl := true) (n := x0) (s := 1)), .b (tbE h1), .o 19 (fun _ => Zn (enc := (encI .i64)) (l := x1) (fl := true) (n := x0) (s := 1) (k := .i64) (tbE h2)), .o 23 (fun _ => Zn (enc := (encI .i64)) (l := x3) (fl := true) (n := x2) (s := 1) (k := .i64) (tbE h3)), .b (tbE h4)] (by kernel_rfl)
theorem Zvl (x0 : Bool) (x1 : List Int) (x2 : Bool) (x3 : List Int) (x4 : Int) (s0 : Zcz) : Zf5 x1 x3 s0 = false → Zhw x1 x3 s0 = false → Zjs x1 s0 = true → (roundG (runC E0 (cl E0) L17_0) [0, 1, 5] [4] 0) (Zj9 x0 x1 x2 x3 x4 s0) = some ((.exit 0), ([V.un], [])) := by
 unfold Zf5 Zhw Zjs
 cases h1 : tb (decide (s0.c4 < ((x1.length : Nat) : Int)))
 ·intro g0 g1 g2
  exact Zv [.o 13 (fun _ => Zes (enc := (encI .i64)) (l := x1) (fl := true) (n := x0) (s := 1)), .b (tbE h1)] (by kernel_rfl)
 ·cases h2 : tb (inb x1.length s0.c4)
  ·intro g0 g1 g2
   exact absurd g2 ft
  ·cases h3 : tb (inb x3.length s0.c4)
   ·intro g0 g1 g2
    exact absurd g2 ft
   ·cases h4 : tb (((gt x1 s0.c4) : Int) != (gt x3 s0.c4))
    ·intro g0 g1 g2
     exact absurd g0 tf
    ·intro g0 g1 g2
     exact absurd g1 tf
theorem Zug (x0 : Bool) (x1 : List Int) (x2 : Bool) (x3 : List Int) (x4 : Int) (s : Zcz) (hok : Zla x1 x3 s = true) (c0 : Zhw x1 x3 (Zgg x1 x3 s) = true) : loopG (roundG (runC E0 (cl E0) L17_0) [0, 1, 5] [4] 0) bound (Zj9 x0 x1 x2 x3 x4 s) = some (.ret, ([(V.d (.bool false))], [])) := by
 have e : itS (Zf5 x1 x3) (Zjr x1 x3) bound s = some (Zgg x1 x3 s) := Zis hok
 have f := Zgz e
 exact Zil (Zp7 x0 x1 x2 x3 x4) bound s _ _ _ e (fun h => by cases h) (Zvr x0 x1 x2 x3 x4 (Zgg x1 x3 s) f c0)
theorem Zuf (x0 : Bool) (x1 : List Int) (x2 : Bool) (x3 : List Int) (x4 : Int) (s : Zcz) (hok : Zla x1 x3 s = true) (c0 : Zhw x1 x3 (Zgg x1 x3 s) = false) (c1 : Zjs x1 (Zgg x1 x3 s) = true) : loopG (roundG (runC E0 (cl E0) L17_0) [0, 1, 5] [4] 0) bound (Zj9 x0 x1 x2 x3 x4 s) = some ((.exit 0), ([V.un], [])) := by
 have e : itS (Zf5 x1 x3) (Zjr x1 x3) bound s = some (Zgg x1 x3 s) := Zis hok
 have f := Zgz e
 exact Zil (Zp7 x0 x1 x2 x3 x4) bound s _ _ _ e (fun h => by cases h) (Zvl x0 x1 x2 x3 x4 (Zgg x1 x3 s) f c0 c1)
def Zbq (x1 x3 : List Int) : Bool := (bif tb ((((x1.length : Nat) : Int) : Int) != ((x3.length : Nat) : Int)) then true else (bif tb (Zla x1 x3 (⟨0⟩ : Zcz)) then (bif tb (Zhw x1 x3 (Zgg x1 x3 (⟨0⟩ : Zcz))) then true else (bif tb (Zjs x1 (Zgg x1 x3 (⟨0⟩ : Zcz))) then true else false)) else false))
def Zb4 (x1 x3 : List Int) : Bool := (bif tb ((((x1.length : Nat) : Int) : Int) != ((x3.length : Nat) : Int)) then false else (bif tb (Zhw x1 x3 (Zgg x1 x3 (⟨0⟩ : Zcz))) then false else true))
theorem Zgm (x0 : Bool) (x1 : List Int) (x2 : Bool) (x3 : List Int) : Zbq x1 x3 = true → cl E0 17 [(V.d (slD (encI .i64) true 1 x0 x1)), (V.d (slD (encI .i64) true 1 x2 x3))] [] = some ([(V.d (.bool (Zb4 x1 x3)))], []) := by
 unfold Zbq Zb4
 cases h1 : tb ((((x1.length : Nat) : Int) : Int) != ((x3.length : Nat) : Int))
 ·cases h2 : tb (Zla x1 x3 (⟨0⟩ : Zcz))
  ·exact ZN
  ·cases h3 : tb (Zhw x1 x3 (Zgg x1 x3 (⟨0⟩ : Zcz)))
   ·cases h4 : tb (Zjs x1 (Zgg x1 x3 (⟨0⟩ : Zcz)))
    ·exact ZN
    ·exact fun g0 => w17 [.o 7 (fun _ => Zes (enc := (encI .i64)) (l := x1) (fl := true) (n := x0) (s := 1)), .o 9 (fun _ => Zes (enc := (encI .i64)) (l := x3) (fl := true) (n := x2) (s := 1)), .b (tbE h1), .l (Zuf x0 x1 x2 x3 0 (⟨0⟩ : Zcz) (tbE h2) (tbE h3) (tbE h4))] (by kernel_rfl)
   ·exact fun g0 => w17 [.o 7 (fun _ => Zes (enc := (encI .i64)) (l := x1) (fl := true) (n := x0) (s := 1)), .o 9 (fun _ => Zes (enc := (encI .i64)) (l := x3) (fl := true) (n := x2) (s := 1)), .b (tbE h1), .l (Zug x0 x1 x2 x3 0 (⟨0⟩ : Zcz) (tbE h2) (tbE h3))] (by kernel_rfl)
 ·exact fun g0 => w17 [.o 7 (fun _ => Zes (enc := (encI .i64)) (l := x1) (fl := true) (n := x0) (s := 1)), .o 9 (fun _ => Zes (enc := (encI .i64)) (l := x3) (fl := true) (n := x2) (s := 1)), .b (tbE h1)] (by kernel_rfl)
structure Z1o where
 c3 : Bool
 c4 : Int
 c6 : List Int
 deriving Inhabited
def Zo0 (x1 : List Int) : Int := gt (Zby x1) (wi ((((Zby x1).length : Nat) : Int) - 1))
def Zit (x1 : List Int) : Bool := (bif tb (Zkd x1) then (bif tb (((((Zby x1).length : Nat) : Int) : Int) == 0) then true else (bif tb (inb ((Zby x1).length) (wi ((((Zby x1).length : Nat) : Int) - 1))) then (bif tb (inb ((Zby x1).length) 0) then true else false) else false)) else false)
def Zjb (x1 : List Int) : Int := (bif tb (((((Zby x1).length : Nat) : Int) : Int) == 0) then 0 else (wi ((Zo0 x1) - (gt (Zby x1) 0))))
theorem Zrb (x0 : Bool) (x1 : List Int) : Zit x1 = true → cl E0 23 [(V.d (slD (encI .i64) true 1 x0 x1))] [] = some ([(V.d (.int .i64 (Zjb x1)))], []) := by
 unfold Zit Zjb
 cases h1 : tb (Zkd x1)
 ·exact ZN
 ·cases h2 : tb (((((Zby x1).length : Nat) : Int) : Int) == 0)
  ·cases h3 : tb (inb ((Zby x1).length) (wi ((((Zby x1).length : Nat) : Int) - 1)))
   ·exact ZN
   ·cases h4 : tb (inb ((Zby x1).length) 0)
    ·exact ZN
    ·exact fun g0 => w23 [.c (Zs0 x0 x1 (tbE h1)), .b (tbE h2), .m 13 (Ziy (m := [(Blk.flat 3 1 (List.map (encI .i64) (Zby x1)) true)]) (b := (Zm6 x1)) (id := 0) (n := ((Zby x1).length)) (s := 1) (k := .i64) (by kernel_rfl) (tbE h3)), .m 14 (Ziv (m := [(Blk.flat 3 1 (List.map (encI .i64) (Zby x1)) true)]) (enc := (encI .i64)) (l := (Zby x1)) (id := 0) (e := 3) (s := 1) (off := 0) (size := 1) (p := true) (agg := false) (i := (wi ((((Zby x1).length : Nat) : Int) - 1))) (v := (V.d (.int .i64 (Zo0 x1)))) (n := ((Zby x1).length)) (Nat.beq_refl _) (by kernel_rfl) (tbE h3) (by kernel_rfl)), .m 16 (Ziy (m := [(Blk.flat 3 1 (List.map (encI .i64) (Zby x1)) true)]) (b := (Zm6 x1)) (id := 0) (n := ((Zby x1).length)) (s := 1) (k := .i64) (by kernel_rfl) (tbE h4)), .m 17 (Ziv (m := [(Blk.flat 3 1 (List.map (encI .i64) (Zby x1)) true)]) (enc := (encI .i64)) (l := (Zby x1)) (id := 0) (e := 3) (s := 1) (off := 0) (size := 1) (p := true) (agg := false) (i := 0) (v := (V.d (.int .i64 (gt (Zby x1) 0)))) (n := ((Zby x1).length)) (Nat.beq_refl _) (by kernel_rfl) (tbE h4) (by kernel_rfl))] (by kernel_rfl)
  ·exact fun g0 => w23 [.c (Zs0 x0 x1 (tbE h1)), .b (tbE h2)] (by kernel_rfl)
structure Zgr where mk ::
 deriving Inhabited
def Zmg (x0 : Bool) (x1 : List Int) (x2 : Int) (s0 : Zgr) : List V × Mem := ([(V.d (slD (encI .i64) true 1 x0 x1)), (V.d (.rs false 1 [] false)), (V.d (.int .i64 x2))], [])
def Zjk  (s0 : Zgr) : Bool := false
def Zk9  (s0 : Zgr) : Zgr := default
def Znm  (s0 : Zgr) : Bool := (itS (Zjk ) (Zk9 ) bound s0).isSome
def Zp1  (s0 : Zgr) : Zgr := (itS (Zjk ) (Zk9 ) bound s0).getD default
theorem Zvm (x0 : Bool) (x1 : List Int) (x2 : Int) (s0 : Zgr) : Zjk  s0 = true → (roundG (runC E0 (cl E0) L17_0) [0, 1, 5] [4] 0) (Zmg x0 x1 x2 s0) = some (.normal, Zmg x0 x1 x2 (Zk9  s0)) := by
 unfold Zjk Zk9
 cases h1 : tb (decide (x2 < ((x1.length : Nat) : Int)))
 ·exact ZN
 ·cases h2 : tb (inb x1.length x2)
  ·exact ZN
  ·exact ZN
def Zk8 (x1 : List Int) (x2 : Int) : Bool := (bif tb (decide (x2 < ((x1.length : Nat) : Int))) then false else true)
theorem Zvp (x0 : Bool) (x1 : List Int) (x2 : Int) (s0 : Zgr) : Zjk  s0 = false → Zk8 x1 x2 = true → (roundG (runC E0 (cl E0) L17_0) [0, 1, 5] [4] 0) (Zmg x0 x1 x2 s0) = some ((.exit 0), ([V.un], [])) := by
 unfold Zjk Zk8
 cases h1 : tb (decide (x2 < ((x1.length : Nat) : Int)))
 ·intro g0 g1
  exact Zv [.o 13 (fun _ => Zes (enc := (encI .i64)) (l := x1) (fl := true) (n := x0) (s := 1)), .b (tbE h1)] (by kernel_rfl)
 ·cases h2 : tb (inb x1.length x2)
  ·intro g0 g1
   exact absurd g1 ft
  ·intro g0 g1
   exact absurd g1 ft
theorem Zt8 (x0 : Bool) (x1 : List Int) (x2 : Int) (s : Zgr) (hok : Znm  s = true) (c0 : Zk8 x1 x2 = true) : loopG (roundG (runC E0 (cl E0) L17_0) [0, 1, 5] [4] 0) bound (Zmg x0 x1 x2 s) = some ((.exit 0), ([V.un], [])) := by
 have e : itS (Zjk ) (Zk9 ) bound s = some (Zp1  s) := Zis hok
 have f := Zgz e
 exact Zil (Zvm x0 x1 x2) bound s _ _ _ e (fun h => by cases h) (Zvp x0 x1 x2 (Zp1  s) f c0)
def Zea (x1 : List Int) : Bool := (bif tb ((((x1.length : Nat) : Int) : Int) != 0) then true else (bif tb (Znm  (⟨⟩ : Zgr)) then (bif tb (Zk8 x1 0) then true else false) else false))
def Zho (x1 : List Int) : Bool := (bif tb ((((x1.length : Nat) : Int) : Int) != 0) then false else true)
theorem Zi7 (x0 : Bool) (x1 : List Int) : Zea x1 = true → cl E0 17 [(V.d (slD (encI .i64) true 1 x0 x1)), (V.d (.rs false 1 [] false))] [] = some ([(V.d (.bool (Zho x1)))], []) := by
 unfold Zea Zho
 cases h1 : tb ((((x1.length : Nat) : Int) : Int) != 0)
 ·cases h2 : tb (Znm  (⟨⟩ : Zgr))
  ·exact ZN
  ·cases h3 : tb (Zk8 x1 0)
   ·exact ZN
   ·exact fun g0 => w17 [.o 7 (fun _ => Zes (enc := (encI .i64)) (l := x1) (fl := true) (n := x0) (s := 1)), .b (tbE h1), .l (Zt8 x0 x1 0 (⟨⟩ : Zgr) (tbE h2) (tbE h3))] (by kernel_rfl)
 ·exact fun g0 => w17 [.o 7 (fun _ => Zes (enc := (encI .i64)) (l := x1) (fl := true) (n := x0) (s := 1)), .b (tbE h1)] (by kernel_rfl)
def Zng  : Bool := (bif tb (Zoy) then true else false)
theorem Zxq  : Zng = true → cl E0 24 [(V.d (.rs false 1 [] false))] [] = some ([(V.d (.bool true))], []) := by
 unfold Zng
 cases h1 : tb (Zoy)
 ·exact ZN
 ·exact fun g0 => w24 [.c (Zys (tbE h1)), .k true] (by kernel_rfl)
theorem Zwe (x0 : Bool) : segG (runC E0 (cl E0) S19_0) [0, 3] [2] [0] 1 ([(V.d (.rs false 1 [] false)), (V.d (.bool true))], [(Blk.flat 3 1 [] x0)]) = some (.normal, ([(V.d (.rs false 1 [] false))], [(Blk.flat 3 1 [] x0)])) := by
 exact Z2 [.k false] (by kernel_rfl)
def Zlx (x4 : Int) : Bool := (bif tb (decide (x4 < 0)) then true else false)
theorem Zwf (x0 : List Int) (x1 x2 x3 : Bool) (x4 : Int) : Zlx x4 = false → segG (runC E0 (cl E0) S19_1) [0, 4, 5] [4] [0, 4, 5] 2 ([(V.d (.rs false 1 [] false)), (V.so x3 1 x0.length), (V.d (.int .i64 x4))], [(Blk.flat 3 1 [] x1), (Blk.flat 3 1 (List.map (encI .i64) x0) x2)]) = some ((.exit 0), ([(V.so x3 1 x0.length)], [(Blk.flat 3 1 [] x1), (Blk.flat 3 1 (List.map (encI .i64) x0) x2)])) := by
 unfold Zlx
 cases h1 : tb (decide (x4 < 0))
 ·exact fun g0 => Z2 [.b (tbE h1)] (by kernel_rfl)
 ·exact fun g0 => absurd g0 tf
structure Zh2 where
 c2 : Bool
 c4 : Int
 c8 : List Int
 deriving Inhabited
def Zp4 (x0 : List Int) (x8 : Bool) (s0 : Zh2) : Bool := (bif tb (decide (s0.c4 < ((x0.length : Nat) : Int))) then (bif tb (x8) then (bif tb (inb x0.length s0.c4) then (bif tb (decide ((s0.c8.length + [(gt x0 s0.c4)].length) * 8 ≤ 140737488355328)) then true else false) else false) else false) else false)
def Zqt (x0 : List Int) (x8 : Bool) (s0 : Zh2) : Zh2 := ⟨false, (wi (s0.c4 + 1)), (s0.c8 ++ [(gt x0 s0.c4)])⟩
def Zq3 (x0 : List Int) (x8 : Bool) (s0 : Zh2) : Bool := (itS (Zp4 x0 x8) (Zqt x0 x8) bound s0).isSome
def Zvj (x0 : List Int) (x8 : Bool) (s0 : Zh2) : Zh2 := (itS (Zp4 x0 x8) (Zqt x0 x8) bound s0).getD default
def Zq1 (x0 : List Int) (s0 : Zh2) : Bool := (bif tb (decide (s0.c4 < ((x0.length : Nat) : Int))) then false else true)
structure Zg0 where mk ::
 deriving Inhabited
def Zmm (x0 : List Int) (x1 x2 x3 : Bool) (x4 : Int) (s0 : Zg0) : List V × Mem := ([(V.d (.rs false 1 [] false)), (V.so x3 1 x0.length), (V.d (.int .i64 x4))], [(Blk.flat 3 1 [] x1), (Blk.flat 3 1 (List.map (encI .i64) x0) x2)])
def Zph (x0 : List Int) : Zh2 := Zvj x0 false (⟨true, 0, ([] : List Int)⟩ : Zh2)
def Zju  (s0 : Zg0) : Bool := false
def Zlj  (s0 : Zg0) : Zg0 := default
def Zn7  (s0 : Zg0) : Bool := (itS (Zju ) (Zlj ) bound s0).isSome
def Zp5  (s0 : Zg0) : Zg0 := (itS (Zju ) (Zlj ) bound s0).getD default
theorem Zv0 (x0 : List Int) (x1 x2 x3 : Bool) (x4 : Int) (s0 : Zg0) : Zju  s0 = true → (roundG (runC E0 (cl E0) L19_3) [0, 4, 5] [4] 2) (Zmm x0 x1 x2 x3 x4 s0) = some (.normal, Zmm x0 x1 x2 x3 x4 (Zlj  s0)) := by
 unfold Zju Zlj
 cases h1 : tb (Zlx x4)
 ·exact ZN
 ·cases h2 : tb (Zq3 x0 false (⟨true, 0, ([] : List Int)⟩ : Zh2))
  ·exact ZN
  ·cases h3 : tb (Zq1 x0 (Zph x0))
   ·exact ZN
   ·exact ZN
def Zls (x4 : Int) : Bool := (bif tb (Zlx x4) then false else true)
theorem Zvy (x0 : List Int) (x1 x2 x3 : Bool) (x4 : Int) (s0 : Zg0) : Zju  s0 = false → Zls x4 = true → (roundG (runC E0 (cl E0) L19_3) [0, 4, 5] [4] 2) (Zmm x0 x1 x2 x3 x4 s0) = some ((.exit 0), ([(V.so x3 1 x0.length)], [(Blk.flat 3 1 [] x1), (Blk.flat 3 1 (List.map (encI .i64) x0) x2)])) := by
 unfold Zju Zls
 cases h1 : tb (Zlx x4)
 ·intro g0 g1
  exact Zv [.s (Zwf x0 x1 x2 x3 x4 (tbE h1))] (by kernel_rfl)
 ·cases h2 : tb (Zq3 x0 false (⟨true, 0, ([] : List Int)⟩ : Zh2))
  ·intro g0 g1
   exact absurd g1 ft
  ·cases h3 : tb (Zq1 x0 (Zph x0))
   ·intro g0 g1
    exact absurd g1 ft
   ·intro g0 g1
    exact absurd g1 ft
theorem Zve (x0 : List Int) (x1 x2 x3 : Bool) (x4 : Int) (s : Zg0) (hok : Zn7  s = true) (c0 : Zls x4 = true) : loopG (roundG (runC E0 (cl E0) L19_3) [0, 4, 5] [4] 2) bound (Zmm x0 x1 x2 x3 x4 s) = some ((.exit 0), ([(V.so x3 1 x0.length)], [(Blk.flat 3 1 [] x1), (Blk.flat 3 1 (List.map (encI .i64) x0) x2)])) := by
 have e : itS (Zju ) (Zlj ) bound s = some (Zp5  s) := Zis hok
 have f := Zgz e
 exact Zil (Zv0 x0 x1 x2 x3 x4) bound s _ _ _ e (fun h => by cases h) (Zvy x0 x1 x2 x3 x4 (Zp5  s) f c0)
def Znz  : Bool := (bif tb (Zng) then (bif tb (Zn7  (⟨⟩ : Zg0)) then (bif tb (Zls 0) then true else false) else false) else false)
theorem Ztc  : Znz = true → cl E0 19 [(V.d (.rs false 1 [] false))] [] = some ([(V.so true 0 (([] : List Int).length))], [(Blk.flat 3 1 (List.map (encI .i64) ([] : List Int)) false)]) := by
 unfold Znz
 cases h1 : tb (Zng)
 ·exact ZN
 ·cases h2 : tb (Zn7  (⟨⟩ : Zg0))
  ·exact ZN
  ·cases h3 : tb (Zls 0)
   ·exact ZN
   ·exact fun g0 => w19 [.c (Zxq (tbE h1)), .s (Zwe false), .l (Zve ([] : List Int) false false true 0 (⟨⟩ : Zg0) (tbE h2) (tbE h3))] (by kernel_rfl)
def Zrc  : Int := gt ([] : List Int) (wi (((([] : List Int).length : Nat) : Int) - 1))
def Zm7  : Bool := (bif tb (Znz) then (bif tb ((((([] : List Int).length : Nat) : Int) : Int) == 0) then true else (bif tb (inb (([] : List Int).length) (wi (((([] : List Int).length : Nat) : Int) - 1))) then (bif tb (inb (([] : List Int).length) 0) then true else false) else false)) else false)
def Znn  : Int := (bif tb ((((([] : List Int).length : Nat) : Int) : Int) == 0) then 0 else (wi (Zrc - (gt ([] : List Int) 0))))
theorem Zw0  : Zm7 = true → cl E0 23 [(V.d (.rs false 1 [] false))] [] = some ([(V.d (.int .i64 Znn))], []) := by
 unfold Zm7 Znn
 cases h1 : tb (Znz)
 ·exact ZN
 ·cases h2 : tb ((((([] : List Int).length : Nat) : Int) : Int) == 0)
  ·cases h3 : tb (inb (([] : List Int).length) (wi (((([] : List Int).length : Nat) : Int) - 1)))
   ·exact ZN
   ·cases h4 : tb (inb (([] : List Int).length) 0)
    ·exact ZN
    ·exact fun g0 => w23 [.c (Ztc (tbE h1)), .b (tbE h2), .m 13 (Ziy (m := [(Blk.flat 3 1 (List.map (encI .i64) ([] : List Int)) true)]) (b := true) (id := 0) (n := (([] : List Int).length)) (s := 1) (k := .i64) (by kernel_rfl) (tbE h3)), .m 14 (Ziv (m := [(Blk.flat 3 1 (List.map (encI .i64) ([] : List Int)) true)]) (enc := (encI .i64)) (l := ([] : List Int)) (id := 0) (e := 3) (s := 1) (off := 0) (size := 1) (p := true) (agg := false) (i := (wi (((([] : List Int).length : Nat) : Int) - 1))) (v := (V.d (.int .i64 Zrc))) (n := (([] : List Int).length)) (Nat.beq_refl _) (by kernel_rfl) (tbE h3) (by kernel_rfl)), .m 16 (Ziy (m := [(Blk.flat 3 1 (List.map (encI .i64) ([] : List Int)) true)]) (b := true) (id := 0) (n := (([] : List Int).length)) (s := 1) (k := .i64) (by kernel_rfl) (tbE h4)), .m 17 (Ziv (m := [(Blk.flat 3 1 (List.map (encI .i64) ([] : List Int)) true)]) (enc := (encI .i64)) (l := ([] : List Int)) (id := 0) (e := 3) (s := 1) (off := 0) (size := 1) (p := true) (agg := false) (i := 0) (v := (V.d (.int .i64 (gt ([] : List Int) 0)))) (n := (([] : List Int).length)) (Nat.beq_refl _) (by kernel_rfl) (tbE h4) (by kernel_rfl))] (by kernel_rfl)
  ·exact fun g0 => w23 [.c (Ztc (tbE h1)), .b (tbE h2)] (by kernel_rfl)
end Go.Proofs.Ytdlhhoejnhjbhaa.Den

namespace Go.Proofs.Ytdlhhoejnhjbhaa.Den
open Go Go.Proofs
set_option maxRecDepth 100000
set_option maxHeartbeats 4000000
set_option linter.unusedVariables false
set_option linter.unusedSimpArgs false
def Zbu (x0 : Int) : Bool := (bif tb (decide ((-2147483648) ≤ x0)) then (decide (x0 ≤ 2147483647)) else false)
theorem Zf2 (x0 : Int) : cl E0 74 [(V.d (.int .i64 x0))] [] = some ([(V.d (.bool (Zbu x0)))], []) := by
 unfold Zbu
 cases h1 : tb (decide ((-2147483648) ≤ x0))
 ·exact w74 [.b (tbE h1)] (by kernel_rfl)
 ·exact w74 [.b (tbE h1)] (by kernel_rfl)
end Go.Proofs.Ytdlhhoejnhjbhaa.Den

namespace Go.Proofs.Ytdlhhoejnhjbhaa.Den
open Go Go.Proofs
set_option maxRecDepth 100000
set_option maxHeartbeats 4000000
set_option linter.unusedVariables false
set_option linter.unusedSimpArgs false
def Zhj (x0 x1 : Int) : Bool := (bif tb (decide (2 ≤ x0)) then (bif tb (decide (x0 ≤ 16)) then (bif tb (decide (0 ≤ x1)) then (decide (x1 ≤ 2147483647)) else false) else false) else false)
theorem Zh7 (x0 x1 : Int) : cl E0 45 [(V.d (.int .i64 x0)), (V.d (.int .i64 x1))] [] = some ([(V.d (.bool (Zhj x0 x1)))], []) := by
 unfold Zhj
 cases h1 : tb (decide (2 ≤ x0))
 ·exact w45 [.b (tbE h1)] (by kernel_rfl)
 ·cases h2 : tb (decide (x0 ≤ 16))
  ·exact w45 [.b (tbE h1), .b (tbE h2)] (by kernel_rfl)
  ·cases h3 : tb (decide (0 ≤ x1))
   ·exact w45 [.b (tbE h1), .b (tbE h2), .b (tbE h3)] (by kernel_rfl)
   ·exact w45 [.b (tbE h1), .b (tbE h2), .b (tbE h3)] (by kernel_rfl)
theorem Ziu (x0 x1 : Int) : cl E0 47 [(V.d (.int .i64 x0)), (V.d (.int .i64 x1))] [] = some ([(V.ptr 0 1 0 0)], [(Blk.gen 86 3 [[(V.d (.int .i64 x0)), (V.d (.int .i64 x1)), (V.d .nils)]] false)]) := by
 exact w47 [] (by kernel_rfl)
def Zbl (x3 : Int) : Bool := (bif tb (Zbu x3) then true else false)
theorem Zi0 (x0 x1 x3 : Int) : Zbl x3 = true → cl E0 49 [(V.ptr 0 1 0 0), (V.d (.int .i64 x3))] [(Blk.gen 86 3 [[(V.d (.int .i64 x0)), (V.d (.int .i64 x1)), (V.d .nils)]] false)] = some ([(V.d (.int .i64 0))], [(Blk.gen 86 3 [[(V.d (.int .i64 x0)), (V.d (.int .i64 x1)), (V.so false 1 1)]] false), (Blk.flat 3 1 [[(.int .i64 x3)]] false)]) := by
 unfold Zbl
 cases h1 : tb (Zbu x3)
 ·exact ZN
 ·exact fun g0 => w49 [.c (Zf2 x3), .b (notT (tbE h1))] (by kernel_rfl)
theorem Zi2 (x0 x1 x3 : Int) : Zbl x3 = false → cl E0 49 [(V.ptr 0 1 0 0), (V.d (.int .i64 x3))] [(Blk.gen 86 3 [[(V.d (.int .i64 x0)), (V.d (.int .i64 x1)), (V.d .nils)]] false)] = some ([(V.d (.int .i64 1))], [(Blk.gen 86 3 [[(V.d (.int .i64 x0)), (V.d (.int .i64 x1)), (V.d .nils)]] false)]) := by
 unfold Zbl
 cases h1 : tb (Zbu x3)
 ·exact fun g0 => w49 [.c (Zf2 x3), .b (notF (tbE h1))] (by kernel_rfl)
 ·exact fun g0 => absurd g0 tf
def Zr (x0 : List Int) (x1 : Int) : Bool := (bif tb (ins x0.length (mxI 0 (wi (((x0.length : Nat) : Int) - (wi (x1 - 1))))) ((x0.length : Nat) : Int)) then (bif tb (decide ((mxI 0 (wi (((x0.length : Nat) : Int) - (wi (x1 - 1))))) < ((x0.length : Nat) : Int))) then true else false) else false)
def Zbj (x0 : List Int) (x1 : Int) (x3 : Bool) : Bool := (bif tb (ins x0.length (mxI 0 (wi (((x0.length : Nat) : Int) - (wi (x1 - 1))))) ((x0.length : Nat) : Int)) then (bif tb (decide ((mxI 0 (wi (((x0.length : Nat) : Int) - (wi (x1 - 1))))) < ((x0.length : Nat) : Int))) then false else (bif tb (x3) then false else true)) else false)
theorem Zeh (x0 : List Int) (x1 x2 : Int) (x3 x4 x5 : Bool) : Zr x0 x1 = true → cl E0 54 [(V.ptr 0 1 0 0)] [(Blk.gen 86 3 [[(V.d (.int .i64 x1)), (V.d (.int .i64 x2)), (V.so x3 1 x0.length)]] x4), (Blk.flat 3 1 (List.map (encI .i64) x0) x5)] = some ([(V.sl 1 x0.length ((mxI 0 (wi (((x0.length : Nat) : Int) - (wi (x1 - 1))))) : Int).toNat ((((x0.length : Nat) : Int) : Int).toNat - ((mxI 0 (wi (((x0.length : Nat) : Int) - (wi (x1 - 1))))) : Int).toNat))], [(Blk.gen 86 3 [[(V.d (.int .i64 x1)), (V.d (.int .i64 x2)), (V.so x3 1 x0.length)]] x4), (Blk.flat 3 1 (List.map (encI .i64) x0) x5)]) := by
 unfold Zr
 cases h1 : tb (ins x0.length (mxI 0 (wi (((x0.length : Nat) : Int) - (wi (x1 - 1))))) ((x0.length : Nat) : Int))
 ·exact ZN
 ·cases h2 : tb (decide ((mxI 0 (wi (((x0.length : Nat) : Int) - (wi (x1 - 1))))) < ((x0.length : Nat) : Int)))
  ·cases h3 : tb (x3)
   ·exact ZN
   ·exact ZN
  ·exact fun g0 => w54 [.m 21 (Z1f (nl := x3) (m := [(Blk.gen 86 3 [[(V.d (.int .i64 x1)), (V.d (.int .i64 x2)), (V.so x3 1 x0.length)]] x4), (Blk.flat 3 1 (List.map (encI .i64) x0) x5), (Blk.flat 3 1 [] false)]) (enc := (encI .i64)) (l := x0) (id := 1) (e := 3) (s := 1) (n := x0.length) (p := x5) (some (.i64, (mxI 0 (wi (((x0.length : Nat) : Int) - (wi (x1 - 1))))))) none (by kernel_rfl) (tbE h1) (tbE h2))] (by kernel_rfl)
theorem Zef (x0 : List Int) (x1 x2 : Int) (x3 x4 x5 : Bool) : Zr x0 x1 = false → Zbj x0 x1 x3 = true → cl E0 54 [(V.ptr 0 1 0 0)] [(Blk.gen 86 3 [[(V.d (.int .i64 x1)), (V.d (.int .i64 x2)), (V.so x3 1 x0.length)]] x4), (Blk.flat 3 1 (List.map (encI .i64) x0) x5)] = some ([(V.d (.rs false 1 [] false))], [(Blk.gen 86 3 [[(V.d (.int .i64 x1)), (V.d (.int .i64 x2)), (V.so x3 1 x0.length)]] x4), (Blk.flat 3 1 (List.map (encI .i64) x0) x5)]) := by
 unfold Zr Zbj
 cases h1 : tb (ins x0.length (mxI 0 (wi (((x0.length : Nat) : Int) - (wi (x1 - 1))))) ((x0.length : Nat) : Int))
 ·intro g0 g1
  exact absurd g1 ft
 ·cases h2 : tb (decide ((mxI 0 (wi (((x0.length : Nat) : Int) - (wi (x1 - 1))))) < ((x0.length : Nat) : Int)))
  ·cases h3 : tb (x3)
   ·intro g0 g1
    exact w54 [.m 21 (Z1k (m := [(Blk.gen 86 3 [[(V.d (.int .i64 x1)), (V.d (.int .i64 x2)), (V.so x3 1 x0.length)]] x4), (Blk.flat 3 1 (List.map (encI .i64) x0) x5), (Blk.flat 3 1 [] false)]) (enc := (encI .i64)) (l := x0) (id := 1) (e := 3) (s := 1) (n := x0.length) (p := x5) (some (.i64, (mxI 0 (wi (((x0.length : Nat) : Int) - (wi (x1 - 1))))))) none (deSo_f (tbE h3)) (Nat.beq_refl _) (by kernel_rfl) (tbE h1) (tbE h2))] (by kernel_rfl)
   ·intro g0 g1
    exact absurd g1 ft
  ·intro g0 g1
   exact absurd g0 tf
def Zji (x0 : List Int) (x1 : Int) : List Int := (sub x0 (mxI 0 (wi (((x0.length : Nat) : Int) - (wi (x1 - 1))))) ((x0.length : Nat) : Int))
def Z1 (x0 : List Int) (x1 : Int) (x3 : Bool) : Bool := (bif tb (Zr x0 x1) then (bif tb (((((((x0.length : Nat) : Int) : Int).toNat - ((mxI 0 (wi (((x0.length : Nat) : Int) - (wi (x1 - 1))))) : Int).toNat : Nat) : Int) : Int) == (wi (x1 - 1))) then (bif tb (ins x0.length (mxI 0 (wi (((x0.length : Nat) : Int) - (wi (x1 - 1))))) ((x0.length : Nat) : Int)) then (bif tb (Zit (Zji x0 x1)) then true else false) else false) else true) else (bif tb (Zbj x0 x1 x3) then (bif tb ((0 : Int) == (wi (x1 - 1))) then (bif tb (Zm7) then true else false) else true) else false))
def Zba (x0 : List Int) (x1 x2 : Int) : Bool := (bif tb (Zr x0 x1) then (bif tb (((((((x0.length : Nat) : Int) : Int).toNat - ((mxI 0 (wi (((x0.length : Nat) : Int) - (wi (x1 - 1))))) : Int).toNat : Nat) : Int) : Int) == (wi (x1 - 1))) then (decide (x2 < (Zjb (Zji x0 x1)))) else false) else (bif tb ((0 : Int) == (wi (x1 - 1))) then (decide (x2 < Znn)) else false))
theorem Zbc (x0 : List Int) (x1 x2 : Int) (x3 x4 x5 : Bool) : Z1 x0 x1 x3 = true → cl E0 56 [(V.ptr 0 1 0 0)] [(Blk.gen 86 3 [[(V.d (.int .i64 x1)), (V.d (.int .i64 x2)), (V.so x3 1 x0.length)]] x4), (Blk.flat 3 1 (List.map (encI .i64) x0) x5)] = some ([(V.d (.bool (Zba x0 x1 x2)))], [(Blk.gen 86 3 [[(V.d (.int .i64 x1)), (V.d (.int .i64 x2)), (V.so x3 1 x0.length)]] x4), (Blk.flat 3 1 (List.map (encI .i64) x0) x5)]) := by
 unfold Z1 Zba
 cases h1 : tb (Zr x0 x1)
 ·cases h2 : tb (Zbj x0 x1 x3)
  ·exact ZN
  ·cases h3 : tb ((0 : Int) == (wi (x1 - 1)))
   ·exact fun g0 => w56 [.c (Zef x0 x1 x2 x3 x4 x5 (tbE h1) (tbE h2)), .b (tbE h3)] (by kernel_rfl)
   ·cases h4 : tb (Zm7)
    ·exact ZN
    ·exact fun g0 => w56 [.c (Zef x0 x1 x2 x3 x4 x5 (tbE h1) (tbE h2)), .b (tbE h3), .c (Zw0 (tbE h4))] (by kernel_rfl)
 ·cases h2 : tb (((((((x0.length : Nat) : Int) : Int).toNat - ((mxI 0 (wi (((x0.length : Nat) : Int) - (wi (x1 - 1))))) : Int).toNat : Nat) : Int) : Int) == (wi (x1 - 1)))
  ·exact fun g0 => w56 [.c (Zeh x0 x1 x2 x3 x4 x5 (tbE h1)), .b (tbE h2)] (by kernel_rfl)
  ·cases h3 : tb (ins x0.length (mxI 0 (wi (((x0.length : Nat) : Int) - (wi (x1 - 1))))) ((x0.length : Nat) : Int))
   ·exact ZN
   ·cases h4 : tb (Zit (Zji x0 x1))
    ·exact ZN
    ·exact fun g0 => w56 [.c (Zeh x0 x1 x2 x3 x4 x5 (tbE h1)), .b (tbE h2), .y (mm := [(Blk.gen 86 3 [[(V.d (.int .i64 x1)), (V.d (.int .i64 x2)), (V.so x3 1 x0.length)]] true), (Blk.flat 3 1 (List.map (encI .i64) x0) true)]) (args := [(V.sl 1 x0.length ((mxI 0 (wi (((x0.length : Nat) : Int) - (wi (x1 - 1))))) : Int).toNat ((((x0.length : Nat) : Int) : Int).toNat - ((mxI 0 (wi (((x0.length : Nat) : Int) - (wi (x1 - 1))))) : Int).toNat))]) (args1 := [(V.d (.rs true 1 (List.map (encI .i64) (sub x0 (mxI 0 (wi (((x0.length : Nat) : Int) - (wi (x1 - 1))))) ((x0.length : Nat) : Int))) false))]) (Zc8 (Zml (enc := (encI .i64)) (l := x0) (e := 3) (s := 1) (p := true) (n := x0.length) (lo := (mxI 0 (wi (((x0.length : Nat) : Int) - (wi (x1 - 1)))))) (hi := ((x0.length : Nat) : Int)) (Nat.beq_refl _) (by kernel_rfl) (tbE h3)) (by kernel_rfl)), .c (Zrb false (Zji x0 x1) (tbE h4))] (by kernel_rfl)
def Zb7 (x0 : Int) : Bool := (bif tb (((mxI 0 (wi (0 - (wi (x0 - 1))))) : Int) == 0) then true else false)
theorem Zhn (x0 x1 : Int) (x2 : Bool) : Zb7 x0 = true → cl E0 54 [(V.ptr 0 1 0 0)] [(Blk.gen 86 3 [[(V.d (.int .i64 x0)), (V.d (.int .i64 x1)), (V.d .nils)]] x2)] = some ([(V.d .nils)], [(Blk.gen 86 3 [[(V.d (.int .i64 x0)), (V.d (.int .i64 x1)), (V.d .nils)]] x2)]) := by
 unfold Zb7
 cases h1 : tb (((mxI 0 (wi (0 - (wi (x0 - 1))))) : Int) == 0)
 ·exact ZN
 ·exact fun g0 => w54 [.o 21 (fun _ => Z1n (s := 1) (some (.i64, (mxI 0 (wi (0 - (wi (x0 - 1))))))) none (tbE h1) (by kernel_rfl))] (by kernel_rfl)
def Zbh (x0 : Int) : Bool := (bif tb (Zb7 x0) then (bif tb ((0 : Int) == (wi (x0 - 1))) then (bif tb (Zit []) then true else false) else true) else false)
def Zb3 (x0 x1 : Int) : Bool := (bif tb ((0 : Int) == (wi (x0 - 1))) then (decide (x1 < (Zjb []))) else false)
theorem Zca (x0 x1 : Int) (x2 : Bool) : Zbh x0 = true → cl E0 56 [(V.ptr 0 1 0 0)] [(Blk.gen 86 3 [[(V.d (.int .i64 x0)), (V.d (.int .i64 x1)), (V.d .nils)]] x2)] = some ([(V.d (.bool (Zb3 x0 x1)))], [(Blk.gen 86 3 [[(V.d (.int .i64 x0)), (V.d (.int .i64 x1)), (V.d .nils)]] x2)]) := by
 unfold Zbh Zb3
 cases h1 : tb (Zb7 x0)
 ·exact ZN
 ·cases h2 : tb ((0 : Int) == (wi (x0 - 1)))
  ·exact fun g0 => w56 [.c (Zhn x0 x1 x2 (tbE h1)), .b (tbE h2)] (by kernel_rfl)
  ·cases h3 : tb (Zit [])
   ·exact ZN
   ·exact fun g0 => w56 [.c (Zhn x0 x1 x2 (tbE h1)), .b (tbE h2), .c (Zrb true [] (tbE h3))] (by kernel_rfl)
def Zgf (x8 : Bool) : Bool := (bif tb (x8) then true else false)
theorem Ziz (x0 : List Int) (x1 x2 : Int) (x3 x4 x5 x6 : Bool) (x7 : Int) (x8 : Bool) : Zgf x8 = true → segG (runC E0 (cl E0) S52_0) [0, 1, 2, 9] [6, 7, 8] [0, 1, 2] 3 ([(V.ptr 0 1 0 0), (V.so x6 1 x0.length), (V.d (.int .i64 x7)), (V.d (.bool x8))], [(Blk.gen 86 3 [[(V.d (.int .i64 x1)), (V.d (.int .i64 x2)), (V.d .nils)]] x3), (Blk.flat 3 1 (List.map (encI .i64) x0) x4), (Blk.flat 3 1 [] x5)]) = some (.normal, ([(V.ptr 0 1 0 0), (V.so x6 1 x0.length), (V.d (.int .i64 x7))], [(Blk.gen 86 3 [[(V.d (.int .i64 x1)), (V.d (.int .i64 x2)), (V.d .nils)]] x3), (Blk.flat 3 1 (List.map (encI .i64) x0) x4), (Blk.flat 3 1 [] x5)])) := by
 unfold Zgf
 cases h1 : tb (x8)
 ·exact ZN
 ·exact fun g0 => Z2 [.b (notT (tbE h1))] (by kernel_rfl)
theorem Zq8 (x0 : List Int) (x1 x2 : Int) (x3 x4 x5 x6 : Bool) (x7 : Int) (x8 : Bool) : Zgf x8 = false → segG (runC E0 (cl E0) S52_0) [0, 1, 2, 9] [6, 7, 8] [0, 1, 2] 3 ([(V.ptr 0 1 0 0), (V.so x6 1 x0.length), (V.d (.int .i64 x7)), (V.d (.bool x8))], [(Blk.gen 86 3 [[(V.d (.int .i64 x1)), (V.d (.int .i64 x2)), (V.d .nils)]] x3), (Blk.flat 3 1 (List.map (encI .i64) x0) x4), (Blk.flat 3 1 [] x5)]) = some (.ret, ([(V.so x6 1 x0.length), (V.d (.bool false)), (V.d (.int .i64 1))], [(Blk.gen 86 3 [[(V.d (.int .i64 x1)), (V.d (.int .i64 x2)), (V.d .nils)]] x3), (Blk.flat 3 1 (List.map (encI .i64) x0) x4), (Blk.flat 3 1 [] x5)])) := by
 unfold Zgf
 cases h1 : tb (x8)
 ·exact fun g0 => Z2 [.b (notF (tbE h1))] (by kernel_rfl)
 ·exact fun g0 => absurd g0 tf
def Zbr (x0 : List Int) (x1 x6 : Int) : Bool := (bif tb (Zgf (Zbu x6)) then (bif tb (decide (0 < ((x0.length : Nat) : Int))) then (bif tb (inb x0.length 0) then (bif tb (((gt x0 0) : Int) == x6) then (bif tb (decide ((([] : List Int).length + x0.length) * 8 ≤ 140737488355328)) then (bif tb (decide ((x0.length + [x6].length) * 8 ≤ 140737488355328)) then (bif tb (Zbh x1) then true else false) else false) else false) else (bif tb (Zbh x1) then true else false)) else false) else (bif tb (Zbh x1) then true else false)) else false)
def Zb6 (x0 : List Int) (x1 x2 x6 : Int) : Bool := (bif tb (decide (0 < ((x0.length : Nat) : Int))) then (bif tb (((gt x0 0) : Int) == x6) then (bif tb (decide (x1 ≤ (((x0 ++ [x6]).length : Nat) : Int))) then (Zb3 x1 x2) else false) else (bif tb (decide (x1 ≤ 1)) then (Zb3 x1 x2) else false)) else (bif tb (decide (x1 ≤ 1)) then (Zb3 x1 x2) else false))
def Zbk (x0 : List Int) (x6 : Int) : List Int := (bif tb (decide (0 < ((x0.length : Nat) : Int))) then (bif tb (((gt x0 0) : Int) == x6) then (x0 ++ [x6]) else [x6]) else [x6])
def Zdx (x6 : Int) : Bool := (bif tb (Zgf (Zbu x6)) then false else true)
theorem Zic (x0 : List Int) (x1 x2 : Int) (x3 x4 x5 : Bool) (x6 : Int) : Zbr x0 x1 x6 = true → cl E0 52 [(V.ptr 0 1 0 0), (V.so x5 1 x0.length), (V.d (.int .i64 x6))] [(Blk.gen 86 3 [[(V.d (.int .i64 x1)), (V.d (.int .i64 x2)), (V.d .nils)]] x3), (Blk.flat 3 1 (List.map (encI .i64) x0) x4)] = some ([(V.so false 2 ((Zbk x0 x6).length)), (V.d (.bool (Zb6 x0 x1 x2 x6))), (V.d (.int .i64 0))], [(Blk.gen 86 3 [[(V.d (.int .i64 x1)), (V.d (.int .i64 x2)), (V.d .nils)]] x3), (Blk.flat 3 1 (List.map (encI .i64) x0) x4), (Blk.flat 3 1 (List.map (encI .i64) (Zbk x0 x6)) false)]) := by
 unfold Zbr Zb6 Zbk
 cases h1 : tb (Zgf (Zbu x6))
 ·exact ZN
 ·cases h2 : tb (decide (0 < ((x0.length : Nat) : Int)))
  ·cases h3 : tb (Zbh x1)
   ·exact ZN
   ·cases h4 : tb (decide (x1 ≤ 1))
    ·exact fun g0 => w52 [.c (Zf2 x6), .s (Ziz x0 x1 x2 x3 x4 false x5 x6 (Zbu x6) (tbE h1)), .b (tbE h2), .c (Zca x1 x2 x3 (tbE h3)), .b (tbE h4)] (by kernel_rfl)
    ·exact fun g0 => w52 [.c (Zf2 x6), .s (Ziz x0 x1 x2 x3 x4 false x5 x6 (Zbu x6) (tbE h1)), .b (tbE h2), .c (Zca x1 x2 x3 (tbE h3)), .b (tbE h4)] (by kernel_rfl)
  ·cases h3 : tb (inb x0.length 0)
   ·exact ZN
   ·cases h4 : tb (((gt x0 0) : Int) == x6)
    ·cases h5 : tb (Zbh x1)
     ·exact ZN
     ·cases h6 : tb (decide (x1 ≤ 1))
      ·exact fun g0 => w52 [.c (Zf2 x6), .s (Ziz x0 x1 x2 x3 x4 false x5 x6 (Zbu x6) (tbE h1)), .b (tbE h2), .m 22 (Ziy (m := [(Blk.gen 86 3 [[(V.d (.int .i64 x1)), (V.d (.int .i64 x2)), (V.d .nils)]] x3), (Blk.flat 3 1 (List.map (encI .i64) x0) x4), (Blk.flat 3 1 [] false), (Blk.flat 3 1 [] false)]) (b := x5) (id := 1) (n := x0.length) (s := 1) (k := .i64) (by kernel_rfl) (tbE h3)), .m 23 (Ziv (m := [(Blk.gen 86 3 [[(V.d (.int .i64 x1)), (V.d (.int .i64 x2)), (V.d .nils)]] x3), (Blk.flat 3 1 (List.map (encI .i64) x0) x4), (Blk.flat 3 1 [] false), (Blk.flat 3 1 [] false)]) (enc := (encI .i64)) (l := x0) (id := 1) (e := 3) (s := 1) (off := 0) (size := 1) (p := x4) (agg := false) (i := 0) (v := (V.d (.int .i64 (gt x0 0)))) (n := x0.length) (Nat.beq_refl _) (by kernel_rfl) (tbE h3) (by kernel_rfl)), .b (tbE h4), .c (Zca x1 x2 x3 (tbE h5)), .b (tbE h6)] (by kernel_rfl)
      ·exact fun g0 => w52 [.c (Zf2 x6), .s (Ziz x0 x1 x2 x3 x4 false x5 x6 (Zbu x6) (tbE h1)), .b (tbE h2), .m 22 (Ziy (m := [(Blk.gen 86 3 [[(V.d (.int .i64 x1)), (V.d (.int .i64 x2)), (V.d .nils)]] x3), (Blk.flat 3 1 (List.map (encI .i64) x0) x4), (Blk.flat 3 1 [] false), (Blk.flat 3 1 [] false)]) (b := x5) (id := 1) (n := x0.length) (s := 1) (k := .i64) (by kernel_rfl) (tbE h3)), .m 23 (Ziv (m := [(Blk.gen 86 3 [[(V.d (.int .i64 x1)), (V.d (.int .i64 x2)), (V.d .nils)]] x3), (Blk.flat 3 1 (List.map (encI .i64) x0) x4), (Blk.flat 3 1 [] false), (Blk.flat 3 1 [] false)]) (enc := (encI .i64)) (l := x0) (id := 1) (e := 3) (s := 1) (off := 0) (size := 1) (p := x4) (agg := false) (i := 0) (v := (V.d (.int .i64 (gt x0 0)))) (n := x0.length) (Nat.beq_refl _) (by kernel_rfl) (tbE h3) (by kernel_rfl)), .b (tbE h4), .c (Zca x1 x2 x3 (tbE h5)), .b (tbE h6)] (by kernel_rfl)
    ·cases h5 : tb (decide ((([] : List Int).length + x0.length) * 8 ≤ 140737488355328))
     ·exact ZN
     ·cases h6 : tb (decide ((x0.length + [x6].length) * 8 ≤ 140737488355328))
      ·exact ZN
      ·cases h7 : tb (Zbh x1)
       ·exact ZN
       ·cases h8 : tb (decide (x1 ≤ (((x0 ++ [x6]).length : Nat) : Int)))
        ·exact fun g0 => w52 [.c (Zf2 x6), .s (Ziz x0 x1 x2 x3 x4 false x5 x6 (Zbu x6) (tbE h1)), .b (tbE h2), .m 22 (Ziy (m := [(Blk.gen 86 3 [[(V.d (.int .i64 x1)), (V.d (.int .i64 x2)), (V.d .nils)]] x3), (Blk.flat 3 1 (List.map (encI .i64) x0) x4), (Blk.flat 3 1 [] false), (Blk.flat 3 1 [] false)]) (b := x5) (id := 1) (n := x0.length) (s := 1) (k := .i64) (by kernel_rfl) (tbE h3)), .m 23 (Ziv (m := [(Blk.gen 86 3 [[(V.d (.int .i64 x1)), (V.d (.int .i64 x2)), (V.d .nils)]] x3), (Blk.flat 3 1 (List.map (encI .i64) x0) x4), (Blk.flat 3 1 [] false), (Blk.flat 3 1 [] false)]) (enc := (encI .i64)) (l := x0) (id := 1) (e := 3) (s := 1) (off := 0) (size := 1) (p := x4) (agg := false) (i := 0) (v := (V.d (.int .i64 (gt x0 0)))) (n := x0.length) (Nat.beq_refl _) (by kernel_rfl) (tbE h3) (by kernel_rfl)), .b (tbE h4), .m 29 (Zjt (nl := true) (m := [(Blk.gen 86 3 [[(V.d (.int .i64 x1)), (V.d (.int .i64 x2)), (V.d .nils)]] x3), (Blk.flat 3 1 (List.map (encI .i64) x0) x4), (Blk.flat 3 1 [] false), (Blk.flat 3 1 [] false)]) (enc := (encI .i64)) (l0 := ([] : List Int)) (l1 := x0) (id := 3) (e := 3) (s := 1) (bytes := 8) (x := (V.so x5 1 x0.length)) (n := 0) (by kernel_rfl) (by kernel_rfl) (Zna (b := x5) (e := 3) (s := 1) (p := x4) (Nat.beq_refl _) (by kernel_rfl)) (by kernel_rfl) (tbE h5)), .m 33 (Zjt (nl := (x0.isEmpty && true)) (m := [(Blk.gen 86 3 [[(V.d (.int .i64 x1)), (V.d (.int .i64 x2)), (V.d .nils)]] x3), (Blk.flat 3 1 (List.map (encI .i64) x0) x4), (Blk.flat 3 1 [] false), (Blk.flat 3 1 (List.map (encI .i64) x0) false), (Blk.flat 3 1 [[(.int .i64 x6)]] false)]) (enc := (encI .i64)) (l0 := x0) (l1 := [x6]) (id := 3) (e := 3) (s := 1) (bytes := 8) (x := (V.so false 4 1)) (n := x0.length) (Nat.beq_refl _) (by kernel_rfl) (by kernel_rfl) (by kernel_rfl) (tbE h6)), .c (Zca x1 x2 x3 (tbE h7)), .b (tbE h8)] (by kernel_rfl)
        ·exact fun g0 => w52 [.c (Zf2 x6), .s (Ziz x0 x1 x2 x3 x4 false x5 x6 (Zbu x6) (tbE h1)), .b (tbE h2), .m 22 (Ziy (m := [(Blk.gen 86 3 [[(V.d (.int .i64 x1)), (V.d (.int .i64 x2)), (V.d .nils)]] x3), (Blk.flat 3 1 (List.map (encI .i64) x0) x4), (Blk.flat 3 1 [] false), (Blk.flat 3 1 [] false)]) (b := x5) (id := 1) (n := x0.length) (s := 1) (k := .i64) (by kernel_rfl) (tbE h3)), .m 23 (Ziv (m := [(Blk.gen 86 3 [[(V.d (.int .i64 x1)), (V.d (.int .i64 x2)), (V.d .nils)]] x3), (Blk.flat 3 1 (List.map (encI .i64) x0) x4), (Blk.flat 3 1 [] false), (Blk.flat 3 1 [] false)]) (enc := (encI .i64)) (l := x0) (id := 1) (e := 3) (s := 1) (off := 0) (size := 1) (p := x4) (agg := false) (i := 0) (v := (V.d (.int .i64 (gt x0 0)))) (n := x0.length) (Nat.beq_refl _) (by kernel_rfl) (tbE h3) (by kernel_rfl)), .b (tbE h4), .m 29 (Zjt (nl := true) (m := [(Blk.gen 86 3 [[(V.d (.int .i64 x1)), (V.d (.int .i64 x2)), (V.d .nils)]] x3), (Blk.flat 3 1 (List.map (encI .i64) x0) x4), (Blk.flat 3 1 [] false), (Blk.flat 3 1 [] false)]) (enc := (encI .i64)) (l0 := ([] : List Int)) (l1 := x0) (id := 3) (e := 3) (s := 1) (bytes := 8) (x := (V.so x5 1 x0.length)) (n := 0) (by kernel_rfl) (by kernel_rfl) (Zna (b := x5) (e := 3) (s := 1) (p := x4) (Nat.beq_refl _) (by kernel_rfl)) (by kernel_rfl) (tbE h5)), .m 33 (Zjt (nl := (x0.isEmpty && true)) (m := [(Blk.gen 86 3 [[(V.d (.int .i64 x1)), (V.d (.int .i64 x2)), (V.d .nils)]] x3), (Blk.flat 3 1 (List.map (encI .i64) x0) x4), (Blk.flat 3 1 [] false), (Blk.flat 3 1 (List.map (encI .i64) x0) false), (Blk.flat 3 1 [[(.int .i64 x6)]] false)]) (enc := (encI .i64)) (l0 := x0) (l1 := [x6]) (id := 3) (e := 3) (s := 1) (bytes := 8) (x := (V.so false 4 1)) (n := x0.length) (Nat.beq_refl _) (by kernel_rfl) (by kernel_rfl) (by kernel_rfl) (tbE h6)), .c (Zca x1 x2 x3 (tbE h7)), .b (tbE h8)] (by kernel_rfl)
theorem Zib (x0 : List Int) (x1 x2 : Int) (x3 x4 x5 : Bool) (x6 : Int) : Zbr x0 x1 x6 = false → Zdx x6 = true → cl E0 52 [(V.ptr 0 1 0 0), (V.so x5 1 x0.length), (V.d (.int .i64 x6))] [(Blk.gen 86 3 [[(V.d (.int .i64 x1)), (V.d (.int .i64 x2)), (V.d .nils)]] x3), (Blk.flat 3 1 (List.map (encI .i64) x0) x4)] = some ([(V.so x5 1 x0.length), (V.d (.bool false)), (V.d (.int .i64 1))], [(Blk.gen 86 3 [[(V.d (.int .i64 x1)), (V.d (.int .i64 x2)), (V.d .nils)]] x3), (Blk.flat 3 1 (List.map (encI .i64) x0) x4)]) := by
 unfold Zbr Zdx
 cases h1 : tb (Zgf (Zbu x6))
 ·intro g0 g1
  exact w52 [.c (Zf2 x6), .s (Zq8 x0 x1 x2 x3 x4 false x5 x6 (Zbu x6) (tbE h1))] (by kernel_rfl)
 ·cases h2 : tb (decide (0 < ((x0.length : Nat) : Int)))
  ·cases h3 : tb (Zbh x1)
   ·intro g0 g1
    exact absurd g1 ft
   ·cases h4 : tb (decide (x1 ≤ 1))
    ·intro g0 g1
     exact absurd g0 tf
    ·intro g0 g1
     exact absurd g0 tf
  ·cases h3 : tb (inb x0.length 0)
   ·intro g0 g1
    exact absurd g1 ft
   ·cases h4 : tb (((gt x0 0) : Int) == x6)
    ·cases h5 : tb (Zbh x1)
     ·intro g0 g1
      exact absurd g1 ft
     ·cases h6 : tb (decide (x1 ≤ 1))
      ·intro g0 g1
       exact absurd g0 tf
      ·intro g0 g1
       exact absurd g0 tf
    ·cases h5 : tb (decide ((([] : List Int).length + x0.length) * 8 ≤ 140737488355328))
     ·intro g0 g1
      exact absurd g1 ft
     ·cases h6 : tb (decide ((x0.length + [x6].length) * 8 ≤ 140737488355328))
      ·intro g0 g1
       exact absurd g1 ft
      ·cases h7 : tb (Zbh x1)
       ·intro g0 g1
        exact absurd g1 ft
       ·cases h8 : tb (decide (x1 ≤ (((x0 ++ [x6]).length : Nat) : Int)))
        ·intro g0 g1
         exact absurd g0 tf
        ·intro g0 g1
         exact absurd g0 tf
def Zbi (x0 : List Int) (x6 : Int) : Bool := (bif tb (Zbu x6) then (bif tb (decide ((([] : List Int).length + x0.length) * 8 ≤ 140737488355328)) then (bif tb (decide ((x0.length + [x6].length) * 8 ≤ 140737488355328)) then true else false) else false) else false)
def Zdq (x6 : Int) : Bool := (bif tb (Zbu x6) then false else true)
theorem Zio (x0 : List Int) (x1 x2 : Int) (x3 x5 : Bool) (x6 : Int) : Zbi x0 x6 = true → cl E0 49 [(V.ptr 0 1 0 0), (V.d (.int .i64 x6))] [(Blk.gen 86 3 [[(V.d (.int .i64 x1)), (V.d (.int .i64 x2)), (V.so x3 1 x0.length)]] false), (Blk.flat 3 1 (List.map (encI .i64) x0) x5)] = some ([(V.d (.int .i64 0))], [(Blk.gen 86 3 [[(V.d (.int .i64 x1)), (V.d (.int .i64 x2)), (V.so false 2 ((x0 ++ [x6]).length))]] false), (Blk.flat 3 1 (List.map (encI .i64) x0) x5), (Blk.flat 3 1 (List.map (encI .i64) (x0 ++ [x6])) false)]) := by
 unfold Zbi
 cases h1 : tb (Zbu x6)
 ·exact ZN
 ·cases h2 : tb (decide ((([] : List Int).length + x0.length) * 8 ≤ 140737488355328))
  ·exact ZN
  ·cases h3 : tb (decide ((x0.length + [x6].length) * 8 ≤ 140737488355328))
   ·exact ZN
   ·exact fun g0 => w49 [.c (Zf2 x6), .b (notT (tbE h1)), .m 16 (Zul (m := [(Blk.gen 86 3 [[(V.d (.int .i64 x1)), (V.d (.int .i64 x2)), (V.so x3 1 x0.length)]] false), (Blk.flat 3 1 (List.map (encI .i64) x0) x5), (Blk.flat 3 1 [] false)]) (enc := (encI .i64)) (l0 := ([] : List Int)) (l1 := x0) (id := 2) (e := 3) (s := 1) (bytes := 8) (x := (V.so x3 1 x0.length)) (n := 0) (by kernel_rfl) (by kernel_rfl) (Zna (b := x3) (e := 3) (s := 1) (p := x5) (Nat.beq_refl _) (by kernel_rfl)) (by kernel_rfl) (tbE h2)), .m 19 (Zul (m := [(Blk.gen 86 3 [[(V.d (.int .i64 x1)), (V.d (.int .i64 x2)), (V.so x3 1 x0.length)]] false), (Blk.flat 3 1 (List.map (encI .i64) x0) x5), (Blk.flat 3 1 (List.map (encI .i64) x0) false), (Blk.flat 3 1 [[(.int .i64 x6)]] false)]) (enc := (encI .i64)) (l0 := x0) (l1 := [x6]) (id := 2) (e := 3) (s := 1) (bytes := 8) (x := (V.so false 3 1)) (n := x0.length) (Nat.beq_refl _) (by kernel_rfl) (by kernel_rfl) (by kernel_rfl) (tbE h3))] (by kernel_rfl)
theorem Zir (x0 : List Int) (x1 x2 : Int) (x3 x5 : Bool) (x6 : Int) : Zbi x0 x6 = false → Zdq x6 = true → cl E0 49 [(V.ptr 0 1 0 0), (V.d (.int .i64 x6))] [(Blk.gen 86 3 [[(V.d (.int .i64 x1)), (V.d (.int .i64 x2)), (V.so x3 1 x0.length)]] false), (Blk.flat 3 1 (List.map (encI .i64) x0) x5)] = some ([(V.d (.int .i64 1))], [(Blk.gen 86 3 [[(V.d (.int .i64 x1)), (V.d (.int .i64 x2)), (V.so x3 1 x0.length)]] false), (Blk.flat 3 1 (List.map (encI .i64) x0) x5)]) := by
 unfold Zbi Zdq
 cases h1 : tb (Zbu x6)
 ·intro g0 g1
  exact w49 [.c (Zf2 x6), .b (notF (tbE h1))] (by kernel_rfl)
 ·cases h2 : tb (decide ((([] : List Int).length + x0.length) * 8 ≤ 140737488355328))
  ·intro g0 g1
   exact absurd g1 ft
  ·cases h3 : tb (decide ((x0.length + [x6].length) * 8 ≤ 140737488355328))
   ·intro g0 g1
    exact absurd g1 ft
   ·intro g0 g1
    exact absurd g0 tf
def Zga (x11 : Bool) : Bool := (bif tb (x11) then true else false)
theorem Ziq (x0 x1 : List Int) (x2 x3 : Int) (x4 x5 x6 x7 x8 x9 : Bool) (x10 : Int) (x11 : Bool) : Zga x11 = true → segG (runC E0 (cl E0) S52_0) [0, 1, 2, 9] [6, 7, 8] [0, 1, 2] 4 ([(V.ptr 0 1 0 0), (V.so x9 2 x1.length), (V.d (.int .i64 x10)), (V.d (.bool x11))], [(Blk.gen 86 3 [[(V.d (.int .i64 x2)), (V.d (.int .i64 x3)), (V.so x4 1 x0.length)]] x5), (Blk.flat 3 1 (List.map (encI .i64) x0) x6), (Blk.flat 3 1 (List.map (encI .i64) x1) x7), (Blk.flat 3 1 [] x8)]) = some (.normal, ([(V.ptr 0 1 0 0), (V.so x9 2 x1.length), (V.d (.int .i64 x10))], [(Blk.gen 86 3 [[(V.d (.int .i64 x2)), (V.d (.int .i64 x3)), (V.so x4 1 x0.length)]] x5), (Blk.flat 3 1 (List.map (encI .i64) x0) x6), (Blk.flat 3 1 (List.map (encI .i64) x1) x7), (Blk.flat 3 1 [] x8)])) := by
 unfold Zga
 cases h1 : tb (x11)
 ·exact ZN
 ·exact fun g0 => Z2 [.b (notT (tbE h1))] (by kernel_rfl)
theorem Zqy (x0 x1 : List Int) (x2 x3 : Int) (x4 x5 x6 x7 x8 x9 : Bool) (x10 : Int) (x11 : Bool) : Zga x11 = false → segG (runC E0 (cl E0) S52_0) [0, 1, 2, 9] [6, 7, 8] [0, 1, 2] 4 ([(V.ptr 0 1 0 0), (V.so x9 2 x1.length), (V.d (.int .i64 x10)), (V.d (.bool x11))], [(Blk.gen 86 3 [[(V.d (.int .i64 x2)), (V.d (.int .i64 x3)), (V.so x4 1 x0.length)]] x5), (Blk.flat 3 1 (List.map (encI .i64) x0) x6), (Blk.flat 3 1 (List.map (encI .i64) x1) x7), (Blk.flat 3 1 [] x8)]) = some (.ret, ([(V.so x9 2 x1.length), (V.d (.bool false)), (V.d (.int .i64 1))], [(Blk.gen 86 3 [[(V.d (.int .i64 x2)), (V.d (.int .i64 x3)), (V.so x4 1 x0.length)]] x5), (Blk.flat 3 1 (List.map (encI .i64) x0) x6), (Blk.flat 3 1 (List.map (encI .i64) x1) x7), (Blk.flat 3 1 [] x8)])) := by
 unfold Zga
 cases h1 : tb (x11)
 ·exact fun g0 => Z2 [.b (notF (tbE h1))] (by kernel_rfl)
 ·exact fun g0 => absurd g0 tf
def Zbv (x0 x1 : List Int) (x2 : Int) (x4 : Bool) (x9 : Int) : Bool := (bif tb (Zga (Zbu x9)) then (bif tb (decide (0 < ((x1.length : Nat) : Int))) then (bif tb (inb x1.length 0) then (bif tb (((gt x1 0) : Int) == x9) then (bif tb (decide ((([] : List Int).length + x1.length) * 8 ≤ 140737488355328)) then (bif tb (decide ((x1.length + [x9].length) * 8 ≤ 140737488355328)) then (bif tb (Z1 x0 x2 x4) then true else false) else false) else false) else (bif tb (Z1 x0 x2 x4) then true else false)) else false) else (bif tb (Z1 x0 x2 x4) then true else false)) else false)
def Zcb (x0 x1 : List Int) (x2 x3 x9 : Int) : Bool := (bif tb (decide (0 < ((x1.length : Nat) : Int))) then (bif tb (((gt x1 0) : Int) == x9) then (bif tb (decide (x2 ≤ (((x1 ++ [x9]).length : Nat) : Int))) then (Zba x0 x2 x3) else false) else (bif tb (decide (x2 ≤ 1)) then (Zba x0 x2 x3) else false)) else (bif tb (decide (x2 ≤ 1)) then (Zba x0 x2 x3) else false))
def Zbn (x1 : List Int) (x9 : Int) : List Int := (bif tb (decide (0 < ((x1.length : Nat) : Int))) then (bif tb (((gt x1 0) : Int) == x9) then (x1 ++ [x9]) else [x9]) else [x9])
def Zec (x9 : Int) : Bool := (bif tb (Zga (Zbu x9)) then false else true)
theorem Zh3 (x0 x1 : List Int) (x2 x3 : Int) (x4 x5 x6 x7 x8 : Bool) (x9 : Int) : Zbv x0 x1 x2 x4 x9 = true → cl E0 52 [(V.ptr 0 1 0 0), (V.so x8 2 x1.length), (V.d (.int .i64 x9))] [(Blk.gen 86 3 [[(V.d (.int .i64 x2)), (V.d (.int .i64 x3)), (V.so x4 1 x0.length)]] x5), (Blk.flat 3 1 (List.map (encI .i64) x0) x6), (Blk.flat 3 1 (List.map (encI .i64) x1) x7)] = some ([(V.so false 3 ((Zbn x1 x9).length)), (V.d (.bool (Zcb x0 x1 x2 x3 x9))), (V.d (.int .i64 0))], [(Blk.gen 86 3 [[(V.d (.int .i64 x2)), (V.d (.int .i64 x3)), (V.so x4 1 x0.length)]] x5), (Blk.flat 3 1 (List.map (encI .i64) x0) x6), (Blk.flat 3 1 (List.map (encI .i64) x1) x7), (Blk.flat 3 1 (List.map (encI .i64) (Zbn x1 x9)) false)]) := by
 unfold Zbv Zcb Zbn
 cases h1 : tb (Zga (Zbu x9))
 ·exact ZN
 ·cases h2 : tb (decide (0 < ((x1.length : Nat) : Int)))
  ·cases h3 : tb (Z1 x0 x2 x4)
   ·exact ZN
   ·cases h4 : tb (decide (x2 ≤ 1))
    ·exact fun g0 => w52 [.c (Zf2 x9), .s (Ziq x0 x1 x2 x3 x4 x5 x6 x7 false x8 x9 (Zbu x9) (tbE h1)), .b (tbE h2), .c (Zbc x0 x2 x3 x4 x5 x6 (tbE h3)), .b (tbE h4)] (by kernel_rfl)
    ·exact fun g0 => w52 [.c (Zf2 x9), .s (Ziq x0 x1 x2 x3 x4 x5 x6 x7 false x8 x9 (Zbu x9) (tbE h1)), .b (tbE h2), .c (Zbc x0 x2 x3 x4 x5 x6 (tbE h3)), .b (tbE h4)] (by kernel_rfl)
  ·cases h3 : tb (inb x1.length 0)
   ·exact ZN
   ·cases h4 : tb (((gt x1 0) : Int) == x9)
    ·cases h5 : tb (Z1 x0 x2 x4)
     ·exact ZN
     ·cases h6 : tb (decide (x2 ≤ 1))
      ·exact fun g0 => w52 [.c (Zf2 x9), .s (Ziq x0 x1 x2 x3 x4 x5 x6 x7 false x8 x9 (Zbu x9) (tbE h1)), .b (tbE h2), .m 22 (Ziy (m := [(Blk.gen 86 3 [[(V.d (.int .i64 x2)), (V.d (.int .i64 x3)), (V.so x4 1 x0.length)]] x5), (Blk.flat 3 1 (List.map (encI .i64) x0) x6), (Blk.flat 3 1 (List.map (encI .i64) x1) x7), (Blk.flat 3 1 [] false), (Blk.flat 3 1 [] false)]) (b := x8) (id := 2) (n := x1.length) (s := 1) (k := .i64) (by kernel_rfl) (tbE h3)), .m 23 (Ziv (m := [(Blk.gen 86 3 [[(V.d (.int .i64 x2)), (V.d (.int .i64 x3)), (V.so x4 1 x0.length)]] x5), (Blk.flat 3 1 (List.map (encI .i64) x0) x6), (Blk.flat 3 1 (List.map (encI .i64) x1) x7), (Blk.flat 3 1 [] false), (Blk.flat 3 1 [] false)]) (enc := (encI .i64)) (l := x1) (id := 2) (e := 3) (s := 1) (off := 0) (size := 1) (p := x7) (agg := false) (i := 0) (v := (V.d (.int .i64 (gt x1 0)))) (n := x1.length) (Nat.beq_refl _) (by kernel_rfl) (tbE h3) (by kernel_rfl)), .b (tbE h4), .c (Zbc x0 x2 x3 x4 x5 x6 (tbE h5)), .b (tbE h6)] (by kernel_rfl)
      ·exact fun g0 => w52 [.c (Zf2 x9), .s (Ziq x0 x1 x2 x3 x4 x5 x6 x7 false x8 x9 (Zbu x9) (tbE h1)), .b (tbE h2), .m 22 (Ziy (m := [(Blk.gen 86 3 [[(V.d (.int .i64 x2)), (V.d (.int .i64 x3)), (V.so x4 1 x0.length)]] x5), (Blk.flat 3 1 (List.map (encI .i64) x0) x6), (Blk.flat 3 1 (List.map (encI .i64) x1) x7), (Blk.flat 3 1 [] false), (Blk.flat 3 1 [] false)]) (b := x8) (id := 2) (n := x1.length) (s := 1) (k := .i64) (by kernel_rfl) (tbE h3)), .m 23 (Ziv (m := [(Blk.gen 86 3 [[(V.d (.int .i64 x2)), (V.d (.int .i64 x3)), (V.so x4 1 x0.length)]] x5), (Blk.flat 3 1 (List.map (encI .i64) x0) x6), (Blk.flat 3 1 (List.map (encI .i64) x1) x7), (Blk.flat 3 1 [] false), (Blk.flat 3 1 [] false)]) (enc := (encI .i64)) (l := x1) (id := 2) (e := 3) (s := 1) (off := 0) (size := 1) (p := x7) (agg := false) (i := 0) (v := (V.d (.int .i64 (gt x1 0)))) (n := x1.length) (Nat.beq_refl _) (by kernel_rfl) (tbE h3) (by kernel_rfl)), .b (tbE h4), .c (Zbc x0 x2 x3 x4 x5 x6 (tbE h5)), .b (tbE h6)] (by kernel_rfl)
    ·cases h5 : tb (decide ((([] : List Int).length + x1.length) * 8 ≤ 140737488355328))
     ·exact ZN
     ·cases h6 : tb (decide ((x1.length + [x9].length) * 8 ≤ 140737488355328))
      ·exact ZN
      ·cases h7 : tb (Z1 x0 x2 x4)
       ·exact ZN
       ·cases h8 : tb (decide (x2 ≤ (((x1 ++ [x9]).length : Nat) : Int)))
        ·exact fun g0 => w52 [.c (Zf2 x9), .s (Ziq x0 x1 x2 x3 x4 x5 x6 x7 false x8 x9 (Zbu x9) (tbE h1)), .b (tbE h2), .m 22 (Ziy (m := [(Blk.gen 86 3 [[(V.d (.int .i64 x2)), (V.d (.int .i64 x3)), (V.so x4 1 x0.length)]] x5), (Blk.flat 3 1 (List.map (encI .i64) x0) x6), (Blk.flat 3 1 (List.map (encI .i64) x1) x7), (Blk.flat 3 1 [] false), (Blk.flat 3 1 [] false)]) (b := x8) (id := 2) (n := x1.length) (s := 1) (k := .i64) (by kernel_rfl) (tbE h3)), .m 23 (Ziv (m := [(Blk.gen 86 3 [[(V.d (.int .i64 x2)), (V.d (.int .i64 x3)), (V.so x4 1 x0.length)]] x5), (Blk.flat 3 1 (List.map (encI .i64) x0) x6), (Blk.flat 3 1 (List.map (encI .i64) x1) x7), (Blk.flat 3 1 [] false), (Blk.flat 3 1 [] false)]) (enc := (encI .i64)) (l := x1) (id := 2) (e := 3) (s := 1) (off := 0) (size := 1) (p := x7) (agg := false) (i := 0) (v := (V.d (.int .i64 (gt x1 0)))) (n := x1.length) (Nat.beq_refl _) (by kernel_rfl) (tbE h3) (by kernel_rfl)), .b (tbE h4), .m 29 (Zjt (nl := true) (m := [(Blk.gen 86 3 [[(V.d (.int .i64 x2)), (V.d (.int .i64 x3)), (V.so x4 1 x0.length)]] x5), (Blk.flat 3 1 (List.map (encI .i64) x0) x6), (Blk.flat 3 1 (List.map (encI .i64) x1) x7), (Blk.flat 3 1 [] false), (Blk.flat 3 1 [] false)]) (enc := (encI .i64)) (l0 := ([] : List Int)) (l1 := x1) (id := 4) (e := 3) (s := 1) (bytes := 8) (x := (V.so x8 2 x1.length)) (n := 0) (by kernel_rfl) (by kernel_rfl) (Zna (b := x8) (e := 3) (s := 1) (p := x7) (Nat.beq_refl _) (by kernel_rfl)) (by kernel_rfl) (tbE h5)), .m 33 (Zjt (nl := (x1.isEmpty && true)) (m := [(Blk.gen 86 3 [[(V.d (.int .i64 x2)), (V.d (.int .i64 x3)), (V.so x4 1 x0.length)]] x5), (Blk.flat 3 1 (List.map (encI .i64) x0) x6), (Blk.flat 3 1 (List.map (encI .i64) x1) x7), (Blk.flat 3 1 [] false), (Blk.flat 3 1 (List.map (encI .i64) x1) false), (Blk.flat 3 1 [[(.int .i64 x9)]] false)]) (enc := (encI .i64)) (l0 := x1) (l1 := [x9]) (id := 4) (e := 3) (s := 1) (bytes := 8) (x := (V.so false 5 1)) (n := x1.length) (Nat.beq_refl _) (by kernel_rfl) (by kernel_rfl) (by kernel_rfl) (tbE h6)), .c (Zbc x0 x2 x3 x4 x5 x6 (tbE h7)), .b (tbE h8)] (by kernel_rfl)
        ·exact fun g0 => w52 [.c (Zf2 x9), .s (Ziq x0 x1 x2 x3 x4 x5 x6 x7 false x8 x9 (Zbu x9) (tbE h1)), .b (tbE h2), .m 22 (Ziy (m := [(Blk.gen 86 3 [[(V.d (.int .i64 x2)), (V.d (.int .i64 x3)), (V.so x4 1 x0.length)]] x5), (Blk.flat 3 1 (List.map (encI .i64) x0) x6), (Blk.flat 3 1 (List.map (encI .i64) x1) x7), (Blk.flat 3 1 [] false), (Blk.flat 3 1 [] false)]) (b := x8) (id := 2) (n := x1.length) (s := 1) (k := .i64) (by kernel_rfl) (tbE h3)), .m 23 (Ziv (m := [(Blk.gen 86 3 [[(V.d (.int .i64 x2)), (V.d (.int .i64 x3)), (V.so x4 1 x0.length)]] x5), (Blk.flat 3 1 (List.map (encI .i64) x0) x6), (Blk.flat 3 1 (List.map (encI .i64) x1) x7), (Blk.flat 3 1 [] false), (Blk.flat 3 1 [] false)]) (enc := (encI .i64)) (l := x1) (id := 2) (e := 3) (s := 1) (off := 0) (size := 1) (p := x7) (agg := false) (i := 0) (v := (V.d (.int .i64 (gt x1 0)))) (n := x1.length) (Nat.beq_refl _) (by kernel_rfl) (tbE h3) (by kernel_rfl)), .b (tbE h4), .m 29 (Zjt (nl := true) (m := [(Blk.gen 86 3 [[(V.d (.int .i64 x2)), (V.d (.int .i64 x3)), (V.so x4 1 x0.length)]] x5), (Blk.flat 3 1 (List.map (encI .i64) x0) x6), (Blk.flat 3 1 (List.map (encI .i64) x1) x7), (Blk.flat 3 1 [] false), (Blk.flat 3 1 [] false)]) (enc := (encI .i64)) (l0 := ([] : List Int)) (l1 := x1) (id := 4) (e := 3) (s := 1) (bytes := 8) (x := (V.so x8 2 x1.length)) (n := 0) (by kernel_rfl) (by kernel_rfl) (Zna (b := x8) (e := 3) (s := 1) (p := x7) (Nat.beq_refl _) (by kernel_rfl)) (by kernel_rfl) (tbE h5)), .m 33 (Zjt (nl := (x1.isEmpty && true)) (m := [(Blk.gen 86 3 [[(V.d (.int .i64 x2)), (V.d (.int .i64 x3)), (V.so x4 1 x0.length)]] x5), (Blk.flat 3 1 (List.map (encI .i64) x0) x6), (Blk.flat 3 1 (List.map (encI .i64) x1) x7), (Blk.flat 3 1 [] false), (Blk.flat 3 1 (List.map (encI .i64) x1) false), (Blk.flat 3 1 [[(.int .i64 x9)]] false)]) (enc := (encI .i64)) (l0 := x1) (l1 := [x9]) (id := 4) (e := 3) (s := 1) (bytes := 8) (x := (V.so false 5 1)) (n := x1.length) (Nat.beq_refl _) (by kernel_rfl) (by kernel_rfl) (by kernel_rfl) (tbE h6)), .c (Zbc x0 x2 x3 x4 x5 x6 (tbE h7)), .b (tbE h8)] (by kernel_rfl)
theorem Zh5 (x0 x1 : List Int) (x2 x3 : Int) (x4 x5 x6 x7 x8 : Bool) (x9 : Int) : Zbv x0 x1 x2 x4 x9 = false → Zec x9 = true → cl E0 52 [(V.ptr 0 1 0 0), (V.so x8 2 x1.length), (V.d (.int .i64 x9))] [(Blk.gen 86 3 [[(V.d (.int .i64 x2)), (V.d (.int .i64 x3)), (V.so x4 1 x0.length)]] x5), (Blk.flat 3 1 (List.map (encI .i64) x0) x6), (Blk.flat 3 1 (List.map (encI .i64) x1) x7)] = some ([(V.so x8 2 x1.length), (V.d (.bool false)), (V.d (.int .i64 1))], [(Blk.gen 86 3 [[(V.d (.int .i64 x2)), (V.d (.int .i64 x3)), (V.so x4 1 x0.length)]] x5), (Blk.flat 3 1 (List.map (encI .i64) x0) x6), (Blk.flat 3 1 (List.map (encI .i64) x1) x7)]) := by
 unfold Zbv Zec
 cases h1 : tb (Zga (Zbu x9))
 ·intro g0 g1
  exact w52 [.c (Zf2 x9), .s (Zqy x0 x1 x2 x3 x4 x5 x6 x7 false x8 x9 (Zbu x9) (tbE h1))] (by kernel_rfl)
 ·cases h2 : tb (decide (0 < ((x1.length : Nat) : Int)))
  ·cases h3 : tb (Z1 x0 x2 x4)
   ·intro g0 g1
    exact absurd g1 ft
   ·cases h4 : tb (decide (x2 ≤ 1))
    ·intro g0 g1
     exact absurd g0 tf
    ·intro g0 g1
     exact absurd g0 tf
  ·cases h3 : tb (inb x1.length 0)
   ·intro g0 g1
    exact absurd g1 ft
   ·cases h4 : tb (((gt x1 0) : Int) == x9)
    ·cases h5 : tb (Z1 x0 x2 x4)
     ·intro g0 g1
      exact absurd g1 ft
     ·cases h6 : tb (decide (x2 ≤ 1))
      ·intro g0 g1
       exact absurd g0 tf
      ·intro g0 g1
       exact absurd g0 tf
    ·cases h5 : tb (decide ((([] : List Int).length + x1.length) * 8 ≤ 140737488355328))
     ·intro g0 g1
      exact absurd g1 ft
     ·cases h6 : tb (decide ((x1.length + [x9].length) * 8 ≤ 140737488355328))
      ·intro g0 g1
       exact absurd g1 ft
      ·cases h7 : tb (Z1 x0 x2 x4)
       ·intro g0 g1
        exact absurd g1 ft
       ·cases h8 : tb (decide (x2 ≤ (((x1 ++ [x9]).length : Nat) : Int)))
        ·intro g0 g1
         exact absurd g0 tf
        ·intro g0 g1
         exact absurd g0 tf
end Go.Proofs.Ytdlhhoejnhjbhaa.Den

namespace Go.Proofs.Ytdlhhoejnhjbhaa.Den
open Go Go.Proofs
set_option maxRecDepth 100000
set_option maxHeartbeats 4000000
set_option linter.unusedVariables false
set_option linter.unusedSimpArgs false
structure Zd8 where
 c2 : Int
 c3 : Int
 deriving Inhabited
def Zk7 (x0 : Bool) (x1 : List Int) (x2 x3 : Int) (s0 : Zd8) : List V × Mem := ([(V.d (slD (encI .i64) true 1 x0 x1)), (V.d (.int .i64 s0.c2)), (V.d (.int .i64 s0.c3))], [])
def Zgi (x1 : List Int) (s0 : Zd8) : Bool := (bif tb (decide (s0.c3 < ((x1.length : Nat) : Int))) then (bif tb (inb x1.length s0.c3) then true else false) else false)
def Zij (x1 : List Int) (s0 : Zd8) : Zd8 := ⟨(mxI s0.c2 (gt x1 s0.c3)), (wi (s0.c3 + 1))⟩
def Zlg (x1 : List Int) (s0 : Zd8) : Bool := (itS (Zgi x1) (Zij x1) bound s0).isSome
def Zix (x1 : List Int) (s0 : Zd8) : Zd8 := (itS (Zgi x1) (Zij x1) bound s0).getD default
theorem Zth (x0 : Bool) (x1 : List Int) (x2 x3 : Int) (s0 : Zd8) : Zgi x1 s0 = true → (roundG (runC E0 (cl E0) L67_0) [0, 3, 4] [3] 0) (Zk7 x0 x1 x2 x3 s0) = some (.normal, Zk7 x0 x1 x2 x3 (Zij x1 s0)) := by
 unfold Zgi Zij
 cases h1 : tb (decide (s0.c3 < ((x1.length : Nat) : Int)))
 ·exact ZN
 ·cases h2 : tb (inb x1.length s0.c3)
  ·exact ZN
  ·exact fun _ => Zv [.o 14 (fun _ => Zes (enc := (encI .i64)) (l := x1) (fl := true) (n := x0) (s := 1)), .b (tbE h1), .o 21 (fun _ => Zn (enc := (encI .i64)) (l := x1) (fl := true) (n := x0) (s := 1) (k := .i64) (tbE h2))] (by kernel_rfl)
def Zjp (x1 : List Int) (s0 : Zd8) : Bool := (bif tb (decide (s0.c3 < ((x1.length : Nat) : Int))) then false else true)
theorem Ztn (x0 : Bool) (x1 : List Int) (x2 x3 : Int) (s0 : Zd8) : Zgi x1 s0 = false → Zjp x1 s0 = true → (roundG (runC E0 (cl E0) L67_0) [0, 3, 4] [3] 0) (Zk7 x0 x1 x2 x3 s0) = some ((.exit 0), ([(V.d (.int .i64 s0.c2))], [])) := by
 unfold Zgi Zjp
 cases h1 : tb (decide (s0.c3 < ((x1.length : Nat) : Int)))
 ·intro g0 g1
  exact Zv [.o 14 (fun _ => Zes (enc := (encI .i64)) (l := x1) (fl := true) (n := x0) (s := 1)), .b (tbE h1)] (by kernel_rfl)
 ·cases h2 : tb (inb x1.length s0.c3)
  ·intro g0 g1
   exact absurd g1 ft
  ·intro g0 g1
   exact absurd g0 tf
theorem Zr7 (x0 : Bool) (x1 : List Int) (x2 x3 : Int) (s : Zd8) (hok : Zlg x1 s = true) (c0 : Zjp x1 (Zix x1 s) = true) : loopG (roundG (runC E0 (cl E0) L67_0) [0, 3, 4] [3] 0) bound (Zk7 x0 x1 x2 x3 s) = some ((.exit 0), ([(V.d (.int .i64 ((Zix x1 s).c2)))], [])) := by
 have e : itS (Zgi x1) (Zij x1) bound s = some (Zix x1 s) := Zis hok
 have f := Zgz e
 exact Zil (Zth x0 x1 x2 x3) bound s _ _ _ e (fun h => by cases h) (Ztn x0 x1 x2 x3 (Zix x1 s) f c0)
def Zkj (x1 : List Int) : Zd8 := Zix x1 (⟨(gt x1 0), 1⟩ : Zd8)
def Zki (x1 : List Int) : Bool := (bif tb (decide (((x1.length : Nat) : Int) < 1)) then false else (bif tb (inb x1.length 0) then (bif tb (Zlg x1 (⟨(gt x1 0), 1⟩ : Zd8)) then (bif tb (Zjp x1 (Zkj x1)) then true else false) else false) else false))
theorem Zvu (x0 : Bool) (x1 : List Int) : Zki x1 = true → cl E0 67 [(V.d (slD (encI .i64) true 1 x0 x1))] [] = some ([(V.d (.int .i64 ((Zkj x1).c2)))], []) := by
 unfold Zki
 cases h1 : tb (decide (((x1.length : Nat) : Int) < 1))
 ·cases h2 : tb (inb x1.length 0)
  ·exact ZN
  ·cases h3 : tb (Zlg x1 (⟨(gt x1 0), 1⟩ : Zd8))
   ·exact ZN
   ·cases h4 : tb (Zjp x1 (Zkj x1))
    ·exact ZN
    ·exact fun g0 => w67 [.o 6 (fun _ => Zes (enc := (encI .i64)) (l := x1) (fl := true) (n := x0) (s := 1)), .b (tbE h1), .o 10 (fun _ => Zn (enc := (encI .i64)) (l := x1) (fl := true) (n := x0) (s := 1) (k := .i64) (tbE h2)), .l (Zr7 x0 x1 (gt x1 0) 1 (⟨(gt x1 0), 1⟩ : Zd8) (tbE h3) (tbE h4))] (by kernel_rfl)
 ·exact ZN
structure Zd9 where
 c2 : Int
 c3 : Int
 deriving Inhabited
def Zk6 (x0 : Bool) (x1 : List Int) (x2 x3 : Int) (s0 : Zd9) : List V × Mem := ([(V.d (slD (encI .i64) true 1 x0 x1)), (V.d (.int .i64 s0.c2)), (V.d (.int .i64 s0.c3))], [])
def Zgj (x1 : List Int) (s0 : Zd9) : Bool := (bif tb (decide (s0.c3 < ((x1.length : Nat) : Int))) then (bif tb (inb x1.length s0.c3) then true else false) else false)
def Zik (x1 : List Int) (s0 : Zd9) : Zd9 := ⟨(mnI s0.c2 (gt x1 s0.c3)), (wi (s0.c3 + 1))⟩
def Zlf (x1 : List Int) (s0 : Zd9) : Bool := (itS (Zgj x1) (Zik x1) bound s0).isSome
def Ziw (x1 : List Int) (s0 : Zd9) : Zd9 := (itS (Zgj x1) (Zik x1) bound s0).getD default
theorem Ztg (x0 : Bool) (x1 : List Int) (x2 x3 : Int) (s0 : Zd9) : Zgj x1 s0 = true → (roundG (runC E0 (cl E0) L68_0) [0, 3, 4] [3] 0) (Zk6 x0 x1 x2 x3 s0) = some (.normal, Zk6 x0 x1 x2 x3 (Zik x1 s0)) := by
 unfold Zgj Zik
 cases h1 : tb (decide (s0.c3 < ((x1.length : Nat) : Int)))
 ·exact ZN
 ·cases h2 : tb (inb x1.length s0.c3)
  ·exact ZN
  ·exact fun _ => Zv [.o 14 (fun _ => Zes (enc := (encI .i64)) (l := x1) (fl := true) (n := x0) (s := 1)), .b (tbE h1), .o 21 (fun _ => Zn (enc := (encI .i64)) (l := x1) (fl := true) (n := x0) (s := 1) (k := .i64) (tbE h2))] (by kernel_rfl)
def Zjo (x1 : List Int) (s0 : Zd9) : Bool := (bif tb (decide (s0.c3 < ((x1.length : Nat) : Int))) then false else true)
theorem Ztp (x0 : Bool) (x1 : List Int) (x2 x3 : Int) (s0 : Zd9) : Zgj x1 s0 = false → Zjo x1 s0 = true → (roundG (runC E0 (cl E0) L68_0) [0, 3, 4] [3] 0) (Zk6 x0 x1 x2 x3 s0) = some ((.exit 0), ([(V.d (.int .i64 s0.c2))], [])) := by
 unfold Zgj Zjo
 cases h1 : tb (decide (s0.c3 < ((x1.length : Nat) : Int)))
 ·intro g0 g1
  exact Zv [.o 14 (fun _ => Zes (enc := (encI .i64)) (l := x1) (fl := true) (n := x0) (s := 1)), .b (tbE h1)] (by kernel_rfl)
 ·cases h2 : tb (inb x1.length s0.c3)
  ·intro g0 g1
   exact absurd g1 ft
  ·intro g0 g1
   exact absurd g0 tf
theorem Zsb (x0 : Bool) (x1 : List Int) (x2 x3 : Int) (s : Zd9) (hok : Zlf x1 s = true) (c0 : Zjo x1 (Ziw x1 s) = true) : loopG (roundG (runC E0 (cl E0) L68_0) [0, 3, 4] [3] 0) bound (Zk6 x0 x1 x2 x3 s) = some ((.exit 0), ([(V.d (.int .i64 ((Ziw x1 s).c2)))], [])) := by
 have e : itS (Zgj x1) (Zik x1) bound s = some (Ziw x1 s) := Zis hok
 have f := Zgz e
 exact Zil (Ztg x0 x1 x2 x3) bound s _ _ _ e (fun h => by cases h) (Ztp x0 x1 x2 x3 (Ziw x1 s) f c0)
def Zkh (x1 : List Int) : Zd9 := Ziw x1 (⟨(gt x1 0), 1⟩ : Zd9)
def Zkf (x1 : List Int) : Bool := (bif tb (decide (((x1.length : Nat) : Int) < 1)) then false else (bif tb (inb x1.length 0) then (bif tb (Zlf x1 (⟨(gt x1 0), 1⟩ : Zd9)) then (bif tb (Zjo x1 (Zkh x1)) then true else false) else false) else false))
theorem Zvs (x0 : Bool) (x1 : List Int) : Zkf x1 = true → cl E0 68 [(V.d (slD (encI .i64) true 1 x0 x1))] [] = some ([(V.d (.int .i64 ((Zkh x1).c2)))], []) := by
 unfold Zkf
 cases h1 : tb (decide (((x1.length : Nat) : Int) < 1))
 ·cases h2 : tb (inb x1.length 0)
  ·exact ZN
  ·cases h3 : tb (Zlf x1 (⟨(gt x1 0), 1⟩ : Zd9))
   ·exact ZN
   ·cases h4 : tb (Zjo x1 (Zkh x1))
    ·exact ZN
    ·exact fun g0 => w68 [.o 6 (fun _ => Zes (enc := (encI .i64)) (l := x1) (fl := true) (n := x0) (s := 1)), .b (tbE h1), .o 10 (fun _ => Zn (enc := (encI .i64)) (l := x1) (fl := true) (n := x0) (s := 1) (k := .i64) (tbE h2)), .l (Zsb x0 x1 (gt x1 0) 1 (⟨(gt x1 0), 1⟩ : Zd9) (tbE h3) (tbE h4))] (by kernel_rfl)
 ·exact ZN
end Go.Proofs.Ytdlhhoejnhjbhaa.Den

namespace Go.Proofs.Ytdlhhoejnhjbhaa.Den
open Go Go.Proofs
set_option maxRecDepth 100000
set_option maxHeartbeats 4000000
set_option linter.unusedVariables false
set_option linter.unusedSimpArgs false
def Zip (x0 : Int) : Bool := (bif tb (decide (x0 < (-1099511627776))) then true else (decide (1099511627776 < x0)))
theorem Zp6 (x0 : Int) : cl E0 78 [(V.d (.int .i64 x0))] [] = some ([(V.d (.bool (Zip x0)))], []) := by
 unfold Zip
 cases h1 : tb (decide (x0 < (-1099511627776)))
 ·exact w78 [.b (tbE h1)] (by kernel_rfl)
 ·exact w78 [.b (tbE h1)] (by kernel_rfl)
structure Z3 where
 c3 : Int
 deriving Inhabited
def Zfz (x0 : Bool) (x1 : List Int) (x2 x3 : Int) (s0 : Z3) : List V × Mem := ([(V.d (slD (encI .i64) true 1 x0 x1)), (V.fn (.func 78) [] []), (V.d (.int .i64 x2)), (V.d (.int .i64 s0.c3))], [])
def Zbt (x1 : List Int) (x2 : Int) (s0 : Z3) : Bool := (bif tb (decide (s0.c3 < x2)) then (bif tb (inb x1.length s0.c3) then (bif tb (Zip (gt x1 s0.c3)) then false else true) else false) else false)
def Zer (x1 : List Int) (x2 : Int) (s0 : Z3) : Z3 := ⟨(wi (s0.c3 + 1))⟩
def Zf3 (x1 : List Int) (x2 : Int) (s0 : Z3) : Bool := (itS (Zbt x1 x2) (Zer x1 x2) bound s0).isSome
def Zcd (x1 : List Int) (x2 : Int) (s0 : Z3) : Z3 := (itS (Zbt x1 x2) (Zer x1 x2) bound s0).getD default
theorem Zkk (x0 : Bool) (x1 : List Int) (x2 x3 : Int) (s0 : Z3) : Zbt x1 x2 s0 = true → (roundG (runC E0 (cl E0) L82_0) [0, 1, 7, 8] [4] 0) (Zfz x0 x1 x2 x3 s0) = some (.normal, Zfz x0 x1 x2 x3 (Zer x1 x2 s0)) := by
 unfold Zbt Zer
 cases h1 : tb (decide (s0.c3 < x2))
 ·exact ZN
 ·cases h2 : tb (inb x1.length s0.c3)
  ·exact ZN
  ·cases h3 : tb (Zip (gt x1 s0.c3))
   ·exact fun _ => Zv [.b (tbE h1), .o 14 (fun _ => Zn (enc := (encI .i64)) (l := x1) (fl := true) (n := x0) (s := 1) (k := .i64) (tbE h2)), .c (Zp6 (gt x1 s0.c3)), .b (tbE h3)] (by kernel_rfl)
   ·exact ZN
def Zb8 (x1 : List Int) (x2 : Int) (s0 : Z3) : Bool := (bif tb (decide (s0.c3 < x2)) then (bif tb (inb x1.length s0.c3) then true else false) else false)
def Zet (x2 : Int) (s0 : Z3) : Bool := (bif tb (decide (s0.c3 < x2)) then false else true)
theorem Zm4 (x0 : Bool) (x1 : List Int) (x2 x3 : Int) (s0 : Z3) : Zbt x1 x2 s0 = false → Zb8 x1 x2 s0 = true → (roundG (runC E0 (cl E0) L82_0) [0, 1, 7, 8] [4] 0) (Zfz x0 x1 x2 x3 s0) = some (.ret, ([(V.d (.int .i64 s0.c3))], [])) := by
 unfold Zbt Zb8
 cases h1 : tb (decide (s0.c3 < x2))
 ·intro g0 g1
  exact absurd g1 ft
 ·cases h2 : tb (inb x1.length s0.c3)
  ·intro g0 g1
   exact absurd g1 ft
  ·cases h3 : tb (Zip (gt x1 s0.c3))
   ·intro g0 g1
    exact absurd g0 tf
   ·intro g0 g1
    exact Zv [.b (tbE h1), .o 14 (fun _ => Zn (enc := (encI .i64)) (l := x1) (fl := true) (n := x0) (s := 1) (k := .i64) (tbE h2)), .c (Zp6 (gt x1 s0.c3)), .b (tbE h3)] (by kernel_rfl)
theorem Zm5 (x0 : Bool) (x1 : List Int) (x2 x3 : Int) (s0 : Z3) : Zbt x1 x2 s0 = false → Zb8 x1 x2 s0 = false → Zet x2 s0 = true → (roundG (runC E0 (cl E0) L82_0) [0, 1, 7, 8] [4] 0) (Zfz x0 x1 x2 x3 s0) = some ((.exit 0), ([V.un], [])) := by
 unfold Zbt Zb8 Zet
 cases h1 : tb (decide (s0.c3 < x2))
 ·intro g0 g1 g2
  exact Zv [.b (tbE h1)] (by kernel_rfl)
 ·cases h2 : tb (inb x1.length s0.c3)
  ·intro g0 g1 g2
   exact absurd g2 ft
  ·cases h3 : tb (Zip (gt x1 s0.c3))
   ·intro g0 g1 g2
    exact absurd g0 tf
   ·intro g0 g1 g2
    exact absurd g1 tf
theorem Zmt (x0 : Bool) (x1 : List Int) (x2 x3 : Int) (s : Z3) (hok : Zf3 x1 x2 s = true) (c0 : Zb8 x1 x2 (Zcd x1 x2 s) = true) : loopG (roundG (runC E0 (cl E0) L82_0) [0, 1, 7, 8] [4] 0) bound (Zfz x0 x1 x2 x3 s) = some (.ret, ([(V.d (.int .i64 ((Zcd x1 x2 s).c3)))], [])) := by
 have e : itS (Zbt x1 x2) (Zer x1 x2) bound s = some (Zcd x1 x2 s) := Zis hok
 have f := Zgz e
 exact Zil (Zkk x0 x1 x2 x3) bound s _ _ _ e (fun h => by cases h) (Zm4 x0 x1 x2 x3 (Zcd x1 x2 s) f c0)
theorem Zmw (x0 : Bool) (x1 : List Int) (x2 x3 : Int) (s : Z3) (hok : Zf3 x1 x2 s = true) (c0 : Zb8 x1 x2 (Zcd x1 x2 s) = false) (c1 : Zet x2 (Zcd x1 x2 s) = true) : loopG (roundG (runC E0 (cl E0) L82_0) [0, 1, 7, 8] [4] 0) bound (Zfz x0 x1 x2 x3 s) = some ((.exit 0), ([V.un], [])) := by
 have e : itS (Zbt x1 x2) (Zer x1 x2) bound s = some (Zcd x1 x2 s) := Zis hok
 have f := Zgz e
 exact Zil (Zkk x0 x1 x2 x3) bound s _ _ _ e (fun h => by cases h) (Zm5 x0 x1 x2 x3 (Zcd x1 x2 s) f c0 c1)
def Zed (x1 : List Int) : Z3 := Zcd x1 ((x1.length : Nat) : Int) (⟨0⟩ : Z3)
def Zgh (x1 : List Int) : Bool := (bif tb (Zf3 x1 ((x1.length : Nat) : Int) (⟨0⟩ : Z3)) then (bif tb (Zb8 x1 ((x1.length : Nat) : Int) (Zed x1)) then true else (bif tb (Zet ((x1.length : Nat) : Int) (Zed x1)) then true else false)) else false)
def Zgb (x1 : List Int) : Int := (bif tb (Zb8 x1 ((x1.length : Nat) : Int) (Zed x1)) then ((Zed x1).c3) else (-1))
theorem Znf (x0 : Bool) (x1 : List Int) : Zgh x1 = true → cl E0 82 [(V.d (slD (encI .i64) true 1 x0 x1)), (V.fn (.func 78) [] [])] [] = some ([(V.d (.int .i64 (Zgb x1)))], []) := by
 unfold Zgh Zgb
 cases h1 : tb (Zf3 x1 ((x1.length : Nat) : Int) (⟨0⟩ : Z3))
 ·exact ZN
 ·cases h2 : tb (Zb8 x1 ((x1.length : Nat) : Int) (Zed x1))
  ·cases h3 : tb (Zet ((x1.length : Nat) : Int) (Zed x1))
   ·exact ZN
   ·exact fun g0 => w82 [.o 7 (fun _ => Zes (enc := (encI .i64)) (l := x1) (fl := true) (n := x0) (s := 1)), .l (Zmw x0 x1 ((x1.length : Nat) : Int) 0 (⟨0⟩ : Z3) (tbE h1) (tbE h2) (tbE h3))] (by kernel_rfl)
  ·exact fun g0 => w82 [.o 7 (fun _ => Zes (enc := (encI .i64)) (l := x1) (fl := true) (n := x0) (s := 1)), .l (Zmt x0 x1 ((x1.length : Nat) : Int) 0 (⟨0⟩ : Z3) (tbE h1) (tbE h2))] (by kernel_rfl)
def Zgy (x1 : List Int) : Bool := (bif tb (Zgh x1) then true else false)
theorem Zm3 (x0 : Bool) (x1 : List Int) : Zgy x1 = true → cl E0 77 [(V.d (slD (encI .i64) true 1 x0 x1)), (V.fn (.func 78) [] [])] [] = some ([(V.d (.bool (decide (0 ≤ (Zgb x1)))))], []) := by
 unfold Zgy
 cases h1 : tb (Zgh x1)
 ·exact ZN
 ·exact fun g0 => w77 [.c (Znf x0 x1 (tbE h1))] (by kernel_rfl)
def Zle (x1 : List Int) : Bool := (bif tb (decide (((x1.length : Nat) : Int) ≤ 16)) then (bif tb (Zgy x1) then true else false) else true)
def Zj3 (x1 : List Int) : Bool := (bif tb (decide (((x1.length : Nat) : Int) ≤ 16)) then (!(decide (0 ≤ (Zgb x1)))) else false)
theorem Zpe (x0 : Bool) (x1 : List Int) : Zle x1 = true → cl E0 63 [(V.d (slD (encI .i64) true 1 x0 x1))] [] = some ([(V.d (.bool (Zj3 x1)))], []) := by
 unfold Zle Zj3
 cases h1 : tb (decide (((x1.length : Nat) : Int) ≤ 16))
 ·exact fun g0 => w63 [.o 5 (fun _ => Zes (enc := (encI .i64)) (l := x1) (fl := true) (n := x0) (s := 1)), .b (tbE h1)] (by kernel_rfl)
 ·cases h2 : tb (Zgy x1)
  ·exact ZN
  ·exact fun g0 => w63 [.o 5 (fun _ => Zes (enc := (encI .i64)) (l := x1) (fl := true) (n := x0) (s := 1)), .b (tbE h1), .c (Zm3 x0 x1 (tbE h2))] (by kernel_rfl)
structure Z25 where
 c2 : Bool
 c3 : Int
 c7 : List Int
 deriving Inhabited
structure Z29 where
 c3 : Int
 c5 : List Int
 deriving Inhabited
def Zrd (x1 : List Int) : Int := wi (((Zkj x1).c2) - ((Zkh x1).c2))
def Zjq (x1 : List Int) : Bool := (bif tb (Zle x1) then (bif tb (Zj3 x1) then (bif tb ((((x1.length : Nat) : Int) : Int) == 0) then true else (bif tb (Zki x1) then (bif tb (Zkf x1) then true else false) else false)) else true) else false)
def Zjv (x1 : List Int) : Int := (bif tb (Zj3 x1) then (bif tb ((((x1.length : Nat) : Int) : Int) == 0) then 0 else (Zrd x1)) else 0)
theorem Zw2 (x0 : Bool) (x1 : List Int) : Zjq x1 = true → cl E0 22 [(V.d (slD (encI .i64) true 1 x0 x1))] [] = some ([(V.d (.int .i64 (Zjv x1)))], []) := by
 unfold Zjq Zjv
 cases h1 : tb (Zle x1)
 ·exact ZN
 ·cases h2 : tb (Zj3 x1)
  ·exact fun g0 => w22 [.c (Zpe x0 x1 (tbE h1)), .b (notF (tbE h2))] (by kernel_rfl)
  ·cases h3 : tb ((((x1.length : Nat) : Int) : Int) == 0)
   ·cases h4 : tb (Zki x1)
    ·exact ZN
    ·cases h5 : tb (Zkf x1)
     ·exact ZN
     ·exact fun g0 => w22 [.c (Zpe x0 x1 (tbE h1)), .b (notT (tbE h2)), .o 8 (fun _ => Zes (enc := (encI .i64)) (l := x1) (fl := true) (n := x0) (s := 1)), .b (tbE h3), .c (Zvu x0 x1 (tbE h4)), .c (Zvs x0 x1 (tbE h5))] (by kernel_rfl)
   ·exact fun g0 => w22 [.c (Zpe x0 x1 (tbE h1)), .b (notT (tbE h2)), .o 8 (fun _ => Zes (enc := (encI .i64)) (l := x1) (fl := true) (n := x0) (s := 1)), .b (tbE h3)] (by kernel_rfl)
end Go.Proofs.Ytdlhhoejnhjbhaa.Den

namespace Go.Proofs.Ytdlhhoejnhjbhaa.Den
open Go Go.Proofs
set_option maxRecDepth 100000
set_option maxHeartbeats 4000000
set_option linter.unusedVariables false
set_option linter.unusedSimpArgs false
def Zc7 (x0 : Int) : Bool := (bif tb (decide ((-2147483648) ≤ x0)) then (decide (x0 ≤ 2147483647)) else false)
theorem Zin (x0 : Int) : cl E0 73 [(V.d (.int .i64 x0))] [] = some ([(V.d (.bool (Zc7 x0)))], []) := by
 unfold Zc7
 cases h1 : tb (decide ((-2147483648) ≤ x0))
 ·exact w73 [.b (tbE h1)] (by kernel_rfl)
 ·exact w73 [.b (tbE h1)] (by kernel_rfl)
def Zim (x0 x1 : Int) : Bool := (bif tb (decide (x0 < 2)) then true else (bif tb (decide (16 < x0)) then true else (bif tb (decide (x1 < 0)) then true else (bif tb (Zc7 x1) then false else true))))
theorem Zsy (x0 x1 : Int) : Zim x0 x1 = true → cl E0 44 [(V.d (.int .i64 x0)), (V.d (.int .i64 x1))] [] = some ([(V.d .nilp), (V.d (.int .i64 1))], []) := by
 unfold Zim
 cases h1 : tb (decide (x0 < 2))
 ·cases h2 : tb (decide (16 < x0))
  ·cases h3 : tb (decide (x1 < 0))
   ·cases h4 : tb (Zc7 x1)
    ·exact fun g0 => w44 [.b (tbE h1), .b (tbE h2), .b (tbE h3), .c (Zin x1), .b (notF (tbE h4))] (by kernel_rfl)
    ·exact ZN
   ·exact fun g0 => w44 [.b (tbE h1), .b (tbE h2), .b (tbE h3)] (by kernel_rfl)
  ·exact fun g0 => w44 [.b (tbE h1), .b (tbE h2)] (by kernel_rfl)
 ·exact fun g0 => w44 [.b (tbE h1)] (by kernel_rfl)
theorem Zi6 (x0 x1 : Int) : Zim x0 x1 = false → cl E0 44 [(V.d (.int .i64 x0)), (V.d (.int .i64 x1))] [] = some ([(V.ptr 0 1 0 0), (V.d (.int .i64 0))], [(Blk.flat 82 20 [([(.int .i64 x0), (.int .i64 x1)] ++ arrD .i64 [0, 0, 0, 0, 0, 0, 0, 0, 0, 0, 0, 0, 0, 0, 0, 0] 16 ++ [(.int .i64 0), (.int .i64 0)])] false)]) := by
 unfold Zim
 cases h1 : tb (decide (x0 < 2))
 ·cases h2 : tb (decide (16 < x0))
  ·cases h3 : tb (decide (x1 < 0))
   ·cases h4 : tb (Zc7 x1)
    ·exact fun g0 => absurd g0 tf
    ·exact fun g0 => w44 [.b (tbE h1), .b (tbE h2), .b (tbE h3), .c (Zin x1), .b (notT (tbE h4))] (by kernel_rfl)
   ·exact fun g0 => absurd g0 tf
  ·exact fun g0 => absurd g0 tf
 ·exact fun g0 => absurd g0 tf
theorem Zpp  : cl E0 46 [(V.d .nilp)] [] = some ([(V.d .nilp)], []) := by
 exact w46 [.k true] (by kernel_rfl)
theorem Zge (x0 x1 : Int) (x2 : List Int) (x3 x4 : Int) (x5 : Bool) : cl E0 46 [(V.ptr 0 1 0 0)] [(Blk.flat 82 20 [([(.int .i64 x0), (.int .i64 x1)] ++ arrD .i64 x2 16 ++ [(.int .i64 x3), (.int .i64 x4)])] x5)] = some ([(V.ptr 1 1 0 0)], [(Blk.flat 82 20 [([(.int .i64 x0), (.int .i64 x1)] ++ arrD .i64 x2 16 ++ [(.int .i64 x3), (.int .i64 x4)])] x5), (Blk.gen 84 3 [[(V.ptr 0 1 0 0), (V.d (.int .i64 0)), (V.d (.int .i64 0))]] false)]) := by
 exact w46 [.k false] (by kernel_rfl)
def Zbb (x0 x3 x6 : Int) : Bool := (bif tb (Zc7 x6) then (bif tb (inb 16 x3) then (bif tb (((wi (x0 - 1)) : Int) == 0) then false else true) else false) else true)
def Zi (x6 : Int) : Int := (bif tb (Zc7 x6) then 0 else 1)
def Zbs (x2 : List Int) (x3 x6 : Int) : List Int := (bif tb (Zc7 x6) then (sta x2 16 x3 x6) else x2)
def Zc (x0 x3 x6 : Int) : Int := (bif tb (Zc7 x6) then (remI .i64 (wi (x3 + 1)) (wi (x0 - 1))) else x3)
def Zb (x0 x4 x6 : Int) : Int := (bif tb (Zc7 x6) then (mnI (wi (x4 + 1)) (wi (x0 - 1))) else x4)
theorem Zbm (x0 x1 : Int) (x2 : List Int) (x3 x4 x6 : Int) : Zbb x0 x3 x6 = true → cl E0 48 [(V.ptr 0 1 0 0), (V.d (.int .i64 x6))] [(Blk.flat 82 20 [([(.int .i64 x0), (.int .i64 x1)] ++ arrD .i64 x2 16 ++ [(.int .i64 x3), (.int .i64 x4)])] false)] = some ([(V.d (.int .i64 (Zi x6)))], [(Blk.flat 82 20 [([(.int .i64 x0), (.int .i64 x1)] ++ arrD .i64 (Zbs x2 x3 x6) 16 ++ [(.int .i64 (Zc x0 x3 x6)), (.int .i64 (Zb x0 x4 x6))])] false)]) := by
 unfold Zbb Zi Zbs Zc Zb
 cases h1 : tb (Zc7 x6)
 ·exact fun g0 => w48 [.k false, .c (Zin x6), .b (notF (tbE h1))] (by kernel_rfl)
 ·cases h2 : tb (inb 16 x3)
  ·exact ZN
  ·cases h3 : tb (((wi (x0 - 1)) : Int) == 0)
   ·exact fun g0 => w48 [.k false, .c (Zin x6), .b (notT (tbE h1)), .o 20 (fun _ => Z17 (id := 0) (nn := 1) (row := 0) (off := 2) (n := 16) (s := 1) (k := .i64) (i := x3) (tbE h2)), .m 100020 (Z1h (m := [(Blk.flat 82 20 [([(.int .i64 x0), (.int .i64 x1)] ++ arrD .i64 x2 16 ++ [(.int .i64 x3), (.int .i64 x4)])] false)]) (id := 0) (nn := 1) (row := 0) (off := 2) (n := 16) (s := 20) (e := 82) (rows := [([(.int .i64 x0), (.int .i64 x1)] ++ arrD .i64 x2 16 ++ [(.int .i64 x3), (.int .i64 x4)])]) (cs := ([(.int .i64 x0), (.int .i64 x1)] ++ arrD .i64 x2 16 ++ [(.int .i64 x3), (.int .i64 x4)])) (k := .i64) (T := x2) (i := x3) (v := x6) (by kernel_rfl) (by kernel_rfl) (by kernel_rfl) (by kernel_rfl) (tbE h2)), .o 32 (fun _ => o_rem (k := .i64) (x := (wi (x3 + 1))) (y := (wi (x0 - 1))) (tbE h3))] (by kernel_rfl)
   ·exact ZN
theorem Zq7 (x0 x1 : Int) (x2 : List Int) (x3 x4 : Int) (x5 : Bool) : cl E0 75 [(V.ptr 0 1 0 0)] [(Blk.flat 82 20 [([(.int .i64 x0), (.int .i64 x1)] ++ arrD .i64 x2 16 ++ [(.int .i64 x3), (.int .i64 x4)])] x5)] = some ([(V.fn (.func 81) [] [(V.ptr 1 1 0 0)])], [(Blk.flat 82 20 [([(.int .i64 x0), (.int .i64 x1)] ++ arrD .i64 x2 16 ++ [(.int .i64 x3), (.int .i64 x4)])] x5), (Blk.gen 44 1 [[(V.ptr 0 1 0 0)]] false)]) := by
 exact w75 [] (by kernel_rfl)
def Zhl (x0 : List Int) (x5 : Int) : Bool := (bif tb (decide ((x0.length + [x5].length) * 8 ≤ 140737488355328)) then true else false)
theorem Zo1 (x0 : List Int) (x2 : Bool) (x5 : Int) : Zhl x0 x5 = true → cl E0 yfn [(V.yl 0), (V.d (.int .i64 x5))] [(Blk.loop .ready none [V.un, V.un, V.un, (V.ptr 1 1 0 0), V.un, V.un, V.un, V.un, V.un, V.un, V.un, V.un, V.un] [7] L53_0 L53_1 false), (Blk.gen 22 1 [[(V.so x2 2 x0.length)]] false), (Blk.flat 3 1 (List.map (encI .i64) x0) false)] = some ([(V.d (.bool true))], [(Blk.loop .ready none [V.un, V.un, V.un, (V.ptr 1 1 0 0), V.un, V.un, V.un, V.un, V.un, V.un, V.un, V.un, V.un] [7] L53_0 L53_1 false), (Blk.gen 22 1 [[(V.so false 2 ((x0 ++ [x5]).length))]] false), (Blk.flat 3 1 (List.map (encI .i64) (x0 ++ [x5])) false)]) := by
 unfold Zhl
 cases h1 : tb (decide ((x0.length + [x5].length) * 8 ≤ 140737488355328))
 ·exact ZN
 ·exact fun g0 => Z1j [.m 11 (Zjt (nl := x2) (m := [(Blk.loop .busy none [V.un, V.un, V.un, (V.ptr 1 1 0 0), V.un, V.un, V.un, V.un, V.un, V.un, V.un, V.un, V.un] [7] L53_0 L53_1 false), (Blk.gen 22 1 [[(V.so x2 2 x0.length)]] false), (Blk.flat 3 1 (List.map (encI .i64) x0) false), (Blk.flat 3 1 [[(.int .i64 x5)]] false)]) (enc := (encI .i64)) (l0 := x0) (l1 := [x5]) (id := 2) (e := 3) (s := 1) (bytes := 8) (x := (V.so false 3 1)) (n := x0.length) (Nat.beq_refl _) (by kernel_rfl) (by kernel_rfl) (by kernel_rfl) (tbE h1))] (by kernel_rfl)
structure Z9 where
 c2 : Int
 c4 : Bool
 c6 : List Int
 deriving Inhabited
def Zhx (x0 : List Int) (x1 x2 : Int) (x3 : List Int) (x4 x5 : Int) (x6 x7 x8 x9 x10 x11 : Bool) (x12 x13 x14 : Int) (s0 : Z9) : List V × Mem := ([(V.yl 0), (V.ptr 3 1 0 0), (V.d (.int .i64 x12)), (V.d (.int .i64 x13)), (V.d (.int .i64 s0.c2))], [(Blk.loop .ready none [V.un, V.un, V.un, (V.ptr 1 1 0 0), V.un, V.un, V.un, V.un, V.un, V.un, V.un, V.un, V.un] [7] L53_0 L53_1 false), (Blk.gen 22 1 [[(V.so s0.c4 2 s0.c6.length)]] false), (Blk.flat 3 1 (List.map (encI .i64) s0.c6) false), (Blk.gen 44 1 [[(V.ptr 4 1 0 0)]] x10), (Blk.flat 82 20 [([(.int .i64 x1), (.int .i64 x2)] ++ arrD .i64 x3 16 ++ [(.int .i64 x4), (.int .i64 x5)])] x11)])
def Zj6 (x3 : List Int) (x4 x5 x12 : Int) (s0 : Z9) : Int := gt x3 (remI .i64 (wi ((wi ((wi (x4 - x5)) + s0.c2)) + x12)) x12)
def Zd2 (x3 : List Int) (x4 x5 x12 : Int) (s0 : Z9) : Int := (Zj6 x3 x4 x5 x12 s0)
def Zb5 (x3 : List Int) (x4 x5 x12 x13 : Int) (s0 : Z9) : Bool := (bif tb (decide (s0.c2 < x13)) then (bif tb ((x12 : Int) == 0) then false else (bif tb (inb 16 (remI .i64 (wi ((wi ((wi (x4 - x5)) + s0.c2)) + x12)) x12)) then (bif tb (Zhl s0.c6 (Zd2 x3 x4 x5 x12 s0)) then true else false) else false)) else false)
def Zdw (x3 : List Int) (x4 x5 x12 x13 : Int) (s0 : Z9) : Z9 := ⟨(wi (s0.c2 + 1)), false, (s0.c6 ++ [(Zd2 x3 x4 x5 x12 s0)])⟩
def Zgs (x3 : List Int) (x4 x5 x12 x13 : Int) (s0 : Z9) : Bool := (itS (Zb5 x3 x4 x5 x12 x13) (Zdw x3 x4 x5 x12 x13) bound s0).isSome
def Zdr (x3 : List Int) (x4 x5 x12 x13 : Int) (s0 : Z9) : Z9 := (itS (Zb5 x3 x4 x5 x12 x13) (Zdw x3 x4 x5 x12 x13) bound s0).getD default
theorem Zm0 (x0 : List Int) (x1 x2 : Int) (x3 : List Int) (x4 x5 : Int) (x6 x7 x8 x9 x10 x11 : Bool) (x12 x13 x14 : Int) (s0 : Z9) : Zb5 x3 x4 x5 x12 x13 s0 = true → (roundG (runC E0 (cl E0) L81_0) [0, 1, 3, 15, 16] [] 5) (Zhx x0 x1 x2 x3 x4 x5 x6 x7 x8 x9 x10 x11 x12 x13 x14 s0) = some (.normal, Zhx x0 x1 x2 x3 x4 x5 x6 x7 x8 x9 x10 x11 x12 x13 x14 (Zdw x3 x4 x5 x12 x13 s0)) := by
 unfold Zb5 Zdw
 cases h1 : tb (decide (s0.c2 < x13))
 ·exact ZN
 ·cases h2 : tb ((x12 : Int) == 0)
  ·cases h3 : tb (inb 16 (remI .i64 (wi ((wi ((wi (x4 - x5)) + s0.c2)) + x12)) x12))
   ·exact ZN
   ·cases h4 : tb (Zhl s0.c6 (Zd2 x3 x4 x5 x12 s0))
    ·exact ZN
    ·exact fun _ => Zv [.b (tbE h1), .o 35 (fun _ => o_rem (k := .i64) (x := (wi ((wi ((wi (x4 - x5)) + s0.c2)) + x12))) (y := x12) (tbE h2)), .o 38 (fun _ => Z17 (id := 4) (nn := 1) (row := 0) (off := 2) (n := 16) (s := 1) (k := .i64) (i := (remI .i64 (wi ((wi ((wi (x4 - x5)) + s0.c2)) + x12)) x12)) (tbE h3)), .m 39 (Z2e (m := [(Blk.loop .ready none [V.un, V.un, V.un, (V.ptr 1 1 0 0), V.un, V.un, V.un, V.un, V.un, V.un, V.un, V.un, V.un] [7] L53_0 L53_1 true), (Blk.gen 22 1 [[(V.so s0.c4 2 s0.c6.length)]] true), (Blk.flat 3 1 (List.map (encI .i64) s0.c6) true), (Blk.gen 44 1 [[(V.ptr 4 1 0 0)]] true), (Blk.flat 82 20 [([(.int .i64 x1), (.int .i64 x2)] ++ arrD .i64 x3 16 ++ [(.int .i64 x4), (.int .i64 x5)])] true)]) (id := 4) (nn := 1) (row := 0) (off := 2) (n := 16) (k := .i64) (T := x3) (i := (remI .i64 (wi ((wi ((wi (x4 - x5)) + s0.c2)) + x12)) x12)) (by kernel_rfl) (tbE h3)), .c (Zo1 s0.c6 s0.c4 (Zd2 x3 x4 x5 x12 s0) (tbE h4)), .k false] (by kernel_rfl)
  ·exact ZN
def Zfv (x13 : Int) (s0 : Z9) : Bool := (bif tb (decide (s0.c2 < x13)) then false else true)
theorem Zm1 (x0 : List Int) (x1 x2 : Int) (x3 : List Int) (x4 x5 : Int) (x6 x7 x8 x9 x10 x11 : Bool) (x12 x13 x14 : Int) (s0 : Z9) : Zb5 x3 x4 x5 x12 x13 s0 = false → Zfv x13 s0 = true → (roundG (runC E0 (cl E0) L81_0) [0, 1, 3, 15, 16] [] 5) (Zhx x0 x1 x2 x3 x4 x5 x6 x7 x8 x9 x10 x11 x12 x13 x14 s0) = some ((.exit 0), ([], [(Blk.loop .ready none [V.un, V.un, V.un, (V.ptr 1 1 0 0), V.un, V.un, V.un, V.un, V.un, V.un, V.un, V.un, V.un] [7] L53_0 L53_1 false), (Blk.gen 22 1 [[(V.so s0.c4 2 s0.c6.length)]] false), (Blk.flat 3 1 (List.map (encI .i64) s0.c6) false), (Blk.gen 44 1 [[(V.ptr 4 1 0 0)]] x10), (Blk.flat 82 20 [([(.int .i64 x1), (.int .i64 x2)] ++ arrD .i64 x3 16 ++ [(.int .i64 x4), (.int .i64 x5)])] x11)])) := by
 unfold Zb5 Zfv
 cases h1 : tb (decide (s0.c2 < x13))
 ·intro g0 g1
  exact Zv [.b (tbE h1)] (by kernel_rfl)
 ·cases h2 : tb ((x12 : Int) == 0)
  ·cases h3 : tb (inb 16 (remI .i64 (wi ((wi ((wi (x4 - x5)) + s0.c2)) + x12)) x12))
   ·intro g0 g1
    exact absurd g1 ft
   ·cases h4 : tb (Zhl s0.c6 (Zd2 x3 x4 x5 x12 s0))
    ·intro g0 g1
     exact absurd g1 ft
    ·intro g0 g1
     exact absurd g0 tf
  ·intro g0 g1
   exact absurd g1 ft
theorem Zmo (x0 : List Int) (x1 x2 : Int) (x3 : List Int) (x4 x5 : Int) (x6 x7 x8 x9 x10 x11 : Bool) (x12 x13 x14 : Int) (s : Z9) (hok : Zgs x3 x4 x5 x12 x13 s = true) (c0 : Zfv x13 (Zdr x3 x4 x5 x12 x13 s) = true) : loopG (roundG (runC E0 (cl E0) L81_0) [0, 1, 3, 15, 16] [] 5) bound (Zhx x0 x1 x2 x3 x4 x5 x6 x7 x8 x9 x10 x11 x12 x13 x14 s) = some ((.exit 0), ([], [(Blk.loop .ready none [V.un, V.un, V.un, (V.ptr 1 1 0 0), V.un, V.un, V.un, V.un, V.un, V.un, V.un, V.un, V.un] [7] L53_0 L53_1 false), (Blk.gen 22 1 [[(V.so ((Zdr x3 x4 x5 x12 x13 s).c4) 2 (((Zdr x3 x4 x5 x12 x13 s).c6).length))]] false), (Blk.flat 3 1 (List.map (encI .i64) ((Zdr x3 x4 x5 x12 x13 s).c6)) false), (Blk.gen 44 1 [[(V.ptr 4 1 0 0)]] x10), (Blk.flat 82 20 [([(.int .i64 x1), (.int .i64 x2)] ++ arrD .i64 x3 16 ++ [(.int .i64 x4), (.int .i64 x5)])] x11)])) := by
 have e : itS (Zb5 x3 x4 x5 x12 x13) (Zdw x3 x4 x5 x12 x13) bound s = some (Zdr x3 x4 x5 x12 x13 s) := Zis hok
 have f := Zgz e
 exact Zil (Zm0 x0 x1 x2 x3 x4 x5 x6 x7 x8 x9 x10 x11 x12 x13 x14) bound s _ _ _ e (fun h => by cases h) (Zm1 x0 x1 x2 x3 x4 x5 x6 x7 x8 x9 x10 x11 x12 x13 x14 (Zdr x3 x4 x5 x12 x13 s) f c0)
def Za (x0 : List Int) (x1 : Int) (x3 : List Int) (x4 x5 : Int) (x7 : Bool) : Z9 := Zdr x3 x4 x5 (wi (x1 - 1)) x5 (⟨0, x7, x0⟩ : Z9)
def Zg7 (x0 : List Int) (x1 : Int) (x3 : List Int) (x4 x5 : Int) (x7 : Bool) : Bool := (bif tb (Zgs x3 x4 x5 (wi (x1 - 1)) x5 (⟨0, x7, x0⟩ : Z9)) then (bif tb (Zfv x5 (Za x0 x1 x3 x4 x5 x7)) then true else false) else false)
theorem Znc (x0 : List Int) (x1 x2 : Int) (x3 : List Int) (x4 x5 : Int) (x7 x10 x11 : Bool) : Zg7 x0 x1 x3 x4 x5 x7 = true → cl E0 81 [(V.yl 0), (V.ptr 3 1 0 0)] [(Blk.loop .ready none [V.un, V.un, V.un, (V.ptr 1 1 0 0), V.un, V.un, V.un, V.un, V.un, V.un, V.un, V.un, V.un] [7] L53_0 L53_1 false), (Blk.gen 22 1 [[(V.so x7 2 x0.length)]] false), (Blk.flat 3 1 (List.map (encI .i64) x0) false), (Blk.gen 44 1 [[(V.ptr 4 1 0 0)]] x10), (Blk.flat 82 20 [([(.int .i64 x1), (.int .i64 x2)] ++ arrD .i64 x3 16 ++ [(.int .i64 x4), (.int .i64 x5)])] x11)] = some ([], [(Blk.loop .ready none [V.un, V.un, V.un, (V.ptr 1 1 0 0), V.un, V.un, V.un, V.un, V.un, V.un, V.un, V.un, V.un] [7] L53_0 L53_1 false), (Blk.gen 22 1 [[(V.so ((Za x0 x1 x3 x4 x5 x7).c4) 2 (((Za x0 x1 x3 x4 x5 x7).c6).length))]] false), (Blk.flat 3 1 (List.map (encI .i64) ((Za x0 x1 x3 x4 x5 x7).c6)) false), (Blk.gen 44 1 [[(V.ptr 4 1 0 0)]] x10), (Blk.flat 82 20 [([(.int .i64 x1), (.int .i64 x2)] ++ arrD .i64 x3 16 ++ [(.int .i64 x4), (.int .i64 x5)])] x11)]) := by
 unfold Zg7
 cases h1 : tb (Zgs x3 x4 x5 (wi (x1 - 1)) x5 (⟨0, x7, x0⟩ : Z9))
 ·exact ZN
 ·cases h2 : tb (Zfv x5 (Za x0 x1 x3 x4 x5 x7))
  ·exact ZN
  ·exact fun g0 => w81 [.k false, .l (Zmo x0 x1 x2 x3 x4 x5 false x7 false false x10 x11 (wi (x1 - 1)) x5 0 (⟨0, x7, x0⟩ : Z9) (tbE h1) (tbE h2))] (by kernel_rfl)
def Zt (x0 : Int) (x2 : List Int) (x3 x4 : Int) : Bool := (bif tb (Zg7 ([] : List Int) x0 x2 x3 x4 true) then true else false)
theorem Zbd (x0 x1 : Int) (x2 : List Int) (x3 x4 : Int) (x5 : Bool) : Zt x0 x2 x3 x4 = true → cl E0 53 [(V.ptr 0 1 0 0)] [(Blk.flat 82 20 [([(.int .i64 x0), (.int .i64 x1)] ++ arrD .i64 x2 16 ++ [(.int .i64 x3), (.int .i64 x4)])] x5)] = some ([(V.so ((Za ([] : List Int) x0 x2 x3 x4 true).c4) 1 (((Za ([] : List Int) x0 x2 x3 x4 true).c6).length))], [(Blk.flat 82 20 [([(.int .i64 x0), (.int .i64 x1)] ++ arrD .i64 x2 16 ++ [(.int .i64 x3), (.int .i64 x4)])] x5), (Blk.flat 3 1 (List.map (encI .i64) ((Za ([] : List Int) x0 x2 x3 x4 true).c6)) false)]) := by
 unfold Zt
 cases h1 : tb (Zg7 ([] : List Int) x0 x2 x3 x4 true)
 ·exact ZN
 ·exact fun g0 => w53 [.c (Zq7 x0 x1 x2 x3 x4 x5), .c (Znc ([] : List Int) x0 x1 x2 x3 x4 true false x5 (tbE h1))] (by kernel_rfl)
def Zmc (x0 : Int) (x2 : List Int) (x3 x4 : Int) : Bool := ((Za ([] : List Int) x0 x2 x3 x4 true).c4)
def Zi1 (x0 : Int) (x2 : List Int) (x3 x4 : Int) : List Int := ((Za ([] : List Int) x0 x2 x3 x4 true).c6)
def Zp (x0 : Int) (x2 : List Int) (x3 x4 : Int) : Bool := (bif tb ((x4 : Int) == (wi (x0 - 1))) then (bif tb (Zt x0 x2 x3 x4) then (bif tb (Zjq (Zi1 x0 x2 x3 x4)) then true else false) else false) else true)
def Zo (x0 x1 : Int) (x2 : List Int) (x3 x4 : Int) : Bool := (bif tb ((x4 : Int) == (wi (x0 - 1))) then (decide (x1 < (Zjv (Zi1 x0 x2 x3 x4)))) else false)
theorem Z0 (x0 x1 : Int) (x2 : List Int) (x3 x4 : Int) (x5 : Bool) : Zp x0 x2 x3 x4 = true → cl E0 55 [(V.ptr 0 1 0 0)] [(Blk.flat 82 20 [([(.int .i64 x0), (.int .i64 x1)] ++ arrD .i64 x2 16 ++ [(.int .i64 x3), (.int .i64 x4)])] x5)] = some ([(V.d (.bool (Zo x0 x1 x2 x3 x4)))], [(Blk.flat 82 20 [([(.int .i64 x0), (.int .i64 x1)] ++ arrD .i64 x2 16 ++ [(.int .i64 x3), (.int .i64 x4)])] x5)]) := by
 unfold Zp Zo
 cases h1 : tb ((x4 : Int) == (wi (x0 - 1)))
 ·exact fun g0 => w55 [.k true, .b (tbE h1)] (by kernel_rfl)
 ·cases h2 : tb (Zt x0 x2 x3 x4)
  ·exact ZN
  ·cases h3 : tb (Zjq (Zi1 x0 x2 x3 x4))
   ·exact ZN
   ·exact fun g0 => w55 [.k true, .b (tbE h1), .c (Zbd x0 x1 x2 x3 x4 x5 (tbE h2)), .y (mm := [(Blk.flat 82 20 [([(.int .i64 x0), (.int .i64 x1)] ++ arrD .i64 x2 16 ++ [(.int .i64 x3), (.int .i64 x4)])] x5), (Blk.flat 3 1 (List.map (encI .i64) ((Za ([] : List Int) x0 x2 x3 x4 true).c6)) false)]) (args := [(V.so ((Za ([] : List Int) x0 x2 x3 x4 true).c4) 1 (((Za ([] : List Int) x0 x2 x3 x4 true).c6).length))]) (args1 := [(V.d (slD (encI .i64) true 1 ((Za ([] : List Int) x0 x2 x3 x4 true).c4) ((Za ([] : List Int) x0 x2 x3 x4 true).c6)))]) (Zc8 (Zhz (enc := (encI .i64)) (l := ((Za ([] : List Int) x0 x2 x3 x4 true).c6)) (b := ((Za ([] : List Int) x0 x2 x3 x4 true).c4)) (e := 3) (s := 1) (p := false) (n := (((Za ([] : List Int) x0 x2 x3 x4 true).c6).length)) (Nat.beq_refl _) (by kernel_rfl)) (by kernel_rfl)), .c (Zw2 (Zmc x0 x2 x3 x4) (Zi1 x0 x2 x3 x4) (tbE h3)), .e (u := (V.d (.int .i64 x1))) (u' := (V.d (.int .i64 x1))) rfl] (by kernel_rfl)
theorem Zcc (x0 x1 : Int) (x2 : List Int) (x3 x4 x5 x6 : Int) (x7 x8 : Bool) : cl E0 57 [(V.ptr 0 1 0 0)] [(Blk.gen 84 3 [[(V.ptr 1 1 0 0), (V.d (.int .i64 x5)), (V.d (.int .i64 x6))]] x7), (Blk.flat 82 20 [([(.int .i64 x0), (.int .i64 x1)] ++ arrD .i64 x2 16 ++ [(.int .i64 x3), (.int .i64 x4)])] x8)] = some ([(V.d (.int .i64 x6))], [(Blk.gen 84 3 [[(V.ptr 1 1 0 0), (V.d (.int .i64 x5)), (V.d (.int .i64 x6))]] x7), (Blk.flat 82 20 [([(.int .i64 x0), (.int .i64 x1)] ++ arrD .i64 x2 16 ++ [(.int .i64 x3), (.int .i64 x4)])] x8)]) := by
 exact w57 [.k false] (by kernel_rfl)
theorem Zgo (x0 x1 : Int) (x2 : List Int) (x3 x4 x5 x6 : Int) (x8 : Bool) : cl E0 50 [(V.ptr 0 1 0 0)] [(Blk.gen 84 3 [[(V.ptr 1 1 0 0), (V.d (.int .i64 x5)), (V.d (.int .i64 x6))]] false), (Blk.flat 82 20 [([(.int .i64 x0), (.int .i64 x1)] ++ arrD .i64 x2 16 ++ [(.int .i64 x3), (.int .i64 x4)])] x8)] = some ([], [(Blk.gen 84 3 [[(V.ptr 1 1 0 0), (V.d (.int .i64 x5)), (V.d (.int .i64 0))]] false), (Blk.flat 82 20 [([(.int .i64 x0), (.int .i64 x1)] ++ arrD .i64 x2 16 ++ [(.int .i64 x3), (.int .i64 x4)])] x8)]) := by
 exact w50 [.k true] (by kernel_rfl)
def Z6 (x0 : Int) (x2 : List Int) (x3 x4 x5 x6 x9 : Int) : Bool := (bif tb (Zc7 x9) then (bif tb ((x6 : Int) == 0) then (bif tb (((mnI 1 x0) : Int) == x0) then (bif tb (Zp x0 x2 x3 x4) then true else false) else true) else (bif tb ((x9 : Int) != x5) then (bif tb (((mnI 1 x0) : Int) == x0) then (bif tb (Zp x0 x2 x3 x4) then true else false) else true) else (bif tb (((mnI (wi (x6 + 1)) x0) : Int) == x0) then (bif tb (Zp x0 x2 x3 x4) then true else false) else true))) else true)
def Zg (x0 x1 : Int) (x2 : List Int) (x3 x4 x5 x6 x9 : Int) : Bool := (bif tb (Zc7 x9) then (bif tb ((x6 : Int) == 0) then (bif tb (((mnI 1 x0) : Int) == x0) then (Zo x0 x1 x2 x3 x4) else false) else (bif tb ((x9 : Int) != x5) then (bif tb (((mnI 1 x0) : Int) == x0) then (Zo x0 x1 x2 x3 x4) else false) else (bif tb (((mnI (wi (x6 + 1)) x0) : Int) == x0) then (Zo x0 x1 x2 x3 x4) else false))) else false)
def Zf (x9 : Int) : Int := (bif tb (Zc7 x9) then 0 else 1)
def Z7 (x5 x9 : Int) : Int := (bif tb (Zc7 x9) then x9 else x5)
def Z8 (x0 x5 x6 x9 : Int) : Int := (bif tb (Zc7 x9) then (bif tb ((x6 : Int) == 0) then (mnI 1 x0) else (bif tb ((x9 : Int) != x5) then (mnI 1 x0) else (mnI (wi (x6 + 1)) x0))) else x6)
theorem Zu (x0 x1 : Int) (x2 : List Int) (x3 x4 x5 x6 : Int) (x8 : Bool) (x9 : Int) : Z6 x0 x2 x3 x4 x5 x6 x9 = true → cl E0 51 [(V.ptr 0 1 0 0), (V.d (.int .i64 x9))] [(Blk.gen 84 3 [[(V.ptr 1 1 0 0), (V.d (.int .i64 x5)), (V.d (.int .i64 x6))]] false), (Blk.flat 82 20 [([(.int .i64 x0), (.int .i64 x1)] ++ arrD .i64 x2 16 ++ [(.int .i64 x3), (.int .i64 x4)])] x8)] = some ([(V.d (.bool (Zg x0 x1 x2 x3 x4 x5 x6 x9))), (V.d (.int .i64 (Zf x9)))], [(Blk.gen 84 3 [[(V.ptr 1 1 0 0), (V.d (.int .i64 (Z7 x5 x9))), (V.d (.int .i64 (Z8 x0 x5 x6 x9)))]] false), (Blk.flat 82 20 [([(.int .i64 x0), (.int .i64 x1)] ++ arrD .i64 x2 16 ++ [(.int .i64 x3), (.int .i64 x4)])] x8)]) := by
 unfold Z6 Zg Zf Z7 Z8
 cases h1 : tb (Zc7 x9)
 ·exact fun g0 => w51 [.k false, .c (Zin x9), .b (notF (tbE h1))] (by kernel_rfl)
 ·cases h2 : tb ((x6 : Int) == 0)
  ·cases h3 : tb ((x9 : Int) != x5)
   ·cases h4 : tb (((mnI (wi (x6 + 1)) x0) : Int) == x0)
    ·exact fun g0 => w51 [.k false, .c (Zin x9), .b (notT (tbE h1)), .b (tbE h2), .b (tbE h3), .b (tbE h4)] (by kernel_rfl)
    ·cases h5 : tb (Zp x0 x2 x3 x4)
     ·exact ZN
     ·exact fun g0 => w51 [.k false, .c (Zin x9), .b (notT (tbE h1)), .b (tbE h2), .b (tbE h3), .b (tbE h4), .c (Z0 x0 x1 x2 x3 x4 x8 (tbE h5))] (by kernel_rfl)
   ·cases h4 : tb (((mnI 1 x0) : Int) == x0)
    ·exact fun g0 => w51 [.k false, .c (Zin x9), .b (notT (tbE h1)), .b (tbE h2), .b (tbE h3), .b (tbE h4)] (by kernel_rfl)
    ·cases h5 : tb (Zp x0 x2 x3 x4)
     ·exact ZN
     ·exact fun g0 => w51 [.k false, .c (Zin x9), .b (notT (tbE h1)), .b (tbE h2), .b (tbE h3), .b (tbE h4), .c (Z0 x0 x1 x2 x3 x4 x8 (tbE h5))] (by kernel_rfl)
  ·cases h3 : tb (((mnI 1 x0) : Int) == x0)
   ·exact fun g0 => w51 [.k false, .c (Zin x9), .b (notT (tbE h1)), .b (tbE h2), .b (tbE h3)] (by kernel_rfl)
   ·cases h4 : tb (Zp x0 x2 x3 x4)
    ·exact ZN
    ·exact fun g0 => w51 [.k false, .c (Zin x9), .b (notT (tbE h1)), .b (tbE h2), .b (tbE h3), .c (Z0 x0 x1 x2 x3 x4 x8 (tbE h4))] (by kernel_rfl)
theorem Zua  : cl E0 50 [(V.d .nilp)] [] = some ([], []) := by
 exact w50 [.k false] (by kernel_rfl)
theorem Ztj (x0 : Int) : cl E0 51 [(V.d .nilp), (V.d (.int .i64 x0))] [] = some ([(V.d (.bool false)), (V.d (.int .i64 1))], []) := by
 exact w51 [.k true] (by kernel_rfl)
theorem Zpi (x0 : Int) : cl E0 48 [(V.d .nilp), (V.d (.int .i64 x0))] [] = some ([(V.d (.int .i64 1))], []) := by
 exact w48 [.k true] (by kernel_rfl)
theorem Zt0  : cl E0 75 [(V.d .nilp)] [] = some ([(V.fn (.func 81) [] [(V.ptr 0 1 0 0)])], [(Blk.gen 44 1 [[(V.d .nilp)]] false)]) := by
 exact w75 [] (by kernel_rfl)
theorem Zn4 (x0 : List Int) (x1 x2 x3 x4 x5 : Bool) : cl E0 81 [(V.yl 0), (V.ptr 3 1 0 0)] [(Blk.loop .ready none [V.un, V.un, V.un, (V.ptr 1 1 0 0), V.un, V.un, V.un, V.un, V.un, V.un, V.un, V.un, V.un] [7] L53_0 L53_1 x1), (Blk.gen 22 1 [[(V.so x2 2 x0.length)]] x3), (Blk.flat 3 1 (List.map (encI .i64) x0) x4), (Blk.gen 44 1 [[(V.d .nilp)]] x5)] = some ([], [(Blk.loop .ready none [V.un, V.un, V.un, (V.ptr 1 1 0 0), V.un, V.un, V.un, V.un, V.un, V.un, V.un, V.un, V.un] [7] L53_0 L53_1 x1), (Blk.gen 22 1 [[(V.so x2 2 x0.length)]] x3), (Blk.flat 3 1 (List.map (encI .i64) x0) x4), (Blk.gen 44 1 [[(V.d .nilp)]] x5)]) := by
 exact w81 [.k true] (by kernel_rfl)
theorem Zpl  : cl E0 53 [(V.d .nilp)] [] = some ([(V.so true 0 (([] : List Int).length))], [(Blk.flat 3 1 (List.map (encI .i64) ([] : List Int)) false)]) := by
 exact w53 [.c (Zt0), .c (Zn4 ([] : List Int) false true false false false)] (by kernel_rfl)
theorem Zt9  : cl E0 55 [(V.d .nilp)] [] = some ([(V.d (.bool false))], []) := by
 exact w55 [.k false] (by kernel_rfl)
theorem Zut  : cl E0 57 [(V.d .nilp)] [] = some ([(V.d (.int .i64 0))], []) := by
 exact w57 [.k true] (by kernel_rfl)
end Go.Proofs.Ytdlhhoejnhjbhaa.Den
