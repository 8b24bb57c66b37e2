/- OutputTells: part 7 of what its proof rests on: an evaluator of the program's code, proved sound; plain functions printed from the code by a program of this session, with proofs; plain laws. No condition. -/
import Derived.Test.YtkipngagfiaddaaDenoutputTells6
import Derived.Test.YtkipngagfiaddaaRows

namespace Go.Proofs.Ytkipngagfiaddaa.Den
open Go Go.Proofs
set_option maxRecDepth 100000
set_option maxHeartbeats 4000000
set_option linter.unusedVariables false
set_option linter.unusedSimpArgs false
structure Zj where
 c0 : Int
 deriving Inhabited
def Zd4 (x0 : Int) (x1 : List Int) (x2 : List R_i64_i64_i64_bool) (x3 : Bool) (x4 : Int) (s0 : Zj) : List V × Mem := ([(V.ptr 0 1 0 0), (V.d (.int .i64 s0.c0))], [(Blk.flat 55 41 [([(.int .i64 x0)] ++ arrD .i64 x1 8 ++ arrE Za x2 8)] x3)])
def Zbd (x1 : List Int) (x2 : List R_i64_i64_i64_bool) (s0 : Zj) : Bool := (bif tb (decide (s0.c0 < 8)) then (bif tb (inb 8 s0.c0) then (bif tb (Ze6 (gt x2 s0.c0).c0 (gt x2 s0.c0).c1 (gt x2 s0.c0).c2 (gt x2 s0.c0).c3) then (bif tb (Zea (gt x2 s0.c0).c0 (gt x2 s0.c0).c1 (gt x2 s0.c0).c2 (gt x2 s0.c0).c3) then (bif tb (decide ((gt x1 s0.c0) < (-2147483648))) then false else (bif tb (decide (2147483647 < (gt x1 s0.c0))) then false else true)) else false) else false) else false) else false)
def Zdf (x1 : List Int) (x2 : List R_i64_i64_i64_bool) (s0 : Zj) : Zj := ⟨(wi (s0.c0 + 1))⟩
def Zcb (x1 : List Int) (x2 : List R_i64_i64_i64_bool) (s0 : Zj) : Bool := (itS (Zbd x1 x2) (Zdf x1 x2) bound s0).isSome
def Zb8 (x1 : List Int) (x2 : List R_i64_i64_i64_bool) (s0 : Zj) : Zj := (itS (Zbd x1 x2) (Zdf x1 x2) bound s0).getD default
theorem Zkl (x0 : Int) (x1 : List Int) (x2 : List R_i64_i64_i64_bool) (x3 : Bool) (x4 : Int) (s0 : Zj) : Zbd x1 x2 s0 = true → (roundG (runC E0 (cl E0) L24_0) [1, 3] [1, 2] 1) (Zd4 x0 x1 x2 x3 x4 s0) = some (.normal, Zd4 x0 x1 x2 x3 x4 (Zdf x1 x2 s0)) := by
 unfold Zbd Zdf
 cases h1 : tb (decide (s0.c0 < 8))
 ·exact ZN
 ·cases h2 : tb (inb 8 s0.c0)
  ·exact ZN
  ·cases h3 : tb (Ze6 (gt x2 s0.c0).c0 (gt x2 s0.c0).c1 (gt x2 s0.c0).c2 (gt x2 s0.c0).c3)
   ·exact ZN
   ·cases h4 : tb (Zea (gt x2 s0.c0).c0 (gt x2 s0.c0).c1 (gt x2 s0.c0).c2 (gt x2 s0.c0).c3)
    ·exact ZN
    ·cases h5 : tb (decide ((gt x1 s0.c0) < (-2147483648)))
     ·cases h6 : tb (decide (2147483647 < (gt x1 s0.c0)))
      ·exact fun _ => Z8 [.b (tbE h1), .o 11 (fun _ => Zim (id := 0) (nn := 1) (row := 0) (off := 9) (n := 8) (s := 4) (k := .i64) (i := s0.c0) (tbE h2)), .m 12 (Zn2 (m := [(Blk.flat 55 41 [([(.int .i64 x0)] ++ arrD .i64 x1 8 ++ arrE Za x2 8)] x3)]) (enc := Za) (z := 4) (fun _ => rfl) (by decide) (id := 0) (nn := 1) (row := 0) (off := 9) (n := 8) (o := 0) (size := 4) (agg := true) (T := x2) (i := s0.c0) (v := (V.agg [(V.d (.int .i64 (gt x2 s0.c0).c0)), (V.d (.int .i64 (gt x2 s0.c0).c1)), (V.d (.int .i64 (gt x2 s0.c0).c2)), (V.d (.bool (gt x2 s0.c0).c3))])) (by kernel_rfl) (tbE h2) (by kernel_rfl)), .c (Zhr (gt x2 s0.c0).c0 (gt x2 s0.c0).c1 (gt x2 s0.c0).c2 (gt x2 s0.c0).c3 (tbE h3)), .b (notT (tbE h4)), .o 19 (fun _ => Zim (id := 0) (nn := 1) (row := 0) (off := 1) (n := 8) (s := 1) (k := .i64) (i := s0.c0) (tbE h2)), .m 20 (Zpt (m := [(Blk.flat 55 41 [([(.int .i64 x0)] ++ arrD .i64 x1 8 ++ arrE Za x2 8)] x3)]) (id := 0) (nn := 1) (row := 0) (off := 1) (n := 8) (k := .i64) (T := x1) (i := s0.c0) (by kernel_rfl) (tbE h2)), .b (tbE h5), .o 26 (fun _ => Zim (id := 0) (nn := 1) (row := 0) (off := 1) (n := 8) (s := 1) (k := .i64) (i := s0.c0) (tbE h2)), .m 27 (Zpt (m := [(Blk.flat 55 41 [([(.int .i64 x0)] ++ arrD .i64 x1 8 ++ arrE Za x2 8)] x3)]) (id := 0) (nn := 1) (row := 0) (off := 1) (n := 8) (k := .i64) (T := x1) (i := s0.c0) (by kernel_rfl) (tbE h2)), .b (tbE h6)] (by kernel_rfl)
      ·exact ZN
     ·exact ZN
def Zbi (x2 : List R_i64_i64_i64_bool) (s0 : Zj) : Bool := (bif tb (decide (s0.c0 < 8)) then (bif tb (inb 8 s0.c0) then (bif tb (Ze6 (gt x2 s0.c0).c0 (gt x2 s0.c0).c1 (gt x2 s0.c0).c2 (gt x2 s0.c0).c3) then true else false) else false) else false)
def Zdd (s0 : Zj) : Bool := (bif tb (decide (s0.c0 < 8)) then false else true)
theorem Zn3 (x0 : Int) (x1 : List Int) (x2 : List R_i64_i64_i64_bool) (x3 : Bool) (x4 : Int) (s0 : Zj) : Zbd x1 x2 s0 = false → Zbi x2 s0 = true → (roundG (runC E0 (cl E0) L24_0) [1, 3] [1, 2] 1) (Zd4 x0 x1 x2 x3 x4 s0) = some (.ret, ([(V.ptr 0 1 0 0), (V.d (.bool false))], [(Blk.flat 55 41 [([(.int .i64 x0)] ++ arrD .i64 x1 8 ++ arrE Za x2 8)] x3)])) := by
 unfold Zbd Zbi
 cases h1 : tb (decide (s0.c0 < 8))
 ·intro g0 g1
  exact absurd g1 ft
 ·cases h2 : tb (inb 8 s0.c0)
  ·intro g0 g1
   exact absurd g1 ft
  ·cases h3 : tb (Ze6 (gt x2 s0.c0).c0 (gt x2 s0.c0).c1 (gt x2 s0.c0).c2 (gt x2 s0.c0).c3)
   ·intro g0 g1
    exact absurd g1 ft
   ·cases h4 : tb (Zea (gt x2 s0.c0).c0 (gt x2 s0.c0).c1 (gt x2 s0.c0).c2 (gt x2 s0.c0).c3)
    ·intro g0 g1
     exact Z8 [.b (tbE h1), .o 11 (fun _ => Zim (id := 0) (nn := 1) (row := 0) (off := 9) (n := 8) (s := 4) (k := .i64) (i := s0.c0) (tbE h2)), .m 12 (Zn2 (m := [(Blk.flat 55 41 [([(.int .i64 x0)] ++ arrD .i64 x1 8 ++ arrE Za x2 8)] x3)]) (enc := Za) (z := 4) (fun _ => rfl) (by decide) (id := 0) (nn := 1) (row := 0) (off := 9) (n := 8) (o := 0) (size := 4) (agg := true) (T := x2) (i := s0.c0) (v := (V.agg [(V.d (.int .i64 (gt x2 s0.c0).c0)), (V.d (.int .i64 (gt x2 s0.c0).c1)), (V.d (.int .i64 (gt x2 s0.c0).c2)), (V.d (.bool (gt x2 s0.c0).c3))])) (by kernel_rfl) (tbE h2) (by kernel_rfl)), .c (Zhr (gt x2 s0.c0).c0 (gt x2 s0.c0).c1 (gt x2 s0.c0).c2 (gt x2 s0.c0).c3 (tbE h3)), .b (notF (tbE h4))] (by kernel_rfl)
    ·cases h5 : tb (decide ((gt x1 s0.c0) < (-2147483648)))
     ·cases h6 : tb (decide (2147483647 < (gt x1 s0.c0)))
      ·intro g0 g1
       exact absurd g0 tf
      ·intro g0 g1
       exact Z8 [.b (tbE h1), .o 11 (fun _ => Zim (id := 0) (nn := 1) (row := 0) (off := 9) (n := 8) (s := 4) (k := .i64) (i := s0.c0) (tbE h2)), .m 12 (Zn2 (m := [(Blk.flat 55 41 [([(.int .i64 x0)] ++ arrD .i64 x1 8 ++ arrE Za x2 8)] x3)]) (enc := Za) (z := 4) (fun _ => rfl) (by decide) (id := 0) (nn := 1) (row := 0) (off := 9) (n := 8) (o := 0) (size := 4) (agg := true) (T := x2) (i := s0.c0) (v := (V.agg [(V.d (.int .i64 (gt x2 s0.c0).c0)), (V.d (.int .i64 (gt x2 s0.c0).c1)), (V.d (.int .i64 (gt x2 s0.c0).c2)), (V.d (.bool (gt x2 s0.c0).c3))])) (by kernel_rfl) (tbE h2) (by kernel_rfl)), .c (Zhr (gt x2 s0.c0).c0 (gt x2 s0.c0).c1 (gt x2 s0.c0).c2 (gt x2 s0.c0).c3 (tbE h3)), .b (notT (tbE h4)), .o 19 (fun _ => Zim (id := 0) (nn := 1) (row := 0) (off := 1) (n := 8) (s := 1) (k := .i64) (i := s0.c0) (tbE h2)), .m 20 (Zpt (m := [(Blk.flat 55 41 [([(.int .i64 x0)] ++ arrD .i64 x1 8 ++ arrE Za x2 8)] x3)]) (id := 0) (nn := 1) (row := 0) (off := 1) (n := 8) (k := .i64) (T := x1) (i := s0.c0) (by kernel_rfl) (tbE h2)), .b (tbE h5), .o 26 (fun _ => Zim (id := 0) (nn := 1) (row := 0) (off := 1) (n := 8) (s := 1) (k := .i64) (i := s0.c0) (tbE h2)), .m 27 (Zpt (m := [(Blk.flat 55 41 [([(.int .i64 x0)] ++ arrD .i64 x1 8 ++ arrE Za x2 8)] x3)]) (id := 0) (nn := 1) (row := 0) (off := 1) (n := 8) (k := .i64) (T := x1) (i := s0.c0) (by kernel_rfl) (tbE h2)), .b (tbE h6)] (by kernel_rfl)
     ·intro g0 g1
      exact Z8 [.b (tbE h1), .o 11 (fun _ => Zim (id := 0) (nn := 1) (row := 0) (off := 9) (n := 8) (s := 4) (k := .i64) (i := s0.c0) (tbE h2)), .m 12 (Zn2 (m := [(Blk.flat 55 41 [([(.int .i64 x0)] ++ arrD .i64 x1 8 ++ arrE Za x2 8)] x3)]) (enc := Za) (z := 4) (fun _ => rfl) (by decide) (id := 0) (nn := 1) (row := 0) (off := 9) (n := 8) (o := 0) (size := 4) (agg := true) (T := x2) (i := s0.c0) (v := (V.agg [(V.d (.int .i64 (gt x2 s0.c0).c0)), (V.d (.int .i64 (gt x2 s0.c0).c1)), (V.d (.int .i64 (gt x2 s0.c0).c2)), (V.d (.bool (gt x2 s0.c0).c3))])) (by kernel_rfl) (tbE h2) (by kernel_rfl)), .c (Zhr (gt x2 s0.c0).c0 (gt x2 s0.c0).c1 (gt x2 s0.c0).c2 (gt x2 s0.c0).c3 (tbE h3)), .b (notT (tbE h4)), .o 19 (fun _ => Zim (id := 0) (nn := 1) (row := 0) (off := 1) (n := 8) (s := 1) (k := .i64) (i := s0.c0) (tbE h2)), .m 20 (Zpt (m := [(Blk.flat 55 41 [([(.int .i64 x0)] ++ arrD .i64 x1 8 ++ arrE Za x2 8)] x3)]) (id := 0) (nn := 1) (row := 0) (off := 1) (n := 8) (k := .i64) (T := x1) (i := s0.c0) (by kernel_rfl) (tbE h2)), .b (tbE h5)] (by kernel_rfl)
theorem Zn8 (x0 : Int) (x1 : List Int) (x2 : List R_i64_i64_i64_bool) (x3 : Bool) (x4 : Int) (s0 : Zj) : Zbd x1 x2 s0 = false → Zbi x2 s0 = false → Zdd s0 = true → (roundG (runC E0 (cl E0) L24_0) [1, 3] [1, 2] 1) (Zd4 x0 x1 x2 x3 x4 s0) = some ((.exit 0), ([(V.ptr 0 1 0 0), V.un], [(Blk.flat 55 41 [([(.int .i64 x0)] ++ arrD .i64 x1 8 ++ arrE Za x2 8)] x3)])) := by
 unfold Zbd Zbi Zdd
 cases h1 : tb (decide (s0.c0 < 8))
 ·intro g0 g1 g2
  exact Z8 [.b (tbE h1)] (by kernel_rfl)
 ·cases h2 : tb (inb 8 s0.c0)
  ·intro g0 g1 g2
   exact absurd g2 ft
  ·cases h3 : tb (Ze6 (gt x2 s0.c0).c0 (gt x2 s0.c0).c1 (gt x2 s0.c0).c2 (gt x2 s0.c0).c3)
   ·intro g0 g1 g2
    exact absurd g2 ft
   ·cases h4 : tb (Zea (gt x2 s0.c0).c0 (gt x2 s0.c0).c1 (gt x2 s0.c0).c2 (gt x2 s0.c0).c3)
    ·intro g0 g1 g2
     exact absurd g1 tf
    ·cases h5 : tb (decide ((gt x1 s0.c0) < (-2147483648)))
     ·cases h6 : tb (decide (2147483647 < (gt x1 s0.c0)))
      ·intro g0 g1 g2
       exact absurd g0 tf
      ·intro g0 g1 g2
       exact absurd g1 tf
     ·intro g0 g1 g2
      exact absurd g1 tf
theorem Znd (x0 : Int) (x1 : List Int) (x2 : List R_i64_i64_i64_bool) (x3 : Bool) (x4 : Int) (s : Zj) (hok : Zcb x1 x2 s = true) (c0 : Zbi x2 (Zb8 x1 x2 s) = true) : loopG (roundG (runC E0 (cl E0) L24_0) [1, 3] [1, 2] 1) bound (Zd4 x0 x1 x2 x3 x4 s) = some (.ret, ([(V.ptr 0 1 0 0), (V.d (.bool false))], [(Blk.flat 55 41 [([(.int .i64 x0)] ++ arrD .i64 x1 8 ++ arrE Za x2 8)] x3)])) := by
 have e : itS (Zbd x1 x2) (Zdf x1 x2) bound s = some (Zb8 x1 x2 s) := Zgn hok
 have f := Ze1 e
 exact Zgh (Zkl x0 x1 x2 x3 x4) bound s _ _ _ e (fun h => by cases h) (Zn3 x0 x1 x2 x3 x4 (Zb8 x1 x2 s) f c0)
theorem Zng (x0 : Int) (x1 : List Int) (x2 : List R_i64_i64_i64_bool) (x3 : Bool) (x4 : Int) (s : Zj) (hok : Zcb x1 x2 s = true) (c0 : Zbi x2 (Zb8 x1 x2 s) = false) (c1 : Zdd (Zb8 x1 x2 s) = true) : loopG (roundG (runC E0 (cl E0) L24_0) [1, 3] [1, 2] 1) bound (Zd4 x0 x1 x2 x3 x4 s) = some ((.exit 0), ([(V.ptr 0 1 0 0), V.un], [(Blk.flat 55 41 [([(.int .i64 x0)] ++ arrD .i64 x1 8 ++ arrE Za x2 8)] x3)])) := by
 have e : itS (Zbd x1 x2) (Zdf x1 x2) bound s = some (Zb8 x1 x2 s) := Zgn hok
 have f := Ze1 e
 exact Zgh (Zkl x0 x1 x2 x3 x4) bound s _ _ _ e (fun h => by cases h) (Zn8 x0 x1 x2 x3 x4 (Zb8 x1 x2 s) f c0 c1)
def Zcc (x1 : List Int) (x2 : List R_i64_i64_i64_bool) : Zj := Zb8 x1 x2 (⟨0⟩ : Zj)
def Zbq (x1 : List Int) (x2 : List R_i64_i64_i64_bool) : Bool := (bif tb (Zcb x1 x2 (⟨0⟩ : Zj)) then (bif tb (Zbi x2 (Zcc x1 x2)) then true else false) else false)
def Zef (x1 : List Int) (x2 : List R_i64_i64_i64_bool) : Bool := (bif tb (Zcb x1 x2 (⟨0⟩ : Zj)) then (bif tb (Zbi x2 (Zcc x1 x2)) then false else (bif tb (Zdd (Zcc x1 x2)) then true else false)) else false)
theorem Zn9 (x0 : Int) (x1 : List Int) (x2 : List R_i64_i64_i64_bool) (x3 : Bool) : Zbq x1 x2 = true → segG (runC E0 (cl E0) S24_1) [1] [2] [1] 1 ([(V.ptr 0 1 0 0)], [(Blk.flat 55 41 [([(.int .i64 x0)] ++ arrD .i64 x1 8 ++ arrE Za x2 8)] x3)]) = some (.ret, ([(V.d (.bool false))], [(Blk.flat 55 41 [([(.int .i64 x0)] ++ arrD .i64 x1 8 ++ arrE Za x2 8)] x3)])) := by
 unfold Zbq
 cases h1 : tb (Zcb x1 x2 (⟨0⟩ : Zj))
 ·exact ZN
 ·cases h2 : tb (Zbi x2 (Zcc x1 x2))
  ·cases h3 : tb (Zdd (Zcc x1 x2))
   ·exact ZN
   ·exact ZN
  ·exact fun g0 => Zbh [.l (Znd x0 x1 x2 x3 0 (⟨0⟩ : Zj) (tbE h1) (tbE h2))] (by kernel_rfl)
theorem Zn1 (x0 : Int) (x1 : List Int) (x2 : List R_i64_i64_i64_bool) (x3 : Bool) : Zbq x1 x2 = false → Zef x1 x2 = true → segG (runC E0 (cl E0) S24_1) [1] [2] [1] 1 ([(V.ptr 0 1 0 0)], [(Blk.flat 55 41 [([(.int .i64 x0)] ++ arrD .i64 x1 8 ++ arrE Za x2 8)] x3)]) = some (.normal, ([(V.ptr 0 1 0 0)], [(Blk.flat 55 41 [([(.int .i64 x0)] ++ arrD .i64 x1 8 ++ arrE Za x2 8)] x3)])) := by
 unfold Zbq Zef
 cases h1 : tb (Zcb x1 x2 (⟨0⟩ : Zj))
 ·intro g0 g1
  exact absurd g1 ft
 ·cases h2 : tb (Zbi x2 (Zcc x1 x2))
  ·cases h3 : tb (Zdd (Zcc x1 x2))
   ·intro g0 g1
    exact absurd g1 ft
   ·intro g0 g1
    exact Zbh [.l (Zng x0 x1 x2 x3 0 (⟨0⟩ : Zj) (tbE h1) (tbE h2) (tbE h3))] (by kernel_rfl)
  ·intro g0 g1
   exact absurd g0 tf
def Zfb (x0 : Int) : Bool := (bif tb (decide (0 ≤ x0)) then (decide (x0 ≤ 65535)) else false)
theorem Zn6 (x0 : Int) (x1 : List Int) (x2 : List R_i64_i64_i64_bool) (x3 : Bool) : segG (runC E0 (cl E0) S24_2) [1] [] [2] 1 ([(V.ptr 0 1 0 0)], [(Blk.flat 55 41 [([(.int .i64 x0)] ++ arrD .i64 x1 8 ++ arrE Za x2 8)] x3)]) = some (.normal, ([(V.d (.bool (Zfb x0)))], [(Blk.flat 55 41 [([(.int .i64 x0)] ++ arrD .i64 x1 8 ++ arrE Za x2 8)] x3)])) := by
 unfold Zfb
 cases h1 : tb (decide (0 ≤ x0))
 ·exact Zbh [.b (tbE h1)] (by kernel_rfl)
 ·exact Zbh [.b (tbE h1)] (by kernel_rfl)
def Zcp (x1 : List Int) (x2 : List R_i64_i64_i64_bool) : Bool := (bif tb (Zbq x1 x2) then true else (bif tb (Zef x1 x2) then true else false))
def Z2 (x0 : Int) (x1 : List Int) (x2 : List R_i64_i64_i64_bool) : Bool := (bif tb (Zbq x1 x2) then false else (Zfb x0))
theorem Zg6 (x0 : Int) (x1 : List Int) (x2 : List R_i64_i64_i64_bool) : Zcp x1 x2 = true → cl E0 24 [(V.agg (List.map V.d ([(.int .i64 x0)] ++ arrD .i64 x1 8 ++ arrE Za x2 8)))] [] = some ([(V.d (.bool (Z2 x0 x1 x2)))], []) := by
 unfold Zcp Z2
 cases h1 : tb (Zbq x1 x2)
 ·cases h2 : tb (Zef x1 x2)
  ·exact ZN
  ·exact fun g0 => w24 [.s (Zn1 x0 x1 x2 false (tbE h1) (tbE h2)), .s (Zn6 x0 x1 x2 false)] (by kernel_rfl)
 ·exact fun g0 => w24 [.s (Zn9 x0 x1 x2 false (tbE h1))] (by kernel_rfl)
def Zbp (x5 : Bool) : Bool := (bif tb (x5) then true else false)
theorem Znv (x0 : Int) (x1 : List Int) (x2 : List R_i64_i64_i64_bool) (x3 x4 x5 : Bool) : Zbp x5 = true → segG (runC E0 (cl E0) S19_0) [1, 4] [2, 3] [1] 2 ([(V.ptr 0 1 0 0), (V.d (.bool x5))], [(Blk.flat 55 41 [([(.int .i64 x0)] ++ arrD .i64 x1 8 ++ arrE Za x2 8)] x3), (Blk.flat 5 1 [] x4)]) = some (.normal, ([(V.ptr 0 1 0 0)], [(Blk.flat 55 41 [([(.int .i64 x0)] ++ arrD .i64 x1 8 ++ arrE Za x2 8)] x3), (Blk.flat 5 1 [] x4)])) := by
 unfold Zbp
 cases h1 : tb (x5)
 ·exact ZN
 ·exact fun g0 => Zbh [.b (notT (tbE h1))] (by kernel_rfl)
theorem Znm (x0 : Int) (x1 : List Int) (x2 : List R_i64_i64_i64_bool) (x3 x4 x5 : Bool) : Zbp x5 = false → segG (runC E0 (cl E0) S19_0) [1, 4] [2, 3] [1] 2 ([(V.ptr 0 1 0 0), (V.d (.bool x5))], [(Blk.flat 55 41 [([(.int .i64 x0)] ++ arrD .i64 x1 8 ++ arrE Za x2 8)] x3), (Blk.flat 5 1 [] x4)]) = some (.ret, ([(V.so true 2 0), (V.d (.int .i64 1))], [(Blk.flat 55 41 [([(.int .i64 x0)] ++ arrD .i64 x1 8 ++ arrE Za x2 8)] x3), (Blk.flat 5 1 [] x4), (Blk.flat 5 1 [] false)])) := by
 unfold Zbp
 cases h1 : tb (x5)
 ·exact fun g0 => Zbh [.b (notF (tbE h1))] (by kernel_rfl)
 ·exact fun g0 => absurd g0 tf
structure Zp where
 c0 : Int
 c1 : Int
 deriving Inhabited
def Zgb (x0 : Int) (x1 : List Int) (x2 : List R_i64_i64_i64_bool) (x3 : Bool) (x4 x5 : Int) (s0 : Zp) : List V × Mem := ([(V.ptr 0 1 0 0), (V.d (.int .i64 s0.c0)), (V.d (.int .i64 s0.c1))], [(Blk.flat 55 41 [([(.int .i64 x0)] ++ arrD .i64 x1 8 ++ arrE Za x2 8)] x3)])
def Zb6 (x2 : List R_i64_i64_i64_bool) (s0 : Zp) : Bool := (bif tb (decide (s0.c1 < 8)) then (bif tb (inb 8 s0.c1) then true else false) else false)
def Zda (x2 : List R_i64_i64_i64_bool) (s0 : Zp) : Zp := (bif tb (gt x2 s0.c1).c3 then ⟨(wi (s0.c0 + 1)), (wi (s0.c1 + 1))⟩ else ⟨s0.c0, (wi (s0.c1 + 1))⟩)
def Zgg (x2 : List R_i64_i64_i64_bool) (s0 : Zp) : Bool := (itS (Zb6 x2) (Zda x2) bound s0).isSome
def Zdw (x2 : List R_i64_i64_i64_bool) (s0 : Zp) : Zp := (itS (Zb6 x2) (Zda x2) bound s0).getD default
theorem Znw (x0 : Int) (x1 : List Int) (x2 : List R_i64_i64_i64_bool) (x3 : Bool) (x4 x5 : Int) (s0 : Zp) : Zb6 x2 s0 = true → (roundG (runC E0 (cl E0) L26_0) [1, 3, 4] [3] 1) (Zgb x0 x1 x2 x3 x4 x5 s0) = some (.normal, Zgb x0 x1 x2 x3 x4 x5 (Zda x2 s0)) := by
 unfold Zb6 Zda
 cases h1 : tb (decide (s0.c1 < 8))
 ·exact ZN
 ·cases h2 : tb (inb 8 s0.c1)
  ·exact ZN
  ·cases h3 : tb (gt x2 s0.c1).c3
   ·exact fun _ => Z8 [.b (tbE h1), .o 11 (fun _ => Zim (id := 0) (nn := 1) (row := 0) (off := 9) (n := 8) (s := 4) (k := .i64) (i := s0.c1) (tbE h2)), .m 13 (Zn2 (m := [(Blk.flat 55 41 [([(.int .i64 x0)] ++ arrD .i64 x1 8 ++ arrE Za x2 8)] x3)]) (enc := Za) (z := 4) (fun _ => rfl) (by decide) (id := 0) (nn := 1) (row := 0) (off := 9) (n := 8) (o := 3) (size := 1) (agg := false) (T := x2) (i := s0.c1) (v := (V.d (.bool (gt x2 s0.c1).c3))) (by kernel_rfl) (tbE h2) (by kernel_rfl)), .b (tbE h3)] (by kernel_rfl)
   ·exact fun _ => Z8 [.b (tbE h1), .o 11 (fun _ => Zim (id := 0) (nn := 1) (row := 0) (off := 9) (n := 8) (s := 4) (k := .i64) (i := s0.c1) (tbE h2)), .m 13 (Zn2 (m := [(Blk.flat 55 41 [([(.int .i64 x0)] ++ arrD .i64 x1 8 ++ arrE Za x2 8)] x3)]) (enc := Za) (z := 4) (fun _ => rfl) (by decide) (id := 0) (nn := 1) (row := 0) (off := 9) (n := 8) (o := 3) (size := 1) (agg := false) (T := x2) (i := s0.c1) (v := (V.d (.bool (gt x2 s0.c1).c3))) (by kernel_rfl) (tbE h2) (by kernel_rfl)), .b (tbE h3)] (by kernel_rfl)
def Zd6 (s0 : Zp) : Bool := (bif tb (decide (s0.c1 < 8)) then false else true)
theorem Znq (x0 : Int) (x1 : List Int) (x2 : List R_i64_i64_i64_bool) (x3 : Bool) (x4 x5 : Int) (s0 : Zp) : Zb6 x2 s0 = false → Zd6 s0 = true → (roundG (runC E0 (cl E0) L26_0) [1, 3, 4] [3] 1) (Zgb x0 x1 x2 x3 x4 x5 s0) = some ((.exit 0), ([(V.d (.int .i64 s0.c0))], [(Blk.flat 55 41 [([(.int .i64 x0)] ++ arrD .i64 x1 8 ++ arrE Za x2 8)] x3)])) := by
 unfold Zb6 Zd6
 cases h1 : tb (decide (s0.c1 < 8))
 ·intro g0 g1
  exact Z8 [.b (tbE h1)] (by kernel_rfl)
 ·cases h2 : tb (inb 8 s0.c1)
  ·intro g0 g1
   exact absurd g1 ft
  ·cases h3 : tb (gt x2 s0.c1).c3
   ·intro g0 g1
    exact absurd g0 tf
   ·intro g0 g1
    exact absurd g0 tf
theorem Zm8 (x0 : Int) (x1 : List Int) (x2 : List R_i64_i64_i64_bool) (x3 : Bool) (x4 x5 : Int) (s : Zp) (hok : Zgg x2 s = true) (c0 : Zd6 (Zdw x2 s) = true) : loopG (roundG (runC E0 (cl E0) L26_0) [1, 3, 4] [3] 1) bound (Zgb x0 x1 x2 x3 x4 x5 s) = some ((.exit 0), ([(V.d (.int .i64 ((Zdw x2 s).c0)))], [(Blk.flat 55 41 [([(.int .i64 x0)] ++ arrD .i64 x1 8 ++ arrE Za x2 8)] x3)])) := by
 have e : itS (Zb6 x2) (Zda x2) bound s = some (Zdw x2 s) := Zgn hok
 have f := Ze1 e
 exact Zgh (Znw x0 x1 x2 x3 x4 x5) bound s _ _ _ e (fun h => by cases h) (Znq x0 x1 x2 x3 x4 x5 (Zdw x2 s) f c0)
def Zy (x2 : List R_i64_i64_i64_bool) : Zp := Zdw x2 (⟨0, 0⟩ : Zp)
def Z6 (x2 : List R_i64_i64_i64_bool) : Bool := (bif tb (Zgg x2 (⟨0, 0⟩ : Zp)) then (bif tb (Zd6 (Zy x2)) then true else false) else false)
theorem Zew (x0 : Int) (x1 : List Int) (x2 : List R_i64_i64_i64_bool) : Z6 x2 = true → cl E0 26 [(V.agg (List.map V.d ([(.int .i64 x0)] ++ arrD .i64 x1 8 ++ arrE Za x2 8)))] [] = some ([(V.d (.int .i64 ((Zy x2).c0)))], []) := by
 unfold Z6
 cases h1 : tb (Zgg x2 (⟨0, 0⟩ : Zp))
 ·exact ZN
 ·cases h2 : tb (Zd6 (Zy x2))
  ·exact ZN
  ·exact fun g0 => w26 [.l (Zm8 x0 x1 x2 false 0 0 (⟨0, 0⟩ : Zp) (tbE h1) (tbE h2))] (by kernel_rfl)
structure Zs where
 c0 : Bool
 c1 : Int
 c7 : List Int
 deriving Inhabited
def Zga (x0 : Int) (x1 : List Int) (x2 : List R_i64_i64_i64_bool) (x3 x4 : List Int) (x5 x6 x7 x8 x9 : Bool) (x10 : Int) (s0 : Zs) : List V × Mem := ([(V.ptr 0 1 0 0), (V.so s0.c0 2 s0.c7.length), (V.d (.int .i64 s0.c1))], [(Blk.flat 55 41 [([(.int .i64 x0)] ++ arrD .i64 x1 8 ++ arrE Za x2 8)] x5), (Blk.flat 5 1 [] x6), (Blk.flat 5 1 (List.map (encI .u8) s0.c7) false), (Blk.flat 5 1 (List.map (encI .u8) x4) x8)])
def Zbv (x1 : List Int) (s0 : Zs) : Bool := (bif tb (decide (s0.c1 < 8)) then (bif tb (inb 8 s0.c1) then (bif tb (decide ((s0.c7.length + (Zfm (gt x1 s0.c1)).length) * 1 ≤ 140737488355328)) then true else false) else false) else false)
def Zcw (x1 : List Int) (s0 : Zs) : Zs := ⟨((Zfm (gt x1 s0.c1)).isEmpty && s0.c0), (wi (s0.c1 + 1)), (s0.c7 ++ (Zfm (gt x1 s0.c1)))⟩
def Zgf (x1 : List Int) (s0 : Zs) : Bool := (itS (Zbv x1) (Zcw x1) bound s0).isSome
def Zco (x1 : List Int) (s0 : Zs) : Zs := (itS (Zbv x1) (Zcw x1) bound s0).getD default
theorem Zny (x0 : Int) (x1 : List Int) (x2 : List R_i64_i64_i64_bool) (x3 x4 : List Int) (x5 x6 x7 x8 x9 : Bool) (x10 : Int) (s0 : Zs) : Zbv x1 s0 = true → (roundG (runC E0 (cl E0) L19_1) [1, 5, 6] [1, 5] 4) (Zga x0 x1 x2 x3 x4 x5 x6 x7 x8 x9 x10 s0) = some (.normal, Zga x0 x1 x2 x3 x4 x5 x6 x7 x8 x9 x10 (Zcw x1 s0)) := by
 unfold Zbv Zcw
 cases h1 : tb (decide (s0.c1 < 8))
 ·exact ZN
 ·cases h2 : tb (inb 8 s0.c1)
  ·exact ZN
  ·cases h3 : tb (decide ((s0.c7.length + (Zfm (gt x1 s0.c1)).length) * 1 ≤ 140737488355328))
   ·exact ZN
   ·exact fun _ => Z8 [.b (tbE h1), .o 30 (fun _ => Zim (id := 0) (nn := 1) (row := 0) (off := 1) (n := 8) (s := 1) (k := .i64) (i := s0.c1) (tbE h2)), .m 31 (Zpt (m := [(Blk.flat 55 41 [([(.int .i64 x0)] ++ arrD .i64 x1 8 ++ arrE Za x2 8)] x5), (Blk.flat 5 1 [] x6), (Blk.flat 5 1 (List.map (encI .u8) s0.c7) false), (Blk.flat 5 1 (List.map (encI .u8) x4) x8)]) (id := 0) (nn := 1) (row := 0) (off := 1) (n := 8) (k := .i64) (T := x1) (i := s0.c1) (by kernel_rfl) (tbE h2)), .c (Zzg (gt x1 s0.c1)), .m 33 (Zoa (nl := s0.c0) (m := [(Blk.flat 55 41 [([(.int .i64 x0)] ++ arrD .i64 x1 8 ++ arrE Za x2 8)] x5), (Blk.flat 5 1 [] x6), (Blk.flat 5 1 (List.map (encI .u8) s0.c7) false), (Blk.flat 5 1 (List.map (encI .u8) x4) x8), (Blk.flat 5 1 (List.map (encI .u8) (Zfm (gt x1 s0.c1))) false)]) (enc := (encI .u8)) (l0 := s0.c7) (l1 := (Zfm (gt x1 s0.c1))) (id := 2) (e := 5) (s := 1) (bytes := 1) (x := (V.so (Zoc (gt x1 s0.c1)) 4 ((Zfm (gt x1 s0.c1)).length))) (n := s0.c7.length) (Nat.beq_refl _) (by kernel_rfl) (Zly (b := (Zoc (gt x1 s0.c1))) (e := 5) (s := 1) (p := false) (Nat.beq_refl _) (by kernel_rfl)) (by kernel_rfl) (tbE h3))] (by kernel_rfl)
def Zd1 (s0 : Zs) : Bool := (bif tb (decide (s0.c1 < 8)) then false else true)
theorem Znt (x0 : Int) (x1 : List Int) (x2 : List R_i64_i64_i64_bool) (x3 x4 : List Int) (x5 x6 x7 x8 x9 : Bool) (x10 : Int) (s0 : Zs) : Zbv x1 s0 = false → Zd1 s0 = true → (roundG (runC E0 (cl E0) L19_1) [1, 5, 6] [1, 5] 4) (Zga x0 x1 x2 x3 x4 x5 x6 x7 x8 x9 x10 s0) = some ((.exit 0), ([(V.ptr 0 1 0 0), (V.so s0.c0 2 s0.c7.length)], [(Blk.flat 55 41 [([(.int .i64 x0)] ++ arrD .i64 x1 8 ++ arrE Za x2 8)] x5), (Blk.flat 5 1 [] x6), (Blk.flat 5 1 (List.map (encI .u8) s0.c7) false), (Blk.flat 5 1 (List.map (encI .u8) x4) x8)])) := by
 unfold Zbv Zd1
 cases h1 : tb (decide (s0.c1 < 8))
 ·intro g0 g1
  exact Z8 [.b (tbE h1)] (by kernel_rfl)
 ·cases h2 : tb (inb 8 s0.c1)
  ·intro g0 g1
   exact absurd g1 ft
  ·cases h3 : tb (decide ((s0.c7.length + (Zfm (gt x1 s0.c1)).length) * 1 ≤ 140737488355328))
   ·intro g0 g1
    exact absurd g1 ft
   ·intro g0 g1
    exact absurd g0 tf
theorem Zm9 (x0 : Int) (x1 : List Int) (x2 : List R_i64_i64_i64_bool) (x3 x4 : List Int) (x5 x6 x7 x8 x9 : Bool) (x10 : Int) (s : Zs) (hok : Zgf x1 s = true) (c0 : Zd1 (Zco x1 s) = true) : loopG (roundG (runC E0 (cl E0) L19_1) [1, 5, 6] [1, 5] 4) bound (Zga x0 x1 x2 x3 x4 x5 x6 x7 x8 x9 x10 s) = some ((.exit 0), ([(V.ptr 0 1 0 0), (V.so ((Zco x1 s).c0) 2 (((Zco x1 s).c7).length))], [(Blk.flat 55 41 [([(.int .i64 x0)] ++ arrD .i64 x1 8 ++ arrE Za x2 8)] x5), (Blk.flat 5 1 [] x6), (Blk.flat 5 1 (List.map (encI .u8) ((Zco x1 s).c7)) false), (Blk.flat 5 1 (List.map (encI .u8) x4) x8)])) := by
 have e : itS (Zbv x1) (Zcw x1) bound s = some (Zco x1 s) := Zgn hok
 have f := Ze1 e
 exact Zgh (Zny x0 x1 x2 x3 x4 x5 x6 x7 x8 x9 x10) bound s _ _ _ e (fun h => by cases h) (Znt x0 x1 x2 x3 x4 x5 x6 x7 x8 x9 x10 (Zco x1 s) f c0)
structure Zm where
 c0 : Bool
 c1 : Int
 c7 : List Int
 deriving Inhabited
def Zba (x2 : List R_i64_i64_i64_bool) (s0 : Zm) : Int := (Zhz (gt x2 s0.c1).c0 (gt x2 s0.c1).c1 (gt x2 s0.c1).c2 (gt x2 s0.c1).c3)
def Zjt (x2 : List R_i64_i64_i64_bool) (s0 : Zm) : List Int := (s0.c7 ++ (Zck (Zba x2 s0)))
def Zf8 (x0 : Int) (x1 : List Int) (x2 : List R_i64_i64_i64_bool) (x3 x4 : List Int) (x5 x6 x7 x8 x9 : Bool) (x10 : Int) (s0 : Zm) : List V × Mem := ([(V.ptr 0 1 0 0), (V.so s0.c0 2 s0.c7.length), (V.d (.int .i64 s0.c1))], [(Blk.flat 55 41 [([(.int .i64 x0)] ++ arrD .i64 x1 8 ++ arrE Za x2 8)] x5), (Blk.flat 5 1 [] x6), (Blk.flat 5 1 (List.map (encI .u8) s0.c7) false), (Blk.flat 5 1 (List.map (encI .u8) x4) x8)])
def Zbu (x2 : List R_i64_i64_i64_bool) (s0 : Zm) : Bool := (bif tb (decide (s0.c1 < 8)) then (bif tb (inb 8 s0.c1) then (bif tb (Zhw (gt x2 s0.c1).c0 (gt x2 s0.c1).c1 (gt x2 s0.c1).c2 (gt x2 s0.c1).c3) then (bif tb (decide ((s0.c7.length + (Zck (Zba x2 s0)).length) * 1 ≤ 140737488355328)) then true else false) else false) else false) else false)
def Zcu (x2 : List R_i64_i64_i64_bool) (s0 : Zm) : Zm := ⟨((Zck (Zba x2 s0)).isEmpty && s0.c0), (wi (s0.c1 + 1)), (Zjt x2 s0)⟩
def Zge (x2 : List R_i64_i64_i64_bool) (s0 : Zm) : Bool := (itS (Zbu x2) (Zcu x2) bound s0).isSome
def Zcn (x2 : List R_i64_i64_i64_bool) (s0 : Zm) : Zm := (itS (Zbu x2) (Zcu x2) bound s0).getD default
theorem Znx (x0 : Int) (x1 : List Int) (x2 : List R_i64_i64_i64_bool) (x3 x4 : List Int) (x5 x6 x7 x8 x9 : Bool) (x10 : Int) (s0 : Zm) : Zbu x2 s0 = true → (roundG (runC E0 (cl E0) L19_2) [1, 5, 7] [5] 4) (Zf8 x0 x1 x2 x3 x4 x5 x6 x7 x8 x9 x10 s0) = some (.normal, Zf8 x0 x1 x2 x3 x4 x5 x6 x7 x8 x9 x10 (Zcu x2 s0)) := by
 unfold Zbu Zcu
 cases h1 : tb (decide (s0.c1 < 8))
 ·exact ZN
 ·cases h2 : tb (inb 8 s0.c1)
  ·exact ZN
  ·cases h3 : tb (Zhw (gt x2 s0.c1).c0 (gt x2 s0.c1).c1 (gt x2 s0.c1).c2 (gt x2 s0.c1).c3)
   ·exact ZN
   ·cases h4 : tb (decide ((s0.c7.length + (Zck (Zba x2 s0)).length) * 1 ≤ 140737488355328))
    ·exact ZN
    ·exact fun _ => Z8 [.b (tbE h1), .o 41 (fun _ => Zim (id := 0) (nn := 1) (row := 0) (off := 9) (n := 8) (s := 4) (k := .i64) (i := s0.c1) (tbE h2)), .m 42 (Zn2 (m := [(Blk.flat 55 41 [([(.int .i64 x0)] ++ arrD .i64 x1 8 ++ arrE Za x2 8)] x5), (Blk.flat 5 1 [] x6), (Blk.flat 5 1 (List.map (encI .u8) s0.c7) false), (Blk.flat 5 1 (List.map (encI .u8) x4) x8)]) (enc := Za) (z := 4) (fun _ => rfl) (by decide) (id := 0) (nn := 1) (row := 0) (off := 9) (n := 8) (o := 0) (size := 4) (agg := true) (T := x2) (i := s0.c1) (v := (V.agg [(V.d (.int .i64 (gt x2 s0.c1).c0)), (V.d (.int .i64 (gt x2 s0.c1).c1)), (V.d (.int .i64 (gt x2 s0.c1).c2)), (V.d (.bool (gt x2 s0.c1).c3))])) (by kernel_rfl) (tbE h2) (by kernel_rfl)), .c (Zr5 (gt x2 s0.c1).c0 (gt x2 s0.c1).c1 (gt x2 s0.c1).c2 (gt x2 s0.c1).c3 (tbE h3)), .c (Ztx (Zba x2 s0)), .m 49 (Zoa (nl := s0.c0) (m := [(Blk.flat 55 41 [([(.int .i64 x0)] ++ arrD .i64 x1 8 ++ arrE Za x2 8)] x5), (Blk.flat 5 1 [] x6), (Blk.flat 5 1 (List.map (encI .u8) s0.c7) false), (Blk.flat 5 1 (List.map (encI .u8) x4) x8), (Blk.flat 5 1 (List.map (encI .u8) (Zck (Zba x2 s0))) false)]) (enc := (encI .u8)) (l0 := s0.c7) (l1 := (Zck (Zba x2 s0))) (id := 2) (e := 5) (s := 1) (bytes := 1) (x := (V.so (Zlm (Zba x2 s0)) 4 ((Zck (Zba x2 s0)).length))) (n := s0.c7.length) (Nat.beq_refl _) (by kernel_rfl) (Zly (b := (Zlm (Zba x2 s0))) (e := 5) (s := 1) (p := false) (Nat.beq_refl _) (by kernel_rfl)) (by kernel_rfl) (tbE h4))] (by kernel_rfl)
def Zd5 (s0 : Zm) : Bool := (bif tb (decide (s0.c1 < 8)) then false else true)
theorem Znk (x0 : Int) (x1 : List Int) (x2 : List R_i64_i64_i64_bool) (x3 x4 : List Int) (x5 x6 x7 x8 x9 : Bool) (x10 : Int) (s0 : Zm) : Zbu x2 s0 = false → Zd5 s0 = true → (roundG (runC E0 (cl E0) L19_2) [1, 5, 7] [5] 4) (Zf8 x0 x1 x2 x3 x4 x5 x6 x7 x8 x9 x10 s0) = some ((.exit 2), ([(V.so s0.c0 2 s0.c7.length)], [(Blk.flat 55 41 [([(.int .i64 x0)] ++ arrD .i64 x1 8 ++ arrE Za x2 8)] x5), (Blk.flat 5 1 [] x6), (Blk.flat 5 1 (List.map (encI .u8) s0.c7) false), (Blk.flat 5 1 (List.map (encI .u8) x4) x8)])) := by
 unfold Zbu Zd5
 cases h1 : tb (decide (s0.c1 < 8))
 ·intro g0 g1
  exact Z8 [.b (tbE h1)] (by kernel_rfl)
 ·cases h2 : tb (inb 8 s0.c1)
  ·intro g0 g1
   exact absurd g1 ft
  ·cases h3 : tb (Zhw (gt x2 s0.c1).c0 (gt x2 s0.c1).c1 (gt x2 s0.c1).c2 (gt x2 s0.c1).c3)
   ·intro g0 g1
    exact absurd g1 ft
   ·cases h4 : tb (decide ((s0.c7.length + (Zck (Zba x2 s0)).length) * 1 ≤ 140737488355328))
    ·intro g0 g1
     exact absurd g1 ft
    ·intro g0 g1
     exact absurd g0 tf
theorem Zm7 (x0 : Int) (x1 : List Int) (x2 : List R_i64_i64_i64_bool) (x3 x4 : List Int) (x5 x6 x7 x8 x9 : Bool) (x10 : Int) (s : Zm) (hok : Zge x2 s = true) (c0 : Zd5 (Zcn x2 s) = true) : loopG (roundG (runC E0 (cl E0) L19_2) [1, 5, 7] [5] 4) bound (Zf8 x0 x1 x2 x3 x4 x5 x6 x7 x8 x9 x10 s) = some ((.exit 2), ([(V.so ((Zcn x2 s).c0) 2 (((Zcn x2 s).c7).length))], [(Blk.flat 55 41 [([(.int .i64 x0)] ++ arrD .i64 x1 8 ++ arrE Za x2 8)] x5), (Blk.flat 5 1 [] x6), (Blk.flat 5 1 (List.map (encI .u8) ((Zcn x2 s).c7)) false), (Blk.flat 5 1 (List.map (encI .u8) x4) x8)])) := by
 have e : itS (Zbu x2) (Zcu x2) bound s = some (Zcn x2 s) := Zgn hok
 have f := Ze1 e
 exact Zgh (Znx x0 x1 x2 x3 x4 x5 x6 x7 x8 x9 x10) bound s _ _ _ e (fun h => by cases h) (Znk x0 x1 x2 x3 x4 x5 x6 x7 x8 x9 x10 (Zcn x2 s) f c0)
def Zdp (x2 : List R_i64_i64_i64_bool) : Int := IntKind.u8.wrap (((Zy x2).c0))
def Zdo (x0 : Int) (x2 : List R_i64_i64_i64_bool) : List Int := ([90, (Zdp x2)] ++ (Zck x0))
def Zbe (x0 : Int) (x1 : List Int) (x2 : List R_i64_i64_i64_bool) : Zs := Zco x1 (⟨false, 0, (Zdo x0 x2)⟩ : Zs)
def Zr (x0 : Int) (x1 : List Int) (x2 : List R_i64_i64_i64_bool) : Zm := Zcn x2 (⟨((Zbe x0 x1 x2).c0), 0, ((Zbe x0 x1 x2).c7)⟩ : Zm)
def Zex (x0 : Int) (x1 : List Int) (x2 : List R_i64_i64_i64_bool) : Bool := (bif tb (Zcp x1 x2) then (bif tb (Zbp (Z2 x0 x1 x2)) then (bif tb (Z6 x2) then (bif tb (decide (([90, (Zdp x2)].length + (Zck x0).length) * 1 ≤ 140737488355328)) then (bif tb (Zgf x1 (⟨false, 0, (Zdo x0 x2)⟩ : Zs)) then (bif tb (Zd1 (Zbe x0 x1 x2)) then (bif tb (Zge x2 (⟨((Zbe x0 x1 x2).c0), 0, ((Zbe x0 x1 x2).c7)⟩ : Zm)) then (bif tb (Zd5 (Zr x0 x1 x2)) then (bif tb (Zme ((Zr x0 x1 x2).c7)) then true else false) else false) else false) else false) else false) else false) else false) else true) else false)
def Zeg (x0 : Int) (x1 : List Int) (x2 : List R_i64_i64_i64_bool) : Bool := (bif tb (Zbp (Z2 x0 x1 x2)) then false else true)
def Zb0 (x0 : Int) (x1 : List Int) (x2 : List R_i64_i64_i64_bool) : Int := (bif tb (Zbp (Z2 x0 x1 x2)) then 0 else 1)
def Z0 (x0 : Int) (x1 : List Int) (x2 : List R_i64_i64_i64_bool) : List Int := (bif tb (Zbp (Z2 x0 x1 x2)) then (((Zr x0 x1 x2).c7) ++ [(Zjc ((Zr x0 x1 x2).c7)), (Zjg ((Zr x0 x1 x2).c7))]) else ([] : List Int))
theorem Zok (x0 : Int) (x1 : List Int) (x2 : List R_i64_i64_i64_bool) : Zex x0 x1 x2 = true → cl E0 19 [(V.agg (List.map V.d ([(.int .i64 x0)] ++ arrD .i64 x1 8 ++ arrE Za x2 8)))] [] = some ([(V.so (Zeg x0 x1 x2) 0 ((Z0 x0 x1 x2).length)), (V.d (.int .i64 (Zb0 x0 x1 x2)))], [(Blk.flat 5 1 (List.map (encI .u8) (Z0 x0 x1 x2)) false)]) := by
 unfold Zex Zeg Zb0 Z0
 cases h1 : tb (Zcp x1 x2)
 ·exact ZN
 ·cases h2 : tb (Zbp (Z2 x0 x1 x2))
  ·exact fun g0 => w19 [.c (Zg6 x0 x1 x2 (tbE h1)), .s (Znm x0 x1 x2 false false (Z2 x0 x1 x2) (tbE h2))] (by kernel_rfl)
  ·cases h3 : tb (Z6 x2)
   ·exact ZN
   ·cases h4 : tb (decide (([90, (Zdp x2)].length + (Zck x0).length) * 1 ≤ 140737488355328))
    ·exact ZN
    ·cases h5 : tb (Zgf x1 (⟨false, 0, (Zdo x0 x2)⟩ : Zs))
     ·exact ZN
     ·cases h6 : tb (Zd1 (Zbe x0 x1 x2))
      ·exact ZN
      ·cases h7 : tb (Zge x2 (⟨((Zbe x0 x1 x2).c0), 0, ((Zbe x0 x1 x2).c7)⟩ : Zm))
       ·exact ZN
       ·cases h8 : tb (Zd5 (Zr x0 x1 x2))
        ·exact ZN
        ·cases h9 : tb (Zme ((Zr x0 x1 x2).c7))
         ·exact ZN
         ·exact fun g0 => w19 [.c (Zg6 x0 x1 x2 (tbE h1)), .s (Znv x0 x1 x2 false false (Z2 x0 x1 x2) (tbE h2)), .c (Zew x0 x1 x2 (tbE h3)), .c (Ztx x0), .m 22 (Zs6 (m := [(Blk.flat 55 41 [([(.int .i64 x0)] ++ arrD .i64 x1 8 ++ arrE Za x2 8)] false), (Blk.flat 5 1 [] false), (Blk.flat 5 1 [[(.int .u8 90)], [(.int .u8 (Zdp x2))]] false), (Blk.flat 5 1 (List.map (encI .u8) (Zck x0)) false)]) (enc := (encI .u8)) (l0 := [90, (Zdp x2)]) (l1 := (Zck x0)) (id := 2) (e := 5) (s := 1) (bytes := 1) (x := (V.so (Zlm x0) 3 ((Zck x0).length))) (n := 2) (by kernel_rfl) (by kernel_rfl) (Zly (b := (Zlm x0)) (e := 5) (s := 1) (p := false) (Nat.beq_refl _) (by kernel_rfl)) (by kernel_rfl) (tbE h4)), .l (Zm9 x0 x1 x2 (Zdo x0 x2) (Zck x0) false false false false false 0 (⟨false, 0, (Zdo x0 x2)⟩ : Zs) (tbE h5) (tbE h6)), .l (Zm7 x0 x1 x2 ((Zbe x0 x1 x2).c7) (Zck x0) false false false false ((Zbe x0 x1 x2).c0) 0 (⟨((Zbe x0 x1 x2).c0), 0, ((Zbe x0 x1 x2).c7)⟩ : Zm) (tbE h7) (tbE h8)), .y (mm := [(Blk.flat 55 41 [([(.int .i64 x0)] ++ arrD .i64 x1 8 ++ arrE Za x2 8)] false), (Blk.flat 5 1 [] false), (Blk.flat 5 1 (List.map (encI .u8) ((Zr x0 x1 x2).c7)) false), (Blk.flat 5 1 (List.map (encI .u8) (Zck x0)) false)]) (args := [(V.so ((Zr x0 x1 x2).c0) 2 (((Zr x0 x1 x2).c7).length))]) (args1 := [(V.d (slD (encI .u8) true 1 ((Zr x0 x1 x2).c0) ((Zr x0 x1 x2).c7)))]) (Zgj (Zqi (enc := (encI .u8)) (l := ((Zr x0 x1 x2).c7)) (b := ((Zr x0 x1 x2).c0)) (e := 5) (s := 1) (p := false) (n := (((Zr x0 x1 x2).c7).length)) (Nat.beq_refl _) (by kernel_rfl)) (by kernel_rfl)), .c (Zzc ((Zr x0 x1 x2).c0) ((Zr x0 x1 x2).c7) (tbE h9))] (by kernel_rfl)
structure Z5 where
 c1 : Int
 c7 : List Int
 c8 : List R_i64_i64_i64_bool
 deriving Inhabited
def Zcf (x6 : List Int) (s0 : Z5) : List Int := (sub x6 (wi (4 + (wi (4 * s0.c1)))) (wi (8 + (wi (4 * s0.c1)))))
def Zd (x6 : List Int) (s0 : Z5) : List Int := (sub x6 (wi (36 + (wi (2 * s0.c1)))) (wi (38 + (wi (2 * s0.c1)))))
def Zg5 (x6 : List Int) (s0 : Z5) : List Int := sta s0.c7 8 s0.c1 (Zih (Zcf x6 s0))
def Zio (x6 : List Int) (s0 : Z5) : R_i64_i64_i64_bool := (⟨(Zep (Zh (Zd x6 s0))), (Zem (Zh (Zd x6 s0))), (Zei (Zh (Zd x6 s0))), (Zeh (Zh (Zd x6 s0)))⟩ : R_i64_i64_i64_bool)
def Zls  : R_i64_i64_i64_bool := (⟨(Zep 0), (Zem 0), (Zei 0), (Zeh 0)⟩ : R_i64_i64_i64_bool)
def Zjo (x0 : Int) (x1 : List Int) (x2 : List R_i64_i64_i64_bool) (x3 : Int) (x4 : List Int) (x5 : List R_i64_i64_i64_bool) (x6 : List Int) (x7 x8 x9 x10 : Bool) (x11 : Int) (s0 : Z5) : List V × Mem := ([(V.ptr 0 1 0 0), (V.ptr 1 1 0 0), (V.so x10 2 x6.length), (V.d (.int .i64 s0.c1))], [(Blk.flat 55 41 [([(.int .i64 x0)] ++ arrD .i64 x1 8 ++ arrE Za x2 8)] false), (Blk.flat 55 41 [([(.int .i64 x3)] ++ arrD .i64 s0.c7 8 ++ arrE Za s0.c8 8)] false), (Blk.flat 5 1 (List.map (encI .u8) x6) x9)])
def Zdn (x6 : List Int) (x10 : Bool) (s0 : Z5) : Bool := (bif tb (decide (s0.c1 < 8)) then (bif tb (ins x6.length (wi (4 + (wi (4 * s0.c1)))) (wi (8 + (wi (4 * s0.c1))))) then (bif tb (decide ((wi (4 + (wi (4 * s0.c1)))) < (wi (8 + (wi (4 * s0.c1)))))) then (bif tb (Zhy (Zcf x6 s0)) then (bif tb (ins x6.length (wi (36 + (wi (2 * s0.c1)))) (wi (38 + (wi (2 * s0.c1))))) then (bif tb (decide ((wi (36 + (wi (2 * s0.c1)))) < (wi (38 + (wi (2 * s0.c1)))))) then (bif tb (Zd2 (Zd x6 s0)) then (bif tb (Zch (Zh (Zd x6 s0))) then (bif tb (((Zbz (Zh (Zd x6 s0))) : Int) != 0) then false else (bif tb (inb 8 s0.c1) then true else false)) else false) else false) else (bif tb (x10) then false else (bif tb (Zch 0) then (bif tb (((Zbz 0) : Int) != 0) then false else (bif tb (inb 8 s0.c1) then true else false)) else false))) else false) else false) else (bif tb (x10) then false else (bif tb (ins x6.length (wi (36 + (wi (2 * s0.c1)))) (wi (38 + (wi (2 * s0.c1))))) then (bif tb (decide ((wi (36 + (wi (2 * s0.c1)))) < (wi (38 + (wi (2 * s0.c1)))))) then (bif tb (Zd2 (Zd x6 s0)) then (bif tb (Zch (Zh (Zd x6 s0))) then (bif tb (((Zbz (Zh (Zd x6 s0))) : Int) != 0) then false else (bif tb (inb 8 s0.c1) then true else false)) else false) else false) else (bif tb (Zch 0) then (bif tb (((Zbz 0) : Int) != 0) then false else (bif tb (inb 8 s0.c1) then true else false)) else false)) else false))) else false) else false)
def Zhh (x6 : List Int) (x10 : Bool) (s0 : Z5) : Z5 := ⟨(wi (s0.c1 + 1)), (bif tb (decide ((wi (4 + (wi (4 * s0.c1)))) < (wi (8 + (wi (4 * s0.c1)))))) then (Zg5 x6 s0) else (sta s0.c7 8 s0.c1 0)), (bif tb (decide ((wi (4 + (wi (4 * s0.c1)))) < (wi (8 + (wi (4 * s0.c1)))))) then (bif tb (decide ((wi (36 + (wi (2 * s0.c1)))) < (wi (38 + (wi (2 * s0.c1)))))) then (staE s0.c8 8 s0.c1 (Zio x6 s0)) else (staE s0.c8 8 s0.c1 Zls)) else (bif tb (decide ((wi (36 + (wi (2 * s0.c1)))) < (wi (38 + (wi (2 * s0.c1)))))) then (staE s0.c8 8 s0.c1 (Zio x6 s0)) else (staE s0.c8 8 s0.c1 Zls)))⟩
def Zev (x6 : List Int) (x10 : Bool) (s0 : Z5) : Bool := (itS (Zdn x6 x10) (Zhh x6 x10) bound s0).isSome
def Zd3 (x6 : List Int) (x10 : Bool) (s0 : Z5) : Z5 := (itS (Zdn x6 x10) (Zhh x6 x10) bound s0).getD default
theorem Zqx (x0 : Int) (x1 : List Int) (x2 : List R_i64_i64_i64_bool) (x3 : Int) (x4 : List Int) (x5 : List R_i64_i64_i64_bool) (x6 : List Int) (x7 x8 x9 x10 : Bool) (x11 : Int) (s0 : Z5) : Zdn x6 x10 s0 = true → (roundG (runC E0 (cl E0) L22_0) [2, 4, 5, 9] [2, 3, 4, 5] 3) (Zjo x0 x1 x2 x3 x4 x5 x6 x7 x8 x9 x10 x11 s0) = some (.normal, Zjo x0 x1 x2 x3 x4 x5 x6 x7 x8 x9 x10 x11 (Zhh x6 x10 s0)) := by
 unfold Zdn Zhh
 cases h1 : tb (decide (s0.c1 < 8))
 ·exact ZN
 ·cases h2 : tb (ins x6.length (wi (4 + (wi (4 * s0.c1)))) (wi (8 + (wi (4 * s0.c1)))))
  ·exact ZN
  ·cases h3 : tb (decide ((wi (4 + (wi (4 * s0.c1)))) < (wi (8 + (wi (4 * s0.c1))))))
   ·cases h4 : tb (x10)
    ·cases h5 : tb (ins x6.length (wi (36 + (wi (2 * s0.c1)))) (wi (38 + (wi (2 * s0.c1)))))
     ·exact ZN
     ·cases h6 : tb (decide ((wi (36 + (wi (2 * s0.c1)))) < (wi (38 + (wi (2 * s0.c1))))))
      ·cases h7 : tb (Zch 0)
       ·exact ZN
       ·cases h8 : tb (((Zbz 0) : Int) != 0)
        ·cases h9 : tb (inb 8 s0.c1)
         ·exact ZN
         ·exact fun _ => Z8 [.b (tbE h1), .m 55 (Zkj (m := [(Blk.flat 55 41 [([(.int .i64 x0)] ++ arrD .i64 x1 8 ++ arrE Za x2 8)] false), (Blk.flat 55 41 [([(.int .i64 x3)] ++ arrD .i64 s0.c7 8 ++ arrE Za s0.c8 8)] false), (Blk.flat 5 1 (List.map (encI .u8) x6) x9)]) (enc := (encI .u8)) (l := x6) (id := 2) (e := 5) (s := 1) (n := x6.length) (p := x9) (some (.i64, (wi (4 + (wi (4 * s0.c1)))))) (some (.i64, (wi (8 + (wi (4 * s0.c1)))))) (deSo_f (tbE h4)) (Nat.beq_refl _) (by kernel_rfl) (tbE h2) (tbE h3)), .c (Zpb), .m 67 (Zkj (m := [(Blk.flat 55 41 [([(.int .i64 x0)] ++ arrD .i64 x1 8 ++ arrE Za x2 8)] false), (Blk.flat 55 41 [([(.int .i64 x3)] ++ arrD .i64 s0.c7 8 ++ arrE Za s0.c8 8)] false), (Blk.flat 5 1 (List.map (encI .u8) x6) x9)]) (enc := (encI .u8)) (l := x6) (id := 2) (e := 5) (s := 1) (n := x6.length) (p := x9) (some (.i64, (wi (36 + (wi (2 * s0.c1)))))) (some (.i64, (wi (38 + (wi (2 * s0.c1)))))) (deSo_f (tbE h4)) (Nat.beq_refl _) (by kernel_rfl) (tbE h5) (tbE h6)), .c (Zlk), .c (Zju 0 (tbE h7)), .b (tbE h8), .o 82 (fun _ => Zim (id := 1) (nn := 1) (row := 0) (off := 1) (n := 8) (s := 1) (k := .i64) (i := s0.c1) (tbE h9)), .m 100082 (Zr0 (m := [(Blk.flat 55 41 [([(.int .i64 x0)] ++ arrD .i64 x1 8 ++ arrE Za x2 8)] false), (Blk.flat 55 41 [([(.int .i64 x3)] ++ arrD .i64 s0.c7 8 ++ arrE Za s0.c8 8)] false), (Blk.flat 5 1 (List.map (encI .u8) x6) x9), (Blk.flat 52 4 [[(.int .i64 (Zep 0)), (.int .i64 (Zem 0)), (.int .i64 (Zei 0)), (.bool (Zeh 0))]] false)]) (id := 1) (nn := 1) (row := 0) (off := 1) (n := 8) (s := 41) (e := 55) (rows := [([(.int .i64 x3)] ++ arrD .i64 s0.c7 8 ++ arrE Za s0.c8 8)]) (cs := ([(.int .i64 x3)] ++ arrD .i64 s0.c7 8 ++ arrE Za s0.c8 8)) (k := .i64) (T := s0.c7) (i := s0.c1) (v := 0) (by kernel_rfl) (by kernel_rfl) (by kernel_rfl) (by kernel_rfl) (tbE h9)), .o 86 (fun _ => Zim (id := 1) (nn := 1) (row := 0) (off := 9) (n := 8) (s := 4) (k := .i64) (i := s0.c1) (tbE h9)), .m 100086 (Zpk (m := [(Blk.flat 55 41 [([(.int .i64 x0)] ++ arrD .i64 x1 8 ++ arrE Za x2 8)] false), (Blk.flat 55 41 [([(.int .i64 x3)] ++ arrD .i64 (sta s0.c7 8 s0.c1 0) 8 ++ arrE Za s0.c8 8)] false), (Blk.flat 5 1 (List.map (encI .u8) x6) x9), (Blk.flat 52 4 [[(.int .i64 (Zep 0)), (.int .i64 (Zem 0)), (.int .i64 (Zei 0)), (.bool (Zeh 0))]] false)]) (enc := Za) (z := 4) (fun _ => rfl) (by decide) (fun _ => rfl) (id := 1) (nn := 1) (row := 0) (off := 9) (n := 8) (s := 41) (e := 55) (rows := [([(.int .i64 x3)] ++ arrD .i64 (sta s0.c7 8 s0.c1 0) 8 ++ arrE Za s0.c8 8)]) (cs := ([(.int .i64 x3)] ++ arrD .i64 (sta s0.c7 8 s0.c1 0) 8 ++ arrE Za s0.c8 8)) (T := s0.c8) (i := s0.c1) (v := Zls) (by kernel_rfl) (by kernel_rfl) (by kernel_rfl) (by kernel_rfl) (tbE h9))] (by kernel_rfl)
        ·exact ZN
      ·cases h7 : tb (Zd2 (Zd x6 s0))
       ·exact ZN
       ·cases h8 : tb (Zch (Zh (Zd x6 s0)))
        ·exact ZN
        ·cases h9 : tb (((Zbz (Zh (Zd x6 s0))) : Int) != 0)
         ·cases h10 : tb (inb 8 s0.c1)
          ·exact ZN
          ·exact fun _ => Z8 [.b (tbE h1), .m 55 (Zkj (m := [(Blk.flat 55 41 [([(.int .i64 x0)] ++ arrD .i64 x1 8 ++ arrE Za x2 8)] false), (Blk.flat 55 41 [([(.int .i64 x3)] ++ arrD .i64 s0.c7 8 ++ arrE Za s0.c8 8)] false), (Blk.flat 5 1 (List.map (encI .u8) x6) x9)]) (enc := (encI .u8)) (l := x6) (id := 2) (e := 5) (s := 1) (n := x6.length) (p := x9) (some (.i64, (wi (4 + (wi (4 * s0.c1)))))) (some (.i64, (wi (8 + (wi (4 * s0.c1)))))) (deSo_f (tbE h4)) (Nat.beq_refl _) (by kernel_rfl) (tbE h2) (tbE h3)), .c (Zpb), .m 67 (Zkk (nl := x10) (m := [(Blk.flat 55 41 [([(.int .i64 x0)] ++ arrD .i64 x1 8 ++ arrE Za x2 8)] false), (Blk.flat 55 41 [([(.int .i64 x3)] ++ arrD .i64 s0.c7 8 ++ arrE Za s0.c8 8)] false), (Blk.flat 5 1 (List.map (encI .u8) x6) x9)]) (enc := (encI .u8)) (l := x6) (id := 2) (e := 5) (s := 1) (n := x6.length) (p := x9) (some (.i64, (wi (36 + (wi (2 * s0.c1)))))) (some (.i64, (wi (38 + (wi (2 * s0.c1)))))) (by kernel_rfl) (tbE h5) (tbE h6)), .y (mm := [(Blk.flat 55 41 [([(.int .i64 x0)] ++ arrD .i64 x1 8 ++ arrE Za x2 8)] false), (Blk.flat 55 41 [([(.int .i64 x3)] ++ arrD .i64 s0.c7 8 ++ arrE Za s0.c8 8)] false), (Blk.flat 5 1 (List.map (encI .u8) x6) x9)]) (args := [(V.sl 2 x6.length ((wi (36 + (wi (2 * s0.c1)))) : Int).toNat (((wi (38 + (wi (2 * s0.c1)))) : Int).toNat - ((wi (36 + (wi (2 * s0.c1)))) : Int).toNat))]) (args1 := [(V.d (.rs true 1 (List.map (encI .u8) (sub x6 (wi (36 + (wi (2 * s0.c1)))) (wi (38 + (wi (2 * s0.c1)))))) false))]) (Zgj (Zmw (enc := (encI .u8)) (l := x6) (e := 5) (s := 1) (p := x9) (n := x6.length) (lo := (wi (36 + (wi (2 * s0.c1))))) (hi := (wi (38 + (wi (2 * s0.c1))))) (Nat.beq_refl _) (by kernel_rfl) (tbE h5)) (by kernel_rfl)), .c (Zlg false (Zd x6 s0) (tbE h7)), .c (Zju (Zh (Zd x6 s0)) (tbE h8)), .b (tbE h9), .o 82 (fun _ => Zim (id := 1) (nn := 1) (row := 0) (off := 1) (n := 8) (s := 1) (k := .i64) (i := s0.c1) (tbE h10)), .m 100082 (Zr0 (m := [(Blk.flat 55 41 [([(.int .i64 x0)] ++ arrD .i64 x1 8 ++ arrE Za x2 8)] false), (Blk.flat 55 41 [([(.int .i64 x3)] ++ arrD .i64 s0.c7 8 ++ arrE Za s0.c8 8)] false), (Blk.flat 5 1 (List.map (encI .u8) x6) x9), (Blk.flat 52 4 [[(.int .i64 (Zep (Zh (Zd x6 s0)))), (.int .i64 (Zem (Zh (Zd x6 s0)))), (.int .i64 (Zei (Zh (Zd x6 s0)))), (.bool (Zeh (Zh (Zd x6 s0))))]] false)]) (id := 1) (nn := 1) (row := 0) (off := 1) (n := 8) (s := 41) (e := 55) (rows := [([(.int .i64 x3)] ++ arrD .i64 s0.c7 8 ++ arrE Za s0.c8 8)]) (cs := ([(.int .i64 x3)] ++ arrD .i64 s0.c7 8 ++ arrE Za s0.c8 8)) (k := .i64) (T := s0.c7) (i := s0.c1) (v := 0) (by kernel_rfl) (by kernel_rfl) (by kernel_rfl) (by kernel_rfl) (tbE h10)), .o 86 (fun _ => Zim (id := 1) (nn := 1) (row := 0) (off := 9) (n := 8) (s := 4) (k := .i64) (i := s0.c1) (tbE h10)), .m 100086 (Zpk (m := [(Blk.flat 55 41 [([(.int .i64 x0)] ++ arrD .i64 x1 8 ++ arrE Za x2 8)] false), (Blk.flat 55 41 [([(.int .i64 x3)] ++ arrD .i64 (sta s0.c7 8 s0.c1 0) 8 ++ arrE Za s0.c8 8)] false), (Blk.flat 5 1 (List.map (encI .u8) x6) x9), (Blk.flat 52 4 [[(.int .i64 (Zep (Zh (Zd x6 s0)))), (.int .i64 (Zem (Zh (Zd x6 s0)))), (.int .i64 (Zei (Zh (Zd x6 s0)))), (.bool (Zeh (Zh (Zd x6 s0))))]] false)]) (enc := Za) (z := 4) (fun _ => rfl) (by decide) (fun _ => rfl) (id := 1) (nn := 1) (row := 0) (off := 9) (n := 8) (s := 41) (e := 55) (rows := [([(.int .i64 x3)] ++ arrD .i64 (sta s0.c7 8 s0.c1 0) 8 ++ arrE Za s0.c8 8)]) (cs := ([(.int .i64 x3)] ++ arrD .i64 (sta s0.c7 8 s0.c1 0) 8 ++ arrE Za s0.c8 8)) (T := s0.c8) (i := s0.c1) (v := (Zio x6 s0)) (by kernel_rfl) (by kernel_rfl) (by kernel_rfl) (by kernel_rfl) (tbE h10))] (by kernel_rfl)
         ·exact ZN
    ·exact ZN
   ·cases h4 : tb (Zhy (Zcf x6 s0))
    ·exact ZN
    ·cases h5 : tb (ins x6.length (wi (36 + (wi (2 * s0.c1)))) (wi (38 + (wi (2 * s0.c1)))))
     ·exact ZN
     ·cases h6 : tb (decide ((wi (36 + (wi (2 * s0.c1)))) < (wi (38 + (wi (2 * s0.c1))))))
      ·cases h7 : tb (x10)
       ·cases h8 : tb (Zch 0)
        ·exact ZN
        ·cases h9 : tb (((Zbz 0) : Int) != 0)
         ·cases h10 : tb (inb 8 s0.c1)
          ·exact ZN
          ·exact fun _ => Z8 [.b (tbE h1), .m 55 (Zkk (nl := x10) (m := [(Blk.flat 55 41 [([(.int .i64 x0)] ++ arrD .i64 x1 8 ++ arrE Za x2 8)] false), (Blk.flat 55 41 [([(.int .i64 x3)] ++ arrD .i64 s0.c7 8 ++ arrE Za s0.c8 8)] false), (Blk.flat 5 1 (List.map (encI .u8) x6) x9)]) (enc := (encI .u8)) (l := x6) (id := 2) (e := 5) (s := 1) (n := x6.length) (p := x9) (some (.i64, (wi (4 + (wi (4 * s0.c1)))))) (some (.i64, (wi (8 + (wi (4 * s0.c1)))))) (by kernel_rfl) (tbE h2) (tbE h3)), .y (mm := [(Blk.flat 55 41 [([(.int .i64 x0)] ++ arrD .i64 x1 8 ++ arrE Za x2 8)] false), (Blk.flat 55 41 [([(.int .i64 x3)] ++ arrD .i64 s0.c7 8 ++ arrE Za s0.c8 8)] false), (Blk.flat 5 1 (List.map (encI .u8) x6) x9)]) (args := [(V.sl 2 x6.length ((wi (4 + (wi (4 * s0.c1)))) : Int).toNat (((wi (8 + (wi (4 * s0.c1)))) : Int).toNat - ((wi (4 + (wi (4 * s0.c1)))) : Int).toNat))]) (args1 := [(V.d (.rs true 1 (List.map (encI .u8) (sub x6 (wi (4 + (wi (4 * s0.c1)))) (wi (8 + (wi (4 * s0.c1)))))) false))]) (Zgj (Zmw (enc := (encI .u8)) (l := x6) (e := 5) (s := 1) (p := x9) (n := x6.length) (lo := (wi (4 + (wi (4 * s0.c1))))) (hi := (wi (8 + (wi (4 * s0.c1))))) (Nat.beq_refl _) (by kernel_rfl) (tbE h2)) (by kernel_rfl)), .c (Zpc false (Zcf x6 s0) (tbE h4)), .m 67 (Zkj (m := [(Blk.flat 55 41 [([(.int .i64 x0)] ++ arrD .i64 x1 8 ++ arrE Za x2 8)] false), (Blk.flat 55 41 [([(.int .i64 x3)] ++ arrD .i64 s0.c7 8 ++ arrE Za s0.c8 8)] false), (Blk.flat 5 1 (List.map (encI .u8) x6) x9)]) (enc := (encI .u8)) (l := x6) (id := 2) (e := 5) (s := 1) (n := x6.length) (p := x9) (some (.i64, (wi (36 + (wi (2 * s0.c1)))))) (some (.i64, (wi (38 + (wi (2 * s0.c1)))))) (deSo_f (tbE h7)) (Nat.beq_refl _) (by kernel_rfl) (tbE h5) (tbE h6)), .c (Zlk), .c (Zju 0 (tbE h8)), .b (tbE h9), .o 82 (fun _ => Zim (id := 1) (nn := 1) (row := 0) (off := 1) (n := 8) (s := 1) (k := .i64) (i := s0.c1) (tbE h10)), .m 100082 (Zr0 (m := [(Blk.flat 55 41 [([(.int .i64 x0)] ++ arrD .i64 x1 8 ++ arrE Za x2 8)] false), (Blk.flat 55 41 [([(.int .i64 x3)] ++ arrD .i64 s0.c7 8 ++ arrE Za s0.c8 8)] false), (Blk.flat 5 1 (List.map (encI .u8) x6) x9), (Blk.flat 52 4 [[(.int .i64 (Zep 0)), (.int .i64 (Zem 0)), (.int .i64 (Zei 0)), (.bool (Zeh 0))]] false)]) (id := 1) (nn := 1) (row := 0) (off := 1) (n := 8) (s := 41) (e := 55) (rows := [([(.int .i64 x3)] ++ arrD .i64 s0.c7 8 ++ arrE Za s0.c8 8)]) (cs := ([(.int .i64 x3)] ++ arrD .i64 s0.c7 8 ++ arrE Za s0.c8 8)) (k := .i64) (T := s0.c7) (i := s0.c1) (v := (Zih (Zcf x6 s0))) (by kernel_rfl) (by kernel_rfl) (by kernel_rfl) (by kernel_rfl) (tbE h10)), .o 86 (fun _ => Zim (id := 1) (nn := 1) (row := 0) (off := 9) (n := 8) (s := 4) (k := .i64) (i := s0.c1) (tbE h10)), .m 100086 (Zpk (m := [(Blk.flat 55 41 [([(.int .i64 x0)] ++ arrD .i64 x1 8 ++ arrE Za x2 8)] false), (Blk.flat 55 41 [([(.int .i64 x3)] ++ arrD .i64 (Zg5 x6 s0) 8 ++ arrE Za s0.c8 8)] false), (Blk.flat 5 1 (List.map (encI .u8) x6) x9), (Blk.flat 52 4 [[(.int .i64 (Zep 0)), (.int .i64 (Zem 0)), (.int .i64 (Zei 0)), (.bool (Zeh 0))]] false)]) (enc := Za) (z := 4) (fun _ => rfl) (by decide) (fun _ => rfl) (id := 1) (nn := 1) (row := 0) (off := 9) (n := 8) (s := 41) (e := 55) (rows := [([(.int .i64 x3)] ++ arrD .i64 (Zg5 x6 s0) 8 ++ arrE Za s0.c8 8)]) (cs := ([(.int .i64 x3)] ++ arrD .i64 (Zg5 x6 s0) 8 ++ arrE Za s0.c8 8)) (T := s0.c8) (i := s0.c1) (v := Zls) (by kernel_rfl) (by kernel_rfl) (by kernel_rfl) (by kernel_rfl) (tbE h10))] (by kernel_rfl)
         ·exact ZN
       ·exact ZN
      ·cases h7 : tb (Zd2 (Zd x6 s0))
       ·exact ZN
       ·cases h8 : tb (Zch (Zh (Zd x6 s0)))
        ·exact ZN
        ·cases h9 : tb (((Zbz (Zh (Zd x6 s0))) : Int) != 0)
         ·cases h10 : tb (inb 8 s0.c1)
          ·exact ZN
          ·exact fun _ => Z8 [.b (tbE h1), .m 55 (Zkk (nl := x10) (m := [(Blk.flat 55 41 [([(.int .i64 x0)] ++ arrD .i64 x1 8 ++ arrE Za x2 8)] false), (Blk.flat 55 41 [([(.int .i64 x3)] ++ arrD .i64 s0.c7 8 ++ arrE Za s0.c8 8)] false), (Blk.flat 5 1 (List.map (encI .u8) x6) x9)]) (enc := (encI .u8)) (l := x6) (id := 2) (e := 5) (s := 1) (n := x6.length) (p := x9) (some (.i64, (wi (4 + (wi (4 * s0.c1)))))) (some (.i64, (wi (8 + (wi (4 * s0.c1)))))) (by kernel_rfl) (tbE h2) (tbE h3)), .y (mm := [(Blk.flat 55 41 [([(.int .i64 x0)] ++ arrD .i64 x1 8 ++ arrE Za x2 8)] false), (Blk.flat 55 41 [([(.int .i64 x3)] ++ arrD .i64 s0.c7 8 ++ arrE Za s0.c8 8)] false), (Blk.flat 5 1 (List.map (encI .u8) x6) x9)]) (args := [(V.sl 2 x6.length ((wi (4 + (wi (4 * s0.c1)))) : Int).toNat (((wi (8 + (wi (4 * s0.c1)))) : Int).toNat - ((wi (4 + (wi (4 * s0.c1)))) : Int).toNat))]) (args1 := [(V.d (.rs true 1 (List.map (encI .u8) (sub x6 (wi (4 + (wi (4 * s0.c1)))) (wi (8 + (wi (4 * s0.c1)))))) false))]) (Zgj (Zmw (enc := (encI .u8)) (l := x6) (e := 5) (s := 1) (p := x9) (n := x6.length) (lo := (wi (4 + (wi (4 * s0.c1))))) (hi := (wi (8 + (wi (4 * s0.c1))))) (Nat.beq_refl _) (by kernel_rfl) (tbE h2)) (by kernel_rfl)), .c (Zpc false (Zcf x6 s0) (tbE h4)), .m 67 (Zkk (nl := x10) (m := [(Blk.flat 55 41 [([(.int .i64 x0)] ++ arrD .i64 x1 8 ++ arrE Za x2 8)] false), (Blk.flat 55 41 [([(.int .i64 x3)] ++ arrD .i64 s0.c7 8 ++ arrE Za s0.c8 8)] false), (Blk.flat 5 1 (List.map (encI .u8) x6) x9)]) (enc := (encI .u8)) (l := x6) (id := 2) (e := 5) (s := 1) (n := x6.length) (p := x9) (some (.i64, (wi (36 + (wi (2 * s0.c1)))))) (some (.i64, (wi (38 + (wi (2 * s0.c1)))))) (by kernel_rfl) (tbE h5) (tbE h6)), .y (mm := [(Blk.flat 55 41 [([(.int .i64 x0)] ++ arrD .i64 x1 8 ++ arrE Za x2 8)] false), (Blk.flat 55 41 [([(.int .i64 x3)] ++ arrD .i64 s0.c7 8 ++ arrE Za s0.c8 8)] false), (Blk.flat 5 1 (List.map (encI .u8) x6) x9)]) (args := [(V.sl 2 x6.length ((wi (36 + (wi (2 * s0.c1)))) : Int).toNat (((wi (38 + (wi (2 * s0.c1)))) : Int).toNat - ((wi (36 + (wi (2 * s0.c1)))) : Int).toNat))]) (args1 := [(V.d (.rs true 1 (List.map (encI .u8) (sub x6 (wi (36 + (wi (2 * s0.c1)))) (wi (38 + (wi (2 * s0.c1)))))) false))]) (Zgj (Zmw (enc := (encI .u8)) (l := x6) (e := 5) (s := 1) (p := x9) (n := x6.length) (lo := (wi (36 + (wi (2 * s0.c1))))) (hi := (wi (38 + (wi (2 * s0.c1))))) (Nat.beq_refl _) (by kernel_rfl) (tbE h5)) (by kernel_rfl)), .c (Zlg false (Zd x6 s0) (tbE h7)), .c (Zju (Zh (Zd x6 s0)) (tbE h8)), .b (tbE h9), .o 82 (fun _ => Zim (id := 1) (nn := 1) (row := 0) (off := 1) (n := 8) (s := 1) (k := .i64) (i := s0.c1) (tbE h10)), .m 100082 (Zr0 (m := [(Blk.flat 55 41 [([(.int .i64 x0)] ++ arrD .i64 x1 8 ++ arrE Za x2 8)] false), (Blk.flat 55 41 [([(.int .i64 x3)] ++ arrD .i64 s0.c7 8 ++ arrE Za s0.c8 8)] false), (Blk.flat 5 1 (List.map (encI .u8) x6) x9), (Blk.flat 52 4 [[(.int .i64 (Zep (Zh (Zd x6 s0)))), (.int .i64 (Zem (Zh (Zd x6 s0)))), (.int .i64 (Zei (Zh (Zd x6 s0)))), (.bool (Zeh (Zh (Zd x6 s0))))]] false)]) (id := 1) (nn := 1) (row := 0) (off := 1) (n := 8) (s := 41) (e := 55) (rows := [([(.int .i64 x3)] ++ arrD .i64 s0.c7 8 ++ arrE Za s0.c8 8)]) (cs := ([(.int .i64 x3)] ++ arrD .i64 s0.c7 8 ++ arrE Za s0.c8 8)) (k := .i64) (T := s0.c7) (i := s0.c1) (v := (Zih (Zcf x6 s0))) (by kernel_rfl) (by kernel_rfl) (by kernel_rfl) (by kernel_rfl) (tbE h10)), .o 86 (fun _ => Zim (id := 1) (nn := 1) (row := 0) (off := 9) (n := 8) (s := 4) (k := .i64) (i := s0.c1) (tbE h10)), .m 100086 (Zpk (m := [(Blk.flat 55 41 [([(.int .i64 x0)] ++ arrD .i64 x1 8 ++ arrE Za x2 8)] false), (Blk.flat 55 41 [([(.int .i64 x3)] ++ arrD .i64 (Zg5 x6 s0) 8 ++ arrE Za s0.c8 8)] false), (Blk.flat 5 1 (List.map (encI .u8) x6) x9), (Blk.flat 52 4 [[(.int .i64 (Zep (Zh (Zd x6 s0)))), (.int .i64 (Zem (Zh (Zd x6 s0)))), (.int .i64 (Zei (Zh (Zd x6 s0)))), (.bool (Zeh (Zh (Zd x6 s0))))]] false)]) (enc := Za) (z := 4) (fun _ => rfl) (by decide) (fun _ => rfl) (id := 1) (nn := 1) (row := 0) (off := 9) (n := 8) (s := 41) (e := 55) (rows := [([(.int .i64 x3)] ++ arrD .i64 (Zg5 x6 s0) 8 ++ arrE Za s0.c8 8)]) (cs := ([(.int .i64 x3)] ++ arrD .i64 (Zg5 x6 s0) 8 ++ arrE Za s0.c8 8)) (T := s0.c8) (i := s0.c1) (v := (Zio x6 s0)) (by kernel_rfl) (by kernel_rfl) (by kernel_rfl) (by kernel_rfl) (tbE h10))] (by kernel_rfl)
         ·exact ZN
def Zce (x6 : List Int) (x10 : Bool) (s0 : Z5) : Bool := (bif tb (decide (s0.c1 < 8)) then (bif tb (ins x6.length (wi (4 + (wi (4 * s0.c1)))) (wi (8 + (wi (4 * s0.c1))))) then (bif tb (decide ((wi (4 + (wi (4 * s0.c1)))) < (wi (8 + (wi (4 * s0.c1)))))) then (bif tb (Zhy (Zcf x6 s0)) then (bif tb (ins x6.length (wi (36 + (wi (2 * s0.c1)))) (wi (38 + (wi (2 * s0.c1))))) then (bif tb (decide ((wi (36 + (wi (2 * s0.c1)))) < (wi (38 + (wi (2 * s0.c1)))))) then (bif tb (Zd2 (Zd x6 s0)) then (bif tb (Zch (Zh (Zd x6 s0))) then (bif tb (((Zbz (Zh (Zd x6 s0))) : Int) != 0) then true else false) else false) else false) else (bif tb (x10) then false else (bif tb (Zch 0) then (bif tb (((Zbz 0) : Int) != 0) then true else false) else false))) else false) else false) else (bif tb (x10) then false else (bif tb (ins x6.length (wi (36 + (wi (2 * s0.c1)))) (wi (38 + (wi (2 * s0.c1))))) then (bif tb (decide ((wi (36 + (wi (2 * s0.c1)))) < (wi (38 + (wi (2 * s0.c1)))))) then (bif tb (Zd2 (Zd x6 s0)) then (bif tb (Zch (Zh (Zd x6 s0))) then (bif tb (((Zbz (Zh (Zd x6 s0))) : Int) != 0) then true else false) else false) else false) else (bif tb (Zch 0) then (bif tb (((Zbz 0) : Int) != 0) then true else false) else false)) else false))) else false) else false)
def Zfk (s0 : Z5) : Bool := (bif tb (decide (s0.c1 < 8)) then false else true)
theorem Zu6 (x0 : Int) (x1 : List Int) (x2 : List R_i64_i64_i64_bool) (x3 : Int) (x4 : List Int) (x5 : List R_i64_i64_i64_bool) (x6 : List Int) (x7 x8 x9 x10 : Bool) (x11 : Int) (s0 : Z5) : Zdn x6 x10 s0 = false → Zce x6 x10 s0 = true → (roundG (runC E0 (cl E0) L22_0) [2, 4, 5, 9] [2, 3, 4, 5] 3) (Zjo x0 x1 x2 x3 x4 x5 x6 x7 x8 x9 x10 x11 s0) = some (.ret, ([(V.ptr 0 1 0 0), (V.d (.int .i64 3)), (V.ptr 1 1 0 0), (V.so x10 2 x6.length)], [(Blk.flat 55 41 [([(.int .i64 0)] ++ arrD .i64 [0, 0, 0, 0, 0, 0, 0, 0] 8 ++ arrE Za ([⟨0, 0, 0, false⟩, ⟨0, 0, 0, false⟩, ⟨0, 0, 0, false⟩, ⟨0, 0, 0, false⟩, ⟨0, 0, 0, false⟩, ⟨0, 0, 0, false⟩, ⟨0, 0, 0, false⟩, ⟨0, 0, 0, false⟩] : List R_i64_i64_i64_bool) 8)] false), (Blk.flat 55 41 [([(.int .i64 x3)] ++ arrD .i64 s0.c7 8 ++ arrE Za s0.c8 8)] false), (Blk.flat 5 1 (List.map (encI .u8) x6) x9)])) := by
 unfold Zdn Zce
 cases h1 : tb (decide (s0.c1 < 8))
 ·intro g0 g1
  exact absurd g1 ft
 ·cases h2 : tb (ins x6.length (wi (4 + (wi (4 * s0.c1)))) (wi (8 + (wi (4 * s0.c1)))))
  ·intro g0 g1
   exact absurd g1 ft
  ·cases h3 : tb (decide ((wi (4 + (wi (4 * s0.c1)))) < (wi (8 + (wi (4 * s0.c1))))))
   ·cases h4 : tb (x10)
    ·cases h5 : tb (ins x6.length (wi (36 + (wi (2 * s0.c1)))) (wi (38 + (wi (2 * s0.c1)))))
     ·intro g0 g1
      exact absurd g1 ft
     ·cases h6 : tb (decide ((wi (36 + (wi (2 * s0.c1)))) < (wi (38 + (wi (2 * s0.c1))))))
      ·cases h7 : tb (Zch 0)
       ·intro g0 g1
        exact absurd g1 ft
       ·cases h8 : tb (((Zbz 0) : Int) != 0)
        ·cases h9 : tb (inb 8 s0.c1)
         ·intro g0 g1
          exact absurd g1 ft
         ·intro g0 g1
          exact absurd g0 tf
        ·intro g0 g1
         exact Z8 [.b (tbE h1), .m 55 (Zkj (m := [(Blk.flat 55 41 [([(.int .i64 x0)] ++ arrD .i64 x1 8 ++ arrE Za x2 8)] false), (Blk.flat 55 41 [([(.int .i64 x3)] ++ arrD .i64 s0.c7 8 ++ arrE Za s0.c8 8)] false), (Blk.flat 5 1 (List.map (encI .u8) x6) x9)]) (enc := (encI .u8)) (l := x6) (id := 2) (e := 5) (s := 1) (n := x6.length) (p := x9) (some (.i64, (wi (4 + (wi (4 * s0.c1)))))) (some (.i64, (wi (8 + (wi (4 * s0.c1)))))) (deSo_f (tbE h4)) (Nat.beq_refl _) (by kernel_rfl) (tbE h2) (tbE h3)), .c (Zpb), .m 67 (Zkj (m := [(Blk.flat 55 41 [([(.int .i64 x0)] ++ arrD .i64 x1 8 ++ arrE Za x2 8)] false), (Blk.flat 55 41 [([(.int .i64 x3)] ++ arrD .i64 s0.c7 8 ++ arrE Za s0.c8 8)] false), (Blk.flat 5 1 (List.map (encI .u8) x6) x9)]) (enc := (encI .u8)) (l := x6) (id := 2) (e := 5) (s := 1) (n := x6.length) (p := x9) (some (.i64, (wi (36 + (wi (2 * s0.c1)))))) (some (.i64, (wi (38 + (wi (2 * s0.c1)))))) (deSo_f (tbE h4)) (Nat.beq_refl _) (by kernel_rfl) (tbE h5) (tbE h6)), .c (Zlk), .c (Zju 0 (tbE h7)), .b (tbE h8)] (by kernel_rfl)
      ·cases h7 : tb (Zd2 (Zd x6 s0))
       ·intro g0 g1
        exact absurd g1 ft
       ·cases h8 : tb (Zch (Zh (Zd x6 s0)))
        ·intro g0 g1
         exact absurd g1 ft
        ·cases h9 : tb (((Zbz (Zh (Zd x6 s0))) : Int) != 0)
         ·cases h10 : tb (inb 8 s0.c1)
          ·intro g0 g1
           exact absurd g1 ft
          ·intro g0 g1
           exact absurd g0 tf
         ·intro g0 g1
          exact Z8 [.b (tbE h1), .m 55 (Zkj (m := [(Blk.flat 55 41 [([(.int .i64 x0)] ++ arrD .i64 x1 8 ++ arrE Za x2 8)] false), (Blk.flat 55 41 [([(.int .i64 x3)] ++ arrD .i64 s0.c7 8 ++ arrE Za s0.c8 8)] false), (Blk.flat 5 1 (List.map (encI .u8) x6) x9)]) (enc := (encI .u8)) (l := x6) (id := 2) (e := 5) (s := 1) (n := x6.length) (p := x9) (some (.i64, (wi (4 + (wi (4 * s0.c1)))))) (some (.i64, (wi (8 + (wi (4 * s0.c1)))))) (deSo_f (tbE h4)) (Nat.beq_refl _) (by kernel_rfl) (tbE h2) (tbE h3)), .c (Zpb), .m 67 (Zkk (nl := x10) (m := [(Blk.flat 55 41 [([(.int .i64 x0)] ++ arrD .i64 x1 8 ++ arrE Za x2 8)] false), (Blk.flat 55 41 [([(.int .i64 x3)] ++ arrD .i64 s0.c7 8 ++ arrE Za s0.c8 8)] false), (Blk.flat 5 1 (List.map (encI .u8) x6) x9)]) (enc := (encI .u8)) (l := x6) (id := 2) (e := 5) (s := 1) (n := x6.length) (p := x9) (some (.i64, (wi (36 + (wi (2 * s0.c1)))))) (some (.i64, (wi (38 + (wi (2 * s0.c1)))))) (by kernel_rfl) (tbE h5) (tbE h6)), .y (mm := [(Blk.flat 55 41 [([(.int .i64 x0)] ++ arrD .i64 x1 8 ++ arrE Za x2 8)] false), (Blk.flat 55 41 [([(.int .i64 x3)] ++ arrD .i64 s0.c7 8 ++ arrE Za s0.c8 8)] false), (Blk.flat 5 1 (List.map (encI .u8) x6) x9)]) (args := [(V.sl 2 x6.length ((wi (36 + (wi (2 * s0.c1)))) : Int).toNat (((wi (38 + (wi (2 * s0.c1)))) : Int).toNat - ((wi (36 + (wi (2 * s0.c1)))) : Int).toNat))]) (args1 := [(V.d (.rs true 1 (List.map (encI .u8) (sub x6 (wi (36 + (wi (2 * s0.c1)))) (wi (38 + (wi (2 * s0.c1)))))) false))]) (Zgj (Zmw (enc := (encI .u8)) (l := x6) (e := 5) (s := 1) (p := x9) (n := x6.length) (lo := (wi (36 + (wi (2 * s0.c1))))) (hi := (wi (38 + (wi (2 * s0.c1))))) (Nat.beq_refl _) (by kernel_rfl) (tbE h5)) (by kernel_rfl)), .c (Zlg false (Zd x6 s0) (tbE h7)), .c (Zju (Zh (Zd x6 s0)) (tbE h8)), .b (tbE h9)] (by kernel_rfl)
    ·intro g0 g1
     exact absurd g1 ft
   ·cases h4 : tb (Zhy (Zcf x6 s0))
    ·intro g0 g1
     exact absurd g1 ft
    ·cases h5 : tb (ins x6.length (wi (36 + (wi (2 * s0.c1)))) (wi (38 + (wi (2 * s0.c1)))))
     ·intro g0 g1
      exact absurd g1 ft
     ·cases h6 : tb (decide ((wi (36 + (wi (2 * s0.c1)))) < (wi (38 + (wi (2 * s0.c1))))))
      ·cases h7 : tb (x10)
       ·cases h8 : tb (Zch 0)
        ·intro g0 g1
         exact absurd g1 ft
        ·cases h9 : tb (((Zbz 0) : Int) != 0)
         ·cases h10 : tb (inb 8 s0.c1)
          ·intro g0 g1
           exact absurd g1 ft
          ·intro g0 g1
           exact absurd g0 tf
         ·intro g0 g1
          exact Z8 [.b (tbE h1), .m 55 (Zkk (nl := x10) (m := [(Blk.flat 55 41 [([(.int .i64 x0)] ++ arrD .i64 x1 8 ++ arrE Za x2 8)] false), (Blk.flat 55 41 [([(.int .i64 x3)] ++ arrD .i64 s0.c7 8 ++ arrE Za s0.c8 8)] false), (Blk.flat 5 1 (List.map (encI .u8) x6) x9)]) (enc := (encI .u8)) (l := x6) (id := 2) (e := 5) (s := 1) (n := x6.length) (p := x9) (some (.i64, (wi (4 + (wi (4 * s0.c1)))))) (some (.i64, (wi (8 + (wi (4 * s0.c1)))))) (by kernel_rfl) (tbE h2) (tbE h3)), .y (mm := [(Blk.flat 55 41 [([(.int .i64 x0)] ++ arrD .i64 x1 8 ++ arrE Za x2 8)] false), (Blk.flat 55 41 [([(.int .i64 x3)] ++ arrD .i64 s0.c7 8 ++ arrE Za s0.c8 8)] false), (Blk.flat 5 1 (List.map (encI .u8) x6) x9)]) (args := [(V.sl 2 x6.length ((wi (4 + (wi (4 * s0.c1)))) : Int).toNat (((wi (8 + (wi (4 * s0.c1)))) : Int).toNat - ((wi (4 + (wi (4 * s0.c1)))) : Int).toNat))]) (args1 := [(V.d (.rs true 1 (List.map (encI .u8) (sub x6 (wi (4 + (wi (4 * s0.c1)))) (wi (8 + (wi (4 * s0.c1)))))) false))]) (Zgj (Zmw (enc := (encI .u8)) (l := x6) (e := 5) (s := 1) (p := x9) (n := x6.length) (lo := (wi (4 + (wi (4 * s0.c1))))) (hi := (wi (8 + (wi (4 * s0.c1))))) (Nat.beq_refl _) (by kernel_rfl) (tbE h2)) (by kernel_rfl)), .c (Zpc false (Zcf x6 s0) (tbE h4)), .m 67 (Zkj (m := [(Blk.flat 55 41 [([(.int .i64 x0)] ++ arrD .i64 x1 8 ++ arrE Za x2 8)] false), (Blk.flat 55 41 [([(.int .i64 x3)] ++ arrD .i64 s0.c7 8 ++ arrE Za s0.c8 8)] false), (Blk.flat 5 1 (List.map (encI .u8) x6) x9)]) (enc := (encI .u8)) (l := x6) (id := 2) (e := 5) (s := 1) (n := x6.length) (p := x9) (some (.i64, (wi (36 + (wi (2 * s0.c1)))))) (some (.i64, (wi (38 + (wi (2 * s0.c1)))))) (deSo_f (tbE h7)) (Nat.beq_refl _) (by kernel_rfl) (tbE h5) (tbE h6)), .c (Zlk), .c (Zju 0 (tbE h8)), .b (tbE h9)] (by kernel_rfl)
       ·intro g0 g1
        exact absurd g1 ft
      ·cases h7 : tb (Zd2 (Zd x6 s0))
       ·intro g0 g1
        exact absurd g1 ft
       ·cases h8 : tb (Zch (Zh (Zd x6 s0)))
        ·intro g0 g1
         exact absurd g1 ft
        ·cases h9 : tb (((Zbz (Zh (Zd x6 s0))) : Int) != 0)
         ·cases h10 : tb (inb 8 s0.c1)
          ·intro g0 g1
           exact absurd g1 ft
          ·intro g0 g1
           exact absurd g0 tf
         ·intro g0 g1
          exact Z8 [.b (tbE h1), .m 55 (Zkk (nl := x10) (m := [(Blk.flat 55 41 [([(.int .i64 x0)] ++ arrD .i64 x1 8 ++ arrE Za x2 8)] false), (Blk.flat 55 41 [([(.int .i64 x3)] ++ arrD .i64 s0.c7 8 ++ arrE Za s0.c8 8)] false), (Blk.flat 5 1 (List.map (encI .u8) x6) x9)]) (enc := (encI .u8)) (l := x6) (id := 2) (e := 5) (s := 1) (n := x6.length) (p := x9) (some (.i64, (wi (4 + (wi (4 * s0.c1)))))) (some (.i64, (wi (8 + (wi (4 * s0.c1)))))) (by kernel_rfl) (tbE h2) (tbE h3)), .y (mm := [(Blk.flat 55 41 [([(.int .i64 x0)] ++ arrD .i64 x1 8 ++ arrE Za x2 8)] false), (Blk.flat 55 41 [([(.int .i64 x3)] ++ arrD .i64 s0.c7 8 ++ arrE Za s0.c8 8)] false), (Blk.flat 5 1 (List.map (encI .u8) x6) x9)]) (args := [(V.sl 2 x6.length ((wi (4 + (wi (4 * s0.c1)))) : Int).toNat (((wi (8 + (wi (4 * s0.c1)))) : Int).toNat - ((wi (4 + (wi (4 * s0.c1)))) : Int).toNat))]) (args1 := [(V.d (.rs true 1 (List.map (encI .u8) (sub x6 (wi (4 + (wi (4 * s0.c1)))) (wi (8 + (wi (4 * s0.c1)))))) false))]) (Zgj (Zmw (enc := (encI .u8)) (l := x6) (e := 5) (s := 1) (p := x9) (n := x6.length) (lo := (wi (4 + (wi (4 * s0.c1))))) (hi := (wi (8 + (wi (4 * s0.c1))))) (Nat.beq_refl _) (by kernel_rfl) (tbE h2)) (by kernel_rfl)), .c (Zpc false (Zcf x6 s0) (tbE h4)), .m 67 (Zkk (nl := x10) (m := [(Blk.flat 55 41 [([(.int .i64 x0)] ++ arrD .i64 x1 8 ++ arrE Za x2 8)] false), (Blk.flat 55 41 [([(.int .i64 x3)] ++ arrD .i64 s0.c7 8 ++ arrE Za s0.c8 8)] false), (Blk.flat 5 1 (List.map (encI .u8) x6) x9)]) (enc := (encI .u8)) (l := x6) (id := 2) (e := 5) (s := 1) (n := x6.length) (p := x9) (some (.i64, (wi (36 + (wi (2 * s0.c1)))))) (some (.i64, (wi (38 + (wi (2 * s0.c1)))))) (by kernel_rfl) (tbE h5) (tbE h6)), .y (mm := [(Blk.flat 55 41 [([(.int .i64 x0)] ++ arrD .i64 x1 8 ++ arrE Za x2 8)] false), (Blk.flat 55 41 [([(.int .i64 x3)] ++ arrD .i64 s0.c7 8 ++ arrE Za s0.c8 8)] false), (Blk.flat 5 1 (List.map (encI .u8) x6) x9)]) (args := [(V.sl 2 x6.length ((wi (36 + (wi (2 * s0.c1)))) : Int).toNat (((wi (38 + (wi (2 * s0.c1)))) : Int).toNat - ((wi (36 + (wi (2 * s0.c1)))) : Int).toNat))]) (args1 := [(V.d (.rs true 1 (List.map (encI .u8) (sub x6 (wi (36 + (wi (2 * s0.c1)))) (wi (38 + (wi (2 * s0.c1)))))) false))]) (Zgj (Zmw (enc := (encI .u8)) (l := x6) (e := 5) (s := 1) (p := x9) (n := x6.length) (lo := (wi (36 + (wi (2 * s0.c1))))) (hi := (wi (38 + (wi (2 * s0.c1))))) (Nat.beq_refl _) (by kernel_rfl) (tbE h5)) (by kernel_rfl)), .c (Zlg false (Zd x6 s0) (tbE h7)), .c (Zju (Zh (Zd x6 s0)) (tbE h8)), .b (tbE h9)] (by kernel_rfl)
theorem Zvr (x0 : Int) (x1 : List Int) (x2 : List R_i64_i64_i64_bool) (x3 : Int) (x4 : List Int) (x5 : List R_i64_i64_i64_bool) (x6 : List Int) (x7 x8 x9 x10 : Bool) (x11 : Int) (s0 : Z5) : Zdn x6 x10 s0 = false → Zce x6 x10 s0 = false → Zfk s0 = true → (roundG (runC E0 (cl E0) L22_0) [2, 4, 5, 9] [2, 3, 4, 5] 3) (Zjo x0 x1 x2 x3 x4 x5 x6 x7 x8 x9 x10 x11 s0) = some ((.exit 0), ([(V.ptr 0 1 0 0), V.un, (V.ptr 1 1 0 0), (V.so x10 2 x6.length)], [(Blk.flat 55 41 [([(.int .i64 x0)] ++ arrD .i64 x1 8 ++ arrE Za x2 8)] false), (Blk.flat 55 41 [([(.int .i64 x3)] ++ arrD .i64 s0.c7 8 ++ arrE Za s0.c8 8)] false), (Blk.flat 5 1 (List.map (encI .u8) x6) x9)])) := by
 unfold Zdn Zce Zfk
 cases h1 : tb (decide (s0.c1 < 8))
 ·intro g0 g1 g2
  exact Z8 [.b (tbE h1)] (by kernel_rfl)
 ·cases h2 : tb (ins x6.length (wi (4 + (wi (4 * s0.c1)))) (wi (8 + (wi (4 * s0.c1)))))
  ·intro g0 g1 g2
   exact absurd g2 ft
  ·cases h3 : tb (decide ((wi (4 + (wi (4 * s0.c1)))) < (wi (8 + (wi (4 * s0.c1))))))
   ·cases h4 : tb (x10)
    ·cases h5 : tb (ins x6.length (wi (36 + (wi (2 * s0.c1)))) (wi (38 + (wi (2 * s0.c1)))))
     ·intro g0 g1 g2
      exact absurd g2 ft
     ·cases h6 : tb (decide ((wi (36 + (wi (2 * s0.c1)))) < (wi (38 + (wi (2 * s0.c1))))))
      ·cases h7 : tb (Zch 0)
       ·intro g0 g1 g2
        exact absurd g2 ft
       ·cases h8 : tb (((Zbz 0) : Int) != 0)
        ·cases h9 : tb (inb 8 s0.c1)
         ·intro g0 g1 g2
          exact absurd g2 ft
         ·intro g0 g1 g2
          exact absurd g0 tf
        ·intro g0 g1 g2
         exact absurd g1 tf
      ·cases h7 : tb (Zd2 (Zd x6 s0))
       ·intro g0 g1 g2
        exact absurd g2 ft
       ·cases h8 : tb (Zch (Zh (Zd x6 s0)))
        ·intro g0 g1 g2
         exact absurd g2 ft
        ·cases h9 : tb (((Zbz (Zh (Zd x6 s0))) : Int) != 0)
         ·cases h10 : tb (inb 8 s0.c1)
          ·intro g0 g1 g2
           exact absurd g2 ft
          ·intro g0 g1 g2
           exact absurd g0 tf
         ·intro g0 g1 g2
          exact absurd g1 tf
    ·intro g0 g1 g2
     exact absurd g2 ft
   ·cases h4 : tb (Zhy (Zcf x6 s0))
    ·intro g0 g1 g2
     exact absurd g2 ft
    ·cases h5 : tb (ins x6.length (wi (36 + (wi (2 * s0.c1)))) (wi (38 + (wi (2 * s0.c1)))))
     ·intro g0 g1 g2
      exact absurd g2 ft
     ·cases h6 : tb (decide ((wi (36 + (wi (2 * s0.c1)))) < (wi (38 + (wi (2 * s0.c1))))))
      ·cases h7 : tb (x10)
       ·cases h8 : tb (Zch 0)
        ·intro g0 g1 g2
         exact absurd g2 ft
        ·cases h9 : tb (((Zbz 0) : Int) != 0)
         ·cases h10 : tb (inb 8 s0.c1)
          ·intro g0 g1 g2
           exact absurd g2 ft
          ·intro g0 g1 g2
           exact absurd g0 tf
         ·intro g0 g1 g2
          exact absurd g1 tf
       ·intro g0 g1 g2
        exact absurd g2 ft
      ·cases h7 : tb (Zd2 (Zd x6 s0))
       ·intro g0 g1 g2
        exact absurd g2 ft
       ·cases h8 : tb (Zch (Zh (Zd x6 s0)))
        ·intro g0 g1 g2
         exact absurd g2 ft
        ·cases h9 : tb (((Zbz (Zh (Zd x6 s0))) : Int) != 0)
         ·cases h10 : tb (inb 8 s0.c1)
          ·intro g0 g1 g2
           exact absurd g2 ft
          ·intro g0 g1 g2
           exact absurd g0 tf
         ·intro g0 g1 g2
          exact absurd g1 tf
theorem Zp6 (x0 : Int) (x1 : List Int) (x2 : List R_i64_i64_i64_bool) (x3 : Int) (x4 : List Int) (x5 : List R_i64_i64_i64_bool) (x6 : List Int) (x7 x8 x9 x10 : Bool) (x11 : Int) (s : Z5) (hok : Zev x6 x10 s = true) (c0 : Zce x6 x10 (Zd3 x6 x10 s) = true) : loopG (roundG (runC E0 (cl E0) L22_0) [2, 4, 5, 9] [2, 3, 4, 5] 3) bound (Zjo x0 x1 x2 x3 x4 x5 x6 x7 x8 x9 x10 x11 s) = some (.ret, ([(V.ptr 0 1 0 0), (V.d (.int .i64 3)), (V.ptr 1 1 0 0), (V.so x10 2 x6.length)], [(Blk.flat 55 41 [([(.int .i64 0)] ++ arrD .i64 [0, 0, 0, 0, 0, 0, 0, 0] 8 ++ arrE Za ([⟨0, 0, 0, false⟩, ⟨0, 0, 0, false⟩, ⟨0, 0, 0, false⟩, ⟨0, 0, 0, false⟩, ⟨0, 0, 0, false⟩, ⟨0, 0, 0, false⟩, ⟨0, 0, 0, false⟩, ⟨0, 0, 0, false⟩] : List R_i64_i64_i64_bool) 8)] false), (Blk.flat 55 41 [([(.int .i64 x3)] ++ arrD .i64 ((Zd3 x6 x10 s).c7) 8 ++ arrE Za ((Zd3 x6 x10 s).c8) 8)] false), (Blk.flat 5 1 (List.map (encI .u8) x6) x9)])) := by
 have e : itS (Zdn x6 x10) (Zhh x6 x10) bound s = some (Zd3 x6 x10 s) := Zgn hok
 have f := Ze1 e
 exact Zgh (Zqx x0 x1 x2 x3 x4 x5 x6 x7 x8 x9 x10 x11) bound s _ _ _ e (fun h => by cases h) (Zu6 x0 x1 x2 x3 x4 x5 x6 x7 x8 x9 x10 x11 (Zd3 x6 x10 s) f c0)
theorem Zl3 (x0 : Int) (x1 : List Int) (x2 : List R_i64_i64_i64_bool) (x3 : Int) (x4 : List Int) (x5 : List R_i64_i64_i64_bool) (x6 : List Int) (x7 x8 x9 x10 : Bool) (x11 : Int) (s : Z5) (hok : Zev x6 x10 s = true) (c0 : Zce x6 x10 (Zd3 x6 x10 s) = false) (c1 : Zfk (Zd3 x6 x10 s) = true) : loopG (roundG (runC E0 (cl E0) L22_0) [2, 4, 5, 9] [2, 3, 4, 5] 3) bound (Zjo x0 x1 x2 x3 x4 x5 x6 x7 x8 x9 x10 x11 s) = some ((.exit 0), ([(V.ptr 0 1 0 0), V.un, (V.ptr 1 1 0 0), (V.so x10 2 x6.length)], [(Blk.flat 55 41 [([(.int .i64 x0)] ++ arrD .i64 x1 8 ++ arrE Za x2 8)] false), (Blk.flat 55 41 [([(.int .i64 x3)] ++ arrD .i64 ((Zd3 x6 x10 s).c7) 8 ++ arrE Za ((Zd3 x6 x10 s).c8) 8)] false), (Blk.flat 5 1 (List.map (encI .u8) x6) x9)])) := by
 have e : itS (Zdn x6 x10) (Zhh x6 x10) bound s = some (Zd3 x6 x10 s) := Zgn hok
 have f := Ze1 e
 exact Zgh (Zqx x0 x1 x2 x3 x4 x5 x6 x7 x8 x9 x10 x11) bound s _ _ _ e (fun h => by cases h) (Zvr x0 x1 x2 x3 x4 x5 x6 x7 x8 x9 x10 x11 (Zd3 x6 x10 s) f c0 c1)
def Ze (x2 : List Int) (x3 : List R_i64_i64_i64_bool) (x7 : List Int) : Z5 := Zd3 (Zb x7) (Zq x7) (⟨0, x2, x3⟩ : Z5)
def Zoo  : List R_i64_i64_i64_bool := ([⟨0, 0, 0, false⟩, ⟨0, 0, 0, false⟩, ⟨0, 0, 0, false⟩, ⟨0, 0, 0, false⟩, ⟨0, 0, 0, false⟩, ⟨0, 0, 0, false⟩, ⟨0, 0, 0, false⟩, ⟨0, 0, 0, false⟩] : List R_i64_i64_i64_bool)
def Zc9 (x2 : List Int) (x3 : List R_i64_i64_i64_bool) (x7 : List Int) : Bool := (bif tb (Zjf x7) then (bif tb (Zey x7) then (bif tb (((((Zb x7).length : Nat) : Int) : Int) != 52) then true else (bif tb (inb ((Zb x7).length) 0) then (bif tb (((gt (Zb x7) 0) : Int) != 90) then true else (bif tb (ins ((Zb x7).length) 2 4) then (bif tb (decide (2 < 4)) then (bif tb (Zd2 (sub (Zb x7) 2 4)) then (bif tb (Zev (Zb x7) (Zq x7) (⟨0, x2, x3⟩ : Z5)) then (bif tb (Zce (Zb x7) (Zq x7) (Ze x2 x3 x7)) then true else (bif tb (Zfk (Ze x2 x3 x7)) then (bif tb (inb ((Zb x7).length) 1) then (bif tb (Z6 ((Ze x2 x3 x7).c8)) then (bif tb (((wi (gt (Zb x7) 1)) : Int) != ((Zy ((Ze x2 x3 x7).c8)).c0)) then true else false) else false) else false) else false)) else false) else false) else (bif tb (Zq x7) then false else (bif tb (Zev (Zb x7) (Zq x7) (⟨0, x2, x3⟩ : Z5)) then (bif tb (Zce (Zb x7) (Zq x7) (Ze x2 x3 x7)) then true else (bif tb (Zfk (Ze x2 x3 x7)) then (bif tb (inb ((Zb x7).length) 1) then (bif tb (Z6 ((Ze x2 x3 x7).c8)) then (bif tb (((wi (gt (Zb x7) 1)) : Int) != ((Zy ((Ze x2 x3 x7).c8)).c0)) then true else false) else false) else false) else false)) else false))) else false)) else false)) else true) else false)
def Zkp (x2 x7 : List Int) : List Int := (bif tb (Zey x7) then (bif tb (((((Zb x7).length : Nat) : Int) : Int) != 52) then x2 else (bif tb (((gt (Zb x7) 0) : Int) != 90) then x2 else [0, 0, 0, 0, 0, 0, 0, 0])) else x2)
def Zkr (x2 : List Int) (x3 : List R_i64_i64_i64_bool) (x7 : List Int) : List R_i64_i64_i64_bool := (bif tb (Zey x7) then (bif tb (((((Zb x7).length : Nat) : Int) : Int) != 52) then x3 else (bif tb (((gt (Zb x7) 0) : Int) != 90) then x3 else (bif tb (decide (2 < 4)) then (bif tb (Zce (Zb x7) (Zq x7) (Ze x2 x3 x7)) then Zoo else ([⟨0, 0, 0, false⟩, ⟨0, 0, 0, false⟩, ⟨0, 0, 0, false⟩, ⟨0, 0, 0, false⟩, ⟨0, 0, 0, false⟩, ⟨0, 0, 0, false⟩, ⟨0, 0, 0, false⟩, ⟨0, 0, 0, false⟩] : List R_i64_i64_i64_bool)) else (bif tb (Zce (Zb x7) (Zq x7) (Ze x2 x3 x7)) then Zoo else ([⟨0, 0, 0, false⟩, ⟨0, 0, 0, false⟩, ⟨0, 0, 0, false⟩, ⟨0, 0, 0, false⟩, ⟨0, 0, 0, false⟩, ⟨0, 0, 0, false⟩, ⟨0, 0, 0, false⟩, ⟨0, 0, 0, false⟩] : List R_i64_i64_i64_bool))))) else x3)
def Zqb (x7 : List Int) : Int := (bif tb (Zey x7) then (bif tb (((((Zb x7).length : Nat) : Int) : Int) != 52) then 0 else (bif tb (((gt (Zb x7) 0) : Int) != 90) then 0 else (bif tb (decide (2 < 4)) then (Zh (sub (Zb x7) 2 4)) else 0))) else 0)
def Zp8 (x2 : List Int) (x3 : List R_i64_i64_i64_bool) (x7 : List Int) : List Int := (bif tb (Zey x7) then (bif tb (((((Zb x7).length : Nat) : Int) : Int) != 52) then x2 else (bif tb (((gt (Zb x7) 0) : Int) != 90) then x2 else ((Ze x2 x3 x7).c7))) else x2)
def Zqa (x2 : List Int) (x3 : List R_i64_i64_i64_bool) (x7 : List Int) : List R_i64_i64_i64_bool := (bif tb (Zey x7) then (bif tb (((((Zb x7).length : Nat) : Int) : Int) != 52) then x3 else (bif tb (((gt (Zb x7) 0) : Int) != 90) then x3 else ((Ze x2 x3 x7).c8))) else x3)
def Zka (x2 : List Int) (x3 : List R_i64_i64_i64_bool) (x7 : List Int) : Bool := (bif tb (Zjf x7) then (bif tb (Zey x7) then (bif tb (((((Zb x7).length : Nat) : Int) : Int) != 52) then false else (bif tb (inb ((Zb x7).length) 0) then (bif tb (((gt (Zb x7) 0) : Int) != 90) then false else (bif tb (ins ((Zb x7).length) 2 4) then (bif tb (decide (2 < 4)) then (bif tb (Zd2 (sub (Zb x7) 2 4)) then (bif tb (Zev (Zb x7) (Zq x7) (⟨0, x2, x3⟩ : Z5)) then (bif tb (Zce (Zb x7) (Zq x7) (Ze x2 x3 x7)) then false else (bif tb (Zfk (Ze x2 x3 x7)) then (bif tb (inb ((Zb x7).length) 1) then (bif tb (Z6 ((Ze x2 x3 x7).c8)) then (bif tb (((wi (gt (Zb x7) 1)) : Int) != ((Zy ((Ze x2 x3 x7).c8)).c0)) then false else true) else false) else false) else false)) else false) else false) else (bif tb (Zq x7) then false else (bif tb (Zev (Zb x7) (Zq x7) (⟨0, x2, x3⟩ : Z5)) then (bif tb (Zce (Zb x7) (Zq x7) (Ze x2 x3 x7)) then false else (bif tb (Zfk (Ze x2 x3 x7)) then (bif tb (inb ((Zb x7).length) 1) then (bif tb (Z6 ((Ze x2 x3 x7).c8)) then (bif tb (((wi (gt (Zb x7) 1)) : Int) != ((Zy ((Ze x2 x3 x7).c8)).c0)) then false else true) else false) else false) else false)) else false))) else false)) else false)) else false) else false)
def Zks (x7 : List Int) : Int := (bif tb (decide (2 < 4)) then (Zh (sub (Zb x7) 2 4)) else 0)
theorem Zvt (x0 : List Int) (x1 : List R_i64_i64_i64_bool) (x2 : List Int) (x3 : List R_i64_i64_i64_bool) (x6 : Bool) (x7 : List Int) : Zc9 x2 x3 x7 = true → segG (runC E0 (cl E0) S22_1) [0, 2, 4] [2, 3] [2, 4] 2 ([(V.d (slD (encI .u8) true 1 x6 x7)), (V.ptr 0 1 0 0), (V.ptr 1 1 0 0)], [(Blk.flat 55 41 [([(.int .i64 0)] ++ arrD .i64 x0 8 ++ arrE Za x1 8)] false), (Blk.flat 55 41 [([(.int .i64 0)] ++ arrD .i64 x2 8 ++ arrE Za x3 8)] false)]) = some (.ret, ([(V.ptr 0 1 0 0), (V.d (.int .i64 3))], [(Blk.flat 55 41 [([(.int .i64 0)] ++ arrD .i64 (Zkp x2 x7) 8 ++ arrE Za (Zkr x2 x3 x7) 8)] false), (Blk.flat 55 41 [([(.int .i64 (Zqb x7))] ++ arrD .i64 (Zp8 x2 x3 x7) 8 ++ arrE Za (Zqa x2 x3 x7) 8)] false)])) := by
 unfold Zc9 Zkp Zkr Zqb Zp8 Zqa
 cases h1 : tb (Zjf x7)
 ·exact ZN
 ·cases h2 : tb (Zey x7)
  ·exact fun g0 => Zbh [.c (Zjh x6 x7 (tbE h1)), .b (notF (tbE h2))] (by kernel_rfl)
  ·cases h3 : tb (((((Zb x7).length : Nat) : Int) : Int) != 52)
   ·cases h4 : tb (inb ((Zb x7).length) 0)
    ·exact ZN
    ·cases h5 : tb (((gt (Zb x7) 0) : Int) != 90)
     ·cases h6 : tb (ins ((Zb x7).length) 2 4)
      ·exact ZN
      ·cases h7 : tb (decide (2 < 4))
       ·cases h8 : tb (Zq x7)
        ·cases h9 : tb (Zev (Zb x7) (Zq x7) (⟨0, x2, x3⟩ : Z5))
         ·exact ZN
         ·cases h10 : tb (Zce (Zb x7) (Zq x7) (Ze x2 x3 x7))
          ·cases h11 : tb (Zfk (Ze x2 x3 x7))
           ·exact ZN
           ·cases h12 : tb (inb ((Zb x7).length) 1)
            ·exact ZN
            ·cases h13 : tb (Z6 ((Ze x2 x3 x7).c8))
             ·exact ZN
             ·cases h14 : tb (((wi (gt (Zb x7) 1)) : Int) != ((Zy ((Ze x2 x3 x7).c8)).c0))
              ·exact ZN
              ·exact fun g0 => Zbh [.c (Zjh x6 x7 (tbE h1)), .b (notT (tbE h2)), .b (tbE h3), .m 30 (Zmy (m := [(Blk.flat 55 41 [([(.int .i64 0)] ++ arrD .i64 x0 8 ++ arrE Za x1 8)] false), (Blk.flat 55 41 [([(.int .i64 0)] ++ arrD .i64 x2 8 ++ arrE Za x3 8)] false), (Blk.flat 5 1 (List.map (encI .u8) (Zb x7)) false)]) (b := (Zq x7)) (id := 2) (n := ((Zb x7).length)) (s := 1) (k := .i64) (by kernel_rfl) (tbE h4)), .m 31 (Zm1 (m := [(Blk.flat 55 41 [([(.int .i64 0)] ++ arrD .i64 x0 8 ++ arrE Za x1 8)] false), (Blk.flat 55 41 [([(.int .i64 0)] ++ arrD .i64 x2 8 ++ arrE Za x3 8)] false), (Blk.flat 5 1 (List.map (encI .u8) (Zb x7)) false)]) (enc := (encI .u8)) (l := (Zb x7)) (id := 2) (e := 5) (s := 1) (off := 0) (size := 1) (p := false) (agg := false) (i := 0) (v := (V.d (.int .u8 (gt (Zb x7) 0)))) (n := ((Zb x7).length)) (Nat.beq_refl _) (by kernel_rfl) (tbE h4) (by kernel_rfl)), .b (tbE h5), .m 37 (Zkj (m := [(Blk.flat 55 41 [([(.int .i64 0)] ++ arrD .i64 x0 8 ++ arrE Za x1 8)] false), (Blk.flat 55 41 [([(.int .i64 0)] ++ arrD .i64 x2 8 ++ arrE Za x3 8)] false), (Blk.flat 5 1 (List.map (encI .u8) (Zb x7)) false)]) (enc := (encI .u8)) (l := (Zb x7)) (id := 2) (e := 5) (s := 1) (n := ((Zb x7).length)) (p := false) (some (.i64, 2)) (some (.i64, 4)) (deSo_f (tbE h8)) (Nat.beq_refl _) (by kernel_rfl) (tbE h6) (tbE h7)), .c (Zlk), .l (Zl3 0 x0 x1 0 x2 x3 (Zb x7) false false false (Zq x7) 0 (⟨0, x2, x3⟩ : Z5) (tbE h9) (tbE h10) (tbE h11)), .m 88 (Zmy (m := [(Blk.flat 55 41 [([(.int .i64 0)] ++ arrD .i64 x0 8 ++ arrE Za x1 8)] false), (Blk.flat 55 41 [([(.int .i64 0)] ++ arrD .i64 ((Ze x2 x3 x7).c7) 8 ++ arrE Za ((Ze x2 x3 x7).c8) 8)] false), (Blk.flat 5 1 (List.map (encI .u8) (Zb x7)) false)]) (b := (Zq x7)) (id := 2) (n := ((Zb x7).length)) (s := 1) (k := .i64) (by kernel_rfl) (tbE h12)), .m 89 (Zm1 (m := [(Blk.flat 55 41 [([(.int .i64 0)] ++ arrD .i64 x0 8 ++ arrE Za x1 8)] false), (Blk.flat 55 41 [([(.int .i64 0)] ++ arrD .i64 ((Ze x2 x3 x7).c7) 8 ++ arrE Za ((Ze x2 x3 x7).c8) 8)] false), (Blk.flat 5 1 (List.map (encI .u8) (Zb x7)) false)]) (enc := (encI .u8)) (l := (Zb x7)) (id := 2) (e := 5) (s := 1) (off := 0) (size := 1) (p := false) (agg := false) (i := 1) (v := (V.d (.int .u8 (gt (Zb x7) 1)))) (n := ((Zb x7).length)) (Nat.beq_refl _) (by kernel_rfl) (tbE h12) (by kernel_rfl)), .c (Zew 0 ((Ze x2 x3 x7).c7) ((Ze x2 x3 x7).c8) (tbE h13)), .b (tbE h14)] (by kernel_rfl)
          ·exact fun g0 => Zbh [.c (Zjh x6 x7 (tbE h1)), .b (notT (tbE h2)), .b (tbE h3), .m 30 (Zmy (m := [(Blk.flat 55 41 [([(.int .i64 0)] ++ arrD .i64 x0 8 ++ arrE Za x1 8)] false), (Blk.flat 55 41 [([(.int .i64 0)] ++ arrD .i64 x2 8 ++ arrE Za x3 8)] false), (Blk.flat 5 1 (List.map (encI .u8) (Zb x7)) false)]) (b := (Zq x7)) (id := 2) (n := ((Zb x7).length)) (s := 1) (k := .i64) (by kernel_rfl) (tbE h4)), .m 31 (Zm1 (m := [(Blk.flat 55 41 [([(.int .i64 0)] ++ arrD .i64 x0 8 ++ arrE Za x1 8)] false), (Blk.flat 55 41 [([(.int .i64 0)] ++ arrD .i64 x2 8 ++ arrE Za x3 8)] false), (Blk.flat 5 1 (List.map (encI .u8) (Zb x7)) false)]) (enc := (encI .u8)) (l := (Zb x7)) (id := 2) (e := 5) (s := 1) (off := 0) (size := 1) (p := false) (agg := false) (i := 0) (v := (V.d (.int .u8 (gt (Zb x7) 0)))) (n := ((Zb x7).length)) (Nat.beq_refl _) (by kernel_rfl) (tbE h4) (by kernel_rfl)), .b (tbE h5), .m 37 (Zkj (m := [(Blk.flat 55 41 [([(.int .i64 0)] ++ arrD .i64 x0 8 ++ arrE Za x1 8)] false), (Blk.flat 55 41 [([(.int .i64 0)] ++ arrD .i64 x2 8 ++ arrE Za x3 8)] false), (Blk.flat 5 1 (List.map (encI .u8) (Zb x7)) false)]) (enc := (encI .u8)) (l := (Zb x7)) (id := 2) (e := 5) (s := 1) (n := ((Zb x7).length)) (p := false) (some (.i64, 2)) (some (.i64, 4)) (deSo_f (tbE h8)) (Nat.beq_refl _) (by kernel_rfl) (tbE h6) (tbE h7)), .c (Zlk), .l (Zp6 0 x0 x1 0 x2 x3 (Zb x7) false false false (Zq x7) 0 (⟨0, x2, x3⟩ : Z5) (tbE h9) (tbE h10))] (by kernel_rfl)
        ·exact ZN
       ·cases h8 : tb (Zd2 (sub (Zb x7) 2 4))
        ·exact ZN
        ·cases h9 : tb (Zev (Zb x7) (Zq x7) (⟨0, x2, x3⟩ : Z5))
         ·exact ZN
         ·cases h10 : tb (Zce (Zb x7) (Zq x7) (Ze x2 x3 x7))
          ·cases h11 : tb (Zfk (Ze x2 x3 x7))
           ·exact ZN
           ·cases h12 : tb (inb ((Zb x7).length) 1)
            ·exact ZN
            ·cases h13 : tb (Z6 ((Ze x2 x3 x7).c8))
             ·exact ZN
             ·cases h14 : tb (((wi (gt (Zb x7) 1)) : Int) != ((Zy ((Ze x2 x3 x7).c8)).c0))
              ·exact ZN
              ·exact fun g0 => Zbh [.c (Zjh x6 x7 (tbE h1)), .b (notT (tbE h2)), .b (tbE h3), .m 30 (Zmy (m := [(Blk.flat 55 41 [([(.int .i64 0)] ++ arrD .i64 x0 8 ++ arrE Za x1 8)] false), (Blk.flat 55 41 [([(.int .i64 0)] ++ arrD .i64 x2 8 ++ arrE Za x3 8)] false), (Blk.flat 5 1 (List.map (encI .u8) (Zb x7)) false)]) (b := (Zq x7)) (id := 2) (n := ((Zb x7).length)) (s := 1) (k := .i64) (by kernel_rfl) (tbE h4)), .m 31 (Zm1 (m := [(Blk.flat 55 41 [([(.int .i64 0)] ++ arrD .i64 x0 8 ++ arrE Za x1 8)] false), (Blk.flat 55 41 [([(.int .i64 0)] ++ arrD .i64 x2 8 ++ arrE Za x3 8)] false), (Blk.flat 5 1 (List.map (encI .u8) (Zb x7)) false)]) (enc := (encI .u8)) (l := (Zb x7)) (id := 2) (e := 5) (s := 1) (off := 0) (size := 1) (p := false) (agg := false) (i := 0) (v := (V.d (.int .u8 (gt (Zb x7) 0)))) (n := ((Zb x7).length)) (Nat.beq_refl _) (by kernel_rfl) (tbE h4) (by kernel_rfl)), .b (tbE h5), .m 37 (Zkk (nl := (Zq x7)) (m := [(Blk.flat 55 41 [([(.int .i64 0)] ++ arrD .i64 x0 8 ++ arrE Za x1 8)] false), (Blk.flat 55 41 [([(.int .i64 0)] ++ arrD .i64 x2 8 ++ arrE Za x3 8)] false), (Blk.flat 5 1 (List.map (encI .u8) (Zb x7)) false)]) (enc := (encI .u8)) (l := (Zb x7)) (id := 2) (e := 5) (s := 1) (n := ((Zb x7).length)) (p := false) (some (.i64, 2)) (some (.i64, 4)) (by kernel_rfl) (tbE h6) (tbE h7)), .y (mm := [(Blk.flat 55 41 [([(.int .i64 0)] ++ arrD .i64 x0 8 ++ arrE Za x1 8)] false), (Blk.flat 55 41 [([(.int .i64 0)] ++ arrD .i64 x2 8 ++ arrE Za x3 8)] false), (Blk.flat 5 1 (List.map (encI .u8) (Zb x7)) false)]) (args := [(V.sl 2 ((Zb x7).length) (2 : Int).toNat ((4 : Int).toNat - (2 : Int).toNat))]) (args1 := [(V.d (.rs true 1 (List.map (encI .u8) (sub (Zb x7) 2 4)) false))]) (Zgj (Zmw (enc := (encI .u8)) (l := (Zb x7)) (e := 5) (s := 1) (p := false) (n := ((Zb x7).length)) (lo := 2) (hi := 4) (Nat.beq_refl _) (by kernel_rfl) (tbE h6)) (by kernel_rfl)), .c (Zlg false (sub (Zb x7) 2 4) (tbE h8)), .l (Zl3 0 x0 x1 (Zh (sub (Zb x7) 2 4)) x2 x3 (Zb x7) false false false (Zq x7) 0 (⟨0, x2, x3⟩ : Z5) (tbE h9) (tbE h10) (tbE h11)), .m 88 (Zmy (m := [(Blk.flat 55 41 [([(.int .i64 0)] ++ arrD .i64 x0 8 ++ arrE Za x1 8)] false), (Blk.flat 55 41 [([(.int .i64 (Zh (sub (Zb x7) 2 4)))] ++ arrD .i64 ((Ze x2 x3 x7).c7) 8 ++ arrE Za ((Ze x2 x3 x7).c8) 8)] false), (Blk.flat 5 1 (List.map (encI .u8) (Zb x7)) false)]) (b := (Zq x7)) (id := 2) (n := ((Zb x7).length)) (s := 1) (k := .i64) (by kernel_rfl) (tbE h12)), .m 89 (Zm1 (m := [(Blk.flat 55 41 [([(.int .i64 0)] ++ arrD .i64 x0 8 ++ arrE Za x1 8)] false), (Blk.flat 55 41 [([(.int .i64 (Zh (sub (Zb x7) 2 4)))] ++ arrD .i64 ((Ze x2 x3 x7).c7) 8 ++ arrE Za ((Ze x2 x3 x7).c8) 8)] false), (Blk.flat 5 1 (List.map (encI .u8) (Zb x7)) false)]) (enc := (encI .u8)) (l := (Zb x7)) (id := 2) (e := 5) (s := 1) (off := 0) (size := 1) (p := false) (agg := false) (i := 1) (v := (V.d (.int .u8 (gt (Zb x7) 1)))) (n := ((Zb x7).length)) (Nat.beq_refl _) (by kernel_rfl) (tbE h12) (by kernel_rfl)), .c (Zew (Zh (sub (Zb x7) 2 4)) ((Ze x2 x3 x7).c7) ((Ze x2 x3 x7).c8) (tbE h13)), .b (tbE h14)] (by kernel_rfl)
          ·exact fun g0 => Zbh [.c (Zjh x6 x7 (tbE h1)), .b (notT (tbE h2)), .b (tbE h3), .m 30 (Zmy (m := [(Blk.flat 55 41 [([(.int .i64 0)] ++ arrD .i64 x0 8 ++ arrE Za x1 8)] false), (Blk.flat 55 41 [([(.int .i64 0)] ++ arrD .i64 x2 8 ++ arrE Za x3 8)] false), (Blk.flat 5 1 (List.map (encI .u8) (Zb x7)) false)]) (b := (Zq x7)) (id := 2) (n := ((Zb x7).length)) (s := 1) (k := .i64) (by kernel_rfl) (tbE h4)), .m 31 (Zm1 (m := [(Blk.flat 55 41 [([(.int .i64 0)] ++ arrD .i64 x0 8 ++ arrE Za x1 8)] false), (Blk.flat 55 41 [([(.int .i64 0)] ++ arrD .i64 x2 8 ++ arrE Za x3 8)] false), (Blk.flat 5 1 (List.map (encI .u8) (Zb x7)) false)]) (enc := (encI .u8)) (l := (Zb x7)) (id := 2) (e := 5) (s := 1) (off := 0) (size := 1) (p := false) (agg := false) (i := 0) (v := (V.d (.int .u8 (gt (Zb x7) 0)))) (n := ((Zb x7).length)) (Nat.beq_refl _) (by kernel_rfl) (tbE h4) (by kernel_rfl)), .b (tbE h5), .m 37 (Zkk (nl := (Zq x7)) (m := [(Blk.flat 55 41 [([(.int .i64 0)] ++ arrD .i64 x0 8 ++ arrE Za x1 8)] false), (Blk.flat 55 41 [([(.int .i64 0)] ++ arrD .i64 x2 8 ++ arrE Za x3 8)] false), (Blk.flat 5 1 (List.map (encI .u8) (Zb x7)) false)]) (enc := (encI .u8)) (l := (Zb x7)) (id := 2) (e := 5) (s := 1) (n := ((Zb x7).length)) (p := false) (some (.i64, 2)) (some (.i64, 4)) (by kernel_rfl) (tbE h6) (tbE h7)), .y (mm := [(Blk.flat 55 41 [([(.int .i64 0)] ++ arrD .i64 x0 8 ++ arrE Za x1 8)] false), (Blk.flat 55 41 [([(.int .i64 0)] ++ arrD .i64 x2 8 ++ arrE Za x3 8)] false), (Blk.flat 5 1 (List.map (encI .u8) (Zb x7)) false)]) (args := [(V.sl 2 ((Zb x7).length) (2 : Int).toNat ((4 : Int).toNat - (2 : Int).toNat))]) (args1 := [(V.d (.rs true 1 (List.map (encI .u8) (sub (Zb x7) 2 4)) false))]) (Zgj (Zmw (enc := (encI .u8)) (l := (Zb x7)) (e := 5) (s := 1) (p := false) (n := ((Zb x7).length)) (lo := 2) (hi := 4) (Nat.beq_refl _) (by kernel_rfl) (tbE h6)) (by kernel_rfl)), .c (Zlg false (sub (Zb x7) 2 4) (tbE h8)), .l (Zp6 0 x0 x1 (Zh (sub (Zb x7) 2 4)) x2 x3 (Zb x7) false false false (Zq x7) 0 (⟨0, x2, x3⟩ : Z5) (tbE h9) (tbE h10))] (by kernel_rfl)
     ·exact fun g0 => Zbh [.c (Zjh x6 x7 (tbE h1)), .b (notT (tbE h2)), .b (tbE h3), .m 30 (Zmy (m := [(Blk.flat 55 41 [([(.int .i64 0)] ++ arrD .i64 x0 8 ++ arrE Za x1 8)] false), (Blk.flat 55 41 [([(.int .i64 0)] ++ arrD .i64 x2 8 ++ arrE Za x3 8)] false), (Blk.flat 5 1 (List.map (encI .u8) (Zb x7)) false)]) (b := (Zq x7)) (id := 2) (n := ((Zb x7).length)) (s := 1) (k := .i64) (by kernel_rfl) (tbE h4)), .m 31 (Zm1 (m := [(Blk.flat 55 41 [([(.int .i64 0)] ++ arrD .i64 x0 8 ++ arrE Za x1 8)] false), (Blk.flat 55 41 [([(.int .i64 0)] ++ arrD .i64 x2 8 ++ arrE Za x3 8)] false), (Blk.flat 5 1 (List.map (encI .u8) (Zb x7)) false)]) (enc := (encI .u8)) (l := (Zb x7)) (id := 2) (e := 5) (s := 1) (off := 0) (size := 1) (p := false) (agg := false) (i := 0) (v := (V.d (.int .u8 (gt (Zb x7) 0)))) (n := ((Zb x7).length)) (Nat.beq_refl _) (by kernel_rfl) (tbE h4) (by kernel_rfl)), .b (tbE h5)] (by kernel_rfl)
   ·exact fun g0 => Zbh [.c (Zjh x6 x7 (tbE h1)), .b (notT (tbE h2)), .b (tbE h3)] (by kernel_rfl)
theorem Zv4 (x0 : List Int) (x1 : List R_i64_i64_i64_bool) (x2 : List Int) (x3 : List R_i64_i64_i64_bool) (x6 : Bool) (x7 : List Int) : Zc9 x2 x3 x7 = false → Zka x2 x3 x7 = true → segG (runC E0 (cl E0) S22_1) [0, 2, 4] [2, 3] [2, 4] 2 ([(V.d (slD (encI .u8) true 1 x6 x7)), (V.ptr 0 1 0 0), (V.ptr 1 1 0 0)], [(Blk.flat 55 41 [([(.int .i64 0)] ++ arrD .i64 x0 8 ++ arrE Za x1 8)] false), (Blk.flat 55 41 [([(.int .i64 0)] ++ arrD .i64 x2 8 ++ arrE Za x3 8)] false)]) = some (.normal, ([(V.ptr 0 1 0 0), (V.ptr 1 1 0 0)], [(Blk.flat 55 41 [([(.int .i64 0)] ++ arrD .i64 x0 8 ++ arrE Za x1 8)] false), (Blk.flat 55 41 [([(.int .i64 (Zks x7))] ++ arrD .i64 ((Ze x2 x3 x7).c7) 8 ++ arrE Za ((Ze x2 x3 x7).c8) 8)] false)])) := by
 unfold Zc9 Zka Zks
 cases h1 : tb (Zjf x7)
 ·intro g0 g1
  exact absurd g1 ft
 ·cases h2 : tb (Zey x7)
  ·intro g0 g1
   exact absurd g0 tf
  ·cases h3 : tb (((((Zb x7).length : Nat) : Int) : Int) != 52)
   ·cases h4 : tb (inb ((Zb x7).length) 0)
    ·intro g0 g1
     exact absurd g1 ft
    ·cases h5 : tb (((gt (Zb x7) 0) : Int) != 90)
     ·cases h6 : tb (ins ((Zb x7).length) 2 4)
      ·intro g0 g1
       exact absurd g1 ft
      ·cases h7 : tb (decide (2 < 4))
       ·cases h8 : tb (Zq x7)
        ·cases h9 : tb (Zev (Zb x7) (Zq x7) (⟨0, x2, x3⟩ : Z5))
         ·intro g0 g1
          exact absurd g1 ft
         ·cases h10 : tb (Zce (Zb x7) (Zq x7) (Ze x2 x3 x7))
          ·cases h11 : tb (Zfk (Ze x2 x3 x7))
           ·intro g0 g1
            exact absurd g1 ft
           ·cases h12 : tb (inb ((Zb x7).length) 1)
            ·intro g0 g1
             exact absurd g1 ft
            ·cases h13 : tb (Z6 ((Ze x2 x3 x7).c8))
             ·intro g0 g1
              exact absurd g1 ft
             ·cases h14 : tb (((wi (gt (Zb x7) 1)) : Int) != ((Zy ((Ze x2 x3 x7).c8)).c0))
              ·intro g0 g1
               exact Zbh [.c (Zjh x6 x7 (tbE h1)), .b (notT (tbE h2)), .b (tbE h3), .m 30 (Zmy (m := [(Blk.flat 55 41 [([(.int .i64 0)] ++ arrD .i64 x0 8 ++ arrE Za x1 8)] false), (Blk.flat 55 41 [([(.int .i64 0)] ++ arrD .i64 x2 8 ++ arrE Za x3 8)] false), (Blk.flat 5 1 (List.map (encI .u8) (Zb x7)) false)]) (b := (Zq x7)) (id := 2) (n := ((Zb x7).length)) (s := 1) (k := .i64) (by kernel_rfl) (tbE h4)), .m 31 (Zm1 (m := [(Blk.flat 55 41 [([(.int .i64 0)] ++ arrD .i64 x0 8 ++ arrE Za x1 8)] false), (Blk.flat 55 41 [([(.int .i64 0)] ++ arrD .i64 x2 8 ++ arrE Za x3 8)] false), (Blk.flat 5 1 (List.map (encI .u8) (Zb x7)) false)]) (enc := (encI .u8)) (l := (Zb x7)) (id := 2) (e := 5) (s := 1) (off := 0) (size := 1) (p := false) (agg := false) (i := 0) (v := (V.d (.int .u8 (gt (Zb x7) 0)))) (n := ((Zb x7).length)) (Nat.beq_refl _) (by kernel_rfl) (tbE h4) (by kernel_rfl)), .b (tbE h5), .m 37 (Zkj (m := [(Blk.flat 55 41 [([(.int .i64 0)] ++ arrD .i64 x0 8 ++ arrE Za x1 8)] false), (Blk.flat 55 41 [([(.int .i64 0)] ++ arrD .i64 x2 8 ++ arrE Za x3 8)] false), (Blk.flat 5 1 (List.map (encI .u8) (Zb x7)) false)]) (enc := (encI .u8)) (l := (Zb x7)) (id := 2) (e := 5) (s := 1) (n := ((Zb x7).length)) (p := false) (some (.i64, 2)) (some (.i64, 4)) (deSo_f (tbE h8)) (Nat.beq_refl _) (by kernel_rfl) (tbE h6) (tbE h7)), .c (Zlk), .l (Zl3 0 x0 x1 0 x2 x3 (Zb x7) false false false (Zq x7) 0 (⟨0, x2, x3⟩ : Z5) (tbE h9) (tbE h10) (tbE h11)), .m 88 (Zmy (m := [(Blk.flat 55 41 [([(.int .i64 0)] ++ arrD .i64 x0 8 ++ arrE Za x1 8)] false), (Blk.flat 55 41 [([(.int .i64 0)] ++ arrD .i64 ((Ze x2 x3 x7).c7) 8 ++ arrE Za ((Ze x2 x3 x7).c8) 8)] false), (Blk.flat 5 1 (List.map (encI .u8) (Zb x7)) false)]) (b := (Zq x7)) (id := 2) (n := ((Zb x7).length)) (s := 1) (k := .i64) (by kernel_rfl) (tbE h12)), .m 89 (Zm1 (m := [(Blk.flat 55 41 [([(.int .i64 0)] ++ arrD .i64 x0 8 ++ arrE Za x1 8)] false), (Blk.flat 55 41 [([(.int .i64 0)] ++ arrD .i64 ((Ze x2 x3 x7).c7) 8 ++ arrE Za ((Ze x2 x3 x7).c8) 8)] false), (Blk.flat 5 1 (List.map (encI .u8) (Zb x7)) false)]) (enc := (encI .u8)) (l := (Zb x7)) (id := 2) (e := 5) (s := 1) (off := 0) (size := 1) (p := false) (agg := false) (i := 1) (v := (V.d (.int .u8 (gt (Zb x7) 1)))) (n := ((Zb x7).length)) (Nat.beq_refl _) (by kernel_rfl) (tbE h12) (by kernel_rfl)), .c (Zew 0 ((Ze x2 x3 x7).c7) ((Ze x2 x3 x7).c8) (tbE h13)), .b (tbE h14)] (by kernel_rfl)
              ·intro g0 g1
               exact absurd g0 tf
          ·intro g0 g1
           exact absurd g0 tf
        ·intro g0 g1
         exact absurd g1 ft
       ·cases h8 : tb (Zd2 (sub (Zb x7) 2 4))
        ·intro g0 g1
         exact absurd g1 ft
        ·cases h9 : tb (Zev (Zb x7) (Zq x7) (⟨0, x2, x3⟩ : Z5))
         ·intro g0 g1
          exact absurd g1 ft
         ·cases h10 : tb (Zce (Zb x7) (Zq x7) (Ze x2 x3 x7))
          ·cases h11 : tb (Zfk (Ze x2 x3 x7))
           ·intro g0 g1
            exact absurd g1 ft
           ·cases h12 : tb (inb ((Zb x7).length) 1)
            ·intro g0 g1
             exact absurd g1 ft
            ·cases h13 : tb (Z6 ((Ze x2 x3 x7).c8))
             ·intro g0 g1
              exact absurd g1 ft
             ·cases h14 : tb (((wi (gt (Zb x7) 1)) : Int) != ((Zy ((Ze x2 x3 x7).c8)).c0))
              ·intro g0 g1
               exact Zbh [.c (Zjh x6 x7 (tbE h1)), .b (notT (tbE h2)), .b (tbE h3), .m 30 (Zmy (m := [(Blk.flat 55 41 [([(.int .i64 0)] ++ arrD .i64 x0 8 ++ arrE Za x1 8)] false), (Blk.flat 55 41 [([(.int .i64 0)] ++ arrD .i64 x2 8 ++ arrE Za x3 8)] false), (Blk.flat 5 1 (List.map (encI .u8) (Zb x7)) false)]) (b := (Zq x7)) (id := 2) (n := ((Zb x7).length)) (s := 1) (k := .i64) (by kernel_rfl) (tbE h4)), .m 31 (Zm1 (m := [(Blk.flat 55 41 [([(.int .i64 0)] ++ arrD .i64 x0 8 ++ arrE Za x1 8)] false), (Blk.flat 55 41 [([(.int .i64 0)] ++ arrD .i64 x2 8 ++ arrE Za x3 8)] false), (Blk.flat 5 1 (List.map (encI .u8) (Zb x7)) false)]) (enc := (encI .u8)) (l := (Zb x7)) (id := 2) (e := 5) (s := 1) (off := 0) (size := 1) (p := false) (agg := false) (i := 0) (v := (V.d (.int .u8 (gt (Zb x7) 0)))) (n := ((Zb x7).length)) (Nat.beq_refl _) (by kernel_rfl) (tbE h4) (by kernel_rfl)), .b (tbE h5), .m 37 (Zkk (nl := (Zq x7)) (m := [(Blk.flat 55 41 [([(.int .i64 0)] ++ arrD .i64 x0 8 ++ arrE Za x1 8)] false), (Blk.flat 55 41 [([(.int .i64 0)] ++ arrD .i64 x2 8 ++ arrE Za x3 8)] false), (Blk.flat 5 1 (List.map (encI .u8) (Zb x7)) false)]) (enc := (encI .u8)) (l := (Zb x7)) (id := 2) (e := 5) (s := 1) (n := ((Zb x7).length)) (p := false) (some (.i64, 2)) (some (.i64, 4)) (by kernel_rfl) (tbE h6) (tbE h7)), .y (mm := [(Blk.flat 55 41 [([(.int .i64 0)] ++ arrD .i64 x0 8 ++ arrE Za x1 8)] false), (Blk.flat 55 41 [([(.int .i64 0)] ++ arrD .i64 x2 8 ++ arrE Za x3 8)] false), (Blk.flat 5 1 (List.map (encI .u8) (Zb x7)) false)]) (args := [(V.sl 2 ((Zb x7).length) (2 : Int).toNat ((4 : Int).toNat - (2 : Int).toNat))]) (args1 := [(V.d (.rs true 1 (List.map (encI .u8) (sub (Zb x7) 2 4)) false))]) (Zgj (Zmw (enc := (encI .u8)) (l := (Zb x7)) (e := 5) (s := 1) (p := false) (n := ((Zb x7).length)) (lo := 2) (hi := 4) (Nat.beq_refl _) (by kernel_rfl) (tbE h6)) (by kernel_rfl)), .c (Zlg false (sub (Zb x7) 2 4) (tbE h8)), .l (Zl3 0 x0 x1 (Zh (sub (Zb x7) 2 4)) x2 x3 (Zb x7) false false false (Zq x7) 0 (⟨0, x2, x3⟩ : Z5) (tbE h9) (tbE h10) (tbE h11)), .m 88 (Zmy (m := [(Blk.flat 55 41 [([(.int .i64 0)] ++ arrD .i64 x0 8 ++ arrE Za x1 8)] false), (Blk.flat 55 41 [([(.int .i64 (Zh (sub (Zb x7) 2 4)))] ++ arrD .i64 ((Ze x2 x3 x7).c7) 8 ++ arrE Za ((Ze x2 x3 x7).c8) 8)] false), (Blk.flat 5 1 (List.map (encI .u8) (Zb x7)) false)]) (b := (Zq x7)) (id := 2) (n := ((Zb x7).length)) (s := 1) (k := .i64) (by kernel_rfl) (tbE h12)), .m 89 (Zm1 (m := [(Blk.flat 55 41 [([(.int .i64 0)] ++ arrD .i64 x0 8 ++ arrE Za x1 8)] false), (Blk.flat 55 41 [([(.int .i64 (Zh (sub (Zb x7) 2 4)))] ++ arrD .i64 ((Ze x2 x3 x7).c7) 8 ++ arrE Za ((Ze x2 x3 x7).c8) 8)] false), (Blk.flat 5 1 (List.map (encI .u8) (Zb x7)) false)]) (enc := (encI .u8)) (l := (Zb x7)) (id := 2) (e := 5) (s := 1) (off := 0) (size := 1) (p := false) (agg := false) (i := 1) (v := (V.d (.int .u8 (gt (Zb x7) 1)))) (n := ((Zb x7).length)) (Nat.beq_refl _) (by kernel_rfl) (tbE h12) (by kernel_rfl)), .c (Zew (Zh (sub (Zb x7) 2 4)) ((Ze x2 x3 x7).c7) ((Ze x2 x3 x7).c8) (tbE h13)), .b (tbE h14)] (by kernel_rfl)
              ·intro g0 g1
               exact absurd g0 tf
          ·intro g0 g1
           exact absurd g0 tf
     ·intro g0 g1
      exact absurd g0 tf
   ·intro g0 g1
    exact absurd g0 tf
def Zez  : List R_i64_i64_i64_bool := ([⟨0, 0, 0, false⟩, ⟨0, 0, 0, false⟩, ⟨0, 0, 0, false⟩, ⟨0, 0, 0, false⟩, ⟨0, 0, 0, false⟩, ⟨0, 0, 0, false⟩, ⟨0, 0, 0, false⟩, ⟨0, 0, 0, false⟩] : List R_i64_i64_i64_bool)
def Zsg (x1 : List Int) : List R_i64_i64_i64_bool := (Zkr [0, 0, 0, 0, 0, 0, 0, 0] Zez x1)
def Zp1 (x1 : List Int) : List Int := ((Ze [0, 0, 0, 0, 0, 0, 0, 0] Zez x1).c7)
def Zp5 (x1 : List Int) : List R_i64_i64_i64_bool := ((Ze [0, 0, 0, 0, 0, 0, 0, 0] Zez x1).c8)
def Zi4 (x1 : List Int) : Bool := (bif tb (Zc9 [0, 0, 0, 0, 0, 0, 0, 0] Zez x1) then true else (bif tb (Zka [0, 0, 0, 0, 0, 0, 0, 0] Zez x1) then true else false))
def Zi7 (x1 : List Int) : Int := (bif tb (Zc9 [0, 0, 0, 0, 0, 0, 0, 0] Zez x1) then 0 else (Zks x1))
def Ze5 (x1 : List Int) : List Int := (bif tb (Zc9 [0, 0, 0, 0, 0, 0, 0, 0] Zez x1) then (Zkp [0, 0, 0, 0, 0, 0, 0, 0] x1) else (Zp1 x1))
def Z1 (x1 : List Int) : List R_i64_i64_i64_bool := (bif tb (Zc9 [0, 0, 0, 0, 0, 0, 0, 0] Zez x1) then (Zsg x1) else (Zp5 x1))
def Zgv (x1 : List Int) : Int := (bif tb (Zc9 [0, 0, 0, 0, 0, 0, 0, 0] Zez x1) then 3 else 0)
theorem Zlq (x0 : Bool) (x1 : List Int) : Zi4 x1 = true → cl E0 22 [(V.d (slD (encI .u8) true 1 x0 x1))] [] = some ([(V.agg (List.map V.d ([(.int .i64 (Zi7 x1))] ++ arrD .i64 (Ze5 x1) 8 ++ arrE Za (Z1 x1) 8))), (V.d (.int .i64 (Zgv x1)))], []) := by
 unfold Zi4 Zi7 Ze5 Z1 Zgv
 cases h1 : tb (Zc9 [0, 0, 0, 0, 0, 0, 0, 0] Zez x1)
 ·cases h2 : tb (Zka [0, 0, 0, 0, 0, 0, 0, 0] Zez x1)
  ·exact ZN
  ·exact fun g0 => w22 [.s (Zv4 [0, 0, 0, 0, 0, 0, 0, 0] Zez [0, 0, 0, 0, 0, 0, 0, 0] Zez x0 x1 (tbE h1) (tbE h2))] (by kernel_rfl)
 ·exact fun g0 => w22 [.s (Zvt [0, 0, 0, 0, 0, 0, 0, 0] Zez [0, 0, 0, 0, 0, 0, 0, 0] Zez x0 x1 (tbE h1))] (by kernel_rfl)
end Go.Proofs.Ytkipngagfiaddaa.Den

namespace Go.Proofs.Ytkipngagfiaddaa.Den
open Go Go.Proofs
set_option linter.unusedVariables false
set_option linter.unusedSimpArgs false
theorem Z7q (n : Int) : Zfm n = q4 n := by
  simp only [Zfm, Ztw, Ztj, tb_eq, q4, n32]
  by_cases h1 : n < -2147483648
  · have : ¬ (-2147483648 ≤ n) := by omega
    simp [h1, this]
  · have h2 : -2147483648 ≤ n := by omega
    by_cases h3 : 2147483647 < n
    · have : ¬ (n ≤ 2147483647) := by omega
      simp [h1, h2, h3, this]
    · have h4 : n ≤ 2147483647 := by omega
      by_cases hn : n < 0
      · have hw : wi (n + 4294967296) = n + 4294967296 := wi_eq (by omega) (by omega)
        simp only [h1, h2, h3, h4, hn, decide_true, decide_false, cond_true, cond_false, hw, Bool.and_self, if_true]
        rw [Zrn (by omega) (by omega) (by omega), Zrn (by omega) (by omega) (by omega), Zrn (by omega) (by omega) (by omega), Zqn (by omega), Zqn (by omega), Zqn (by omega), u8w, u8w, u8w, u8w]
        simp [p4] <;> omega
      · simp only [h1, h2, h3, h4, hn, decide_true, decide_false, cond_true, cond_false, Bool.and_self, if_true]
        rw [Zrn (by omega) (by omega) (by omega), Zrn (by omega) (by omega) (by omega), Zrn (by omega) (by omega) (by omega), Zqn (by omega), Zqn (by omega), Zqn (by omega), u8w, u8w, u8w, u8w]
        simp [p4] <;> omega
theorem Z2o (n : Int) : Zck n = q2 n := by
  simp only [Zck, tb_eq, q2]
  by_cases h1 : n < 0
  · have : n16 n = false := by cases h : n16 n with | false => rfl | true => have := Zso.1 h; omega
    simp [h1, this]
  · by_cases h3 : 65535 < n
    · have : n16 n = false := by cases h : n16 n with | false => rfl | true => have := Zso.1 h; omega
      simp [h1, h3, this]
    · have : n16 n = true := Zso.2 (by omega)
      simp only [h1, h3, this, decide_false, cond_false, if_true]
      rw [Zrn (by omega) (by omega) (by omega), Zqn (by omega), u8w, u8w]
      simp [p2]
theorem Z21 {l : List Int} (h : Sm l) : [Zjc l, Zjg l] = tail2 l := by
  have hc := h.crc
  unfold Zjc Zjg
  rw [(rtail h).1, (rtail h).2, Zxv, Zxv, Nat.mod_eq_of_lt (a := crcI 65535 l / 256) (by omega), Nat.mod_mod]
  rfl
theorem Z74 {l : List Int} (h : Sm l) : Zme l = true := by
  have h1 : l.length * 1 ≤ 140737488355328 := by have := h.n; omega
  have h2 : (l.length + (tail2 l).length) * 1 ≤ 140737488355328 := by have := h.n; show (l.length + 2) * 1 ≤ _; omega
  have h0 : decide ((([] : List Int).length + l.length) * 1 ≤ 140737488355328) = true := decide_eq_true (by simp; omega)
  simp only [Zme, rsumc h, Z21 h, h0, h1, h2, decide_true, tb_eq, cond_true]
theorem bad32O (n : Int) : (bif tb (decide (n < (-2147483648))) then true else (decide (2147483647 < n))) = !(n32 n) := by
  simp only [n32, tb_eq]
  by_cases h1 : n < -2147483648
  · have : ¬ (-2147483648 ≤ n) := by omega
    simp [h1, this]
  · have h2 : -2147483648 ≤ n := by omega
    by_cases h3 : 2147483647 < n
    · have : ¬ (n ≤ 2147483647) := by omega
      simp [h1, h2, h3, this]
    · have : n ≤ 2147483647 := by omega
      simp [h1, h2, h3, this]
theorem Z4e : ∀ {x : List Int} {t : List St4} {n : Nat}, x.length = n → t.length = n → ((x.zip t).all fun p => n32 p.1 && rightS p.2) = (all32 x && t.all rightS)
  | [], [], _, _, _ => rfl
  | a :: x, b :: t, n + 1, h, k => by
    rw [List.zip_cons_cons, List.all_cons, Z4e (n := n) (by simpa using h) (by simpa using k)]
    simp only [all32, List.all_cons]
    cases n32 a <;> cases rightS b <;> cases x.all n32 <;> cases t.all rightS <;> rfl
  | [], _ :: _, _, h, k => by simp at h k; omega
  | _ :: _, [], _, h, k => by simp at h k; omega
theorem Zzv (s : Int) {x : List Int} {t : List St4} (h : x.length = 8) (ht : t.length = 8) : Zcp x t = true ∧ Z2 s x t = okO s x t := by
  have hz : (x.zip t).length = 8 := by rw [List.length_zip]; omega
  have hg : ∀ i : Int, 0 ≤ i → i < 8 → gt (x.zip t) i = (gt x i, gt t i) := fun i h1 h2 => by
    rw [Zpv h1 (by omega), Zpv h1 (by omega), Zpv h1 (by omega), List.getElem_zip]
  have hr : ∀ s : St4, Ze6 s.c0 s.c1 s.c2 s.c3 = true ∧ Zea s.c0 s.c1 s.c2 s.c3 = rightS s := fun s => ⟨(Zvm s).1, (Zvm s).2.1⟩
  obtain ⟨s1, e, _, a1, a2⟩ := Zvp (sel := Zbd x t) (nx := Zdf x t) (s0 := ⟨0⟩) (x.zip t) (fun s => s.c0) (fun p => n32 p.1 && rightS p.2) (fun _ => True) (by omega) rfl trivial
    (fun s _ b1 b2 _ => ⟨by show wi _ = _; exact wi_eq (by omega) (by omega), trivial⟩)
    (fun s _ b1 b2 => by
      rw [hz] at b2 ⊢
      by_cases hi : s.c0 < 8
      · have i1 : inb 8 s.c0 = true := inb_of b1 hi
        have hi2 : s.c0 < ((8 : Nat) : Int) := hi
        have h32 := bad32O (gt x s.c0)
        simp only [Zbd, i1, hi, hi2, (hr _).1, (hr _).2, hg s.c0 b1 hi, tb_eq, decide_true, cond_true, Bool.true_and] at h32 ⊢
        cases h1 : rightS (gt t s.c0) with
        | false => simp
        | true =>
          simp only [cond_true, Bool.and_true]
          by_cases k1 : gt x s.c0 < -2147483648
          · simp [k1] at h32 ⊢; simp [h32]
          · by_cases k2 : 2147483647 < gt x s.c0
            · simp [k1, k2] at h32 ⊢; simp [h32]
            · simp [k1, k2] at h32 ⊢; simp [h32]
      · have : ¬ s.c0 < ((8 : Nat) : Int) := hi
        simp [Zbd, hi, this])
  rw [hz] at a2
  have he : Zcc x t = s1 := by simp only [Zcc, Zb8, e, Option.getD_some]
  have hall : ((x.zip t).all fun p => n32 p.1 && rightS p.2) = (all32 x && t.all rightS) := Z4e h ht
  have h16 : Zfb s = n16 s := by
    simp only [Zfb, n16, tb_eq]
    by_cases h1 : 0 ≤ s
    · by_cases h2 : s < 65536
      · have : s ≤ 65535 := by omega
        simp [h1, h2, this]
      · have : ¬ s ≤ 65535 := by omega
        simp [h1, h2, this]
    · simp [h1]
  rcases a2 with ⟨b1, b2⟩ | ⟨b1, b2, b3⟩
  · have hnl : ¬ s1.c0 < 8 := by omega
    have c0 : Zbq x t = false := by
      simp only [Zbq, Zcb, e, he, Option.isSome_some, Zbi, hnl, decide_false, tb_eq]; rfl
    have c1 : Zef x t = true := by
      simp only [Zef, Zcb, e, he, Option.isSome_some, Zbi, Zdd, hnl, decide_false, tb_eq]; rfl
    rw [hall, Bool.and_eq_true] at b2
    simp only [Zcp, Z2, c0, c1, h16, okO, b2.1, b2.2, tb_eq]
    simp
  · have hi : s1.c0 < 8 := b1
    have i1 : inb 8 s1.c0 = true := inb_of a1 hi
    have c0 : Zbq x t = true := by
      simp only [Zbq, Zcb, e, he, Option.isSome_some, Zbi, hi, i1, (hr _).1, decide_true, tb_eq]; rfl
    rw [hall] at b3
    simp only [Zcp, Z2, c0, okO, Bool.and_assoc, b3, tb_eq]
    simp
theorem Zt8 {t : List St4} (ht : t.length = 8) : Z6 t = true ∧ (Zy t).c0 = failN t := by
  have run : itS (Zb6 t) (Zda t) bound ⟨0, 0⟩ = some ⟨(((t.take 8).countP (·.c3) : Nat) : Int), ((8 : Nat) : Int)⟩ := by
    refine Zmg (sel := Zb6 t) (nx := Zda t) (fun k => (⟨(((t.take k).countP (·.c3) : Nat) : Int), (k : Int)⟩ : Zp)) 8 (by omega) (fun k hk => ?_) rfl
    have i1 : inb 8 (k : Int) = true := inb_of (by omega) (by omega)
    have hc := Z23 t k
    have hw : wi ((k : Int) + 1) = ((k + 1 : Nat) : Int) := by rw [wi_eq (by omega) (by omega)]; omega
    constructor
    · show (bif tb (decide ((k : Int) < 8)) then (bif tb (inb 8 (k : Int)) then true else false) else false) = true
      rw [i1, decide_eq_true (by omega)]; rfl
    · show (bif tb ((gt t (k : Int)).c3) then (⟨(wi ((((t.take k).countP (·.c3) : Nat) : Int) + 1)), (wi ((k : Int) + 1))⟩ : Zp) else ⟨(((t.take k).countP (·.c3) : Nat) : Int), (wi ((k : Int) + 1))⟩) = _
      rw [hw, Zzi (by omega), wi_eq (by omega) (by omega)]
      cases (gt t (k : Int)).c3 <;> simp [tb_eq]
  have e0 : Zy t = ⟨failN t, 8⟩ := by
    simp only [Zy, Zdw, run, Option.getD_some]
    rw [List.take_of_length_le (by omega)]; rfl
  simp only [Z6, e0, Zgg, run, Option.isSome_some, tb_eq, Zd6]
  exact ⟨rfl, trivial⟩
theorem Z52 {b0 x : List Int} (h : x.length = 8) (hb : b0.length ≤ 100) (ha : all32 x = true) : itS (Zbv x) (Zcw x) bound ⟨false, 0, b0⟩ = some ⟨false, 8, b0 ++ x.flatMap p4⟩ := by
  have run := Zmg (sel := Zbv x) (nx := Zcw x) (fun k => (⟨false, (k : Int), b0 ++ (x.take k).flatMap p4⟩ : Zs)) 8 (by omega) (fun k hk => by
    have hq : Zfm (gt x (k : Int)) = p4 (gt x (k : Int)) := by
      rw [Z7q]; simp only [q4, Zyu ha (show k < x.length by omega), if_true]
    have i1 : inb 8 (k : Int) = true := inb_of (by omega) (by omega)
    have hl : ((x.take k).flatMap p4).length = 4 * k := by rw [Zqf, List.length_take]; omega
    have i3 : decide (((b0 ++ (x.take k).flatMap p4).length + (p4 (gt x (k : Int))).length) * 1 ≤ 140737488355328) = true := decide_eq_true (by rw [List.length_append, hl, p4_len]; omega)
    have hw : wi ((k : Int) + 1) = ((k + 1 : Nat) : Int) := by rw [wi_eq (by omega) (by omega)]; omega
    constructor
    · simp only [Zbv, hq, i1, i3, tb_eq, cond_true]
      show (bif decide ((k : Int) < 8) then true else false) = true
      rw [decide_eq_true (by omega)]; rfl
    · simp only [Zcw, hq, hw]
      rw [Zpn (by omega), List.flatMap_append]
      simp) rfl
  simp only [List.take_zero, List.flatMap_nil, List.append_nil] at run
  rw [show ((0 : Nat) : Int) = 0 from rfl, List.take_of_length_le (by omega)] at run
  exact run
theorem Z54 {b0 : List Int} {t : List St4} (ht : t.length = 8) (hb : b0.length ≤ 100) (hok : t.all rightS = true) : itS (Zbu t) (Zcu t) bound ⟨false, 0, b0⟩ = some ⟨false, 8, b0 ++ t.flatMap pw⟩ := by
  have run := Zmg (sel := Zbu t) (nx := Zcu t) (fun k => (⟨false, (k : Int), b0 ++ (t.take k).flatMap pw⟩ : Zm)) 8 (by omega) (fun k hk => by
    obtain ⟨_, _, c1, c2⟩ := Zvm (gt t (k : Int))
    have hm : rightS (gt t (k : Int)) = true := List.all_eq_true.1 hok _ (gt_mem (by omega) (by omega))
    obtain ⟨w1, w2, _⟩ := Z1q hm
    have hq : ∀ l, Zck (Zba t ⟨false, (k : Int), l⟩) = pw (gt t (k : Int)) := fun l => by
      simp only [Zba, c2]
      rw [Z2o]; simp only [q2, pw, Zso.2 (show 0 ≤ wordS (gt t (k : Int)) ∧ wordS (gt t (k : Int)) < 65536 by omega), if_true]
    have i1 : inb 8 (k : Int) = true := inb_of (by omega) (by omega)
    have hl : ((t.take k).flatMap pw).length = 2 * k := by rw [Zto, List.length_take]; omega
    have i3 : decide (((b0 ++ (t.take k).flatMap pw).length + (pw (gt t (k : Int))).length) * 1 ≤ 140737488355328) = true := decide_eq_true (by rw [List.length_append, hl]; show (b0.length + 2 * k + 2) * 1 ≤ _; omega)
    have hw : wi ((k : Int) + 1) = ((k + 1 : Nat) : Int) := by rw [wi_eq (by omega) (by omega)]; omega
    constructor
    · simp only [Zbu, hq, c1, i1, i3, tb_eq, cond_true]
      show (bif decide ((k : Int) < 8) then true else false) = true
      rw [decide_eq_true (by omega)]; rfl
    · simp only [Zcu, Zjt, hq, hw]
      rw [Zpn (by omega), List.flatMap_append]
      simp [pw]) rfl
  simp only [List.take_zero, List.flatMap_nil, List.append_nil] at run
  rw [show ((0 : Nat) : Int) = 0 from rfl, List.take_of_length_le (by omega)] at run
  exact run
theorem Z3j (s : Int) {x : List Int} {t : List St4} (h : x.length = 8) (ht : t.length = 8) : Zex s x t = true ∧ Zb0 s x t = (if okO s x t = true then 0 else 1) ∧
    Z0 s x t = (if okO s x t = true then sealed (bodyO s x t) else []) := by
  obtain ⟨r1, r2⟩ := Zzv s h ht
  have s0 : Zbp (okO s x t) = okO s x t := by simp only [Zbp, tb_eq]; cases okO s x t <;> rfl
  simp only [Zex, Zb0, Z0, r1, r2, s0]
  cases hk : okO s x t with
  | false => simp [tb_eq]
  | true =>
    have hk' := hk
    simp only [okO, Bool.and_eq_true] at hk'
    obtain ⟨⟨k3, k4⟩, k5⟩ := hk'
    obtain ⟨f1, f2⟩ := Zt8 ht
    have hfb := Zub ht
    have hw : Zdp t = failN t := by simp only [Zdp, f2]; rw [u8w]; omega
    have hq : Zck s = p2 s := by rw [Z2o]; simp only [q2, k3, if_true]
    have hp2 : (p2 s).length = 2 := rfl
    have e1 : Zdo s t = [90, failN t] ++ p2 s := by simp only [Zdo, hw, hq]
    have run1 := Z52 (b0 := [90, failN t] ++ p2 s) h (by simp [hp2]) k4
    have e2 : Zbe s x t = ⟨false, 8, [90, failN t] ++ p2 s ++ x.flatMap p4⟩ := by
      simp only [Zbe, e1, Zco, run1, Option.getD_some]
    have run2 := Z54 (b0 := [90, failN t] ++ p2 s ++ x.flatMap p4) ht (by simp only [List.length_append, Zqf, h]; simp [hp2]) k5
    have e3 : Zr s x t = ⟨false, 8, bodyO s x t⟩ := by
      simp only [Zr, e2, Zcn, run2, Option.getD_some]; rfl
    have hb := Z2d (s := s) h ht
    have l1 : decide ((([90, failN t] : List Int).length + (p2 s).length) * 1 ≤ 140737488355328) = true := by rw [hp2]; rfl
    have l2 : Zd1 ⟨false, 8, [90, failN t] ++ p2 s ++ x.flatMap p4⟩ = true := rfl
    have l3 : Zd5 ⟨false, 8, bodyO s x t⟩ = true := rfl
    simp only [f1, hw, hq, l1, e1, Zgf, run1, Option.isSome_some, e2, l2, Zge, run2, e3, l3, Z74 hb, Z21 hb, tb_eq, cond_true, if_true, true_and]
    rfl
end Go.Proofs.Ytkipngagfiaddaa.Den

namespace Go.Proofs.Ytkipngagfiaddaa.Den
open Go Go.Proofs
set_option linter.unusedVariables false
set_option linter.unusedSimpArgs false
set_option maxHeartbeats 1000000
theorem Zvq (l : List Int) {a b n : Nat} (h : a + b ≤ n) : ((l.take n).drop a).take b = (l.drop a).take b := by
  rw [List.drop_take, List.take_take, Nat.min_eq_left (by omega)]
theorem Zxm {l : List Int} {n : Nat} {i : Int} (h1 : 0 ≤ i) (h2 : i < n) : gt (l.take n) i = gt l i := by
  have : i.toNat < n := by omega
  simp [gt, List.getD, List.getElem?_take, this]
theorem Zut (l : List Int) {i : Nat} (h : i < 8) : wO (l.take 52) i = wO l i := by unfold wO; rw [Zvq l (by omega)]
theorem Z61 (l : List Int) {k : Nat} (h : k ≤ 8) : stsN (l.take 52) k = stsN l k := by
  unfold stsN
  refine List.map_congr_left fun i hi => ?_
  rw [Zut l (by have := List.mem_range.1 hi; omega)]
theorem Z5z (l : List Int) : fours ((l.take 52).drop 4) 8 = valsO l := by
  unfold valsO fours
  refine List.map_congr_left fun i hi => ?_
  have := List.mem_range.1 hi
  rw [List.drop_take, Zvq _ (by omega), Zvq _ (by omega)]
def perr (l : List Int) (i : Nat) : Int := Zcx (wO l i)
theorem Zvs (l : List Int) (i : Nat) : (perr l i = 0 ∧ rightS (parseS (wO l i)) = true ∧ wordS (parseS (wO l i)) = wO l i) ∨ (perr l i = 3 ∧ rightS (parseS (wO l i)) = false) := Z4t (wO l i)
theorem Z4u {b : List Int} (h : b.length = 52) : okS (sealed b) = true := by
  have hsl : (sealed b).length = 54 := by simp [sealed, tail2, h]
  have ht : (sealed b).take 52 = b := by unfold sealed; rw [List.take_append_of_le_length (by omega), List.take_of_length_le (by omega)]
  simp only [okS, hsl, Bool.and_eq_true, decide_eq_true_eq]
  exact ⟨by omega, by rw [show 54 - 2 = 52 from rfl, ht]⟩
theorem Zq4 {l : List Int} (h : goodO l = true) : l.length = 54 ∧ okS l = true ∧ gt l 0 = 90 ∧ gt l 1 = failN (stsO l) ∧ ∀ i, i < 8 → perr l i = 0 := by
  simp only [goodO, Bool.and_eq_true, decide_eq_true_eq] at h
  obtain ⟨hl, hk, he⟩ := h
  refine ⟨hl, ?_, ?_, ?_, fun i hi => ?_⟩
  · rw [← he]; exact Z4u (Ztg (Zth l) (Zv1 l))
  · exact (congrArg (fun z => gt z 0) he).symm.trans rfl
  · exact (congrArg (fun z => gt z 1) he).symm.trans rfl
  · simp only [okO, Bool.and_eq_true] at hk
    rcases Zvs l i with ⟨h1, _⟩ | ⟨_, h2⟩
    · exact h1
    · have : rightS (parseS (wO l i)) = true := by
        refine List.all_eq_true.1 hk.2 _ ?_
        unfold stsO stsN
        exact List.mem_map.2 ⟨i, List.mem_range.2 hi, rfl⟩
      rw [this] at h2; cases h2
theorem Z8d {l : List Int} (hs : Sm l) (hl : l.length = 54) (ho : okS l = true) (h0 : gt l 0 = 90) (h1 : gt l 1 = failN (stsO l)) (hp : ∀ i, i < 8 → perr l i = 0) : goodO l = true := by
  have hb := byt_b hs
  obtain ⟨q1, q2⟩ := p2_g2 (l := (l.drop 2).take 2) (Zkf (Zj3 hb 2) 2) (by simp [hl])
  obtain ⟨f1, f2⟩ := Zy9 ((l.drop 4).take 32) (Zkf (Zj3 hb 4) 32) 8 (by simp [hl])
  have f2' : (valsO l).flatMap p4 = (l.drop 4).take 32 := by unfold valsO; rw [f2, List.take_of_length_le (by rw [List.length_take]; omega)]
  have hw : ∀ i, i < 8 → rightS (parseS (wO l i)) = true ∧ wordS (parseS (wO l i)) = wO l i := fun i hi => by
    rcases Zvs l i with ⟨_, h2⟩ | ⟨h2, _⟩
    · exact h2
    · rw [hp i hi] at h2; cases h2
  have t1 := twos l hb 8 (by omega) (fun i hi => (hw i hi).2)
  have t2 : (stsO l).all rightS = true := by
    rw [List.all_eq_true]
    intro x hx
    unfold stsO stsN at hx
    obtain ⟨i, hi, rfl⟩ := List.mem_map.1 hx
    exact (hw i (List.mem_range.1 hi)).1
  have e2 : l.take 2 = [90, failN (stsO l)] := by
    obtain ⟨a, b, hab⟩ := len2 (l := l.take 2) (by simp [hl])
    have ga : gt l 0 = a := by rw [← Zxm (l := l) (n := 2) (by omega) (by omega), hab]; rfl
    have gb : gt l 1 = b := by rw [← Zxm (l := l) (n := 2) (by omega) (by omega), hab]; rfl
    rw [hab, ← ga, ← gb, h0, h1]
  have hbody : bodyO (seqO l) (valsO l) (stsO l) = l.take 52 := by
    have e : l.take 52 = l.take 2 ++ ((l.drop 2).take 2 ++ ((l.drop 4).take 32 ++ (l.drop 36).take 16)) := by
      rw [show (52 : Nat) = 2 + (2 + (32 + 16)) from rfl, List.take_add, List.take_add, List.take_add, List.drop_drop, List.drop_drop]
    unfold bodyO
    rw [e, e2, f2', show (stsO l).flatMap pw = (l.drop 36).take 16 from t1, show p2 (seqO l) = (l.drop 2).take 2 from q1]
    simp [List.append_assoc]
  have hse : sealed (l.take 52) = l := by
    have := ho
    simp only [okS, hl, Bool.and_eq_true, decide_eq_true_eq] at this
    exact this.2
  simp only [goodO, hl, hbody, hse, okO, Bool.and_eq_true, decide_eq_true_eq, and_true, true_and]
  exact ⟨⟨q2, f1⟩, t2⟩
theorem Z2f {B : List Int} (hb : Byts B) (hl : B.length = 52) {n : Nat} (hn : n ≤ 8) (hok : ∀ i, i < n → perr B i = 0) (hend : n = 8 ∨ (n < 8 ∧ perr B n = 3)) :
    itS (Zdn B false) (Zhh B false) bound ⟨0, z8, zS8⟩ = some ⟨(n : Int), fours (B.drop 4) n ++ List.replicate (8 - n) 0, stsN B n ++ List.replicate (8 - n) zS⟩ := by
  have fact : ∀ k : Nat, k < 8 → ∀ a b, (wi (4 + wi (4 * (k : Int))) = ((4 + 4 * k : Nat) : Int) ∧ wi (8 + wi (4 * (k : Int))) = ((8 + 4 * k : Nat) : Int) ∧ wi (36 + wi (2 * (k : Int))) = ((36 + 2 * k : Nat) : Int) ∧ wi (38 + wi (2 * (k : Int))) = ((38 + 2 * k : Nat) : Int)) ∧
      (ins B.length ((4 + 4 * k : Nat) : Int) ((8 + 4 * k : Nat) : Int) = true ∧ decide (((4 + 4 * k : Nat) : Int) < ((8 + 4 * k : Nat) : Int)) = true ∧ ins B.length ((36 + 2 * k : Nat) : Int) ((38 + 2 * k : Nat) : Int) = true ∧ decide (((36 + 2 * k : Nat) : Int) < ((38 + 2 * k : Nat) : Int)) = true) ∧
      (Zhy (Zcf B ⟨(k : Int), a, b⟩) = true ∧ Zih (Zcf B ⟨(k : Int), a, b⟩) = g4 (((B.drop 4).drop (4 * k)).take 4) ∧ Zd2 (Zd B ⟨(k : Int), a, b⟩) = true ∧ Zh (Zd B ⟨(k : Int), a, b⟩) = wO B k) := fun k hk a b => by
    have w0 : wi (4 * (k : Int)) = ((4 * k : Nat) : Int) := by rw [wi_eq (by omega) (by omega)]; omega
    have w1 : wi (4 + wi (4 * (k : Int))) = ((4 + 4 * k : Nat) : Int) := by rw [w0, wi_eq (by omega) (by omega)]; omega
    have w2 : wi (8 + wi (4 * (k : Int))) = ((8 + 4 * k : Nat) : Int) := by rw [w0, wi_eq (by omega) (by omega)]; omega
    have v0 : wi (2 * (k : Int)) = ((2 * k : Nat) : Int) := by rw [wi_eq (by omega) (by omega)]; omega
    have v1 : wi (36 + wi (2 * (k : Int))) = ((36 + 2 * k : Nat) : Int) := by rw [v0, wi_eq (by omega) (by omega)]; omega
    have v2 : wi (38 + wi (2 * (k : Int))) = ((38 + 2 * k : Nat) : Int) := by rw [v0, wi_eq (by omega) (by omega)]; omega
    have e0 : Zcf B ⟨(k : Int), a, b⟩ = ((B.drop 4).drop (4 * k)).take 4 := by
      simp only [Zcf, w1, w2]
      rw [Zu1, List.drop_drop]; congr 1; omega
    have e1 : Zd B ⟨(k : Int), a, b⟩ = (B.drop (36 + 2 * k)).take 2 := by
      simp only [Zd, v1, v2]
      rw [Zu1]; congr 1; omega
    obtain ⟨g1, g2', _⟩ := rGet4 (l := ((B.drop 4).drop (4 * k)).take 4) (Zkf (Zj3 (Zj3 hb 4) _) 4)
    obtain ⟨_, k2, _, k4, _⟩ := Zum (l := (B.drop (36 + 2 * k)).take 2) (Zkf (Zj3 hb _) 2)
    refine ⟨⟨w1, w2, v1, v2⟩, ⟨?_, decide_eq_true (by omega), ?_, decide_eq_true (by omega)⟩, ?_⟩
    · simp only [ins, hl, Bool.and_eq_true, decide_eq_true_eq]; omega
    · simp only [ins, hl, Bool.and_eq_true, decide_eq_true_eq]; omega
    · rw [e0, e1]; exact ⟨g1, g2', k2, k4⟩
  have run := Zmg (sel := Zdn B false) (nx := Zhh B false) (fun k => (⟨(k : Int), fours (B.drop 4) k ++ List.replicate (8 - k) 0, stsN B k ++ List.replicate (8 - k) zS⟩ : Z5)) n (by omega) (fun k hk => by
    have hk8 : k < 8 := by omega
    obtain ⟨⟨w1, w2, v1, v2⟩, ⟨i1, i2, i3, i4⟩, ⟨g1, g2', g3, g4'⟩⟩ := fact k hk8 (fours (B.drop 4) k ++ List.replicate (8 - k) 0) (stsN B k ++ List.replicate (8 - k) zS)
    obtain ⟨p0, p1, p2', p3, p4', p5⟩ := Zw4 (wO B k)
    have pe : Zcx (wO B k) = 0 := hok k hk
    have i5 : inb 8 (k : Int) = true := inb_of (by omega) (by omega)
    have hw : wi ((k : Int) + 1) = ((k + 1 : Nat) : Int) := by rw [wi_eq (by omega) (by omega)]; omega
    constructor
    · have hne : ((0 : Int) != 0) = false := rfl
      simp only [Zdn, w1, w2, v1, v2, i1, i2, i3, i4, g1, g3, g4', p0, p5, pe, i5, hne, tb_eq, cond_true, cond_false]
      rw [decide_eq_true (by omega)]; rfl
    · have e3 : Zio B ⟨(k : Int), fours (B.drop 4) k ++ List.replicate (8 - k) 0, stsN B k ++ List.replicate (8 - k) zS⟩ = parseS (wO B k) := by
        simp only [Zio, g4', p1, p2', p3, p4']; rfl
      simp only [Zhh, w1, w2, v1, v2, i2, i4, Zg5, g2', e3, hw, tb_eq, cond_true, Z6j hk8, Z1f hk8]) (by
    rcases hend with rfl | ⟨h8, he⟩
    · simp [Zdn, tb_eq]
    · obtain ⟨⟨w1, w2, v1, v2⟩, ⟨i1, i2, i3, i4⟩, ⟨g1, g2', g3, g4'⟩⟩ := fact n h8 (fours (B.drop 4) n ++ List.replicate (8 - n) 0) (stsN B n ++ List.replicate (8 - n) zS)
      obtain ⟨p0, p1, p2', p3, p4', p5⟩ := Zw4 (wO B n)
      have pe : Zcx (wO B n) = 3 := he
      have hne : ((3 : Int) != 0) = true := rfl
      simp only [Zdn, w1, w2, v1, v2, i1, i2, i3, i4, g1, g3, g4', p0, p5, pe, hne, tb_eq, cond_true]
      cases decide ((n : Int) < 8) <;> rfl)
  exact run
theorem Z9c {B : List Int} (hb : Byts B) (hl : B.length = 52) {n : Nat} (hn : n < 8) (he : perr B n = 3) (a : List Int) (b : List St4) : Zce B false ⟨(n : Int), a, b⟩ = true := by
  have w0 : wi (4 * (n : Int)) = ((4 * n : Nat) : Int) := by rw [wi_eq (by omega) (by omega)]; omega
  have w1 : wi (4 + wi (4 * (n : Int))) = ((4 + 4 * n : Nat) : Int) := by rw [w0, wi_eq (by omega) (by omega)]; omega
  have w2 : wi (8 + wi (4 * (n : Int))) = ((8 + 4 * n : Nat) : Int) := by rw [w0, wi_eq (by omega) (by omega)]; omega
  have v0 : wi (2 * (n : Int)) = ((2 * n : Nat) : Int) := by rw [wi_eq (by omega) (by omega)]; omega
  have v1 : wi (36 + wi (2 * (n : Int))) = ((36 + 2 * n : Nat) : Int) := by rw [v0, wi_eq (by omega) (by omega)]; omega
  have v2 : wi (38 + wi (2 * (n : Int))) = ((38 + 2 * n : Nat) : Int) := by rw [v0, wi_eq (by omega) (by omega)]; omega
  have e0 : Zcf B ⟨(n : Int), a, b⟩ = ((B.drop 4).drop (4 * n)).take 4 := by
    simp only [Zcf, w1, w2]
    rw [Zu1, List.drop_drop]; congr 1; omega
  have e1 : Zd B ⟨(n : Int), a, b⟩ = (B.drop (36 + 2 * n)).take 2 := by
    simp only [Zd, v1, v2]
    rw [Zu1]; congr 1; omega
  obtain ⟨g1, _⟩ := rGet4 (l := ((B.drop 4).drop (4 * n)).take 4) (Zkf (Zj3 (Zj3 hb 4) _) 4)
  obtain ⟨_, k2, _, k4, _⟩ := Zum (l := (B.drop (36 + 2 * n)).take 2) (Zkf (Zj3 hb _) 2)
  have i1 : ins B.length ((4 + 4 * n : Nat) : Int) ((8 + 4 * n : Nat) : Int) = true := by simp only [ins, hl, Bool.and_eq_true, decide_eq_true_eq]; omega
  have i3 : ins B.length ((36 + 2 * n : Nat) : Int) ((38 + 2 * n : Nat) : Int) = true := by simp only [ins, hl, Bool.and_eq_true, decide_eq_true_eq]; omega
  have i2 : decide (((4 + 4 * n : Nat) : Int) < ((8 + 4 * n : Nat) : Int)) = true := decide_eq_true (by omega)
  have i4 : decide (((36 + 2 * n : Nat) : Int) < ((38 + 2 * n : Nat) : Int)) = true := decide_eq_true (by omega)
  have k4' : Zh ((B.drop (36 + 2 * n)).take 2) = wO B n := k4
  obtain ⟨p0, _, _, _, _, p5⟩ := Zw4 (wO B n)
  have pe : Zcx (wO B n) = 3 := he
  have hne : ((3 : Int) != 0) = true := rfl
  simp only [Zce, w1, w2, v1, v2, i1, i2, i3, i4, e0, e1, g1, k2, k4', p0, p5, pe, hne, tb_eq, cond_true]
  rw [decide_eq_true (by omega)]; rfl
theorem Z9f (l : List Int) : (∀ i, i < 8 → perr l i = 0) ∨ ∃ n, n < 8 ∧ (∀ i, i < n → perr l i = 0) ∧ perr l n = 3 := by
  have key : ∀ k, k ≤ 8 → (∀ i, i < k → perr l i = 0) ∨ ∃ n, n < 8 ∧ (∀ i, i < n → perr l i = 0) ∧ perr l n = 3 := by
    intro k
    induction k with
    | zero => intro _; exact .inl fun i hi => by omega
    | succ k ih =>
      intro hk
      rcases ih (by omega) with h | h
      · rcases Zvs l k with ⟨h1, _⟩ | ⟨h1, _⟩
        · exact .inl fun i hi => by
            rcases Nat.lt_or_ge i k with h2 | h2
            · exact h i h2
            · rw [show i = k by omega]; exact h1
        · exact .inr ⟨k, by omega, h, h1⟩
      · exact .inr h
  exact key 8 (Nat.le_refl _)
theorem Z3o {l : List Int} (hs : Sm l) : Zi4 l = true ∧ Zi7 l = (if goodO l = true then seqO l else 0) ∧ Ze5 l = (if goodO l = true then valsO l else z8) ∧
    Z1 l = (if goodO l = true then stsO l else zS8) ∧ Zgv l = (if goodO l = true then 0 else 3) := by
  have hz : ([0, 0, 0, 0, 0, 0, 0, 0] : List Int) = z8 := rfl
  have hzS : ([⟨0, 0, 0, false⟩, ⟨0, 0, 0, false⟩, ⟨0, 0, 0, false⟩, ⟨0, 0, 0, false⟩, ⟨0, 0, 0, false⟩, ⟨0, 0, 0, false⟩, ⟨0, 0, 0, false⟩, ⟨0, 0, 0, false⟩] : List St4) = zS8 := rfl
  have hz' : Zez = zS8 := rfl
  have hz1 : Zoo = zS8 := rfl
  have r2 : Zkp z8 l = z8 := by
    simp only [Zkp, hz, tb_eq]
    cases Zey l <;> cases ((((Zb l).length : Nat) : Int) : Int) != 52 <;> cases ((gt (Zb l) 0) : Int) != 90 <;> rfl
  have r3 : Zkr z8 zS8 l = zS8 := by
    simp only [Zkr, hzS, hz1, tb_eq]
    cases Zey l <;> cases ((((Zb l).length : Nat) : Int) : Int) != 52 <;> cases ((gt (Zb l) 0) : Int) != 90 <;> cases (decide ((2 : Int) < 4)) <;> cases Zce (Zb l) (Zq l) (Ze z8 zS8 l) <;> rfl
  have bad : Zc9 z8 zS8 l = true → goodO l = false → Zi4 l = true ∧ Zi7 l = (if goodO l = true then seqO l else 0) ∧ Ze5 l = (if goodO l = true then valsO l else z8) ∧
      Z1 l = (if goodO l = true then stsO l else zS8) ∧ Zgv l = (if goodO l = true then 0 else 3) := fun c g => by
    simp only [Zi4, Zi7, Ze5, Z1, Zgv, Zsg, hz, hz', c, g, r2, r3, tb_eq, cond_true]
    simp
  obtain ⟨o1, o2, o3, o4⟩ := Z8i hs
  cases ho : okS l with
  | false =>
    refine bad ?_ ?_
    · simp only [Zc9, o1, o3, ho, tb_eq]; rfl
    · cases hg : goodO l with
      | false => rfl
      | true => rw [(Zq4 hg).2.1] at ho; cases ho
  | true =>
    rw [ho] at o2 o3 o4
    simp only [if_true] at o4
    by_cases hl : l.length = 54
    · rw [hl, show 54 - 2 = 52 from rfl] at o4
      have hB : (l.take 52).length = 52 := by simp [hl]
      have hbB := Zkf (byt_b hs) 52
      have n52 : ((((l.take 52).length : Nat) : Int) != 52) = false := by rw [hB]; rfl
      have i0 : inb (l.take 52).length 0 = true := by rw [hB]; rfl
      have i1 : inb (l.take 52).length 1 = true := by rw [hB]; rfl
      have g0 : gt (l.take 52) 0 = gt l 0 := Zxm (by omega) (by omega)
      have g1 : gt (l.take 52) 1 = gt l 1 := Zxm (by omega) (by omega)
      by_cases h0 : gt l 0 = 90
      · have n90 : ((gt l 0 : Int) != 90) = false := by rw [h0]; rfl
        have s24 : ins (l.take 52).length 2 4 = true := by rw [hB]; rfl
        have d24 : decide ((2 : Int) < 4) = true := rfl
        obtain ⟨_, k2, _, k4, _⟩ := Zum (l := sub (l.take 52) 2 4) (Zkf (Zj3 hbB 2) 2)
        have hsq : Zh (sub (l.take 52) 2 4) = seqO l := by
          rw [k4]; show g2 (((l.take 52).drop 2).take 2) = _
          rw [Zvq l (by omega)]; rfl
        rcases Z9f l with hp | ⟨n, hn, hp1, hp2⟩
        · have run := Z2f hbB hB (n := 8) (Nat.le_refl _) (fun i hi => by unfold perr; rw [Zut l hi]; exact hp i hi) (.inl rfl)
          rw [Nat.sub_self, List.replicate_zero, List.replicate_zero, List.append_nil, List.append_nil, Z61 l (Nat.le_refl _), Z5z] at run
          have e0 : Ze z8 zS8 l = ⟨8, valsO l, stsO l⟩ := by
            simp only [Ze, o4, o2, Bool.not_true, Zd3, run, Option.getD_some]; rfl
          have hok : Zev (l.take 52) false ⟨0, z8, zS8⟩ = true := by simp only [Zev, run]; rfl
          have c0' : Zce (l.take 52) false ⟨8, valsO l, stsO l⟩ = false := rfl
          have c1' : Zfk ⟨8, valsO l, stsO l⟩ = true := rfl
          obtain ⟨f1, f2⟩ := Zt8 (Zv1 l)
          have hb1 := wfI_u8 (hs.b _ (gt_mem (l := l) (i := 1) (by omega) (by omega)))
          have w1 : wi (gt l 1) = gt l 1 := wi_eq (by omega) (by omega)
          have sc : Zc9 z8 zS8 l = ((gt l 1 : Int) != failN (stsO l)) ∧ Zka z8 zS8 l = !((gt l 1 : Int) != failN (stsO l)) := by
            simp only [Zc9, Zka, o1, o2, o3, o4, n52, i0, g0, n90, s24, d24, k2, e0, hok, c0', c1', i1, f1, f2, g1, w1, Bool.not_true, tb_eq, cond_true, cond_false]
            cases ((gt l 1 : Int) != failN (stsO l)) <;> exact ⟨rfl, rfl⟩
          by_cases h1 : gt l 1 = failN (stsO l)
          · have hg := Z8d hs hl ho h0 h1 hp
            have hne : ((gt l 1 : Int) != failN (stsO l)) = false := by rw [h1]; simp
            rw [hne] at sc
            have e4 : Zp1 l = valsO l := by simp only [Zp1, hz, hz', e0]
            have e5 : Zp5 l = stsO l := by simp only [Zp5, hz, hz', e0]
            have r14 : Zks l = seqO l := by simp only [Zks, o4, d24, hsq, tb_eq]; rfl
            simp only [Zi4, Zi7, Ze5, Z1, Zgv, hz, hz', sc.1, sc.2, hg, e4, e5, r14, tb_eq]
            simp
          · have hne : ((gt l 1 : Int) != failN (stsO l)) = true := by rw [bne_iff_ne]; exact h1
            refine bad (by rw [sc.1, hne]) ?_
            cases hg : goodO l with
            | false => rfl
            | true => exact absurd (Zq4 hg).2.2.2.1 h1
        · have run := Z2f hbB hB (n := n) (by omega) (fun i hi => by unfold perr; rw [Zut l (by omega)]; exact hp1 i hi) (.inr ⟨hn, by unfold perr; rw [Zut l hn]; exact hp2⟩)
          have hok : Zev (l.take 52) false ⟨0, z8, zS8⟩ = true := by simp only [Zev, run]; rfl
          refine bad ?_ ?_
          · have e0 : Ze z8 zS8 l = ⟨(n : Int), fours ((l.take 52).drop 4) n ++ List.replicate (8 - n) 0, stsN (l.take 52) n ++ List.replicate (8 - n) zS⟩ := by
              simp only [Ze, o4, o2, Bool.not_true, Zd3, run, Option.getD_some]
            have c0' : Zce (l.take 52) false ⟨(n : Int), fours ((l.take 52).drop 4) n ++ List.replicate (8 - n) 0, stsN (l.take 52) n ++ List.replicate (8 - n) zS⟩ = true := Z9c hbB hB hn (by unfold perr; rw [Zut l hn]; exact hp2) _ _
            simp only [Zc9, o1, o2, o3, o4, n52, i0, g0, n90, s24, d24, k2, e0, hok, c0', Bool.not_true, tb_eq, cond_true, cond_false]
            rfl
          · cases hg : goodO l with
            | false => rfl
            | true => have := (Zq4 hg).2.2.2.2 n hn; rw [hp2] at this; cases this
      · have n90 : ((gt l 0 : Int) != 90) = true := by rw [bne_iff_ne]; exact h0
        refine bad ?_ ?_
        · simp only [Zc9, o1, o3, o4, n52, i0, g0, n90, tb_eq, cond_true, cond_false]
        · cases hg : goodO l with
          | false => rfl
          | true => exact absurd (Zq4 hg).2.2.1 h0
    · refine bad ?_ ?_
      · have n52 : ((((l.take (l.length - 2)).length : Nat) : Int) != 52) = true := by
          have h2 : 2 ≤ l.length := by simp only [okS, Bool.and_eq_true, decide_eq_true_eq] at ho; exact ho.1
          rw [bne_iff_ne, List.length_take]; omega
        simp only [Zc9, o1, o3, o4, n52, tb_eq, cond_true]
      · cases hg : goodO l with
        | false => rfl
        | true => exact absurd (Zq4 hg).1 hl
end Go.Proofs.Ytkipngagfiaddaa.Den

namespace Go.Proofs.Ytkipngagfiaddaa.Den
open Go Go.Proofs
set_option maxRecDepth 100000
set_option maxHeartbeats 4000000
set_option linter.unusedVariables false
set_option linter.unusedSimpArgs false
theorem Zl0 : cl E0 17 [] [] = some ([(V.d (.bool true))], []) := cl_of (n := 60) (by kernel_rfl)
end Go.Proofs.Ytkipngagfiaddaa.Den

namespace Go.Proofs.Ytkipngagfiaddaa.Den
open Go Go.Proofs
set_option maxRecDepth 100000
set_option maxHeartbeats 4000000
set_option linter.unusedVariables false
set_option linter.unusedSimpArgs false
def Zfc (x5 : List Int) : Bool := (bif tb (decide (300 < ((x5.length : Nat) : Int))) then true else false)
theorem Ztb (x0 : Int) (x1 : List Int) (x2 : List R_i64_i64_i64_bool) (x3 x4 : Bool) (x5 : List Int) : Zfc x5 = true → segG (runC E0 (cl E0) S5_0) [1, 2] [4] [1, 2] 1 ([(V.d (slD (encI .u8) true 1 x4 x5)), (V.ptr 0 1 0 0)], [(Blk.flat 55 41 [([(.int .i64 x0)] ++ arrD .i64 x1 8 ++ arrE Za x2 8)] x3)]) = some (.ret, ([(V.d (.bool true))], [(Blk.flat 55 41 [([(.int .i64 x0)] ++ arrD .i64 x1 8 ++ arrE Za x2 8)] x3)])) := by
 unfold Zfc
 cases h1 : tb (decide (300 < ((x5.length : Nat) : Int)))
 ·exact ZN
 ·exact fun g0 => Zbh [.o 15 (fun _ => Zcd (enc := (encI .u8)) (l := x5) (fl := true) (n := x4) (s := 1)), .b (tbE h1), .c (Zl0)] (by kernel_rfl)
theorem Ztf (x0 : Int) (x1 : List Int) (x2 : List R_i64_i64_i64_bool) (x3 x4 : Bool) (x5 : List Int) : Zfc x5 = false → segG (runC E0 (cl E0) S5_0) [1, 2] [4] [1, 2] 1 ([(V.d (slD (encI .u8) true 1 x4 x5)), (V.ptr 0 1 0 0)], [(Blk.flat 55 41 [([(.int .i64 x0)] ++ arrD .i64 x1 8 ++ arrE Za x2 8)] x3)]) = some (.normal, ([(V.d (slD (encI .u8) true 1 x4 x5)), (V.ptr 0 1 0 0)], [(Blk.flat 55 41 [([(.int .i64 x0)] ++ arrD .i64 x1 8 ++ arrE Za x2 8)] x3)])) := by
 unfold Zfc
 cases h1 : tb (decide (300 < ((x5.length : Nat) : Int)))
 ·exact fun g0 => Zbh [.o 15 (fun _ => Zcd (enc := (encI .u8)) (l := x5) (fl := true) (n := x4) (s := 1)), .b (tbE h1)] (by kernel_rfl)
 ·exact fun g0 => absurd g0 tf
def Zil (x0 : Int) (x1 : List Int) (x2 : List R_i64_i64_i64_bool) : Bool := (bif tb (Zb3 x0 x1 x2) then (bif tb (Zex x0 x1 x2) then (bif tb (Zkw (Zc x0 x1 x2) (Z0 x0 x1 x2)) then true else false) else false) else false)
theorem Zte (x0 : Int) (x1 : List Int) (x2 : List R_i64_i64_i64_bool) (x3 x4 : Bool) (x5 : List Int) : Zil x0 x1 x2 = true → segG (runC E0 (cl E0) S5_1) [1, 2] [] [1, 2, 6, 8, 9] 1 ([(V.d (slD (encI .u8) true 1 x4 x5)), (V.ptr 0 1 0 0)], [(Blk.flat 55 41 [([(.int .i64 x0)] ++ arrD .i64 x1 8 ++ arrE Za x2 8)] x3)]) = some (.normal, ([(V.d (slD (encI .u8) true 1 x4 x5)), (V.ptr 0 1 0 0), (V.d (.int .i64 (Z9 x0 x1 x2))), (V.d (.int .i64 (Zb0 x0 x1 x2))), (V.d (.bool (Zjx (Zc x0 x1 x2) (Z0 x0 x1 x2))))], [(Blk.flat 55 41 [([(.int .i64 x0)] ++ arrD .i64 x1 8 ++ arrE Za x2 8)] x3)])) := by
 unfold Zil
 cases h1 : tb (Zb3 x0 x1 x2)
 ·exact ZN
 ·cases h2 : tb (Zex x0 x1 x2)
  ·exact ZN
  ·cases h3 : tb (Zkw (Zc x0 x1 x2) (Z0 x0 x1 x2))
   ·exact ZN
   ·exact fun g0 => Zbh [.c (Zgt x0 x1 x2 (tbE h1)), .c (Zok x0 x1 x2 (tbE h2)), .y (mm := [(Blk.flat 55 41 [([(.int .i64 x0)] ++ arrD .i64 x1 8 ++ arrE Za x2 8)] x3), (Blk.flat 5 1 (List.map (encI .u8) (Zc x0 x1 x2)) false), (Blk.flat 5 1 (List.map (encI .u8) (Z0 x0 x1 x2)) false)]) (args := [(V.so (Zw x0 x1 x2) 1 ((Zc x0 x1 x2).length)), (V.so (Zeg x0 x1 x2) 2 ((Z0 x0 x1 x2).length))]) (args1 := [(V.d (slD (encI .u8) true 1 (Zw x0 x1 x2) (Zc x0 x1 x2))), (V.d (slD (encI .u8) true 1 (Zeg x0 x1 x2) (Z0 x0 x1 x2)))]) (Zgj (Zqi (enc := (encI .u8)) (l := (Zc x0 x1 x2)) (b := (Zw x0 x1 x2)) (e := 5) (s := 1) (p := false) (n := ((Zc x0 x1 x2).length)) (Nat.beq_refl _) (by kernel_rfl)) (Zgj (Zqi (enc := (encI .u8)) (l := (Z0 x0 x1 x2)) (b := (Zeg x0 x1 x2)) (e := 5) (s := 1) (p := false) (n := ((Z0 x0 x1 x2).length)) (Nat.beq_refl _) (by kernel_rfl)) (by kernel_rfl))), .c (Zyw (Zw x0 x1 x2) (Zc x0 x1 x2) (Zeg x0 x1 x2) (Z0 x0 x1 x2) (tbE h3))] (by kernel_rfl)
def Zkd (x4 : Bool) (x5 : List Int) : Bool := (false != ((((Zkb x4 x5) : Int) == (Zi7 x5)) && ((((gt (Ze8 x4 x5) 0) : Int) == (gt (Ze5 x5) 0)) && ((((gt (Ze8 x4 x5) 1) : Int) == (gt (Ze5 x5) 1)) && ((((gt (Ze8 x4 x5) 2) : Int) == (gt (Ze5 x5) 2)) && ((((gt (Ze8 x4 x5) 3) : Int) == (gt (Ze5 x5) 3)) && ((((gt (Ze8 x4 x5) 4) : Int) == (gt (Ze5 x5) 4)) && ((((gt (Ze8 x4 x5) 5) : Int) == (gt (Ze5 x5) 5)) && ((((gt (Ze8 x4 x5) 6) : Int) == (gt (Ze5 x5) 6)) && ((((gt (Ze8 x4 x5) 7) : Int) == (gt (Ze5 x5) 7)) && (((((gt (Zx x4 x5) 0).c0) : Int) == ((gt (Z1 x5) 0).c0)) && (((((gt (Zx x4 x5) 0).c1) : Int) == ((gt (Z1 x5) 0).c1)) && (((((gt (Zx x4 x5) 0).c2) : Int) == ((gt (Z1 x5) 0).c2)) && ((((gt (Zx x4 x5) 0).c3) == ((gt (Z1 x5) 0).c3)) && (((((gt (Zx x4 x5) 1).c0) : Int) == ((gt (Z1 x5) 1).c0)) && (((((gt (Zx x4 x5) 1).c1) : Int) == ((gt (Z1 x5) 1).c1)) && (((((gt (Zx x4 x5) 1).c2) : Int) == ((gt (Z1 x5) 1).c2)) && ((((gt (Zx x4 x5) 1).c3) == ((gt (Z1 x5) 1).c3)) && (((((gt (Zx x4 x5) 2).c0) : Int) == ((gt (Z1 x5) 2).c0)) && (((((gt (Zx x4 x5) 2).c1) : Int) == ((gt (Z1 x5) 2).c1)) && (((((gt (Zx x4 x5) 2).c2) : Int) == ((gt (Z1 x5) 2).c2)) && ((((gt (Zx x4 x5) 2).c3) == ((gt (Z1 x5) 2).c3)) && (((((gt (Zx x4 x5) 3).c0) : Int) == ((gt (Z1 x5) 3).c0)) && (((((gt (Zx x4 x5) 3).c1) : Int) == ((gt (Z1 x5) 3).c1)) && (((((gt (Zx x4 x5) 3).c2) : Int) == ((gt (Z1 x5) 3).c2)) && ((((gt (Zx x4 x5) 3).c3) == ((gt (Z1 x5) 3).c3)) && (((((gt (Zx x4 x5) 4).c0) : Int) == ((gt (Z1 x5) 4).c0)) && (((((gt (Zx x4 x5) 4).c1) : Int) == ((gt (Z1 x5) 4).c1)) && (((((gt (Zx x4 x5) 4).c2) : Int) == ((gt (Z1 x5) 4).c2)) && ((((gt (Zx x4 x5) 4).c3) == ((gt (Z1 x5) 4).c3)) && (((((gt (Zx x4 x5) 5).c0) : Int) == ((gt (Z1 x5) 5).c0)) && (((((gt (Zx x4 x5) 5).c1) : Int) == ((gt (Z1 x5) 5).c1)) && (((((gt (Zx x4 x5) 5).c2) : Int) == ((gt (Z1 x5) 5).c2)) && ((((gt (Zx x4 x5) 5).c3) == ((gt (Z1 x5) 5).c3)) && (((((gt (Zx x4 x5) 6).c0) : Int) == ((gt (Z1 x5) 6).c0)) && (((((gt (Zx x4 x5) 6).c1) : Int) == ((gt (Z1 x5) 6).c1)) && (((((gt (Zx x4 x5) 6).c2) : Int) == ((gt (Z1 x5) 6).c2)) && ((((gt (Zx x4 x5) 6).c3) == ((gt (Z1 x5) 6).c3)) && (((((gt (Zx x4 x5) 7).c0) : Int) == ((gt (Z1 x5) 7).c0)) && (((((gt (Zx x4 x5) 7).c1) : Int) == ((gt (Z1 x5) 7).c1)) && (((((gt (Zx x4 x5) 7).c2) : Int) == ((gt (Z1 x5) 7).c2)) && ((((gt (Zx x4 x5) 7).c3) == ((gt (Z1 x5) 7).c3)) && true))))))))))))))))))))))))))))))))))))))))))
def Zkc (x0 : Int) (x1 : List Int) (x2 : List R_i64_i64_i64_bool) (x4 : Bool) (x5 : List Int) (x6 x7 : Int) (x8 : Bool) : Bool := (bif tb (Zj4 x4 x5) then (bif tb (Zi4 x5) then (bif tb (x8) then (bif tb ((x6 : Int) == x7) then (bif tb (Zkd x4 x5) then (bif tb (((Zhe x4 x5) : Int) == (Zgv x5)) then (bif tb (Zc3 x0 x1 x2) then (bif tb (Zcp x1 x2) then (bif tb (false != ((Zbf x0 x1 x2) == (Z2 x0 x1 x2))) then (bif tb (Zc2 x2) then (bif tb (Z6 x2) then true else false) else false) else true) else false) else false) else true) else true) else true) else true) else false) else false)
def Zk8 (x0 : Int) (x1 : List Int) (x2 : List R_i64_i64_i64_bool) (x4 : Bool) (x5 : List Int) (x6 x7 : Int) (x8 : Bool) : Bool := (bif tb (x8) then (bif tb ((x6 : Int) == x7) then (bif tb (Zkd x4 x5) then (bif tb (((Zhe x4 x5) : Int) == (Zgv x5)) then (bif tb (false != ((Zbf x0 x1 x2) == (Z2 x0 x1 x2))) then ((((Zcj x2).c0) : Int) == ((Zy x2).c0)) else false) else false) else false) else false) else false)
theorem Zs9 (x0 : Int) (x1 : List Int) (x2 : List R_i64_i64_i64_bool) (x3 x4 : Bool) (x5 : List Int) (x6 x7 : Int) (x8 : Bool) : Zkc x0 x1 x2 x4 x5 x6 x7 x8 = true → segG (runC E0 (cl E0) S5_2) [1, 2, 6, 8, 9] [] [4] 1 ([(V.d (slD (encI .u8) true 1 x4 x5)), (V.ptr 0 1 0 0), (V.d (.int .i64 x6)), (V.d (.int .i64 x7)), (V.d (.bool x8))], [(Blk.flat 55 41 [([(.int .i64 x0)] ++ arrD .i64 x1 8 ++ arrE Za x2 8)] x3)]) = some (.normal, ([(V.d (.bool (Zk8 x0 x1 x2 x4 x5 x6 x7 x8)))], [(Blk.flat 55 41 [([(.int .i64 x0)] ++ arrD .i64 x1 8 ++ arrE Za x2 8)] x3)])) := by
 unfold Zkc Zk8
 cases h1 : tb (Zj4 x4 x5)
 ·exact ZN
 ·cases h2 : tb (Zi4 x5)
  ·exact ZN
  ·cases h3 : tb (x8)
   ·exact fun g0 => Zbh [.c (Zk4 x4 x5 (tbE h1)), .c (Zlq x4 x5 (tbE h2)), .c (Zl0), .k true, .b (tbE h3)] (by kernel_rfl)
   ·cases h4 : tb ((x6 : Int) == x7)
    ·exact fun g0 => Zbh [.c (Zk4 x4 x5 (tbE h1)), .c (Zlq x4 x5 (tbE h2)), .c (Zl0), .k true, .b (tbE h3), .b (tbE h4)] (by kernel_rfl)
    ·cases h5 : tb (Zkd x4 x5)
     ·exact fun g0 => Zbh [.c (Zk4 x4 x5 (tbE h1)), .c (Zlq x4 x5 (tbE h2)), .c (Zl0), .k true, .b (tbE h3), .b (tbE h4), .b (tbE h5)] (by kernel_rfl)
     ·cases h6 : tb (((Zhe x4 x5) : Int) == (Zgv x5))
      ·exact fun g0 => Zbh [.c (Zk4 x4 x5 (tbE h1)), .c (Zlq x4 x5 (tbE h2)), .c (Zl0), .k true, .b (tbE h3), .b (tbE h4), .b (tbE h5), .b (tbE h6)] (by kernel_rfl)
      ·cases h7 : tb (Zc3 x0 x1 x2)
       ·exact ZN
       ·cases h8 : tb (Zcp x1 x2)
        ·exact ZN
        ·cases h9 : tb (false != ((Zbf x0 x1 x2) == (Z2 x0 x1 x2)))
         ·exact fun g0 => Zbh [.c (Zk4 x4 x5 (tbE h1)), .c (Zlq x4 x5 (tbE h2)), .c (Zl0), .k true, .b (tbE h3), .b (tbE h4), .b (tbE h5), .b (tbE h6), .c (Zgu x0 x1 x2 (tbE h7)), .c (Zg6 x0 x1 x2 (tbE h8)), .b (tbE h9)] (by kernel_rfl)
         ·cases h10 : tb (Zc2 x2)
          ·exact ZN
          ·cases h11 : tb (Z6 x2)
           ·exact ZN
           ·exact fun g0 => Zbh [.c (Zk4 x4 x5 (tbE h1)), .c (Zlq x4 x5 (tbE h2)), .c (Zl0), .k true, .b (tbE h3), .b (tbE h4), .b (tbE h5), .b (tbE h6), .c (Zgu x0 x1 x2 (tbE h7)), .c (Zg6 x0 x1 x2 (tbE h8)), .b (tbE h9), .c (Zkt x0 x1 x2 (tbE h10)), .c (Zew x0 x1 x2 (tbE h11))] (by kernel_rfl)
def Zj9 (x0 : Int) (x1 : List Int) (x2 : List R_i64_i64_i64_bool) : Bool := (Zjx (Zc x0 x1 x2) (Z0 x0 x1 x2))
def Zld (x0 : Int) (x1 : List Int) (x2 : List R_i64_i64_i64_bool) (x3 : Bool) (x4 : List Int) : Bool := (bif tb (Zfc x4) then true else (bif tb (Zil x0 x1 x2) then (bif tb (Zkc x0 x1 x2 x3 x4 (Z9 x0 x1 x2) (Zb0 x0 x1 x2) (Zj9 x0 x1 x2)) then true else false) else false))
def Zkn (x0 : Int) (x1 : List Int) (x2 : List R_i64_i64_i64_bool) (x3 : Bool) (x4 : List Int) : Bool := (bif tb (Zfc x4) then true else (Zk8 x0 x1 x2 x3 x4 (Z9 x0 x1 x2) (Zb0 x0 x1 x2) (Zj9 x0 x1 x2)))
theorem Zvg (x0 : Int) (x1 : List Int) (x2 : List R_i64_i64_i64_bool) (x3 : Bool) (x4 : List Int) : Zld x0 x1 x2 x3 x4 = true → cl E0 5 [(V.agg (List.map V.d ([(.int .i64 x0)] ++ arrD .i64 x1 8 ++ arrE Za x2 8))), (V.d (slD (encI .u8) true 1 x3 x4))] [] = some ([(V.d (.bool (Zkn x0 x1 x2 x3 x4)))], []) := by
 unfold Zld Zkn
 cases h1 : tb (Zfc x4)
 ·cases h2 : tb (Zil x0 x1 x2)
  ·exact ZN
  ·cases h3 : tb (Zkc x0 x1 x2 x3 x4 (Z9 x0 x1 x2) (Zb0 x0 x1 x2) (Zj9 x0 x1 x2))
   ·exact ZN
   ·exact fun g0 => w5 [.s (Ztf x0 x1 x2 false x3 x4 (tbE h1)), .s (Zte x0 x1 x2 false x3 x4 (tbE h2)), .s (Zs9 x0 x1 x2 false x3 x4 (Z9 x0 x1 x2) (Zb0 x0 x1 x2) (Zj9 x0 x1 x2) (tbE h3))] (by kernel_rfl)
 ·exact fun g0 => w5 [.s (Ztb x0 x1 x2 false x3 x4 (tbE h1))] (by kernel_rfl)
end Go.Proofs.Ytkipngagfiaddaa.Den

namespace Go.Proofs.Ytkipngagfiaddaa.Den
open Go Go.Proofs
set_option linter.unusedVariables false
set_option linter.unusedSimpArgs false
theorem Zyp (x0 : Int) (x1 : List Int) (x2 : List R_i64_i64_i64_bool) (x3 : Bool) (x4 : List Int) (wx0 : WfI .i64 x0) (wx1 : x1.length = 8 ∧ ∀ z ∈ x1, WfI .i64 z) (wx2 : x2.length = 8 ∧ ∀ z ∈ x2, WfI .i64 z.c0 ∧ WfI .i64 z.c1 ∧ WfI .i64 z.c2 ∧ True) (wx4 : (x4.length ≤ maxLen ∧ x4.length * 1 ≤ 140737488351232 ∧ ∀ z ∈ x4, WfI .u8 z)) : Zld x0 x1 x2 x3 x4 = true ∧ (Zkn x0 x1 x2 x3 x4) = true := by
  obtain ⟨h1, _⟩ := wx1
  obtain ⟨h2, _⟩ := wx2
  obtain ⟨_, _, hb⟩ := wx4
  by_cases hl : x4.length ≤ 300
  · have s0 : Zfc x4 = false := by simp [Zfc, tb_eq]; omega
    have hs : Sm x4 := ⟨hb, by omega⟩
    obtain ⟨e1, e2, e3, e4⟩ := Zzr x0 h1 h2
    obtain ⟨f1, f2, f3⟩ := Z3j x0 h1 h2
    obtain ⟨d1, d2, d3, d4, d5⟩ := Z41 x3 hs
    obtain ⟨r1, r2, r3, r4, r5⟩ := Z3o hs
    obtain ⟨g1, g2⟩ := Z0q x0 h1 h2
    obtain ⟨k1, k2⟩ := Zzv x0 h1 h2
    obtain ⟨m1, m2⟩ := Zzp h2
    obtain ⟨n1, n2⟩ := Zt8 h2
    have hsl : (Zc x0 x1 x2).length < 1152921504606846976 := by
      rw [e4]
      split
      · simp [sealed, tail2, Ztg h1 h2]
      · simp
    obtain ⟨q1, q2⟩ := Z9d (k := Z0 x0 x1 x2) hsl
    have s1 : Zil x0 x1 x2 = true := by simp only [Zil, e1, f1, q1, tb_eq]; rfl
    have s2 : Zkd x3 x4 = true := by
      simp only [Zkd, d2, d3, d4, r2, r3, r4, beq_self_eq_true, Bool.and_self, Bool.and_true]; rfl
    have he0 : Zj9 x0 x1 x2 = true := by
      simp only [Zj9]; rw [q2, e4, f3]; simp
    have hE : ((Z9 x0 x1 x2 : Int) == Zb0 x0 x1 x2) = true := by rw [e3, f2]; simp
    have hD : ((Zhe x3 x4 : Int) == Zgv x4) = true := by rw [d5, r5]; simp
    have hR : (false != (Zbf x0 x1 x2 == Z2 x0 x1 x2)) = true := by rw [g2, k2]; simp
    have hF : (((Zcj x2).c0 : Int) == (Zy x2).c0) = true := by rw [m2, n2]; simp
    simp only [Zld, Zkn, s0, s1, Zkc, Zk8, he0, hE, s2, hD, hR, hF, d1, r1, g1, k1, m1, n1, tb_eq, cond_true, cond_false, and_self]
  · have s0 : Zfc x4 = true := by
      simp only [Zfc, tb_eq]
      rw [decide_eq_true (by omega)]; rfl
    simp only [Zld, Zkn, s0, tb_eq, cond_true, and_self]
end Go.Proofs.Ytkipngagfiaddaa.Den

namespace Go.Proofs.Ytkipngagfiaddaa.Den
open Go Go.Proofs
set_option maxRecDepth 100000
theorem own : ownKnob Try.prog.godebug = none := by kernel_rfl
theorem Z8e : laidOutB Try.prog = true := by kernel_rfl
theorem mixed : Try.prog.follows .mixedOrders = true := by kernel_rfl
theorem envOK : EnvOK Try.prog E0 := ⟨e0_cf, ext_ok rfl e0_x, e0_del⟩
theorem glOK (w : World) : GlOK E0 (cx0 w) := fun g cs h => by simp [E0] at h
end Go.Proofs.Ytkipngagfiaddaa.Den

namespace Go.Proofs.Ytkipngagfiaddaa.Den
open Go Go.Proofs Go.ChangeShapes Go.WideShapes Go.ChangeAt Go.RowKit
open Go.Proofs.Ytkipngagfiaddaa (Rows.outputTellsSpec Rows.outputTellsRow Rows.OutputTellsSaid)
set_option maxRecDepth 100000
set_option linter.unusedSimpArgs false
set_option linter.unusedVariables false
theorem row5 (rs : List (List D)) (h : TyAll Try.prog 20 Try.f5.params.toList rs) : ∃ k m', callD E0 k 5 (argsV Try.prog Try.f5.params.toList rs) [] = some ([.d (.bool true)], m') := by
  rw [Try.params5] at h ⊢
  simp only [TyAll] at h
  obtain ⟨_, _, rfl, q0, _, _, rfl, q1, rfl⟩ := h
  have k0 := Zs0 20 _ _ _ (show flatK Try.prog 20 55 = some [.i .i64, .i .i64, .i .i64, .i .i64, .i .i64, .i .i64, .i .i64, .i .i64, .i .i64, .i .i64, .i .i64, .i .i64, .b, .i .i64, .i .i64, .i .i64, .b, .i .i64, .i .i64, .i .i64, .b, .i .i64, .i .i64, .i .i64, .b, .i .i64, .i .i64, .i .i64, .b, .i .i64, .i .i64, .i .i64, .b, .i .i64, .i .i64, .i .i64, .b, .i .i64, .i .i64, .i .i64, .b] by kernel_rfl) q0
  simp only [CellsK, CellK] at k0
  obtain ⟨_, _, rfl, ⟨a0_0, rfl, w0_0⟩, _, _, rfl, ⟨a0_1, rfl, w0_1⟩, _, _, rfl, ⟨a0_2, rfl, w0_2⟩, _, _, rfl, ⟨a0_3, rfl, w0_3⟩, _, _, rfl, ⟨a0_4, rfl, w0_4⟩, _, _, rfl, ⟨a0_5, rfl, w0_5⟩, _, _, rfl, ⟨a0_6, rfl, w0_6⟩, _, _, rfl, ⟨a0_7, rfl, w0_7⟩, _, _, rfl, ⟨a0_8, rfl, w0_8⟩, _, _, rfl, ⟨a0_9, rfl, w0_9⟩, _, _, rfl, ⟨a0_10, rfl, w0_10⟩, _, _, rfl, ⟨a0_11, rfl, w0_11⟩, _, _, rfl, ⟨a0_12, rfl⟩, _, _, rfl, ⟨a0_13, rfl, w0_13⟩, _, _, rfl, ⟨a0_14, rfl, w0_14⟩, _, _, rfl, ⟨a0_15, rfl, w0_15⟩, _, _, rfl, ⟨a0_16, rfl⟩, _, _, rfl, ⟨a0_17, rfl, w0_17⟩, _, _, rfl, ⟨a0_18, rfl, w0_18⟩, _, _, rfl, ⟨a0_19, rfl, w0_19⟩, _, _, rfl, ⟨a0_20, rfl⟩, _, _, rfl, ⟨a0_21, rfl, w0_21⟩, _, _, rfl, ⟨a0_22, rfl, w0_22⟩, _, _, rfl, ⟨a0_23, rfl, w0_23⟩, _, _, rfl, ⟨a0_24, rfl⟩, _, _, rfl, ⟨a0_25, rfl, w0_25⟩, _, _, rfl, ⟨a0_26, rfl, w0_26⟩, _, _, rfl, ⟨a0_27, rfl, w0_27⟩, _, _, rfl, ⟨a0_28, rfl⟩, _, _, rfl, ⟨a0_29, rfl, w0_29⟩, _, _, rfl, ⟨a0_30, rfl, w0_30⟩, _, _, rfl, ⟨a0_31, rfl, w0_31⟩, _, _, rfl, ⟨a0_32, rfl⟩, _, _, rfl, ⟨a0_33, rfl, w0_33⟩, _, _, rfl, ⟨a0_34, rfl, w0_34⟩, _, _, rfl, ⟨a0_35, rfl, w0_35⟩, _, _, rfl, ⟨a0_36, rfl⟩, _, _, rfl, ⟨a0_37, rfl, w0_37⟩, _, _, rfl, ⟨a0_38, rfl, w0_38⟩, _, _, rfl, ⟨a0_39, rfl, w0_39⟩, _, _, rfl, ⟨a0_40, rfl⟩, rfl⟩ := k0
  have k1 := Zs0 20 _ _ _ (show flatK Try.prog 20 37 = some [.l 5] by kernel_rfl) q1
  simp only [CellsK, CellK] at k1
  obtain ⟨d1_0, _, rfl, y1_0, rfl⟩ := k1
  obtain ⟨n1_0, a1_0, rfl, v1_0⟩ : ∃ n l, d1_0 = slD (encI .u8) true 1 n l ∧ (l.length ≤ maxLen ∧ l.length * 1 ≤ 140737488351232 ∧ ∀ z ∈ l, WfI .u8 z) := by
    rcases y1_0 with rfl | ⟨rows1, rfl, hl1, hb1, m1, hr1⟩
    · exact ⟨true, [], rfl, by simp [maxLen], by simp, fun z hz => by simp at hz⟩
    · obtain ⟨l2, rfl, hw2⟩ : ∃ l : List Int, rows1 = l.map (encI .u8) ∧ ∀ z ∈ l, WfI .u8 z := Z4n (T := Ty Try.prog m1 5) (fun r hr => by
          have q := Z51 (show flatK Try.prog 20 5 = some [.i .u8] by kernel_rfl) hr
          simp only [CellsK, CellK] at q
          obtain ⟨_, _, rfl, ⟨b0, rfl, w0⟩, rfl⟩ := q
          exact ⟨b0, rfl, w0⟩) rows1 hr1
      rw [List.length_map, show Try.prog.bytesOf 5 = 1 by kernel_rfl] at hb1
      rw [show isFlat Try.prog 5 = true by kernel_rfl, show Try.prog.cellsOf 5 = 1 by kernel_rfl]
      exact ⟨false, l2, slD_rs _ _ _ _, by simpa using hl1, hb1, hw2⟩
  simp only [argsV, argV, Try.underlying37, Try.underlying55, List.map_cons, List.map_nil]
  obtain ⟨g1, g2⟩ := Zyp a0_0 [a0_1, a0_2, a0_3, a0_4, a0_5, a0_6, a0_7, a0_8] [⟨a0_9, a0_10, a0_11, a0_12⟩, ⟨a0_13, a0_14, a0_15, a0_16⟩, ⟨a0_17, a0_18, a0_19, a0_20⟩, ⟨a0_21, a0_22, a0_23, a0_24⟩, ⟨a0_25, a0_26, a0_27, a0_28⟩, ⟨a0_29, a0_30, a0_31, a0_32⟩, ⟨a0_33, a0_34, a0_35, a0_36⟩, ⟨a0_37, a0_38, a0_39, a0_40⟩] n1_0 a1_0 w0_0 ⟨rfl, (List.forall_mem_cons.2 ⟨w0_1, (List.forall_mem_cons.2 ⟨w0_2, (List.forall_mem_cons.2 ⟨w0_3, (List.forall_mem_cons.2 ⟨w0_4, (List.forall_mem_cons.2 ⟨w0_5, (List.forall_mem_cons.2 ⟨w0_6, (List.forall_mem_cons.2 ⟨w0_7, (List.forall_mem_cons.2 ⟨w0_8, (fun z hz => by cases hz)⟩)⟩)⟩)⟩)⟩)⟩)⟩)⟩)⟩ ⟨rfl, (List.forall_mem_cons.2 ⟨⟨w0_9, w0_10, w0_11, trivial⟩, (List.forall_mem_cons.2 ⟨⟨w0_13, w0_14, w0_15, trivial⟩, (List.forall_mem_cons.2 ⟨⟨w0_17, w0_18, w0_19, trivial⟩, (List.forall_mem_cons.2 ⟨⟨w0_21, w0_22, w0_23, trivial⟩, (List.forall_mem_cons.2 ⟨⟨w0_25, w0_26, w0_27, trivial⟩, (List.forall_mem_cons.2 ⟨⟨w0_29, w0_30, w0_31, trivial⟩, (List.forall_mem_cons.2 ⟨⟨w0_33, w0_34, w0_35, trivial⟩, (List.forall_mem_cons.2 ⟨⟨w0_37, w0_38, w0_39, trivial⟩, (fun z hz => by cases hz)⟩)⟩)⟩)⟩)⟩)⟩)⟩)⟩)⟩ v1_0
  have hc := Zvg a0_0 [a0_1, a0_2, a0_3, a0_4, a0_5, a0_6, a0_7, a0_8] [⟨a0_9, a0_10, a0_11, a0_12⟩, ⟨a0_13, a0_14, a0_15, a0_16⟩, ⟨a0_17, a0_18, a0_19, a0_20⟩, ⟨a0_21, a0_22, a0_23, a0_24⟩, ⟨a0_25, a0_26, a0_27, a0_28⟩, ⟨a0_29, a0_30, a0_31, a0_32⟩, ⟨a0_33, a0_34, a0_35, a0_36⟩, ⟨a0_37, a0_38, a0_39, a0_40⟩] n1_0 a1_0 g1
  rw [g2] at hc
  obtain ⟨k, hk⟩ := of_cl hc
  exact ⟨k, _, hk⟩
theorem Zxf (os : Os) (started : os.Started) (H : Type) (enc : TypeId × Value → H) :
    ReturnsInHanded {} Try.checked os 5 .any (Rows.outputTellsSpec.pre6 enc Try.prog Try.f5 Rows.outputTellsRow.domain false) (Rows.outputTellsSpec.post enc Try.prog Try.f5 false true false false) :=
  Z4r (C := Try.checked) (fn := Try.f5) mixed envOK glOK own started (by kernel_rfl) Try.func5 Z8e
    (ChangeSpec.witness6 (enc := enc) (C := Try.checked) false ⟨#[], #[.agg #[.int .i64 0, .int .i64 0, .int .i64 0, .int .i64 0, .int .i64 0, .int .i64 0, .int .i64 0, .int .i64 0, .int .i64 0, .int .i64 0, .int .i64 0, .int .i64 0, .bool false, .int .i64 0, .int .i64 0, .int .i64 0, .bool false, .int .i64 0, .int .i64 0, .int .i64 0, .bool false, .int .i64 0, .int .i64 0, .int .i64 0, .bool false, .int .i64 0, .int .i64 0, .int .i64 0, .bool false, .int .i64 0, .int .i64 0, .int .i64 0, .bool false, .int .i64 0, .int .i64 0, .int .i64 0, .bool false, .int .i64 0, .int .i64 0, .int .i64 0, .bool false], .slice none 0 0], []⟩ 8 (by kernel_rfl) (by kernel_rfl) (by kernel_rfl) (by kernel_rfl))
    (by kernel_rfl) (rt := 4) rfl Try.underlying4 rfl
    (fun ds h => by
      match ds, h with
      | [_, _], _ => rfl)
    row5
theorem outputTells_holds : Rows.OutputTellsSaid :=
  OpenClaim.holds_of_wide 5 Try.f5 rfl rfl rfl rfl rfl rfl rfl ⟨rfl, rfl, rfl, rfl, rfl⟩ rfl rfl rfl rfl rfl (by kernel_rfl) Try.func5 (by kernel_rfl)
    (of_decide_eq_true (by kernel_rfl)) (by unfold Func.isWrapper; first | (rw [if_pos (by decide +kernel)]; kernel_rfl) | (rw [if_neg (by decide +kernel)]; exact ⟨rfl, rfl⟩))
    (fun os started H enc _ => Zxf os started H enc)
end Go.Proofs.Ytkipngagfiaddaa.Den
