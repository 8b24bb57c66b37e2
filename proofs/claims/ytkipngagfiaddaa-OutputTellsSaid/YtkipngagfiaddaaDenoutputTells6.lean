/- OutputTells: part 6 of what its proof rests on: an evaluator of the program's code, proved sound; plain functions printed from the code by a program of this session, with proofs; plain laws. No condition. -/
import Derived.Test.YtkipngagfiaddaaDenoutputTells5

namespace Go.Proofs.Ytkipngagfiaddaa.Den
open Go Go.Proofs
set_option maxRecDepth 100000
set_option maxHeartbeats 4000000
set_option linter.unusedVariables false
set_option linter.unusedSimpArgs false
def Zh9 (x0 : Bool) (x1 : List Int) : Bool := (bif tb (false != (x0 && x1.isEmpty)) then true else (bif tb (decide ((([] : List Int).length + x1.length) * 1 ≤ 140737488355328)) then true else false))
def Zij (x0 : Bool) (x1 : List Int) : Bool := (bif tb (false != (x0 && x1.isEmpty)) then true else false)
def Zed (x0 : Bool) (x1 : List Int) : List Int := (bif tb (false != (x0 && x1.isEmpty)) then ([] : List Int) else x1)
theorem Zt4 (x0 : Bool) (x1 : List Int) : Zh9 x0 x1 = true → cl E0 59 [(V.d (slD (encI .u8) true 1 x0 x1))] [] = some ([(V.so (Zij x0 x1) 0 ((Zed x0 x1).length))], [(Blk.flat 5 1 (List.map (encI .u8) (Zed x0 x1)) false)]) := by
 unfold Zh9 Zij Zed
 cases h1 : tb (false != (x0 && x1.isEmpty))
 ·cases h2 : tb (decide ((([] : List Int).length + x1.length) * 1 ≤ 140737488355328))
  ·exact ZN
  ·exact fun g0 => w59 [.o 4 (fun _ => Z22 (enc := (encI .u8)) (l := x1) (fl := true) (n := x0) (s := 1) (neg := false)), .b (tbE h1), .m 7 (Zs6 (m := [(Blk.flat 5 1 [] false), (Blk.flat 5 1 [] false)]) (enc := (encI .u8)) (l0 := ([] : List Int)) (l1 := x1) (id := 1) (e := 5) (s := 1) (bytes := 1) (x := (V.d (slD (encI .u8) true 1 x0 x1))) (n := 0) (by kernel_rfl) (by kernel_rfl) Zqe Ztq (tbE h2))] (by kernel_rfl)
 ·exact fun g0 => w59 [.o 4 (fun _ => Z22 (enc := (encI .u8)) (l := x1) (fl := true) (n := x0) (s := 1) (neg := false)), .b (tbE h1)] (by kernel_rfl)
structure Zbn where
 c5 : Int
 deriving Inhabited
def Zhs (x0 : Bool) (x1 : List Int) (x2 : Bool) (x3 : List Int) (x4 x5 : Int) (s0 : Zbn) : List V × Mem := ([(V.d (slD (encI .u8) true 1 x0 x1)), (V.d (slD (encI .u8) true 1 x2 x3)), (V.d (.int .i64 x4)), (V.d (.int .i64 s0.c5))], [])
def Zcv (x1 x3 : List Int) (x4 : Int) (s0 : Zbn) : Bool := (bif tb (decide (s0.c5 < x4)) then (bif tb (inb x1.length s0.c5) then (bif tb (inb x3.length s0.c5) then (bif tb (((gt x1 s0.c5) : Int) != (gt x3 s0.c5)) then false else true) else false) else false) else false)
def Zg4 (x1 x3 : List Int) (x4 : Int) (s0 : Zbn) : Zbn := ⟨(wi (s0.c5 + 1))⟩
def Zis (x1 x3 : List Int) (x4 : Int) (s0 : Zbn) : Bool := (itS (Zcv x1 x3 x4) (Zg4 x1 x3 x4) bound s0).isSome
def Zfg (x1 x3 : List Int) (x4 : Int) (s0 : Zbn) : Zbn := (itS (Zcv x1 x3 x4) (Zg4 x1 x3 x4) bound s0).getD default
theorem Zo3 (x0 : Bool) (x1 : List Int) (x2 : Bool) (x3 : List Int) (x4 x5 : Int) (s0 : Zbn) : Zcv x1 x3 x4 s0 = true → (roundG (runC E0 (cl E0) L45_0) [0, 1, 12, 13] [4] 0) (Zhs x0 x1 x2 x3 x4 x5 s0) = some (.normal, Zhs x0 x1 x2 x3 x4 x5 (Zg4 x1 x3 x4 s0)) := by
 unfold Zcv Zg4
 cases h1 : tb (decide (s0.c5 < x4))
 ·exact ZN
 ·cases h2 : tb (inb x1.length s0.c5)
  ·exact ZN
  ·cases h3 : tb (inb x3.length s0.c5)
   ·exact ZN
   ·cases h4 : tb (((gt x1 s0.c5) : Int) != (gt x3 s0.c5))
    ·exact fun _ => Z8 [.b (tbE h1), .o 18 (fun _ => Zgq (enc := (encI .u8)) (l := x1) (fl := true) (n := x0) (s := 1) (k := .i64) (tbE h2)), .o 22 (fun _ => Zgq (enc := (encI .u8)) (l := x3) (fl := true) (n := x2) (s := 1) (k := .i64) (tbE h3)), .b (tbE h4)] (by kernel_rfl)
    ·exact ZN
def Zec (x1 x3 : List Int) (x4 : Int) (s0 : Zbn) : Bool := (bif tb (decide (s0.c5 < x4)) then (bif tb (inb x1.length s0.c5) then (bif tb (inb x3.length s0.c5) then true else false) else false) else false)
def Zg3 (x4 : Int) (s0 : Zbn) : Bool := (bif tb (decide (s0.c5 < x4)) then false else true)
theorem Zsd (x0 : Bool) (x1 : List Int) (x2 : Bool) (x3 : List Int) (x4 x5 : Int) (s0 : Zbn) : Zcv x1 x3 x4 s0 = false → Zec x1 x3 x4 s0 = true → (roundG (runC E0 (cl E0) L45_0) [0, 1, 12, 13] [4] 0) (Zhs x0 x1 x2 x3 x4 x5 s0) = some (.ret, ([(V.d (.bool false))], [])) := by
 unfold Zcv Zec
 cases h1 : tb (decide (s0.c5 < x4))
 ·intro g0 g1
  exact absurd g1 ft
 ·cases h2 : tb (inb x1.length s0.c5)
  ·intro g0 g1
   exact absurd g1 ft
  ·cases h3 : tb (inb x3.length s0.c5)
   ·intro g0 g1
    exact absurd g1 ft
   ·cases h4 : tb (((gt x1 s0.c5) : Int) != (gt x3 s0.c5))
    ·intro g0 g1
     exact absurd g0 tf
    ·intro g0 g1
     exact Z8 [.b (tbE h1), .o 18 (fun _ => Zgq (enc := (encI .u8)) (l := x1) (fl := true) (n := x0) (s := 1) (k := .i64) (tbE h2)), .o 22 (fun _ => Zgq (enc := (encI .u8)) (l := x3) (fl := true) (n := x2) (s := 1) (k := .i64) (tbE h3)), .b (tbE h4)] (by kernel_rfl)
theorem Zse (x0 : Bool) (x1 : List Int) (x2 : Bool) (x3 : List Int) (x4 x5 : Int) (s0 : Zbn) : Zcv x1 x3 x4 s0 = false → Zec x1 x3 x4 s0 = false → Zg3 x4 s0 = true → (roundG (runC E0 (cl E0) L45_0) [0, 1, 12, 13] [4] 0) (Zhs x0 x1 x2 x3 x4 x5 s0) = some ((.exit 0), ([V.un], [])) := by
 unfold Zcv Zec Zg3
 cases h1 : tb (decide (s0.c5 < x4))
 ·intro g0 g1 g2
  exact Z8 [.b (tbE h1)] (by kernel_rfl)
 ·cases h2 : tb (inb x1.length s0.c5)
  ·intro g0 g1 g2
   exact absurd g2 ft
  ·cases h3 : tb (inb x3.length s0.c5)
   ·intro g0 g1 g2
    exact absurd g2 ft
   ·cases h4 : tb (((gt x1 s0.c5) : Int) != (gt x3 s0.c5))
    ·intro g0 g1 g2
     exact absurd g0 tf
    ·intro g0 g1 g2
     exact absurd g1 tf
theorem Zrj (x0 : Bool) (x1 : List Int) (x2 : Bool) (x3 : List Int) (x4 x5 : Int) (s : Zbn) (hok : Zis x1 x3 x4 s = true) (c0 : Zec x1 x3 x4 (Zfg x1 x3 x4 s) = true) : loopG (roundG (runC E0 (cl E0) L45_0) [0, 1, 12, 13] [4] 0) bound (Zhs x0 x1 x2 x3 x4 x5 s) = some (.ret, ([(V.d (.bool false))], [])) := by
 have e : itS (Zcv x1 x3 x4) (Zg4 x1 x3 x4) bound s = some (Zfg x1 x3 x4 s) := Zgn hok
 have f := Ze1 e
 exact Zgh (Zo3 x0 x1 x2 x3 x4 x5) bound s _ _ _ e (fun h => by cases h) (Zsd x0 x1 x2 x3 x4 x5 (Zfg x1 x3 x4 s) f c0)
theorem Zro (x0 : Bool) (x1 : List Int) (x2 : Bool) (x3 : List Int) (x4 x5 : Int) (s : Zbn) (hok : Zis x1 x3 x4 s = true) (c0 : Zec x1 x3 x4 (Zfg x1 x3 x4 s) = false) (c1 : Zg3 x4 (Zfg x1 x3 x4 s) = true) : loopG (roundG (runC E0 (cl E0) L45_0) [0, 1, 12, 13] [4] 0) bound (Zhs x0 x1 x2 x3 x4 x5 s) = some ((.exit 0), ([V.un], [])) := by
 have e : itS (Zcv x1 x3 x4) (Zg4 x1 x3 x4) bound s = some (Zfg x1 x3 x4 s) := Zgn hok
 have f := Ze1 e
 exact Zgh (Zo3 x0 x1 x2 x3 x4 x5) bound s _ _ _ e (fun h => by cases h) (Zse x0 x1 x2 x3 x4 x5 (Zfg x1 x3 x4 s) f c0 c1)
def Zin (x1 x3 : List Int) : Zbn := Zfg x1 x3 ((x1.length : Nat) : Int) (⟨0⟩ : Zbn)
def Zf7 (x1 x3 : List Int) : Bool := (bif tb ((((x1.length : Nat) : Int) : Int) != ((x3.length : Nat) : Int)) then true else (bif tb (Zis x1 x3 ((x1.length : Nat) : Int) (⟨0⟩ : Zbn)) then (bif tb (Zec x1 x3 ((x1.length : Nat) : Int) (Zin x1 x3)) then true else (bif tb (Zg3 ((x1.length : Nat) : Int) (Zin x1 x3)) then true else false)) else false))
def Zfr (x1 x3 : List Int) : Bool := (bif tb ((((x1.length : Nat) : Int) : Int) != ((x3.length : Nat) : Int)) then false else (bif tb (Zec x1 x3 ((x1.length : Nat) : Int) (Zin x1 x3)) then false else true))
theorem Zpz (x0 : Bool) (x1 : List Int) (x2 : Bool) (x3 : List Int) : Zf7 x1 x3 = true → cl E0 45 [(V.d (slD (encI .u8) true 1 x0 x1)), (V.d (slD (encI .u8) true 1 x2 x3))] [] = some ([(V.d (.bool (Zfr x1 x3)))], []) := by
 unfold Zf7 Zfr
 cases h1 : tb ((((x1.length : Nat) : Int) : Int) != ((x3.length : Nat) : Int))
 ·cases h2 : tb (Zis x1 x3 ((x1.length : Nat) : Int) (⟨0⟩ : Zbn))
  ·exact ZN
  ·cases h3 : tb (Zec x1 x3 ((x1.length : Nat) : Int) (Zin x1 x3))
   ·cases h4 : tb (Zg3 ((x1.length : Nat) : Int) (Zin x1 x3))
    ·exact ZN
    ·exact fun g0 => w45 [.o 7 (fun _ => Zcd (enc := (encI .u8)) (l := x1) (fl := true) (n := x0) (s := 1)), .o 9 (fun _ => Zcd (enc := (encI .u8)) (l := x3) (fl := true) (n := x2) (s := 1)), .b (tbE h1), .o 12 (fun _ => Zcd (enc := (encI .u8)) (l := x1) (fl := true) (n := x0) (s := 1)), .l (Zro x0 x1 x2 x3 ((x1.length : Nat) : Int) 0 (⟨0⟩ : Zbn) (tbE h2) (tbE h3) (tbE h4))] (by kernel_rfl)
   ·exact fun g0 => w45 [.o 7 (fun _ => Zcd (enc := (encI .u8)) (l := x1) (fl := true) (n := x0) (s := 1)), .o 9 (fun _ => Zcd (enc := (encI .u8)) (l := x3) (fl := true) (n := x2) (s := 1)), .b (tbE h1), .o 12 (fun _ => Zcd (enc := (encI .u8)) (l := x1) (fl := true) (n := x0) (s := 1)), .l (Zrj x0 x1 x2 x3 ((x1.length : Nat) : Int) 0 (⟨0⟩ : Zbn) (tbE h2) (tbE h3))] (by kernel_rfl)
 ·exact fun g0 => w45 [.o 7 (fun _ => Zcd (enc := (encI .u8)) (l := x1) (fl := true) (n := x0) (s := 1)), .o 9 (fun _ => Zcd (enc := (encI .u8)) (l := x3) (fl := true) (n := x2) (s := 1)), .b (tbE h1)] (by kernel_rfl)
structure Zh0 where mk ::
 deriving Inhabited
structure Zhv where mk ::
 deriving Inhabited
structure Zh7 where mk ::
 deriving Inhabited
structure Zfq where mk ::
 deriving Inhabited
inductive Zu where
 | h0 (v : Zh0)
 | h1 (v : Zhv)
 | h2 (v : Zh7)
 | h3 (v : Zfq)
 deriving Inhabited
def Zjk : Zu → Bool
 | .h0 _ => true
 | _ => false
def Zjn : Zu → Bool
 | .h1 _ => true
 | _ => false
def Zji : Zu → Bool
 | .h2 _ => true
 | _ => false
def Zlu : Zu → Zfq
 | .h3 v => v
 | _ => default
def Zfd (x0 x1 : List Int) : Int := wi ((wi (0 + ((x0.length : Nat) : Int))) + ((x1.length : Nat) : Int))
def Zbt (x0 x1 x2 : List Int) : Int := wi ((Zfd x0 x1) + ((x2.length : Nat) : Int))
def Zb2 (x0 x1 x2 : List Int) (x3 x4 x5 x6 x7 x8 x9 x10 x11 x12 : Bool) : Zu → List V × Mem
 | .h0 s0 => ([(V.so x11 0 3), (V.d (.int .i64 0)), (V.so x12 0 3), (V.d (.int .i64 3)), (V.d (.int .i64 0))], [(Blk.gen 37 1 [[(V.so x3 1 x0.length)], [(V.so x4 2 x1.length)], [(V.so x5 3 x2.length)]] x6), (Blk.flat 5 1 (List.map (encI .u8) x0) x7), (Blk.flat 5 1 (List.map (encI .u8) x1) x8), (Blk.flat 5 1 (List.map (encI .u8) x2) x9), (Blk.flat 5 1 [] x10)])
 | .h1 s0 => ([(V.so x11 0 3), (V.d (.int .i64 (wi (0 + ((x0.length : Nat) : Int))))), (V.so x12 0 3), (V.d (.int .i64 3)), (V.d (.int .i64 1))], [(Blk.gen 37 1 [[(V.so x3 1 x0.length)], [(V.so x4 2 x1.length)], [(V.so x5 3 x2.length)]] x6), (Blk.flat 5 1 (List.map (encI .u8) x0) x7), (Blk.flat 5 1 (List.map (encI .u8) x1) x8), (Blk.flat 5 1 (List.map (encI .u8) x2) x9), (Blk.flat 5 1 [] x10)])
 | .h2 s0 => ([(V.so x11 0 3), (V.d (.int .i64 (Zfd x0 x1))), (V.so x12 0 3), (V.d (.int .i64 3)), (V.d (.int .i64 2))], [(Blk.gen 37 1 [[(V.so x3 1 x0.length)], [(V.so x4 2 x1.length)], [(V.so x5 3 x2.length)]] x6), (Blk.flat 5 1 (List.map (encI .u8) x0) x7), (Blk.flat 5 1 (List.map (encI .u8) x1) x8), (Blk.flat 5 1 (List.map (encI .u8) x2) x9), (Blk.flat 5 1 [] x10)])
 | .h3 s0 => ([(V.so x11 0 3), (V.d (.int .i64 (Zbt x0 x1 x2))), (V.so x12 0 3), (V.d (.int .i64 3)), (V.d (.int .i64 3))], [(Blk.gen 37 1 [[(V.so x3 1 x0.length)], [(V.so x4 2 x1.length)], [(V.so x5 3 x2.length)]] x6), (Blk.flat 5 1 (List.map (encI .u8) x0) x7), (Blk.flat 5 1 (List.map (encI .u8) x1) x8), (Blk.flat 5 1 (List.map (encI .u8) x2) x9), (Blk.flat 5 1 [] x10)])
def Zg8 (x0 x1 x2 : List Int) (s0 : Zh0) : Bool := (bif tb (decide ((wi (0 + ((x0.length : Nat) : Int))) < 0)) then false else true)
def Zir (x0 x1 x2 : List Int) (s0 : Zh0) : Zu := .h1 ⟨⟩
def Zhg (x0 x1 x2 : List Int) (s0 : Zhv) : Bool := (bif tb (decide ((Zfd x0 x1) < 0)) then false else true)
def Zit (x0 x1 x2 : List Int) (s0 : Zhv) : Zu := .h2 ⟨⟩
def Zhb (x0 x1 x2 : List Int) (s0 : Zh7) : Bool := (bif tb (decide ((Zbt x0 x1 x2) < 0)) then false else true)
def Ziy (x0 x1 x2 : List Int) (s0 : Zh7) : Zu := .h3 ⟨⟩
def Zfx (x0 x1 x2 : List Int) (s0 : Zfq) : Bool := false
def Ziu (x0 x1 x2 : List Int) (s0 : Zfq) : Zu := default
def Zdr (x0 x1 x2 : List Int) : Zu → Bool
 | .h0 v => Zg8 x0 x1 x2 v
 | .h1 v => Zhg x0 x1 x2 v
 | .h2 v => Zhb x0 x1 x2 v
 | .h3 v => Zfx x0 x1 x2 v
def Zgr (x0 x1 x2 : List Int) : Zu → Zu
 | .h0 v => Zir x0 x1 x2 v
 | .h1 v => Zit x0 x1 x2 v
 | .h2 v => Ziy x0 x1 x2 v
 | .h3 v => Ziu x0 x1 x2 v
def Zh2 (x0 x1 x2 : List Int) (s0 : Zu) : Bool := (itS (Zdr x0 x1 x2) (Zgr x0 x1 x2) bound s0).isSome
def Zcs (x0 x1 x2 : List Int) (s0 : Zu) : Zu := (itS (Zdr x0 x1 x2) (Zgr x0 x1 x2) bound s0).getD default
theorem Zo1 (x0 x1 x2 : List Int) (x3 x4 x5 x6 x7 x8 x9 x10 x11 x12 : Bool) (s0 : Zh0) : Zg8 x0 x1 x2 s0 = true → (roundG (runC E0 (cl E0) L32_0) [0, 3, 9, 10, 11] [0, 3] 5) (Zb2 x0 x1 x2 x3 x4 x5 x6 x7 x8 x9 x10 x11 x12 (.h0 s0)) = some (.normal, Zb2 x0 x1 x2 x3 x4 x5 x6 x7 x8 x9 x10 x11 x12 (Zir x0 x1 x2 s0)) := by
 unfold Zg8 Zir
 cases h1 : tb (decide ((wi (0 + ((x0.length : Nat) : Int))) < 0))
 ·exact fun _ => Z8 [.k true, .b (tbE h1)] (by kernel_rfl)
 ·exact ZN
theorem Zoz (x0 x1 x2 : List Int) (x3 x4 x5 x6 x7 x8 x9 x10 x11 x12 : Bool) (s0 : Zhv) : Zhg x0 x1 x2 s0 = true → (roundG (runC E0 (cl E0) L32_0) [0, 3, 9, 10, 11] [0, 3] 5) (Zb2 x0 x1 x2 x3 x4 x5 x6 x7 x8 x9 x10 x11 x12 (.h1 s0)) = some (.normal, Zb2 x0 x1 x2 x3 x4 x5 x6 x7 x8 x9 x10 x11 x12 (Zit x0 x1 x2 s0)) := by
 unfold Zhg Zit
 cases h1 : tb (decide ((Zfd x0 x1) < 0))
 ·exact fun _ => Z8 [.k true, .b (tbE h1)] (by kernel_rfl)
 ·exact ZN
theorem Zoy (x0 x1 x2 : List Int) (x3 x4 x5 x6 x7 x8 x9 x10 x11 x12 : Bool) (s0 : Zh7) : Zhb x0 x1 x2 s0 = true → (roundG (runC E0 (cl E0) L32_0) [0, 3, 9, 10, 11] [0, 3] 5) (Zb2 x0 x1 x2 x3 x4 x5 x6 x7 x8 x9 x10 x11 x12 (.h2 s0)) = some (.normal, Zb2 x0 x1 x2 x3 x4 x5 x6 x7 x8 x9 x10 x11 x12 (Ziy x0 x1 x2 s0)) := by
 unfold Zhb Ziy
 cases h1 : tb (decide ((Zbt x0 x1 x2) < 0))
 ·exact fun _ => Z8 [.k true, .b (tbE h1)] (by kernel_rfl)
 ·exact ZN
theorem Zo0 (x0 x1 x2 : List Int) (x3 x4 x5 x6 x7 x8 x9 x10 x11 x12 : Bool) (s0 : Zfq) : Zfx x0 x1 x2 s0 = true → (roundG (runC E0 (cl E0) L32_0) [0, 3, 9, 10, 11] [0, 3] 5) (Zb2 x0 x1 x2 x3 x4 x5 x6 x7 x8 x9 x10 x11 x12 (.h3 s0)) = some (.normal, Zb2 x0 x1 x2 x3 x4 x5 x6 x7 x8 x9 x10 x11 x12 (Ziu x0 x1 x2 s0)) := by
 unfold Zfx Ziu
 exact fun g0 => absurd g0 ft
theorem Zos (x0 x1 x2 : List Int) (x3 x4 x5 x6 x7 x8 x9 x10 x11 x12 : Bool) (s0 : Zfq) : Zfx x0 x1 x2 s0 = false → (roundG (runC E0 (cl E0) L32_0) [0, 3, 9, 10, 11] [0, 3] 5) (Zb2 x0 x1 x2 x3 x4 x5 x6 x7 x8 x9 x10 x11 x12 (.h3 s0)) = some ((.exit 0), ([(V.so x11 0 3), (V.d (.int .i64 (Zbt x0 x1 x2)))], [(Blk.gen 37 1 [[(V.so x3 1 x0.length)], [(V.so x4 2 x1.length)], [(V.so x5 3 x2.length)]] x6), (Blk.flat 5 1 (List.map (encI .u8) x0) x7), (Blk.flat 5 1 (List.map (encI .u8) x1) x8), (Blk.flat 5 1 (List.map (encI .u8) x2) x9), (Blk.flat 5 1 [] x10)])) := by
 unfold Zfx
 exact fun g0 => Z8 [.k false] (by kernel_rfl)
theorem Zpf (x0 x1 x2 : List Int) (x3 x4 x5 x6 x7 x8 x9 x10 x11 x12 : Bool) : ∀ s, Zdr x0 x1 x2 s = true → (roundG (runC E0 (cl E0) L32_0) [0, 3, 9, 10, 11] [0, 3] 5) (Zb2 x0 x1 x2 x3 x4 x5 x6 x7 x8 x9 x10 x11 x12 s) = some (.normal, Zb2 x0 x1 x2 x3 x4 x5 x6 x7 x8 x9 x10 x11 x12 (Zgr x0 x1 x2 s))
 | .h0 s0, h => Zo1 x0 x1 x2 x3 x4 x5 x6 x7 x8 x9 x10 x11 x12 s0 h
 | .h1 s0, h => Zoz x0 x1 x2 x3 x4 x5 x6 x7 x8 x9 x10 x11 x12 s0 h
 | .h2 s0, h => Zoy x0 x1 x2 x3 x4 x5 x6 x7 x8 x9 x10 x11 x12 s0 h
 | .h3 s0, h => Zo0 x0 x1 x2 x3 x4 x5 x6 x7 x8 x9 x10 x11 x12 s0 h
theorem Zo8 (x0 x1 x2 : List Int) (x3 x4 x5 x6 x7 x8 x9 x10 x11 x12 : Bool) (s : Zu) (hok : Zh2 x0 x1 x2 s = true) (k0 : Zjk (Zcs x0 x1 x2 s) = false) (k1 : Zjn (Zcs x0 x1 x2 s) = false) (k2 : Zji (Zcs x0 x1 x2 s) = false) : loopG (roundG (runC E0 (cl E0) L32_0) [0, 3, 9, 10, 11] [0, 3] 5) bound (Zb2 x0 x1 x2 x3 x4 x5 x6 x7 x8 x9 x10 x11 x12 s) = some ((.exit 0), ([(V.so x11 0 3), (V.d (.int .i64 (Zbt x0 x1 x2)))], [(Blk.gen 37 1 [[(V.so x3 1 x0.length)], [(V.so x4 2 x1.length)], [(V.so x5 3 x2.length)]] x6), (Blk.flat 5 1 (List.map (encI .u8) x0) x7), (Blk.flat 5 1 (List.map (encI .u8) x1) x8), (Blk.flat 5 1 (List.map (encI .u8) x2) x9), (Blk.flat 5 1 [] x10)])) := by
 have e : itS (Zdr x0 x1 x2) (Zgr x0 x1 x2) bound s = some (Zcs x0 x1 x2 s) := Zgn hok
 have f := Ze1 e
 have a : (Zcs x0 x1 x2 s) = .h3 (Zlu (Zcs x0 x1 x2 s)) := by
  revert k0 k1 k2
  cases (Zcs x0 x1 x2 s) with
  | h0 w => intros; contradiction
  | h1 w => intros; contradiction
  | h2 w => intros; contradiction
  | h3 w => intros; rfl
 have g := Zos x0 x1 x2 x3 x4 x5 x6 x7 x8 x9 x10 x11 x12 (Zlu (Zcs x0 x1 x2 s)) (by rw [a] at f; exact f)
 exact Zgh (Zpf x0 x1 x2 x3 x4 x5 x6 x7 x8 x9 x10 x11 x12) bound s _ _ _ e (fun h => by cases h) (by rw [a]; exact g)
def Zej (x0 x1 x2 : List Int) : Zu := Zcs x0 x1 x2 (.h0 ⟨⟩ : Zu)
def Zf2 (x0 x1 x2 : List Int) : Bool := (bif tb (Zh2 x0 x1 x2 (.h0 ⟨⟩ : Zu)) then (bif tb (Zjk (Zej x0 x1 x2)) then false else (bif tb (Zjn (Zej x0 x1 x2)) then false else (bif tb (Zji (Zej x0 x1 x2)) then false else true))) else false)
theorem Zp3 (x0 x1 x2 : List Int) (x3 x4 x5 x6 x7 x8 x9 x10 x11 : Bool) : Zf2 x0 x1 x2 = true → segG (runC E0 (cl E0) S32_1) [0, 3] [] [0, 3] 5 ([(V.so x11 0 3), (V.d (.int .i64 0))], [(Blk.gen 37 1 [[(V.so x3 1 x0.length)], [(V.so x4 2 x1.length)], [(V.so x5 3 x2.length)]] x6), (Blk.flat 5 1 (List.map (encI .u8) x0) x7), (Blk.flat 5 1 (List.map (encI .u8) x1) x8), (Blk.flat 5 1 (List.map (encI .u8) x2) x9), (Blk.flat 5 1 [] x10)]) = some (.normal, ([(V.so x11 0 3), (V.d (.int .i64 (Zbt x0 x1 x2)))], [(Blk.gen 37 1 [[(V.so x3 1 x0.length)], [(V.so x4 2 x1.length)], [(V.so x5 3 x2.length)]] x6), (Blk.flat 5 1 (List.map (encI .u8) x0) x7), (Blk.flat 5 1 (List.map (encI .u8) x1) x8), (Blk.flat 5 1 (List.map (encI .u8) x2) x9), (Blk.flat 5 1 [] x10)])) := by
 unfold Zf2
 cases h1 : tb (Zh2 x0 x1 x2 (.h0 ⟨⟩ : Zu))
 ·exact ZN
 ·cases h2 : tb (Zjk (Zej x0 x1 x2))
  ·cases h3 : tb (Zjn (Zej x0 x1 x2))
   ·cases h4 : tb (Zji (Zej x0 x1 x2))
    ·exact fun g0 => Zbh [.l (Zo8 x0 x1 x2 x3 x4 x5 x6 x7 x8 x9 x10 x11 x11 (.h0 ⟨⟩ : Zu) (tbE h1) (tbE h2) (tbE h3) (tbE h4))] (by kernel_rfl)
    ·exact ZN
   ·exact ZN
  ·exact ZN
structure Zh5 where mk ::
 deriving Inhabited
structure Zh6 where mk ::
 deriving Inhabited
structure Zh1 where mk ::
 deriving Inhabited
structure Zfp where mk ::
 deriving Inhabited
inductive Zt where
 | h0 (v : Zh5)
 | h1 (v : Zh6)
 | h2 (v : Zh1)
 | h3 (v : Zfp)
 deriving Inhabited
def Zjm : Zt → Bool
 | .h0 _ => true
 | _ => false
def Zjj : Zt → Bool
 | .h1 _ => true
 | _ => false
def Zjl : Zt → Bool
 | .h2 _ => true
 | _ => false
def Zlt : Zt → Zfp
 | .h3 v => v
 | _ => default
def Zb1 (x0 x1 x2 : List Int) (x3 x4 x5 x6 x7 x8 x9 x10 x11 x12 x13 : Bool) : Zt → List V × Mem
 | .h0 s0 => ([(V.so x12 5 0), (V.so x13 0 3), (V.d (.int .i64 3)), (V.d (.int .i64 0))], [(Blk.gen 37 1 [[(V.so x3 1 x0.length)], [(V.so x4 2 x1.length)], [(V.so x5 3 x2.length)]] x6), (Blk.flat 5 1 (List.map (encI .u8) x0) x7), (Blk.flat 5 1 (List.map (encI .u8) x1) x8), (Blk.flat 5 1 (List.map (encI .u8) x2) x9), (Blk.flat 5 1 [] x10), (Blk.flat 5 1 [] false)])
 | .h1 s0 => ([(V.so (x0.isEmpty && x12) 5 x0.length), (V.so x13 0 3), (V.d (.int .i64 3)), (V.d (.int .i64 1))], [(Blk.gen 37 1 [[(V.so x3 1 x0.length)], [(V.so x4 2 x1.length)], [(V.so x5 3 x2.length)]] x6), (Blk.flat 5 1 (List.map (encI .u8) x0) x7), (Blk.flat 5 1 (List.map (encI .u8) x1) x8), (Blk.flat 5 1 (List.map (encI .u8) x2) x9), (Blk.flat 5 1 [] x10), (Blk.flat 5 1 (List.map (encI .u8) x0) false)])
 | .h2 s0 => ([(V.so (x1.isEmpty && (x0.isEmpty && x12)) 5 ((x0 ++ x1).length)), (V.so x13 0 3), (V.d (.int .i64 3)), (V.d (.int .i64 2))], [(Blk.gen 37 1 [[(V.so x3 1 x0.length)], [(V.so x4 2 x1.length)], [(V.so x5 3 x2.length)]] x6), (Blk.flat 5 1 (List.map (encI .u8) x0) x7), (Blk.flat 5 1 (List.map (encI .u8) x1) x8), (Blk.flat 5 1 (List.map (encI .u8) x2) x9), (Blk.flat 5 1 [] x10), (Blk.flat 5 1 (List.map (encI .u8) (x0 ++ x1)) false)])
 | .h3 s0 => ([(V.so (x2.isEmpty && (x1.isEmpty && (x0.isEmpty && x12))) 5 (((x0 ++ x1) ++ x2).length)), (V.so x13 0 3), (V.d (.int .i64 3)), (V.d (.int .i64 3))], [(Blk.gen 37 1 [[(V.so x3 1 x0.length)], [(V.so x4 2 x1.length)], [(V.so x5 3 x2.length)]] x6), (Blk.flat 5 1 (List.map (encI .u8) x0) x7), (Blk.flat 5 1 (List.map (encI .u8) x1) x8), (Blk.flat 5 1 (List.map (encI .u8) x2) x9), (Blk.flat 5 1 [] x10), (Blk.flat 5 1 (List.map (encI .u8) ((x0 ++ x1) ++ x2)) false)])
def Zhd (x0 x1 x2 : List Int) (s0 : Zh5) : Bool := (bif tb (decide ((([] : List Int).length + x0.length) * 1 ≤ 140737488355328)) then true else false)
def Ziz (x0 x1 x2 : List Int) (s0 : Zh5) : Zt := .h1 ⟨⟩
def Zhf (x0 x1 x2 : List Int) (s0 : Zh6) : Bool := (bif tb (decide ((x0.length + x1.length) * 1 ≤ 140737488355328)) then true else false)
def Ziv (x0 x1 x2 : List Int) (s0 : Zh6) : Zt := .h2 ⟨⟩
def Zg9 (x0 x1 x2 : List Int) (s0 : Zh1) : Bool := (bif tb (decide (((x0 ++ x1).length + x2.length) * 1 ≤ 140737488355328)) then true else false)
def Ziw (x0 x1 x2 : List Int) (s0 : Zh1) : Zt := .h3 ⟨⟩
def Zf1 (x0 x1 x2 : List Int) (s0 : Zfp) : Bool := false
def Zix (x0 x1 x2 : List Int) (s0 : Zfp) : Zt := default
def Zds (x0 x1 x2 : List Int) : Zt → Bool
 | .h0 v => Zhd x0 x1 x2 v
 | .h1 v => Zhf x0 x1 x2 v
 | .h2 v => Zg9 x0 x1 x2 v
 | .h3 v => Zf1 x0 x1 x2 v
def Zgs (x0 x1 x2 : List Int) : Zt → Zt
 | .h0 v => Ziz x0 x1 x2 v
 | .h1 v => Ziv x0 x1 x2 v
 | .h2 v => Ziw x0 x1 x2 v
 | .h3 v => Zix x0 x1 x2 v
def Zh4 (x0 x1 x2 : List Int) (s0 : Zt) : Bool := (itS (Zds x0 x1 x2) (Zgs x0 x1 x2) bound s0).isSome
def Zct (x0 x1 x2 : List Int) (s0 : Zt) : Zt := (itS (Zds x0 x1 x2) (Zgs x0 x1 x2) bound s0).getD default
theorem Zo4 (x0 x1 x2 : List Int) (x3 x4 x5 x6 x7 x8 x9 x10 x11 x12 x13 : Bool) (s0 : Zh5) : Zhd x0 x1 x2 s0 = true → (roundG (runC E0 (cl E0) L32_2) [6, 25, 26, 27] [6] 6) (Zb1 x0 x1 x2 x3 x4 x5 x6 x7 x8 x9 x10 x11 x12 x13 (.h0 s0)) = some (.normal, Zb1 x0 x1 x2 x3 x4 x5 x6 x7 x8 x9 x10 x11 x12 x13 (Ziz x0 x1 x2 s0)) := by
 unfold Zhd Ziz
 cases h1 : tb (decide ((([] : List Int).length + x0.length) * 1 ≤ 140737488355328))
 ·exact ZN
 ·exact fun _ => Z8 [.k true, .m 33 (Zoa (nl := x12) (m := [(Blk.gen 37 1 [[(V.so x3 1 x0.length)], [(V.so x4 2 x1.length)], [(V.so x5 3 x2.length)]] x6), (Blk.flat 5 1 (List.map (encI .u8) x0) x7), (Blk.flat 5 1 (List.map (encI .u8) x1) x8), (Blk.flat 5 1 (List.map (encI .u8) x2) x9), (Blk.flat 5 1 [] x10), (Blk.flat 5 1 [] false)]) (enc := (encI .u8)) (l0 := ([] : List Int)) (l1 := x0) (id := 5) (e := 5) (s := 1) (bytes := 1) (x := (V.so x3 1 x0.length)) (n := 0) (by kernel_rfl) (by kernel_rfl) (Zly (b := x3) (e := 5) (s := 1) (p := x7) (Nat.beq_refl _) (by kernel_rfl)) (by kernel_rfl) (tbE h1))] (by kernel_rfl)
theorem Zov (x0 x1 x2 : List Int) (x3 x4 x5 x6 x7 x8 x9 x10 x11 x12 x13 : Bool) (s0 : Zh6) : Zhf x0 x1 x2 s0 = true → (roundG (runC E0 (cl E0) L32_2) [6, 25, 26, 27] [6] 6) (Zb1 x0 x1 x2 x3 x4 x5 x6 x7 x8 x9 x10 x11 x12 x13 (.h1 s0)) = some (.normal, Zb1 x0 x1 x2 x3 x4 x5 x6 x7 x8 x9 x10 x11 x12 x13 (Ziv x0 x1 x2 s0)) := by
 unfold Zhf Ziv
 cases h1 : tb (decide ((x0.length + x1.length) * 1 ≤ 140737488355328))
 ·exact ZN
 ·exact fun _ => Z8 [.k true, .m 33 (Zoa (nl := (x0.isEmpty && x12)) (m := [(Blk.gen 37 1 [[(V.so x3 1 x0.length)], [(V.so x4 2 x1.length)], [(V.so x5 3 x2.length)]] x6), (Blk.flat 5 1 (List.map (encI .u8) x0) x7), (Blk.flat 5 1 (List.map (encI .u8) x1) x8), (Blk.flat 5 1 (List.map (encI .u8) x2) x9), (Blk.flat 5 1 [] x10), (Blk.flat 5 1 (List.map (encI .u8) x0) false)]) (enc := (encI .u8)) (l0 := x0) (l1 := x1) (id := 5) (e := 5) (s := 1) (bytes := 1) (x := (V.so x4 2 x1.length)) (n := x0.length) (Nat.beq_refl _) (by kernel_rfl) (Zly (b := x4) (e := 5) (s := 1) (p := x8) (Nat.beq_refl _) (by kernel_rfl)) (by kernel_rfl) (tbE h1))] (by kernel_rfl)
theorem Zo5 (x0 x1 x2 : List Int) (x3 x4 x5 x6 x7 x8 x9 x10 x11 x12 x13 : Bool) (s0 : Zh1) : Zg9 x0 x1 x2 s0 = true → (roundG (runC E0 (cl E0) L32_2) [6, 25, 26, 27] [6] 6) (Zb1 x0 x1 x2 x3 x4 x5 x6 x7 x8 x9 x10 x11 x12 x13 (.h2 s0)) = some (.normal, Zb1 x0 x1 x2 x3 x4 x5 x6 x7 x8 x9 x10 x11 x12 x13 (Ziw x0 x1 x2 s0)) := by
 unfold Zg9 Ziw
 cases h1 : tb (decide (((x0 ++ x1).length + x2.length) * 1 ≤ 140737488355328))
 ·exact ZN
 ·exact fun _ => Z8 [.k true, .m 33 (Zoa (nl := (x1.isEmpty && (x0.isEmpty && x12))) (m := [(Blk.gen 37 1 [[(V.so x3 1 x0.length)], [(V.so x4 2 x1.length)], [(V.so x5 3 x2.length)]] x6), (Blk.flat 5 1 (List.map (encI .u8) x0) x7), (Blk.flat 5 1 (List.map (encI .u8) x1) x8), (Blk.flat 5 1 (List.map (encI .u8) x2) x9), (Blk.flat 5 1 [] x10), (Blk.flat 5 1 (List.map (encI .u8) (x0 ++ x1)) false)]) (enc := (encI .u8)) (l0 := (x0 ++ x1)) (l1 := x2) (id := 5) (e := 5) (s := 1) (bytes := 1) (x := (V.so x5 3 x2.length)) (n := ((x0 ++ x1).length)) (Nat.beq_refl _) (by kernel_rfl) (Zly (b := x5) (e := 5) (s := 1) (p := x9) (Nat.beq_refl _) (by kernel_rfl)) (by kernel_rfl) (tbE h1))] (by kernel_rfl)
theorem Zot (x0 x1 x2 : List Int) (x3 x4 x5 x6 x7 x8 x9 x10 x11 x12 x13 : Bool) (s0 : Zfp) : Zf1 x0 x1 x2 s0 = true → (roundG (runC E0 (cl E0) L32_2) [6, 25, 26, 27] [6] 6) (Zb1 x0 x1 x2 x3 x4 x5 x6 x7 x8 x9 x10 x11 x12 x13 (.h3 s0)) = some (.normal, Zb1 x0 x1 x2 x3 x4 x5 x6 x7 x8 x9 x10 x11 x12 x13 (Zix x0 x1 x2 s0)) := by
 unfold Zf1 Zix
 exact fun g0 => absurd g0 ft
theorem Zo2 (x0 x1 x2 : List Int) (x3 x4 x5 x6 x7 x8 x9 x10 x11 x12 x13 : Bool) (s0 : Zfp) : Zf1 x0 x1 x2 s0 = false → (roundG (runC E0 (cl E0) L32_2) [6, 25, 26, 27] [6] 6) (Zb1 x0 x1 x2 x3 x4 x5 x6 x7 x8 x9 x10 x11 x12 x13 (.h3 s0)) = some ((.exit 2), ([(V.so (x2.isEmpty && (x1.isEmpty && (x0.isEmpty && x12))) 5 (((x0 ++ x1) ++ x2).length))], [(Blk.gen 37 1 [[(V.so x3 1 x0.length)], [(V.so x4 2 x1.length)], [(V.so x5 3 x2.length)]] x6), (Blk.flat 5 1 (List.map (encI .u8) x0) x7), (Blk.flat 5 1 (List.map (encI .u8) x1) x8), (Blk.flat 5 1 (List.map (encI .u8) x2) x9), (Blk.flat 5 1 [] x10), (Blk.flat 5 1 (List.map (encI .u8) ((x0 ++ x1) ++ x2)) false)])) := by
 unfold Zf1
 exact fun g0 => Z8 [.k false] (by kernel_rfl)
theorem Zph (x0 x1 x2 : List Int) (x3 x4 x5 x6 x7 x8 x9 x10 x11 x12 x13 : Bool) : ∀ s, Zds x0 x1 x2 s = true → (roundG (runC E0 (cl E0) L32_2) [6, 25, 26, 27] [6] 6) (Zb1 x0 x1 x2 x3 x4 x5 x6 x7 x8 x9 x10 x11 x12 x13 s) = some (.normal, Zb1 x0 x1 x2 x3 x4 x5 x6 x7 x8 x9 x10 x11 x12 x13 (Zgs x0 x1 x2 s))
 | .h0 s0, h => Zo4 x0 x1 x2 x3 x4 x5 x6 x7 x8 x9 x10 x11 x12 x13 s0 h
 | .h1 s0, h => Zov x0 x1 x2 x3 x4 x5 x6 x7 x8 x9 x10 x11 x12 x13 s0 h
 | .h2 s0, h => Zo5 x0 x1 x2 x3 x4 x5 x6 x7 x8 x9 x10 x11 x12 x13 s0 h
 | .h3 s0, h => Zot x0 x1 x2 x3 x4 x5 x6 x7 x8 x9 x10 x11 x12 x13 s0 h
theorem Zo7 (x0 x1 x2 : List Int) (x3 x4 x5 x6 x7 x8 x9 x10 x11 x12 x13 : Bool) (s : Zt) (hok : Zh4 x0 x1 x2 s = true) (k0 : Zjm (Zct x0 x1 x2 s) = false) (k1 : Zjj (Zct x0 x1 x2 s) = false) (k2 : Zjl (Zct x0 x1 x2 s) = false) : loopG (roundG (runC E0 (cl E0) L32_2) [6, 25, 26, 27] [6] 6) bound (Zb1 x0 x1 x2 x3 x4 x5 x6 x7 x8 x9 x10 x11 x12 x13 s) = some ((.exit 2), ([(V.so (x2.isEmpty && (x1.isEmpty && (x0.isEmpty && x12))) 5 (((x0 ++ x1) ++ x2).length))], [(Blk.gen 37 1 [[(V.so x3 1 x0.length)], [(V.so x4 2 x1.length)], [(V.so x5 3 x2.length)]] x6), (Blk.flat 5 1 (List.map (encI .u8) x0) x7), (Blk.flat 5 1 (List.map (encI .u8) x1) x8), (Blk.flat 5 1 (List.map (encI .u8) x2) x9), (Blk.flat 5 1 [] x10), (Blk.flat 5 1 (List.map (encI .u8) ((x0 ++ x1) ++ x2)) false)])) := by
 have e : itS (Zds x0 x1 x2) (Zgs x0 x1 x2) bound s = some (Zct x0 x1 x2 s) := Zgn hok
 have f := Ze1 e
 have a : (Zct x0 x1 x2 s) = .h3 (Zlt (Zct x0 x1 x2 s)) := by
  revert k0 k1 k2
  cases (Zct x0 x1 x2 s) with
  | h0 w => intros; contradiction
  | h1 w => intros; contradiction
  | h2 w => intros; contradiction
  | h3 w => intros; rfl
 have g := Zo2 x0 x1 x2 x3 x4 x5 x6 x7 x8 x9 x10 x11 x12 x13 (Zlt (Zct x0 x1 x2 s)) (by rw [a] at f; exact f)
 exact Zgh (Zph x0 x1 x2 x3 x4 x5 x6 x7 x8 x9 x10 x11 x12 x13) bound s _ _ _ e (fun h => by cases h) (by rw [a]; exact g)
def Zk9 (x0 x1 x2 : List Int) : Bool := (Nat.beq ((Zbt x0 x1 x2) : Int).toNat 0)
def Zfa (x0 x1 x2 : List Int) : Zt := Zct x0 x1 x2 (.h0 ⟨⟩ : Zt)
def Zfs (x0 x1 x2 : List Int) : Bool := (bif tb (Zf2 x0 x1 x2) then (bif tb (Zkm (Zbt x0 x1 x2)) then (bif tb (Zh4 x0 x1 x2 (.h0 ⟨⟩ : Zt)) then (bif tb (Zjm (Zfa x0 x1 x2)) then false else (bif tb (Zjj (Zfa x0 x1 x2)) then false else (bif tb (Zjl (Zfa x0 x1 x2)) then false else true))) else false) else false) else false)
theorem Zqt (x0 x1 x2 : List Int) (x3 x4 x5 x6 x7 x8 x9 x10 : Bool) : Zfs x0 x1 x2 = true → cl E0 32 [(V.so x10 0 3)] [(Blk.gen 37 1 [[(V.so x3 1 x0.length)], [(V.so x4 2 x1.length)], [(V.so x5 3 x2.length)]] x6), (Blk.flat 5 1 (List.map (encI .u8) x0) x7), (Blk.flat 5 1 (List.map (encI .u8) x1) x8), (Blk.flat 5 1 (List.map (encI .u8) x2) x9)] = some ([(V.so (x2.isEmpty && (x1.isEmpty && (x0.isEmpty && (Zk9 x0 x1 x2)))) 4 (((x0 ++ x1) ++ x2).length))], [(Blk.gen 37 1 [[(V.so x3 1 x0.length)], [(V.so x4 2 x1.length)], [(V.so x5 3 x2.length)]] x6), (Blk.flat 5 1 (List.map (encI .u8) x0) x7), (Blk.flat 5 1 (List.map (encI .u8) x1) x8), (Blk.flat 5 1 (List.map (encI .u8) x2) x9), (Blk.flat 5 1 (List.map (encI .u8) ((x0 ++ x1) ++ x2)) false)]) := by
 unfold Zfs
 cases h1 : tb (Zf2 x0 x1 x2)
 ·exact ZN
 ·cases h2 : tb (Zkm (Zbt x0 x1 x2))
  ·exact ZN
  ·cases h3 : tb (Zh4 x0 x1 x2 (.h0 ⟨⟩ : Zt))
   ·exact ZN
   ·cases h4 : tb (Zjm (Zfa x0 x1 x2))
    ·cases h5 : tb (Zjj (Zfa x0 x1 x2))
     ·cases h6 : tb (Zjl (Zfa x0 x1 x2))
      ·exact fun g0 => w32 [.s (Zp3 x0 x1 x2 x3 x4 x5 x6 x7 x8 x9 false x10 (tbE h1)), .c (Zuf (Zbt x0 x1 x2) (tbE h2)), .l (Zo7 x0 x1 x2 x3 x4 x5 x6 x7 x8 x9 false false (Zk9 x0 x1 x2) x10 (.h0 ⟨⟩ : Zt) (tbE h3) (tbE h4) (tbE h5) (tbE h6))] (by kernel_rfl)
      ·exact ZN
     ·exact ZN
    ·exact ZN
end Go.Proofs.Ytkipngagfiaddaa.Den

namespace Go.Proofs.Ytkipngagfiaddaa.Den
open Go Go.Proofs
set_option maxRecDepth 100000
set_option maxHeartbeats 4000000
set_option linter.unusedVariables false
set_option linter.unusedSimpArgs false
def Zhu (x0 : Int) : Bool := (bif tb (decide (x0 < 0)) then true else (bif tb (decide (65535 < x0)) then true else false))
theorem Zxz (x0 : Int) (x1 x2 : Bool) (x3 : List Int) : Zhu x0 = true → segG (runC E0 (cl E0) S73_0) [1, 2] [4] [1, 2] 1 ([(V.d (slD (encI .u8) true 1 x2 x3)), (V.ptr 0 1 0 0)], [(Blk.flat 3 1 [[(.int .i64 x0)]] x1)]) = some (.ret, ([(V.d (.int .i64 0))], [(Blk.flat 3 1 [[(.int .i64 x0)]] x1)])) := by
 unfold Zhu
 cases h1 : tb (decide (x0 < 0))
 ·cases h2 : tb (decide (65535 < x0))
  ·exact ZN
  ·exact fun g0 => Zbh [.b (tbE h1), .b (tbE h2)] (by kernel_rfl)
 ·exact fun g0 => Zbh [.b (tbE h1)] (by kernel_rfl)
theorem Zx3 (x0 : Int) (x1 x2 : Bool) (x3 : List Int) : Zhu x0 = false → segG (runC E0 (cl E0) S73_0) [1, 2] [4] [1, 2] 1 ([(V.d (slD (encI .u8) true 1 x2 x3)), (V.ptr 0 1 0 0)], [(Blk.flat 3 1 [[(.int .i64 x0)]] x1)]) = some (.normal, ([(V.d (slD (encI .u8) true 1 x2 x3)), (V.ptr 0 1 0 0)], [(Blk.flat 3 1 [[(.int .i64 x0)]] x1)])) := by
 unfold Zhu
 cases h1 : tb (decide (x0 < 0))
 ·cases h2 : tb (decide (65535 < x0))
  ·exact fun g0 => Zbh [.b (tbE h1), .b (tbE h2)] (by kernel_rfl)
  ·exact fun g0 => absurd g0 tf
 ·exact fun g0 => absurd g0 tf
def Zky (x0 : Int) : Int := (bif tb (((andI .i64 x0 32768) : Int) != 0) then (xorI .i64 (andI .i64 (shlI .i64 x0 1) 65535) 4129) else (andI .i64 (shlI .i64 x0 1) 65535))
theorem Zwb (x0 : Int) : cl E0 77 [(V.ptr 0 1 0 0)] [(Blk.flat 3 1 [[(.int .i64 x0)]] false)] = some ([], [(Blk.flat 3 1 [[(.int .i64 (Zky x0))]] false)]) := by
 unfold Zky
 cases h1 : tb (((andI .i64 x0 32768) : Int) != 0)
 ·exact w77 [.o 6 (fun _ => o_shl (k := .i64) (k2 := .u64) (x := x0) (y := 1) rfl), .b (tbE h1)] (by kernel_rfl)
 ·exact w77 [.o 6 (fun _ => o_shl (k := .i64) (k2 := .u64) (x := x0) (y := 1) rfl), .b (tbE h1)] (by kernel_rfl)
structure Ze0 where
 c4 : Int
 c5 : Int
 deriving Inhabited
def Znz (x0 : Int) (x1 x2 : Bool) (x3 : List Int) (x4 x5 x6 : Int) (s0 : Ze0) : List V × Mem := ([(V.ptr 0 1 0 0), (V.fn (.func 77) [] [(V.ptr 0 1 0 0)]), (V.d (slD (encI .u8) true 1 x2 x3)), (V.d (.int .i64 x4)), (V.d (.int .i64 x5)), (V.d (.int .i64 s0.c4))], [(Blk.flat 3 1 [[(.int .i64 s0.c5)]] false)])
def Zhi  (s0 : Ze0) : Bool := (bif tb (decide (s0.c4 < 8)) then true else false)
def Zi5  (s0 : Ze0) : Ze0 := ⟨(wi (s0.c4 + 1)), (Zky s0.c5)⟩
def Zlo  (s0 : Ze0) : Bool := (itS (Zhi ) (Zi5 ) bound s0).isSome
def Zk5  (s0 : Ze0) : Ze0 := (itS (Zhi ) (Zi5 ) bound s0).getD default
theorem Zxy (x0 : Int) (x1 x2 : Bool) (x3 : List Int) (x4 x5 x6 : Int) (s0 : Ze0) : Zhi  s0 = true → (roundG (runC E0 (cl E0) L73_1) [2, 5, 15, 16, 17, 26] [2, 5, 15, 16, 17] 1) (Znz x0 x1 x2 x3 x4 x5 x6 s0) = some (.normal, Znz x0 x1 x2 x3 x4 x5 x6 (Zi5  s0)) := by
 unfold Zhi Zi5
 cases h1 : tb (decide (s0.c4 < 8))
 ·exact ZN
 ·exact fun _ => Z8 [.b (tbE h1), .c (Zwb s0.c5)] (by kernel_rfl)
theorem Zxx (x0 : Int) (x1 x2 : Bool) (x3 : List Int) (x4 x5 x6 : Int) (s0 : Ze0) : Zhi  s0 = false → (roundG (runC E0 (cl E0) L73_1) [2, 5, 15, 16, 17, 26] [2, 5, 15, 16, 17] 1) (Znz x0 x1 x2 x3 x4 x5 x6 s0) = some ((.exit 2), ([(V.ptr 0 1 0 0), (V.fn (.func 77) [] [(V.ptr 0 1 0 0)]), (V.d (slD (encI .u8) true 1 x2 x3)), (V.d (.int .i64 x4)), (V.d (.int .i64 x5))], [(Blk.flat 3 1 [[(.int .i64 s0.c5)]] false)])) := by
 unfold Zhi
 cases h1 : tb (decide (s0.c4 < 8))
 ·exact fun g0 => Z8 [.b (tbE h1)] (by kernel_rfl)
 ·exact fun g0 => absurd g0 tf
theorem Zwh (x0 : Int) (x1 x2 : Bool) (x3 : List Int) (x4 x5 x6 : Int) (s : Ze0) (hok : Zlo  s = true) : loopG (roundG (runC E0 (cl E0) L73_1) [2, 5, 15, 16, 17, 26] [2, 5, 15, 16, 17] 1) bound (Znz x0 x1 x2 x3 x4 x5 x6 s) = some ((.exit 2), ([(V.ptr 0 1 0 0), (V.fn (.func 77) [] [(V.ptr 0 1 0 0)]), (V.d (slD (encI .u8) true 1 x2 x3)), (V.d (.int .i64 x4)), (V.d (.int .i64 x5))], [(Blk.flat 3 1 [[(.int .i64 ((Zk5  s).c5))]] false)])) := by
 have e : itS (Zhi ) (Zi5 ) bound s = some (Zk5  s) := Zgn hok
 have f := Ze1 e
 exact Zgh (Zxy x0 x1 x2 x3 x4 x5 x6) bound s _ _ _ e (fun h => by cases h) (Zxx x0 x1 x2 x3 x4 x5 x6 (Zk5  s) f )
structure Zeo where
 c3 : Int
 c4 : Int
 deriving Inhabited
def Zq2 (x3 : List Int) (s0 : Zeo) : Ze0 := Zk5  (⟨0, (xorI .i64 s0.c4 (shlI .i64 (wi (gt x3 s0.c3)) 8))⟩ : Ze0)
def Zns (x0 : Int) (x1 x2 : Bool) (x3 : List Int) (x4 x5 : Int) (s0 : Zeo) : List V × Mem := ([(V.ptr 0 1 0 0), (V.fn (.func 77) [] [(V.ptr 0 1 0 0)]), (V.d (slD (encI .u8) true 1 x2 x3)), (V.d (.int .i64 x4)), (V.d (.int .i64 s0.c3))], [(Blk.flat 3 1 [[(.int .i64 s0.c4)]] false)])
def Zgp (x3 : List Int) (x4 : Int) (s0 : Zeo) : Bool := (bif tb (decide (s0.c3 < x4)) then (bif tb (inb x3.length s0.c3) then (bif tb (Zlo  (⟨0, (xorI .i64 s0.c4 (shlI .i64 (wi (gt x3 s0.c3)) 8))⟩ : Ze0)) then true else false) else false) else false)
def Zif (x3 : List Int) (x4 : Int) (s0 : Zeo) : Zeo := ⟨(wi (s0.c3 + 1)), ((Zq2 x3 s0).c5)⟩
def Zoe (x3 : List Int) (x4 : Int) (s0 : Zeo) : Bool := (itS (Zgp x3 x4) (Zif x3 x4) bound s0).isSome
def Zk2 (x3 : List Int) (x4 : Int) (s0 : Zeo) : Zeo := (itS (Zgp x3 x4) (Zif x3 x4) bound s0).getD default
theorem Zx4 (x0 : Int) (x1 x2 : Bool) (x3 : List Int) (x4 x5 : Int) (s0 : Zeo) : Zgp x3 x4 s0 = true → (roundG (runC E0 (cl E0) L73_2) [2, 5, 15, 16, 17] [2] 1) (Zns x0 x1 x2 x3 x4 x5 s0) = some (.normal, Zns x0 x1 x2 x3 x4 x5 (Zif x3 x4 s0)) := by
 unfold Zgp Zif
 cases h1 : tb (decide (s0.c3 < x4))
 ·exact ZN
 ·cases h2 : tb (inb x3.length s0.c3)
  ·exact ZN
  ·cases h3 : tb (Zlo  (⟨0, (xorI .i64 s0.c4 (shlI .i64 (wi (gt x3 s0.c3)) 8))⟩ : Ze0))
   ·exact ZN
   ·exact fun _ => Z8 [.b (tbE h1), .o 19 (fun _ => Zgq (enc := (encI .u8)) (l := x3) (fl := true) (n := x2) (s := 1) (k := .i64) (tbE h2)), .o 24 (fun _ => o_shl (k := .i64) (k2 := .u64) (x := (wi (gt x3 s0.c3))) (y := 8) rfl), .l (Zwh (xorI .i64 s0.c4 (shlI .i64 (wi (gt x3 s0.c3)) 8)) false x2 x3 x4 s0.c3 0 (⟨0, (xorI .i64 s0.c4 (shlI .i64 (wi (gt x3 s0.c3)) 8))⟩ : Ze0) (tbE h3))] (by kernel_rfl)
def Zln (x4 : Int) (s0 : Zeo) : Bool := (bif tb (decide (s0.c3 < x4)) then false else true)
theorem Zx5 (x0 : Int) (x1 x2 : Bool) (x3 : List Int) (x4 x5 : Int) (s0 : Zeo) : Zgp x3 x4 s0 = false → Zln x4 s0 = true → (roundG (runC E0 (cl E0) L73_2) [2, 5, 15, 16, 17] [2] 1) (Zns x0 x1 x2 x3 x4 x5 s0) = some ((.exit 0), ([(V.ptr 0 1 0 0)], [(Blk.flat 3 1 [[(.int .i64 s0.c4)]] false)])) := by
 unfold Zgp Zln
 cases h1 : tb (decide (s0.c3 < x4))
 ·intro g0 g1
  exact Z8 [.b (tbE h1)] (by kernel_rfl)
 ·cases h2 : tb (inb x3.length s0.c3)
  ·intro g0 g1
   exact absurd g1 ft
  ·cases h3 : tb (Zlo  (⟨0, (xorI .i64 s0.c4 (shlI .i64 (wi (gt x3 s0.c3)) 8))⟩ : Ze0))
   ·intro g0 g1
    exact absurd g1 ft
   ·intro g0 g1
    exact absurd g0 tf
theorem Zwi (x0 : Int) (x1 x2 : Bool) (x3 : List Int) (x4 x5 : Int) (s : Zeo) (hok : Zoe x3 x4 s = true) (c0 : Zln x4 (Zk2 x3 x4 s) = true) : loopG (roundG (runC E0 (cl E0) L73_2) [2, 5, 15, 16, 17] [2] 1) bound (Zns x0 x1 x2 x3 x4 x5 s) = some ((.exit 0), ([(V.ptr 0 1 0 0)], [(Blk.flat 3 1 [[(.int .i64 ((Zk2 x3 x4 s).c4))]] false)])) := by
 have e : itS (Zgp x3 x4) (Zif x3 x4) bound s = some (Zk2 x3 x4 s) := Zgn hok
 have f := Ze1 e
 exact Zgh (Zx4 x0 x1 x2 x3 x4 x5) bound s _ _ _ e (fun h => by cases h) (Zx5 x0 x1 x2 x3 x4 x5 (Zk2 x3 x4 s) f c0)
def Zmk (x0 : Int) (x3 : List Int) : Zeo := Zk2 x3 ((x3.length : Nat) : Int) (⟨0, x0⟩ : Zeo)
def Zmm (x0 : Int) (x3 : List Int) : Bool := (bif tb (Zoe x3 ((x3.length : Nat) : Int) (⟨0, x0⟩ : Zeo)) then (bif tb (Zln ((x3.length : Nat) : Int) (Zmk x0 x3)) then true else false) else false)
theorem Zx1 (x0 : Int) (x2 : Bool) (x3 : List Int) : Zmm x0 x3 = true → segG (runC E0 (cl E0) S73_3) [1, 2, 5] [] [2] 1 ([(V.d (slD (encI .u8) true 1 x2 x3)), (V.ptr 0 1 0 0), (V.fn (.func 77) [] [(V.ptr 0 1 0 0)])], [(Blk.flat 3 1 [[(.int .i64 x0)]] false)]) = some (.normal, ([(V.ptr 0 1 0 0)], [(Blk.flat 3 1 [[(.int .i64 ((Zmk x0 x3).c4))]] false)])) := by
 unfold Zmm
 cases h1 : tb (Zoe x3 ((x3.length : Nat) : Int) (⟨0, x0⟩ : Zeo))
 ·exact ZN
 ·cases h2 : tb (Zln ((x3.length : Nat) : Int) (Zmk x0 x3))
  ·exact ZN
  ·exact fun g0 => Zbh [.o 16 (fun _ => Zcd (enc := (encI .u8)) (l := x3) (fl := true) (n := x2) (s := 1)), .l (Zwi x0 false x2 x3 ((x3.length : Nat) : Int) 0 (⟨0, x0⟩ : Zeo) (tbE h1) (tbE h2))] (by kernel_rfl)
def Zk6 (x0 : Int) (x2 : List Int) : Bool := (bif tb (Zhu x0) then true else (bif tb (Zmm x0 x2) then true else false))
def Zdg (x0 : Int) (x2 : List Int) : Int := (bif tb (Zhu x0) then 0 else ((Zmk x0 x2).c4))
theorem Z0f (x0 : Int) (x1 : Bool) (x2 : List Int) : Zk6 x0 x2 = true → cl E0 73 [(V.d (.int .i64 x0)), (V.d (slD (encI .u8) true 1 x1 x2))] [] = some ([(V.d (.int .i64 (Zdg x0 x2)))], []) := by
 unfold Zk6 Zdg
 cases h1 : tb (Zhu x0)
 ·cases h2 : tb (Zmm x0 x2)
  ·exact ZN
  ·exact fun g0 => w73 [.s (Zx3 x0 false x1 x2 (tbE h1)), .s (Zx1 x0 x1 x2 (tbE h2))] (by kernel_rfl)
 ·exact fun g0 => w73 [.s (Zxz x0 false x1 x2 (tbE h1))] (by kernel_rfl)
def Zof (x1 : List Int) : Bool := (bif tb (Zk6 65535 x1) then true else false)
theorem Z25 (x0 : Bool) (x1 : List Int) : Zof x1 = true → cl E0 58 [(V.d (slD (encI .u8) true 1 x0 x1))] [] = some ([(V.d (.int .i64 (Zdg 65535 x1)))], []) := by
 unfold Zof
 cases h1 : tb (Zk6 65535 x1)
 ·exact ZN
 ·exact fun g0 => w58 [.c (Z0f 65535 x0 x1 (tbE h1))] (by kernel_rfl)
def Zou (x0 : Bool) (x1 : List Int) : List Int := ((Zed x0 x1) ++ [(IntKind.u8.wrap (shrI .i64 (Zdg 65535 x1) 8)), (IntKind.u8.wrap ((Zdg 65535 x1)))])
def Znj (x0 : Bool) (x1 : List Int) : Bool := (bif tb (Zof x1) then (bif tb (Zh9 x0 x1) then (bif tb (decide (((Zed x0 x1).length + [(IntKind.u8.wrap (shrI .i64 (Zdg 65535 x1) 8)), (IntKind.u8.wrap ((Zdg 65535 x1)))].length) * 1 ≤ 140737488355328)) then true else false) else false) else false)
theorem Z11 (x0 : Bool) (x1 : List Int) : Znj x0 x1 = true → cl E0 31 [(V.d (slD (encI .u8) true 1 x0 x1))] [] = some ([(V.so false 0 ((Zou x0 x1).length))], [(Blk.flat 5 1 (List.map (encI .u8) (Zou x0 x1)) false)]) := by
 unfold Znj
 cases h1 : tb (Zof x1)
 ·exact ZN
 ·cases h2 : tb (Zh9 x0 x1)
  ·exact ZN
  ·cases h3 : tb (decide (((Zed x0 x1).length + [(IntKind.u8.wrap (shrI .i64 (Zdg 65535 x1) 8)), (IntKind.u8.wrap ((Zdg 65535 x1)))].length) * 1 ≤ 140737488355328))
   ·exact ZN
   ·exact fun g0 => w31 [.c (Z25 x0 x1 (tbE h1)), .c (Zt4 x0 x1 (tbE h2)), .o 9 (fun _ => o_shr (k := .i64) (k2 := .u64) (x := (Zdg 65535 x1)) (y := 8) rfl), .m 14 (Zoa (nl := (Zij x0 x1)) (m := [(Blk.flat 5 1 [] false), (Blk.flat 5 1 (List.map (encI .u8) (Zed x0 x1)) false), (Blk.flat 5 1 [[(.int .u8 (IntKind.u8.wrap (shrI .i64 (Zdg 65535 x1) 8)))], [(.int .u8 (IntKind.u8.wrap ((Zdg 65535 x1))))]] false)]) (enc := (encI .u8)) (l0 := (Zed x0 x1)) (l1 := [(IntKind.u8.wrap (shrI .i64 (Zdg 65535 x1) 8)), (IntKind.u8.wrap ((Zdg 65535 x1)))]) (id := 1) (e := 5) (s := 1) (bytes := 1) (x := (V.so false 2 2)) (n := ((Zed x0 x1).length)) (Nat.beq_refl _) (by kernel_rfl) (by kernel_rfl) (by kernel_rfl) (tbE h3))] (by kernel_rfl)
end Go.Proofs.Ytkipngagfiaddaa.Den

namespace Go.Proofs.Ytkipngagfiaddaa.Den
open Go Go.Proofs
set_option maxRecDepth 100000
set_option maxHeartbeats 4000000
set_option linter.unusedVariables false
set_option linter.unusedSimpArgs false
def Zgz (x0 : Int) : Bool := (bif tb (decide (x0 < 0)) then true else (bif tb (decide (65535 < x0)) then true else false))
theorem Zwr (x0 : Int) (x1 : Bool) (x2 : List Int) : Zgz x0 = true → segG (runC E0 (cl E0) S74_0) [0, 1] [4] [0, 1] 0 ([(V.d (.int .i64 x0)), (V.d (slD (encI .u8) true 1 x1 x2))], []) = some (.ret, ([(V.d (.int .i64 0))], [])) := by
 unfold Zgz
 cases h1 : tb (decide (x0 < 0))
 ·cases h2 : tb (decide (65535 < x0))
  ·exact ZN
  ·exact fun g0 => Zbh [.b (tbE h1), .b (tbE h2)] (by kernel_rfl)
 ·exact fun g0 => Zbh [.b (tbE h1)] (by kernel_rfl)
theorem Zwq (x0 : Int) (x1 : Bool) (x2 : List Int) : Zgz x0 = false → segG (runC E0 (cl E0) S74_0) [0, 1] [4] [0, 1] 0 ([(V.d (.int .i64 x0)), (V.d (slD (encI .u8) true 1 x1 x2))], []) = some (.normal, ([(V.d (.int .i64 x0)), (V.d (slD (encI .u8) true 1 x1 x2))], [])) := by
 unfold Zgz
 cases h1 : tb (decide (x0 < 0))
 ·cases h2 : tb (decide (65535 < x0))
  ·exact fun g0 => Zbh [.b (tbE h1), .b (tbE h2)] (by kernel_rfl)
  ·exact fun g0 => absurd g0 tf
 ·exact fun g0 => absurd g0 tf
structure Zdy where
 c0 : Int
 c1 : Int
 c2 : Int
 c3 : Int
 c4 : Int
 deriving Inhabited
def Zmc (x0 x1 x2 x3 x4 : Int) (s0 : Zdy) : List V × Mem := ([(V.d (.int .i64 s0.c0)), (V.d (.int .i64 s0.c1)), (V.d (.int .i64 s0.c2)), (V.d (.int .i64 s0.c3)), (V.d (.int .i64 s0.c4))], [])
def Zf6  (s0 : Zdy) : Bool := (bif tb (decide (s0.c4 < 16)) then true else false)
def Zha  (s0 : Zdy) : Zdy := (bif tb (((remI .i64 s0.c2 2) : Int) != (remI .i64 s0.c3 2)) then ⟨(wi (s0.c0 + s0.c1)), (wi (2 * s0.c1)), (quoI .i64 s0.c2 2), (quoI .i64 s0.c3 2), (wi (s0.c4 + 1))⟩ else ⟨s0.c0, (wi (2 * s0.c1)), (quoI .i64 s0.c2 2), (quoI .i64 s0.c3 2), (wi (s0.c4 + 1))⟩)
def Zmr  (s0 : Zdy) : Bool := (itS (Zf6 ) (Zha ) bound s0).isSome
def Zk3  (s0 : Zdy) : Zdy := (itS (Zf6 ) (Zha ) bound s0).getD default
theorem Zvf (x0 x1 x2 x3 x4 : Int) (s0 : Zdy) : Zf6  s0 = true → (roundG (runC E0 (cl E0) L78_0) [5, 6, 7, 8, 9] [5] 0) (Zmc x0 x1 x2 x3 x4 s0) = some (.normal, Zmc x0 x1 x2 x3 x4 (Zha  s0)) := by
 unfold Zf6 Zha
 cases h1 : tb (decide (s0.c4 < 16))
 ·exact ZN
 ·cases h2 : tb (((remI .i64 s0.c2 2) : Int) != (remI .i64 s0.c3 2))
  ·exact fun _ => Z8 [.b (tbE h1), .b (tbE h2)] (by kernel_rfl)
  ·exact fun _ => Z8 [.b (tbE h1), .b (tbE h2)] (by kernel_rfl)
theorem Zvl (x0 x1 x2 x3 x4 : Int) (s0 : Zdy) : Zf6  s0 = false → (roundG (runC E0 (cl E0) L78_0) [5, 6, 7, 8, 9] [5] 0) (Zmc x0 x1 x2 x3 x4 s0) = some ((.exit 0), ([(V.d (.int .i64 s0.c0))], [])) := by
 unfold Zf6
 cases h1 : tb (decide (s0.c4 < 16))
 ·exact fun g0 => Z8 [.b (tbE h1)] (by kernel_rfl)
 ·cases h2 : tb (((remI .i64 s0.c2 2) : Int) != (remI .i64 s0.c3 2))
  ·exact fun g0 => absurd g0 tf
  ·exact fun g0 => absurd g0 tf
theorem Zt1 (x0 x1 x2 x3 x4 : Int) (s : Zdy) (hok : Zmr  s = true) : loopG (roundG (runC E0 (cl E0) L78_0) [5, 6, 7, 8, 9] [5] 0) bound (Zmc x0 x1 x2 x3 x4 s) = some ((.exit 0), ([(V.d (.int .i64 ((Zk3  s).c0)))], [])) := by
 have e : itS (Zf6 ) (Zha ) bound s = some (Zk3  s) := Zgn hok
 have f := Ze1 e
 exact Zgh (Zvf x0 x1 x2 x3 x4) bound s _ _ _ e (fun h => by cases h) (Zvl x0 x1 x2 x3 x4 (Zk3  s) f )
def Zlp (x0 x1 : Int) : Zdy := Zk3  (⟨0, 1, x0, x1, 0⟩ : Zdy)
def Zg7 (x0 x1 : Int) : Bool := (bif tb (Zmr  (⟨0, 1, x0, x1, 0⟩ : Zdy)) then true else false)
theorem Zsi (x0 x1 : Int) : Zg7 x0 x1 = true → cl E0 78 [(V.d (.int .i64 x0)), (V.d (.int .i64 x1))] [] = some ([(V.d (.int .i64 ((Zlp x0 x1).c0)))], []) := by
 unfold Zg7
 cases h1 : tb (Zmr  (⟨0, 1, x0, x1, 0⟩ : Zdy))
 ·exact ZN
 ·exact fun g0 => w78 [.l (Zt1 0 1 x0 x1 0 (⟨0, 1, x0, x1, 0⟩ : Zdy) (tbE h1))] (by kernel_rfl)
structure Zdl where
 c2 : Int
 c4 : Int
 deriving Inhabited
def Zmp (x0 : Bool) (x1 : List Int) (x2 x3 x4 : Int) (s0 : Zdl) : List V × Mem := ([(V.d (slD (encI .u8) true 1 x0 x1)), (V.d (.int .i64 s0.c2)), (V.d (.int .i64 x3)), (V.d (.int .i64 s0.c4))], [])
def Zfy  (s0 : Zdl) : Bool := (bif tb (decide (s0.c4 < 8)) then (bif tb (decide (32768 ≤ s0.c2)) then (bif tb (Zg7 (remI .i64 (wi (2 * s0.c2)) 65536) 4129) then true else false) else true) else false)
def Zfv  (s0 : Zdl) : Zdl := (bif tb (decide (32768 ≤ s0.c2)) then ⟨((Zlp (remI .i64 (wi (2 * s0.c2)) 65536) 4129).c0), (wi (s0.c4 + 1))⟩ else ⟨(remI .i64 (wi (2 * s0.c2)) 65536), (wi (s0.c4 + 1))⟩)
def Zki  (s0 : Zdl) : Bool := (itS (Zfy ) (Zfv ) bound s0).isSome
def Zh3  (s0 : Zdl) : Zdl := (itS (Zfy ) (Zfv ) bound s0).getD default
theorem Zwe (x0 : Bool) (x1 : List Int) (x2 x3 x4 : Int) (s0 : Zdl) : Zfy  s0 = true → (roundG (runC E0 (cl E0) L74_1) [1, 5, 6, 7] [1, 5, 6] 0) (Zmp x0 x1 x2 x3 x4 s0) = some (.normal, Zmp x0 x1 x2 x3 x4 (Zfv  s0)) := by
 unfold Zfy Zfv
 cases h1 : tb (decide (s0.c4 < 8))
 ·exact ZN
 ·cases h2 : tb (decide (32768 ≤ s0.c2))
  ·exact fun _ => Z8 [.b (tbE h1), .b (tbE h2)] (by kernel_rfl)
  ·cases h3 : tb (Zg7 (remI .i64 (wi (2 * s0.c2)) 65536) 4129)
   ·exact ZN
   ·exact fun _ => Z8 [.b (tbE h1), .b (tbE h2), .c (Zsi (remI .i64 (wi (2 * s0.c2)) 65536) 4129 (tbE h3))] (by kernel_rfl)
def Zic (s0 : Zdl) : Bool := (bif tb (decide (s0.c4 < 8)) then false else true)
theorem Zwj (x0 : Bool) (x1 : List Int) (x2 x3 x4 : Int) (s0 : Zdl) : Zfy  s0 = false → Zic s0 = true → (roundG (runC E0 (cl E0) L74_1) [1, 5, 6, 7] [1, 5, 6] 0) (Zmp x0 x1 x2 x3 x4 s0) = some ((.exit 2), ([(V.d (slD (encI .u8) true 1 x0 x1)), (V.d (.int .i64 s0.c2)), (V.d (.int .i64 x3))], [])) := by
 unfold Zfy Zic
 cases h1 : tb (decide (s0.c4 < 8))
 ·intro g0 g1
  exact Z8 [.b (tbE h1)] (by kernel_rfl)
 ·cases h2 : tb (decide (32768 ≤ s0.c2))
  ·intro g0 g1
   exact absurd g0 tf
  ·cases h3 : tb (Zg7 (remI .i64 (wi (2 * s0.c2)) 65536) 4129)
   ·intro g0 g1
    exact absurd g1 ft
   ·intro g0 g1
    exact absurd g0 tf
theorem Zur (x0 : Bool) (x1 : List Int) (x2 x3 x4 : Int) (s : Zdl) (hok : Zki  s = true) (c0 : Zic (Zh3  s) = true) : loopG (roundG (runC E0 (cl E0) L74_1) [1, 5, 6, 7] [1, 5, 6] 0) bound (Zmp x0 x1 x2 x3 x4 s) = some ((.exit 2), ([(V.d (slD (encI .u8) true 1 x0 x1)), (V.d (.int .i64 ((Zh3  s).c2))), (V.d (.int .i64 x3))], [])) := by
 have e : itS (Zfy ) (Zfv ) bound s = some (Zh3  s) := Zgn hok
 have f := Ze1 e
 exact Zgh (Zwe x0 x1 x2 x3 x4) bound s _ _ _ e (fun h => by cases h) (Zwj x0 x1 x2 x3 x4 (Zh3  s) f c0)
structure Zcz where
 c2 : Int
 c3 : Int
 deriving Inhabited
def Zhl (x1 : List Int) (s0 : Zcz) : Int := ((Zlp s0.c2 (wi (256 * (wi (gt x1 s0.c3))))).c0)
def Zi0 (x1 : List Int) (s0 : Zcz) : Zdl := Zh3  (⟨(Zhl x1 s0), 0⟩ : Zdl)
def Zms (x0 : Bool) (x1 : List Int) (x2 x3 : Int) (s0 : Zcz) : List V × Mem := ([(V.d (slD (encI .u8) true 1 x0 x1)), (V.d (.int .i64 s0.c2)), (V.d (.int .i64 s0.c3))], [])
def Zfz (x1 : List Int) (s0 : Zcz) : Bool := (bif tb (decide (s0.c3 < ((x1.length : Nat) : Int))) then (bif tb (inb x1.length s0.c3) then (bif tb (Zg7 s0.c2 (wi (256 * (wi (gt x1 s0.c3))))) then (bif tb (Zki  (⟨(Zhl x1 s0), 0⟩ : Zdl)) then (bif tb (Zic (Zi0 x1 s0)) then true else false) else false) else false) else false) else false)
def Zhp (x1 : List Int) (s0 : Zcz) : Zcz := ⟨((Zi0 x1 s0).c2), (wi (s0.c3 + 1))⟩
def Zm3 (x1 : List Int) (s0 : Zcz) : Bool := (itS (Zfz x1) (Zhp x1) bound s0).isSome
def Zhc (x1 : List Int) (s0 : Zcz) : Zcz := (itS (Zfz x1) (Zhp x1) bound s0).getD default
theorem Zwf (x0 : Bool) (x1 : List Int) (x2 x3 : Int) (s0 : Zcz) : Zfz x1 s0 = true → (roundG (runC E0 (cl E0) L74_2) [1, 5, 6] [5] 0) (Zms x0 x1 x2 x3 s0) = some (.normal, Zms x0 x1 x2 x3 (Zhp x1 s0)) := by
 unfold Zfz Zhp
 cases h1 : tb (decide (s0.c3 < ((x1.length : Nat) : Int)))
 ·exact ZN
 ·cases h2 : tb (inb x1.length s0.c3)
  ·exact ZN
  ·cases h3 : tb (Zg7 s0.c2 (wi (256 * (wi (gt x1 s0.c3)))))
   ·exact ZN
   ·cases h4 : tb (Zki  (⟨(Zhl x1 s0), 0⟩ : Zdl))
    ·exact ZN
    ·cases h5 : tb (Zic (Zi0 x1 s0))
     ·exact ZN
     ·exact fun _ => Z8 [.o 18 (fun _ => Zcd (enc := (encI .u8)) (l := x1) (fl := true) (n := x0) (s := 1)), .b (tbE h1), .o 25 (fun _ => Zgq (enc := (encI .u8)) (l := x1) (fl := true) (n := x0) (s := 1) (k := .i64) (tbE h2)), .c (Zsi s0.c2 (wi (256 * (wi (gt x1 s0.c3)))) (tbE h3)), .l (Zur x0 x1 (Zhl x1 s0) s0.c3 0 (⟨(Zhl x1 s0), 0⟩ : Zdl) (tbE h4) (tbE h5))] (by kernel_rfl)
def Zkh (x1 : List Int) (s0 : Zcz) : Bool := (bif tb (decide (s0.c3 < ((x1.length : Nat) : Int))) then false else true)
theorem Zwd (x0 : Bool) (x1 : List Int) (x2 x3 : Int) (s0 : Zcz) : Zfz x1 s0 = false → Zkh x1 s0 = true → (roundG (runC E0 (cl E0) L74_2) [1, 5, 6] [5] 0) (Zms x0 x1 x2 x3 s0) = some ((.exit 0), ([(V.d (.int .i64 s0.c2))], [])) := by
 unfold Zfz Zkh
 cases h1 : tb (decide (s0.c3 < ((x1.length : Nat) : Int)))
 ·intro g0 g1
  exact Z8 [.o 18 (fun _ => Zcd (enc := (encI .u8)) (l := x1) (fl := true) (n := x0) (s := 1)), .b (tbE h1)] (by kernel_rfl)
 ·cases h2 : tb (inb x1.length s0.c3)
  ·intro g0 g1
   exact absurd g1 ft
  ·cases h3 : tb (Zg7 s0.c2 (wi (256 * (wi (gt x1 s0.c3)))))
   ·intro g0 g1
    exact absurd g1 ft
   ·cases h4 : tb (Zki  (⟨(Zhl x1 s0), 0⟩ : Zdl))
    ·intro g0 g1
     exact absurd g1 ft
    ·cases h5 : tb (Zic (Zi0 x1 s0))
     ·intro g0 g1
      exact absurd g1 ft
     ·intro g0 g1
      exact absurd g0 tf
theorem Zu3 (x0 : Bool) (x1 : List Int) (x2 x3 : Int) (s : Zcz) (hok : Zm3 x1 s = true) (c0 : Zkh x1 (Zhc x1 s) = true) : loopG (roundG (runC E0 (cl E0) L74_2) [1, 5, 6] [5] 0) bound (Zms x0 x1 x2 x3 s) = some ((.exit 0), ([(V.d (.int .i64 ((Zhc x1 s).c2)))], [])) := by
 have e : itS (Zfz x1) (Zhp x1) bound s = some (Zhc x1 s) := Zgn hok
 have f := Ze1 e
 exact Zgh (Zwf x0 x1 x2 x3) bound s _ _ _ e (fun h => by cases h) (Zwd x0 x1 x2 x3 (Zhc x1 s) f c0)
def Zi8 (x1 : List Int) (x2 : Int) : Bool := (bif tb (Zm3 x1 (⟨x2, 0⟩ : Zcz)) then (bif tb (Zkh x1 (Zhc x1 (⟨x2, 0⟩ : Zcz))) then true else false) else false)
theorem Zwt (x0 : Bool) (x1 : List Int) (x2 : Int) : Zi8 x1 x2 = true → segG (runC E0 (cl E0) S74_3) [1, 5] [] [5] 0 ([(V.d (slD (encI .u8) true 1 x0 x1)), (V.d (.int .i64 x2))], []) = some (.normal, ([(V.d (.int .i64 ((Zhc x1 (⟨x2, 0⟩ : Zcz)).c2)))], [])) := by
 unfold Zi8
 cases h1 : tb (Zm3 x1 (⟨x2, 0⟩ : Zcz))
 ·exact ZN
 ·cases h2 : tb (Zkh x1 (Zhc x1 (⟨x2, 0⟩ : Zcz)))
  ·exact ZN
  ·exact fun g0 => Zbh [.l (Zu3 x0 x1 x2 0 (⟨x2, 0⟩ : Zcz) (tbE h1) (tbE h2))] (by kernel_rfl)
def Zj0 (x0 : Int) (x2 : List Int) : Bool := (bif tb (Zgz x0) then true else (bif tb (Zi8 x2 x0) then true else false))
def Zff (x0 : Int) (x2 : List Int) : Int := (bif tb (Zgz x0) then 0 else ((Zhc x2 (⟨x0, 0⟩ : Zcz)).c2))
theorem Zyx (x0 : Int) (x1 : Bool) (x2 : List Int) : Zj0 x0 x2 = true → cl E0 74 [(V.d (.int .i64 x0)), (V.d (slD (encI .u8) true 1 x1 x2))] [] = some ([(V.d (.int .i64 (Zff x0 x2)))], []) := by
 unfold Zj0 Zff
 cases h1 : tb (Zgz x0)
 ·cases h2 : tb (Zi8 x2 x0)
  ·exact ZN
  ·exact fun g0 => w74 [.s (Zwq x0 x1 x2 (tbE h1)), .s (Zwt x1 x2 x0 (tbE h2))] (by kernel_rfl)
 ·exact fun g0 => w74 [.s (Zwr x0 x1 x2 (tbE h1))] (by kernel_rfl)
def Zk0 (x1 : List Int) : Bool := (bif tb (Zj0 65535 x1) then true else false)
theorem Zpw (x0 : Bool) (x1 : List Int) : Zk0 x1 = true → cl E0 64 [(V.d (slD (encI .u8) true 1 x0 x1))] [] = some ([(V.d (.int .i64 (Zff 65535 x1)))], []) := by
 unfold Zk0
 cases h1 : tb (Zj0 65535 x1)
 ·exact ZN
 ·exact fun g0 => w64 [.c (Zyx 65535 x0 x1 (tbE h1))] (by kernel_rfl)
def Zma (x1 : List Int) : Int := quoI .i64 (Zff 65535 (sub x1 0 (wi (((x1.length : Nat) : Int) - 2)))) 256
def Zmd (x1 : List Int) : Int := remI .i64 (Zff 65535 (sub x1 0 (wi (((x1.length : Nat) : Int) - 2)))) 256
def Zjf (x1 : List Int) : Bool := (bif tb (decide (((x1.length : Nat) : Int) < 2)) then true else (bif tb (ins x1.length 0 (wi (((x1.length : Nat) : Int) - 2))) then (bif tb (Zk0 (sub x1 0 (wi (((x1.length : Nat) : Int) - 2)))) then (bif tb (inb x1.length (wi (((x1.length : Nat) : Int) - 2))) then (bif tb (((wi (gt x1 (wi (((x1.length : Nat) : Int) - 2)))) : Int) != (Zma x1)) then true else (bif tb (inb x1.length (wi (((x1.length : Nat) : Int) - 1))) then (bif tb (((wi (gt x1 (wi (((x1.length : Nat) : Int) - 1)))) : Int) != (Zmd x1)) then true else (bif tb (decide ((([] : List Int).length + (sub x1 0 (wi (((x1.length : Nat) : Int) - 2))).length) * 1 ≤ 140737488355328)) then true else false)) else false)) else false) else false) else false))
def Zq (x1 : List Int) : Bool := (bif tb (decide (((x1.length : Nat) : Int) < 2)) then true else (bif tb (((wi (gt x1 (wi (((x1.length : Nat) : Int) - 2)))) : Int) != (Zma x1)) then true else (bif tb (((wi (gt x1 (wi (((x1.length : Nat) : Int) - 1)))) : Int) != (Zmd x1)) then true else false)))
def Zey (x1 : List Int) : Bool := (bif tb (decide (((x1.length : Nat) : Int) < 2)) then false else (bif tb (((wi (gt x1 (wi (((x1.length : Nat) : Int) - 2)))) : Int) != (Zma x1)) then false else (bif tb (((wi (gt x1 (wi (((x1.length : Nat) : Int) - 1)))) : Int) != (Zmd x1)) then false else true)))
def Zb (x1 : List Int) : List Int := (bif tb (decide (((x1.length : Nat) : Int) < 2)) then ([] : List Int) else (bif tb (((wi (gt x1 (wi (((x1.length : Nat) : Int) - 2)))) : Int) != (Zma x1)) then ([] : List Int) else (bif tb (((wi (gt x1 (wi (((x1.length : Nat) : Int) - 1)))) : Int) != (Zmd x1)) then ([] : List Int) else (sub x1 0 (wi (((x1.length : Nat) : Int) - 2))))))
theorem Zjh (x0 : Bool) (x1 : List Int) : Zjf x1 = true → cl E0 46 [(V.d (slD (encI .u8) true 1 x0 x1))] [] = some ([(V.so (Zq x1) 0 ((Zb x1).length)), (V.d (.bool (Zey x1)))], [(Blk.flat 5 1 (List.map (encI .u8) (Zb x1)) false)]) := by
 unfold Zjf Zq Zey Zb
 cases h1 : tb (decide (((x1.length : Nat) : Int) < 2))
 ·cases h2 : tb (ins x1.length 0 (wi (((x1.length : Nat) : Int) - 2)))
  ·exact ZN
  ·cases h3 : tb (Zk0 (sub x1 0 (wi (((x1.length : Nat) : Int) - 2))))
   ·exact ZN
   ·cases h4 : tb (inb x1.length (wi (((x1.length : Nat) : Int) - 2)))
    ·exact ZN
    ·cases h5 : tb (((wi (gt x1 (wi (((x1.length : Nat) : Int) - 2)))) : Int) != (Zma x1))
     ·cases h6 : tb (inb x1.length (wi (((x1.length : Nat) : Int) - 1)))
      ·exact ZN
      ·cases h7 : tb (((wi (gt x1 (wi (((x1.length : Nat) : Int) - 1)))) : Int) != (Zmd x1))
       ·cases h8 : tb (decide ((([] : List Int).length + (sub x1 0 (wi (((x1.length : Nat) : Int) - 2))).length) * 1 ≤ 140737488355328))
        ·exact ZN
        ·exact fun g0 => w46 [.o 6 (fun _ => Zcd (enc := (encI .u8)) (l := x1) (fl := true) (n := x0) (s := 1)), .b (tbE h1), .o 10 (fun _ => Zcd (enc := (encI .u8)) (l := x1) (fl := true) (n := x0) (s := 1)), .o 12 (fun _ => Znp (enc := (encI .u8)) (l := x1) (fl := true) (n := x0) (s := 1) none (some (.i64, (wi (((x1.length : Nat) : Int) - 2)))) (tbE h2)), .c (Zpw (x0 && x1.isEmpty) (sub x1 0 (wi (((x1.length : Nat) : Int) - 2))) (tbE h3)), .o 16 (fun _ => Zcd (enc := (encI .u8)) (l := x1) (fl := true) (n := x0) (s := 1)), .o 18 (fun _ => Zgq (enc := (encI .u8)) (l := x1) (fl := true) (n := x0) (s := 1) (k := .i64) (tbE h4)), .b (tbE h5), .o 27 (fun _ => Zcd (enc := (encI .u8)) (l := x1) (fl := true) (n := x0) (s := 1)), .o 29 (fun _ => Zgq (enc := (encI .u8)) (l := x1) (fl := true) (n := x0) (s := 1) (k := .i64) (tbE h6)), .b (tbE h7), .o 39 (fun _ => Zcd (enc := (encI .u8)) (l := x1) (fl := true) (n := x0) (s := 1)), .o 41 (fun _ => Znp (enc := (encI .u8)) (l := x1) (fl := true) (n := x0) (s := 1) none (some (.i64, (wi (((x1.length : Nat) : Int) - 2)))) (tbE h2)), .m 42 (Zs6 (m := [(Blk.flat 5 1 [] false), (Blk.flat 5 1 [] false)]) (enc := (encI .u8)) (l0 := ([] : List Int)) (l1 := (sub x1 0 (wi (((x1.length : Nat) : Int) - 2)))) (id := 1) (e := 5) (s := 1) (bytes := 1) (x := (V.d (slD (encI .u8) true 1 (x0 && x1.isEmpty) (sub x1 0 (wi (((x1.length : Nat) : Int) - 2)))))) (n := 0) (by kernel_rfl) (by kernel_rfl) Zqe Ztq (tbE h8))] (by kernel_rfl)
       ·exact fun g0 => w46 [.o 6 (fun _ => Zcd (enc := (encI .u8)) (l := x1) (fl := true) (n := x0) (s := 1)), .b (tbE h1), .o 10 (fun _ => Zcd (enc := (encI .u8)) (l := x1) (fl := true) (n := x0) (s := 1)), .o 12 (fun _ => Znp (enc := (encI .u8)) (l := x1) (fl := true) (n := x0) (s := 1) none (some (.i64, (wi (((x1.length : Nat) : Int) - 2)))) (tbE h2)), .c (Zpw (x0 && x1.isEmpty) (sub x1 0 (wi (((x1.length : Nat) : Int) - 2))) (tbE h3)), .o 16 (fun _ => Zcd (enc := (encI .u8)) (l := x1) (fl := true) (n := x0) (s := 1)), .o 18 (fun _ => Zgq (enc := (encI .u8)) (l := x1) (fl := true) (n := x0) (s := 1) (k := .i64) (tbE h4)), .b (tbE h5), .o 27 (fun _ => Zcd (enc := (encI .u8)) (l := x1) (fl := true) (n := x0) (s := 1)), .o 29 (fun _ => Zgq (enc := (encI .u8)) (l := x1) (fl := true) (n := x0) (s := 1) (k := .i64) (tbE h6)), .b (tbE h7)] (by kernel_rfl)
     ·exact fun g0 => w46 [.o 6 (fun _ => Zcd (enc := (encI .u8)) (l := x1) (fl := true) (n := x0) (s := 1)), .b (tbE h1), .o 10 (fun _ => Zcd (enc := (encI .u8)) (l := x1) (fl := true) (n := x0) (s := 1)), .o 12 (fun _ => Znp (enc := (encI .u8)) (l := x1) (fl := true) (n := x0) (s := 1) none (some (.i64, (wi (((x1.length : Nat) : Int) - 2)))) (tbE h2)), .c (Zpw (x0 && x1.isEmpty) (sub x1 0 (wi (((x1.length : Nat) : Int) - 2))) (tbE h3)), .o 16 (fun _ => Zcd (enc := (encI .u8)) (l := x1) (fl := true) (n := x0) (s := 1)), .o 18 (fun _ => Zgq (enc := (encI .u8)) (l := x1) (fl := true) (n := x0) (s := 1) (k := .i64) (tbE h4)), .b (tbE h5)] (by kernel_rfl)
 ·exact fun g0 => w46 [.o 6 (fun _ => Zcd (enc := (encI .u8)) (l := x1) (fl := true) (n := x0) (s := 1)), .b (tbE h1)] (by kernel_rfl)
def Zjc (x1 : List Int) : Int := IntKind.u8.wrap (quoI .i64 (Zff 65535 x1) 256)
def Zjg (x1 : List Int) : Int := IntKind.u8.wrap (remI .i64 (Zff 65535 x1) 256)
def Zme (x1 : List Int) : Bool := (bif tb (Zk0 x1) then (bif tb (decide ((([] : List Int).length + x1.length) * 1 ≤ 140737488355328)) then (bif tb (decide ((x1.length + [(Zjc x1), (Zjg x1)].length) * 1 ≤ 140737488355328)) then true else false) else false) else false)
theorem Zzc (x0 : Bool) (x1 : List Int) : Zme x1 = true → cl E0 41 [(V.d (slD (encI .u8) true 1 x0 x1))] [] = some ([(V.so false 0 ((x1 ++ [(Zjc x1), (Zjg x1)]).length))], [(Blk.flat 5 1 (List.map (encI .u8) (x1 ++ [(Zjc x1), (Zjg x1)])) false)]) := by
 unfold Zme
 cases h1 : tb (Zk0 x1)
 ·exact ZN
 ·cases h2 : tb (decide ((([] : List Int).length + x1.length) * 1 ≤ 140737488355328))
  ·exact ZN
  ·cases h3 : tb (decide ((x1.length + [(Zjc x1), (Zjg x1)].length) * 1 ≤ 140737488355328))
   ·exact ZN
   ·exact fun g0 => w41 [.c (Zpw x0 x1 (tbE h1)), .m 8 (Zs6 (m := [(Blk.flat 5 1 [] false), (Blk.flat 5 1 [] false)]) (enc := (encI .u8)) (l0 := ([] : List Int)) (l1 := x1) (id := 1) (e := 5) (s := 1) (bytes := 1) (x := (V.d (slD (encI .u8) true 1 x0 x1))) (n := 0) (by kernel_rfl) (by kernel_rfl) Zqe Ztq (tbE h2)), .m 16 (Zs6 (m := [(Blk.flat 5 1 [] false), (Blk.flat 5 1 (List.map (encI .u8) x1) false), (Blk.flat 5 1 [[(.int .u8 (Zjc x1))], [(.int .u8 (Zjg x1))]] false)]) (enc := (encI .u8)) (l0 := x1) (l1 := [(Zjc x1), (Zjg x1)]) (id := 1) (e := 5) (s := 1) (bytes := 1) (x := (V.so false 2 2)) (n := x1.length) (Nat.beq_refl _) (by kernel_rfl) (by kernel_rfl) (by kernel_rfl) (tbE h3))] (by kernel_rfl)
structure Zb7 where
 c4 : Int
 deriving Inhabited
def Zj8 (x0 : Bool) (x1 : List Int) (x2 : Bool) (x3 : List Int) (x4 : Int) (s0 : Zb7) : List V × Mem := ([(V.d (slD (encI .u8) true 1 x0 x1)), (V.d (slD (encI .u8) true 1 x2 x3)), (V.d (.int .i64 s0.c4))], [])
def Zet (x1 x3 : List Int) (s0 : Zb7) : Bool := (bif tb (decide (s0.c4 < ((x1.length : Nat) : Int))) then (bif tb (inb x1.length s0.c4) then (bif tb (inb x3.length s0.c4) then (bif tb (((gt x1 s0.c4) : Int) != (gt x3 s0.c4)) then false else true) else false) else false) else false)
def Zi9 (x1 x3 : List Int) (s0 : Zb7) : Zb7 := ⟨(wi (s0.c4 + 1))⟩
def Zlv (x1 x3 : List Int) (s0 : Zb7) : Bool := (itS (Zet x1 x3) (Zi9 x1 x3) bound s0).isSome
def Ze7 (x1 x3 : List Int) (s0 : Zb7) : Zb7 := (itS (Zet x1 x3) (Zi9 x1 x3) bound s0).getD default
theorem Zrd (x0 : Bool) (x1 : List Int) (x2 : Bool) (x3 : List Int) (x4 : Int) (s0 : Zb7) : Zet x1 x3 s0 = true → (roundG (runC E0 (cl E0) L20_0) [0, 1, 5] [4] 0) (Zj8 x0 x1 x2 x3 x4 s0) = some (.normal, Zj8 x0 x1 x2 x3 x4 (Zi9 x1 x3 s0)) := by
 unfold Zet Zi9
 cases h1 : tb (decide (s0.c4 < ((x1.length : Nat) : Int)))
 ·exact ZN
 ·cases h2 : tb (inb x1.length s0.c4)
  ·exact ZN
  ·cases h3 : tb (inb x3.length s0.c4)
   ·exact ZN
   ·cases h4 : tb (((gt x1 s0.c4) : Int) != (gt x3 s0.c4))
    ·exact fun _ => Z8 [.o 13 (fun _ => Zcd (enc := (encI .u8)) (l := x1) (fl := true) (n := x0) (s := 1)), .b (tbE h1), .o 19 (fun _ => Zgq (enc := (encI .u8)) (l := x1) (fl := true) (n := x0) (s := 1) (k := .i64) (tbE h2)), .o 23 (fun _ => Zgq (enc := (encI .u8)) (l := x3) (fl := true) (n := x2) (s := 1) (k := .i64) (tbE h3)), .b (tbE h4)] (by kernel_rfl)
    ·exact ZN
def Zgc (x1 x3 : List Int) (s0 : Zb7) : Bool := (bif tb (decide (s0.c4 < ((x1.length : Nat) : Int))) then (bif tb (inb x1.length s0.c4) then (bif tb (inb x3.length s0.c4) then true else false) else false) else false)
def Zja (x1 : List Int) (s0 : Zb7) : Bool := (bif tb (decide (s0.c4 < ((x1.length : Nat) : Int))) then false else true)
theorem Zwp (x0 : Bool) (x1 : List Int) (x2 : Bool) (x3 : List Int) (x4 : Int) (s0 : Zb7) : Zet x1 x3 s0 = false → Zgc x1 x3 s0 = true → (roundG (runC E0 (cl E0) L20_0) [0, 1, 5] [4] 0) (Zj8 x0 x1 x2 x3 x4 s0) = some (.ret, ([(V.d (.bool false))], [])) := by
 unfold Zet Zgc
 cases h1 : tb (decide (s0.c4 < ((x1.length : Nat) : Int)))
 ·intro g0 g1
  exact absurd g1 ft
 ·cases h2 : tb (inb x1.length s0.c4)
  ·intro g0 g1
   exact absurd g1 ft
  ·cases h3 : tb (inb x3.length s0.c4)
   ·intro g0 g1
    exact absurd g1 ft
   ·cases h4 : tb (((gt x1 s0.c4) : Int) != (gt x3 s0.c4))
    ·intro g0 g1
     exact absurd g0 tf
    ·intro g0 g1
     exact Z8 [.o 13 (fun _ => Zcd (enc := (encI .u8)) (l := x1) (fl := true) (n := x0) (s := 1)), .b (tbE h1), .o 19 (fun _ => Zgq (enc := (encI .u8)) (l := x1) (fl := true) (n := x0) (s := 1) (k := .i64) (tbE h2)), .o 23 (fun _ => Zgq (enc := (encI .u8)) (l := x3) (fl := true) (n := x2) (s := 1) (k := .i64) (tbE h3)), .b (tbE h4)] (by kernel_rfl)
theorem Zwm (x0 : Bool) (x1 : List Int) (x2 : Bool) (x3 : List Int) (x4 : Int) (s0 : Zb7) : Zet x1 x3 s0 = false → Zgc x1 x3 s0 = false → Zja x1 s0 = true → (roundG (runC E0 (cl E0) L20_0) [0, 1, 5] [4] 0) (Zj8 x0 x1 x2 x3 x4 s0) = some ((.exit 0), ([V.un], [])) := by
 unfold Zet Zgc Zja
 cases h1 : tb (decide (s0.c4 < ((x1.length : Nat) : Int)))
 ·intro g0 g1 g2
  exact Z8 [.o 13 (fun _ => Zcd (enc := (encI .u8)) (l := x1) (fl := true) (n := x0) (s := 1)), .b (tbE h1)] (by kernel_rfl)
 ·cases h2 : tb (inb x1.length s0.c4)
  ·intro g0 g1 g2
   exact absurd g2 ft
  ·cases h3 : tb (inb x3.length s0.c4)
   ·intro g0 g1 g2
    exact absurd g2 ft
   ·cases h4 : tb (((gt x1 s0.c4) : Int) != (gt x3 s0.c4))
    ·intro g0 g1 g2
     exact absurd g0 tf
    ·intro g0 g1 g2
     exact absurd g1 tf
theorem Zuq (x0 : Bool) (x1 : List Int) (x2 : Bool) (x3 : List Int) (x4 : Int) (s : Zb7) (hok : Zlv x1 x3 s = true) (c0 : Zgc x1 x3 (Ze7 x1 x3 s) = true) : loopG (roundG (runC E0 (cl E0) L20_0) [0, 1, 5] [4] 0) bound (Zj8 x0 x1 x2 x3 x4 s) = some (.ret, ([(V.d (.bool false))], [])) := by
 have e : itS (Zet x1 x3) (Zi9 x1 x3) bound s = some (Ze7 x1 x3 s) := Zgn hok
 have f := Ze1 e
 exact Zgh (Zrd x0 x1 x2 x3 x4) bound s _ _ _ e (fun h => by cases h) (Zwp x0 x1 x2 x3 x4 (Ze7 x1 x3 s) f c0)
theorem Zus (x0 : Bool) (x1 : List Int) (x2 : Bool) (x3 : List Int) (x4 : Int) (s : Zb7) (hok : Zlv x1 x3 s = true) (c0 : Zgc x1 x3 (Ze7 x1 x3 s) = false) (c1 : Zja x1 (Ze7 x1 x3 s) = true) : loopG (roundG (runC E0 (cl E0) L20_0) [0, 1, 5] [4] 0) bound (Zj8 x0 x1 x2 x3 x4 s) = some ((.exit 0), ([V.un], [])) := by
 have e : itS (Zet x1 x3) (Zi9 x1 x3) bound s = some (Ze7 x1 x3 s) := Zgn hok
 have f := Ze1 e
 exact Zgh (Zrd x0 x1 x2 x3 x4) bound s _ _ _ e (fun h => by cases h) (Zwm x0 x1 x2 x3 x4 (Ze7 x1 x3 s) f c0 c1)
def Zkw (x1 x3 : List Int) : Bool := (bif tb ((((x1.length : Nat) : Int) : Int) != ((x3.length : Nat) : Int)) then true else (bif tb (Zlv x1 x3 (⟨0⟩ : Zb7)) then (bif tb (Zgc x1 x3 (Ze7 x1 x3 (⟨0⟩ : Zb7))) then true else (bif tb (Zja x1 (Ze7 x1 x3 (⟨0⟩ : Zb7))) then true else false)) else false))
def Zjx (x1 x3 : List Int) : Bool := (bif tb ((((x1.length : Nat) : Int) : Int) != ((x3.length : Nat) : Int)) then false else (bif tb (Zgc x1 x3 (Ze7 x1 x3 (⟨0⟩ : Zb7))) then false else true))
theorem Zyw (x0 : Bool) (x1 : List Int) (x2 : Bool) (x3 : List Int) : Zkw x1 x3 = true → cl E0 20 [(V.d (slD (encI .u8) true 1 x0 x1)), (V.d (slD (encI .u8) true 1 x2 x3))] [] = some ([(V.d (.bool (Zjx x1 x3)))], []) := by
 unfold Zkw Zjx
 cases h1 : tb ((((x1.length : Nat) : Int) : Int) != ((x3.length : Nat) : Int))
 ·cases h2 : tb (Zlv x1 x3 (⟨0⟩ : Zb7))
  ·exact ZN
  ·cases h3 : tb (Zgc x1 x3 (Ze7 x1 x3 (⟨0⟩ : Zb7)))
   ·cases h4 : tb (Zja x1 (Ze7 x1 x3 (⟨0⟩ : Zb7)))
    ·exact ZN
    ·exact fun g0 => w20 [.o 7 (fun _ => Zcd (enc := (encI .u8)) (l := x1) (fl := true) (n := x0) (s := 1)), .o 9 (fun _ => Zcd (enc := (encI .u8)) (l := x3) (fl := true) (n := x2) (s := 1)), .b (tbE h1), .l (Zus x0 x1 x2 x3 0 (⟨0⟩ : Zb7) (tbE h2) (tbE h3) (tbE h4))] (by kernel_rfl)
   ·exact fun g0 => w20 [.o 7 (fun _ => Zcd (enc := (encI .u8)) (l := x1) (fl := true) (n := x0) (s := 1)), .o 9 (fun _ => Zcd (enc := (encI .u8)) (l := x3) (fl := true) (n := x2) (s := 1)), .b (tbE h1), .l (Zuq x0 x1 x2 x3 0 (⟨0⟩ : Zb7) (tbE h2) (tbE h3))] (by kernel_rfl)
 ·exact fun g0 => w20 [.o 7 (fun _ => Zcd (enc := (encI .u8)) (l := x1) (fl := true) (n := x0) (s := 1)), .o 9 (fun _ => Zcd (enc := (encI .u8)) (l := x3) (fl := true) (n := x2) (s := 1)), .b (tbE h1)] (by kernel_rfl)
end Go.Proofs.Ytkipngagfiaddaa.Den

namespace Go.Proofs.Ytkipngagfiaddaa.Den
open Go
set_option linter.unusedVariables false
set_option linter.unusedSimpArgs false
theorem xor16 {a b : Nat} (h1 : a < 65536) (h2 : b < 65536) : a ^^^ b < 65536 := Nat.xor_lt_two_pow (n := 16) h1 h2
def topN (n : Nat) : Nat := n / 32768 % 2
def stepN (n : Nat) : Nat := if topN n = 1 then (2 * n % 65536) ^^^ 4129 else 2 * n % 65536
theorem Z7d (n : Nat) : stepN n < 65536 := by
  unfold stepN
  split
  · exact xor16 (by omega) (by omega)
  · omega
def itN : Nat → Nat → Nat
  | 0, c => c
  | k + 1, c => stepN (itN k c)
theorem itN_lt (k : Nat) {c : Nat} (h : c < 65536) : itN k c < 65536 := by
  cases k with
  | zero => exact h
  | succ k => exact Z7d _
def byteN (c b : Nat) : Nat := itN 8 (c ^^^ (256 * b))
theorem Z68 {c b : Nat} (hc : c < 65536) (hb : b < 256) : byteN c b < 65536 := itN_lt 8 (xor16 hc (by omega))
def crcN (c : Nat) (l : List Nat) : Nat := l.foldl byteN c
theorem Z9m {l : List Nat} : ∀ {c : Nat}, c < 65536 → (∀ b ∈ l, b < 256) → crcN c l < 65536 := by
  induction l with
  | nil => intro c h _; exact h
  | cons b l ih => intro c h hl; exact ih (Z68 h (hl b (by simp))) (fun x hx => hl x (by simp [hx]))
theorem Z6u (c : Nat) (l k : List Nat) : crcN c (l ++ k) = crcN (crcN c l) k := by simp [crcN]
theorem bv_nat {a : Nat} (h : a < 9223372036854775808) : BitVec.ofInt 64 (a : Int) = BitVec.ofNat 64 a := by
  apply BitVec.eq_of_toNat_eq
  rw [BitVec.toNat_ofInt, BitVec.toNat_ofNat]
  omega
theorem Z2q {a b : Nat} (ha : a < 9223372036854775808) (hb : b < 9223372036854775808) : andI .i64 (a : Int) (b : Int) = ((a &&& b : Nat) : Int) := by
  show IntKind.i64.wrap ((BitVec.ofInt 64 (a : Int) &&& BitVec.ofInt 64 (b : Int)).toNat : Int) = _
  rw [bv_nat ha, bv_nat hb, BitVec.toNat_and, BitVec.toNat_ofNat, BitVec.toNat_ofNat, Nat.mod_eq_of_lt (a := a) (by omega), Nat.mod_eq_of_lt (a := b) (by omega)]
  have := @Nat.and_le_left a b
  exact wrap64 (by omega) (by omega)
theorem Z18 {a b : Nat} (ha : a < 9223372036854775808) (hb : b < 9223372036854775808) : xorI .i64 (a : Int) (b : Int) = ((a ^^^ b : Nat) : Int) := by
  show IntKind.i64.wrap ((BitVec.ofInt 64 (a : Int) ^^^ BitVec.ofInt 64 (b : Int)).toNat : Int) = _
  rw [bv_nat ha, bv_nat hb, BitVec.toNat_xor, BitVec.toNat_ofNat, BitVec.toNat_ofNat, Nat.mod_eq_of_lt (a := a) (by omega), Nat.mod_eq_of_lt (a := b) (by omega)]
  have : a ^^^ b < 2 ^ 63 := Nat.xor_lt_two_pow (by omega) (by omega)
  exact wrap64 (by omega) (by omega)
theorem Z8u (n : Nat) : n &&& 32768 = 32768 * topN n := by
  apply Nat.eq_of_testBit_eq
  intro j
  rw [Nat.testBit_and, show (32768 : Nat) = 2 ^ 15 from rfl, Nat.testBit_two_pow, Nat.testBit_two_pow_mul]
  by_cases h : 15 = j
  · subst h
    simp [topN, Nat.testBit_eq_decide_div_mod_eq]
  · simp only [h, decide_false, Bool.and_false]
    by_cases h2 : 15 ≤ j
    · have h3 : topN n < 2 ^ (j - 15) := by
        have : topN n < 2 ^ 1 := by unfold topN; omega
        exact Nat.lt_of_lt_of_le this (Nat.pow_le_pow_right (by omega) (by omega))
      rw [Nat.testBit_lt_two_pow h3]; simp
    · simp [h2]
theorem Z72 (n : Nat) : n &&& 65535 = n % 65536 := Nat.and_two_pow_sub_one_eq_mod n 16
def nats (l : List Int) : List Nat := l.map Int.toNat
theorem Z8t {l : List Int} (h : ∀ z ∈ l, WfI .u8 z) : ∀ b ∈ nats l, b < 256 := by
  intro b hb
  obtain ⟨z, hz, rfl⟩ := List.mem_map.1 hb
  have := wfI_u8 (h z hz)
  omega
def crcI (c : Nat) (l : List Int) : Nat := crcN c (nats l)
end Go.Proofs.Ytkipngagfiaddaa.Den

namespace Go.Proofs.Ytkipngagfiaddaa.Den
open Go
set_option linter.unusedVariables false
set_option linter.unusedSimpArgs false
theorem Z7k {n : Nat} (h : n < 4294967296) : shlI .i64 (n : Int) 8 = ((256 * n : Nat) : Int) := by
  show IntKind.i64.wrap ((n : Int) * 2 ^ (min (8 : Int).toNat 64)) = _
  have : (2 : Int) ^ (min (8 : Int).toNat 64) = 256 := by decide
  rw [this, wrap64 (by omega) (by omega)]; omega
theorem Z6z {n : Nat} (h : n < 4294967296) : shlI .i64 (n : Int) 1 = ((2 * n : Nat) : Int) := by
  show IntKind.i64.wrap ((n : Int) * 2 ^ (min (1 : Int).toNat 64)) = _
  have : (2 : Int) ^ (min (1 : Int).toNat 64) = 2 := by decide
  rw [this, wrap64 (by omega) (by omega)]; omega
theorem Z80 {n : Nat} (h : n < 65536) : Zky (n : Int) = (stepN n : Int) := by
  have e1 : andI .i64 (n : Int) 32768 = ((32768 * topN n : Nat) : Int) := by rw [← Z8u]; exact Z2q (b := 32768) (by omega) (by omega)
  have e2 : andI .i64 (shlI .i64 (n : Int) 1) 65535 = ((2 * n % 65536 : Nat) : Int) := by rw [Z6z (by omega), ← Z72]; exact Z2q (b := 65535) (by omega) (by omega)
  have e3 : xorI .i64 ((2 * n % 65536 : Nat) : Int) 4129 = (((2 * n % 65536) ^^^ 4129 : Nat) : Int) := Z18 (b := 4129) (by omega) (by omega)
  have ht : topN n < 2 := by unfold topN; omega
  unfold Zky stepN
  rw [e1, e2, e3]
  by_cases h1 : topN n = 1
  · simp [h1]
  · have : topN n = 0 := by omega
    simp [this]
theorem crcL0 {c : Nat} (h : c < 65536) : Zlo ⟨0, (c : Int)⟩ = true ∧ (Zk5 ⟨0, (c : Int)⟩).c5 = (itN 8 c : Int) := by
  obtain ⟨s1, e, ⟨k, h1, h2⟩, h3⟩ := Zs5 (sel := Zhi) (nx := Zi5) (s0 := ⟨0, (c : Int)⟩) 8 (fun s => s.c4) (fun s => ∃ k : Nat, s.c4 = k ∧ s.c5 = (itN k c : Int)) (by omega) ⟨0, rfl, rfl⟩ (by simp) (by simp)
    (fun s ⟨k, h1, h2⟩ g1 g2 => by
      have e : (wi (s.c4 + 1)) = s.c4 + 1 := wi_eq (by omega) (by omega)
      refine ⟨by simp [Zhi, g2], ⟨k + 1, ?_, ?_⟩, e⟩
      · simp only [Zi5, e]; omega
      · simp only [Zi5, h2]; exact Z80 (itN_lt k h))
    (fun s _ g => by simp [Zhi, g])
  have hk : k = 8 := by omega
  subst hk
  simp [Zlo, Zk5, e, h2]
theorem Z1g {l : List Int} {k : Nat} (h : k < l.length) (c : Nat) : crcI c (l.take (k + 1)) = byteN (crcI c (l.take k)) (l[k]).toNat := by
  unfold crcI nats
  rw [List.take_succ_eq_append_getElem h, List.map_append, Z6u]
  rfl
def Byt (l : List Int) : Prop := ∀ z ∈ l, WfI .u8 z
theorem Byt.take {l : List Int} (h : Byt l) (k : Nat) : Byt (l.take k) := fun z hz => h z (List.mem_of_mem_take hz)
theorem Byt.drop {l : List Int} (h : Byt l) (k : Nat) : Byt (l.drop k) := fun z hz => h z (List.mem_of_mem_drop hz)
theorem Z0n {c : Nat} {l : List Int} (hc : c < 65536) (h : Byt l) : crcI c l < 65536 := Z9m hc (Z8t h)
theorem crcL1 {c : Nat} {l : List Int} (h : c < 65536) (hl : Byt l) (hn : l.length < 1152921504606846976) : ∃ s1, itS (Zgp l l.length) (Zif l l.length) bound ⟨0, (c : Int)⟩ = some s1 ∧ s1.c3 = l.length ∧ s1.c4 = (crcI c l : Int) := by
  obtain ⟨s1, e, ⟨k, h1, h2, h4⟩, h3⟩ := Zs5 (sel := Zgp l l.length) (nx := Zif l l.length) (s0 := ⟨0, (c : Int)⟩) l.length (fun s => s.c3) (fun s => ∃ k : Nat, s.c3 = k ∧ k ≤ l.length ∧ s.c4 = (crcI c (l.take k) : Int)) (by omega) ⟨0, rfl, by omega, rfl⟩ (by simp) (by simp)
    (fun s ⟨k, h1, h2, h4⟩ g1 g2 => by
      have e : (wi (s.c3 + 1)) = s.c3 + 1 := wi_eq (by omega) (by omega)
      have hk : k < l.length := by omega
      have hg : gt l s.c3 = ((l[k]).toNat : Int) := by
        rw [h1, gt_nat hk]; have := wfI_u8 (hl _ (List.getElem_mem hk)); omega
      have hb : (l[k]).toNat < 256 := by have := wfI_u8 (hl _ (List.getElem_mem hk)); omega
      have hc := Z0n h (hl.take k)
      have hx : xorI .i64 s.c4 (shlI .i64 (wi (gt l s.c3)) 8) = ((crcI c (l.take k) ^^^ (256 * (l[k]).toNat) : Nat) : Int) := by
        rw [hg, wi_eq (x := ((l[k]).toNat : Int)) (by omega) (by omega), Z7k (by omega), h4]; exact Z18 (by omega) (by omega)
      obtain ⟨q1, q2⟩ := crcL0 (xor16 hc (by omega : 256 * (l[k]).toNat < 65536))
      refine ⟨by simp [Zgp, g2, inb_of g1 g2, hx, q1], ⟨k + 1, ?_, by omega, ?_⟩, e⟩
      · simp only [Zif, e]; omega
      · simp only [Zif, Zq2, hx, q2, Z1g hk]; rfl)
    (fun s _ g => by simp [Zgp, g])
  have hk : k = l.length := by omega
  subst hk
  exact ⟨s1, e, h1, by rw [h4, List.take_length]⟩
def moreI (x : Int) (l : List Int) : Int := if 0 ≤ x ∧ x ≤ 65535 then (crcI x.toNat l : Int) else 0
theorem Z31 (x : Int) {l : List Int} (hl : Byt l) (hn : l.length < 1152921504606846976) : Zk6 x l = true ∧ Zdg x l = moreI x l := by
  by_cases h1 : x < 0
  · simp [Zk6, Zdg, Zhu, h1, moreI]; omega
  by_cases h2 : 65535 < x
  · simp [Zk6, Zdg, Zhu, h1, h2, moreI]; omega
  obtain ⟨s1, e, g1, g2⟩ := crcL1 (c := x.toNat) (by omega) hl hn
  rw [show ((x.toNat : Nat) : Int) = x by omega] at e
  have h3 : 0 ≤ x ∧ x ≤ 65535 := by omega
  simp [Zk6, Zdg, Zhu, Zmm, Zmk, h1, h2, moreI, h3, Zoe, Zk2, e, Zln, g1, g2]
theorem Z2y {a b : Nat} (ha : a < 65536) (hb : b < 65536) : Zg7 (a : Int) (b : Int) = true ∧ (Zlp (a : Int) (b : Int)).c0 = ((a ^^^ b : Nat) : Int) := by
  obtain ⟨s1, e, ⟨k, h1, h2, c, p, h4, h5, h6, h7, h8⟩, h3⟩ := Zs5 (sel := Zf6) (nx := Zha) (s0 := ⟨0, 1, (a : Int), (b : Int), 0⟩) 16 (fun s => s.c4)
    (fun s => ∃ k : Nat, s.c4 = k ∧ k ≤ 16 ∧ ∃ c p : Nat, s.c0 = c ∧ s.c1 = p ∧ p = 2 ^ k ∧ (s.c2 = ((a / p : Nat) : Int) ∧ s.c3 = ((b / p : Nat) : Int)) ∧ c + p * ((a / p) ^^^ (b / p)) = a ^^^ b) (by omega) ⟨0, rfl, by omega, 0, 1, rfl, rfl, rfl, by simp, by simp⟩ (by simp) (by simp)
    (fun s ⟨k, h1, h2, c, p, h4, h5, h6, ⟨h7, h7'⟩, h8⟩ g1 g2 => by
      have e : (wi (s.c4 + 1)) = s.c4 + 1 := wi_eq (by omega) (by omega)
      have hp0 : 0 < p := by rw [h6]; exact Nat.two_pow_pos k
      have hp : p ≤ 32768 := by
        have : (2 : Nat) ^ k ≤ 2 ^ 15 := Nat.pow_le_pow_right (by omega) (by omega)
        omega
      have hx := xor16 ha hb
      have hc : c ≤ a ^^^ b := by rw [← h8]; omega
      have hpa : a / p ≤ a := Nat.div_le_self a p
      have hpb : b / p ≤ b := Nat.div_le_self b p
      have e1 : wi (2 * s.c1) = ((2 * p : Nat) : Int) := by rw [h5, wi_eq (x := 2 * (p : Int)) (by omega) (by omega)]; omega
      have e2 : wi (s.c0 + s.c1) = ((c + p : Nat) : Int) := by rw [h4, h5, wi_eq (x := (c : Int) + (p : Int)) (by omega) (by omega)]; omega
      have q : ∀ n : Nat, n < 65536 → quoI .i64 (n : Int) 2 = ((n / 2 : Nat) : Int) := fun n hn => by
        unfold quoI
        rw [show ((n : Int).tdiv 2) = ((n / 2 : Nat) : Int) from rfl]; exact wrap64 (by omega) (by omega)
      have r : ∀ n : Nat, remI .i64 (n : Int) 2 = ((n % 2 : Nat) : Int) := fun n => rfl
      have ea : a / (2 * p) = a / p / 2 := by rw [Nat.mul_comm, Nat.div_div_eq_div_mul]
      have eb : b / (2 * p) = b / p / 2 := by rw [Nat.mul_comm, Nat.div_div_eq_div_mul]
      have xm := @Nat.xor_mod_two_eq_one (a / p) (b / p)
      have xd := @Nat.xor_div_two (a / p) (b / p)
      have pk : 2 * p = 2 ^ (k + 1) := by rw [h6, Nat.pow_succ]; omega
      have fin : ∀ z : Nat, z = c + p * (((a / p) ^^^ (b / p)) % 2) → z + 2 * p * ((a / (2 * p)) ^^^ (b / (2 * p))) = a ^^^ b := fun z hz => by
        rw [ea, eb, ← xd, hz, ← h8]
        have : (a / p ^^^ b / p) = 2 * ((a / p ^^^ b / p) / 2) + (a / p ^^^ b / p) % 2 := by omega
        generalize (a / p ^^^ b / p) = y at *
        conv => rhs; rw [this, Nat.mul_add]
        rw [Nat.mul_comm 2 p, Nat.mul_assoc]
        omega
      refine ⟨by simp [Zf6, g2], ?_, ?_⟩
      · by_cases hd : (remI .i64 s.c2 2 : Int) = remI .i64 s.c3 2
        · have hm : (a / p ^^^ b / p) % 2 = 0 := by
            rw [h7, h7', r, r] at hd
            have : (a / p) % 2 = (b / p) % 2 := by omega
            rw [this] at xm
            have : ¬ (a / p ^^^ b / p) % 2 = 1 := by rw [xm]; simp
            omega
          simp only [Zha, hd, bne_self_eq_false, tb_eq, cond_false]
          exact ⟨k + 1, by rw [e]; omega, by omega, c, 2 * p, h4, e1, pk, ⟨by rw [h7, q _ (by omega), ea], by rw [h7', q _ (by omega), eb]⟩, fin c (by rw [hm]; omega)⟩
        · have hm : (a / p ^^^ b / p) % 2 = 1 := by
            rw [h7, h7', r, r] at hd
            have : ¬ (a / p) % 2 = (b / p) % 2 := by omega
            rw [xm]; omega
          simp only [Zha, bne_iff_ne.2 hd, tb_eq, cond_true]
          exact ⟨k + 1, by rw [e]; omega, by omega, c + p, 2 * p, e2, e1, pk, ⟨by rw [h7, q _ (by omega), ea], by rw [h7', q _ (by omega), eb]⟩, fin (c + p) (by rw [hm]; omega)⟩
      · by_cases hd : tb ((remI .i64 s.c2 2 : Int) != remI .i64 s.c3 2) = true <;> simp only [Zha, hd, cond_true, cond_false, e])
    (fun s _ g => by simp [Zf6, g])
  have hk : k = 16 := by omega
  subst hk
  have ea : a / p = 0 := by rw [h6]; exact Nat.div_eq_of_lt (by omega)
  have eb : b / p = 0 := by rw [h6]; exact Nat.div_eq_of_lt (by omega)
  rw [ea, eb, Nat.xor_self, Nat.mul_zero, Nat.add_zero] at h8
  simp [Zg7, Zlp, Zmr, Zk3, e, h4, h8]
theorem Z3z {n : Nat} (h : n < 65536) : topN n = 1 ↔ 32768 ≤ n := by unfold topN; omega
theorem refL0 {c : Nat} (h : c < 65536) : Zki ⟨(c : Int), 0⟩ = true ∧ (Zh3 ⟨(c : Int), 0⟩).c2 = (itN 8 c : Int) ∧ Zic (Zh3 ⟨(c : Int), 0⟩) = true := by
  obtain ⟨s1, e, ⟨k, h1, h2⟩, h3⟩ := Zs5 (sel := Zfy) (nx := Zfv) (s0 := ⟨(c : Int), 0⟩) 8 (fun s => s.c4) (fun s => ∃ k : Nat, s.c4 = k ∧ s.c2 = (itN k c : Int)) (by omega) ⟨0, rfl, rfl⟩ (by simp) (by simp)
    (fun s ⟨k, h1, h2⟩ g1 g2 => by
      have e : (wi (s.c4 + 1)) = s.c4 + 1 := wi_eq (by omega) (by omega)
      have hi := itN_lt k h
      have hm : remI .i64 (wi (2 * s.c2)) 65536 = ((2 * itN k c % 65536 : Nat) : Int) := by
        rw [h2, wi_eq (x := 2 * (itN k c : Int)) (by omega) (by omega)]
        unfold remI
        rw [show (2 * (itN k c : Int)) = ((2 * itN k c : Nat) : Int) by omega]; rfl
      obtain ⟨q1, q2⟩ := Z2y (a := 2 * itN k c % 65536) (b := 4129) (by omega) (by omega)
      have q1' : Zg7 ((2 * itN k c % 65536 : Nat) : Int) 4129 = true := q1
      have q2' : (Zlp ((2 * itN k c % 65536 : Nat) : Int) 4129).c0 = _ := q2
      by_cases hd : 32768 ≤ s.c2
      · have hs : stepN (itN k c) = (2 * itN k c % 65536) ^^^ 4129 := by unfold stepN; rw [if_pos ((Z3z hi).2 (by omega))]
        refine ⟨by simp only [Zfy, g2, hd, hm, q1', decide_true, tb_eq, cond_true], ⟨k + 1, ?_, ?_⟩, ?_⟩
        · simp only [Zfv, e, hd, decide_true, tb_eq, cond_true]; omega
        · simp only [Zfv, hd, decide_true, tb_eq, cond_true, hm, q2']; rw [← hs]; rfl
        · simp only [Zfv, e, hd, decide_true, tb_eq, cond_true]
      · have hs : stepN (itN k c) = (2 * itN k c % 65536) := by unfold stepN; rw [if_neg (by rw [Z3z hi]; omega)]
        refine ⟨by simp [Zfy, g2, hd], ⟨k + 1, ?_, ?_⟩, ?_⟩
        · simp only [Zfv, e, hd, decide_false, tb_eq, cond_false]; omega
        · simp only [Zfv, hd, decide_false, tb_eq, cond_false, hm]; rw [← hs]; rfl
        · simp only [Zfv, e, hd, decide_false, tb_eq, cond_false])
    (fun s _ g => by simp [Zfy, g])
  have hk : k = 8 := by omega
  subst hk
  simp [Zki, Zh3, e, h2, Zic, h3]
theorem refL1 {c : Nat} {l : List Int} (h : c < 65536) (hl : Byt l) (hn : l.length < 1152921504606846976) : ∃ s1, itS (Zfz l) (Zhp l) bound ⟨(c : Int), 0⟩ = some s1 ∧ s1.c3 = l.length ∧ s1.c2 = (crcI c l : Int) := by
  obtain ⟨s1, e, ⟨k, h1, h2, h4⟩, h3⟩ := Zs5 (sel := Zfz l) (nx := Zhp l) (s0 := ⟨(c : Int), 0⟩) l.length (fun s => s.c3) (fun s => ∃ k : Nat, s.c3 = k ∧ k ≤ l.length ∧ s.c2 = (crcI c (l.take k) : Int)) (by omega) ⟨0, rfl, by omega, rfl⟩ (by simp) (by simp)
    (fun s ⟨k, h1, h2, h4⟩ g1 g2 => by
      have e : (wi (s.c3 + 1)) = s.c3 + 1 := wi_eq (by omega) (by omega)
      have hk : k < l.length := by omega
      have hg : gt l s.c3 = ((l[k]).toNat : Int) := by
        rw [h1, gt_nat hk]; have := wfI_u8 (hl _ (List.getElem_mem hk)); omega
      have hb : (l[k]).toNat < 256 := by have := wfI_u8 (hl _ (List.getElem_mem hk)); omega
      have hc := Z0n h (hl.take k)
      have hw : wi (256 * (wi (gt l s.c3))) = ((256 * (l[k]).toNat : Nat) : Int) := by
        rw [hg, wi_eq (x := ((l[k]).toNat : Int)) (by omega) (by omega), wi_eq (x := 256 * ((l[k]).toNat : Int)) (by omega) (by omega)]; omega
      obtain ⟨p1, p2⟩ := Z2y hc (by omega : 256 * (l[k]).toNat < 65536)
      obtain ⟨q1, q2, q3⟩ := refL0 (xor16 hc (by omega : 256 * (l[k]).toNat < 65536))
      have he0 : Zhl l s = ((crcI c (l.take k) ^^^ (256 * (l[k]).toNat) : Nat) : Int) := by unfold Zhl; rw [hw, h4, p2]
      refine ⟨by simp only [Zfz, g2, inb_of g1 g2, hw, h4, p1, he0, q1, Zi0, q3, decide_true, tb_eq, cond_true], ⟨k + 1, ?_, by omega, ?_⟩, e⟩
      · simp only [Zhp, e]; omega
      · simp only [Zhp, Zi0, he0, q2, Z1g hk]; rfl)
    (fun s _ g => by simp [Zfz, g])
  have hk : k = l.length := by omega
  subst hk
  exact ⟨s1, e, h1, by rw [h4, List.take_length]⟩
theorem Z3b (x : Int) {l : List Int} (hl : Byt l) (hn : l.length < 1152921504606846976) : Zj0 x l = true ∧ Zff x l = moreI x l := by
  by_cases h1 : x < 0
  · simp [Zj0, Zff, Zgz, Zi8, h1, moreI]; omega
  by_cases h2 : 65535 < x
  · simp [Zj0, Zff, Zgz, Zi8, h1, h2, moreI]; omega
  obtain ⟨s1, e, g1, g2⟩ := refL1 (c := x.toNat) (by omega) hl hn
  rw [show ((x.toNat : Nat) : Int) = x by omega] at e
  have h3 : 0 ≤ x ∧ x ≤ 65535 := by omega
  simp [Zj0, Zff, Zgz, Zi8, h1, h2, moreI, h3, Zm3, Zhc, e, Zkh, g1, g2]
theorem Z7a {l k : List Int} (hl : l.length < 1152921504606846976) : Zf7 l k = true ∧ Zfr l k = decide (l = k) := by
  by_cases h : l.length = k.length
  · obtain ⟨s1, e, g0, g⟩ := Z4b (sel := Zcv l k l.length) (nx := Zg4 l k l.length) (s0 := ⟨0⟩) h (fun s => s.c5) hl rfl
      (fun s a1 a2 => by show wi _ = _; exact wi_eq (by omega) (by omega))
      (fun s a1 a2 => by
        by_cases hi : s.c5 < l.length
        · have i1 := inb_of a1 hi
          have i2 : inb k.length s.c5 = true := by rw [← h]; exact i1
          by_cases q : gt l s.c5 = gt k s.c5
          · simp [Zcv, hi, i1, i2, q]
          · simp [Zcv, hi, i1, i2, q, bne]
        · simp [Zcv, hi])
    have hne : ((((l.length : Nat) : Int) : Int) != ((k.length : Nat) : Int)) = false := by simp [h]
    simp only [Zf7, Zfr, Zin, Zis, Zfg, e, hne, tb_eq, cond_false, Option.isSome_some, cond_true, Option.getD_some]
    rcases g with ⟨a, b⟩ | ⟨a, b, c⟩
    · simp [Zec, Zg3, a, b]
    · have i1 := inb_of g0 a
      have i2 : inb k.length s1.c5 = true := by rw [← h]; exact i1
      simp [Zec, Zg3, a, c, i1, i2]
  · have hne : ((((l.length : Nat) : Int) : Int) != ((k.length : Nat) : Int)) = true := by simp; omega
    have : l ≠ k := fun e => h (by rw [e])
    simp [Zf7, Zfr, hne, this]
structure Sm (l : List Int) : Prop where
  b : Byt l
  n : l.length ≤ 1000
theorem Sm.n' {l : List Int} (h : Sm l) : l.length < 1152921504606846976 := by have := h.n; omega
def tail2 (l : List Int) : List Int := [((crcI 65535 l / 256 : Nat) : Int), ((crcI 65535 l % 256 : Nat) : Int)]
def sealed (l : List Int) : List Int := l ++ tail2 l
theorem Zxv {n : Nat} : IntKind.u8.wrap (n : Int) = ((n % 256 : Nat) : Int) := by
  unfold IntKind.wrap; simp [IntKind.bits, IntKind.signed]
theorem more_f {l : List Int} (h : Sm l) : Zdg 65535 l = (crcI 65535 l : Int) := by
  rw [(Z31 65535 h.b h.n').2]; simp [moreI]
theorem Z8b {l : List Int} (h : Sm l) : Zff 65535 l = (crcI 65535 l : Int) := by
  rw [(Z3b 65535 h.b h.n').2]; simp [moreI]
theorem sumc {l : List Int} (h : Sm l) : Zof l = true := by simp [Zof, (Z31 65535 h.b h.n').1]
theorem rsumc {l : List Int} (h : Sm l) : Zk0 l = true := by simp [Zk0, (Z3b 65535 h.b h.n').1]
theorem Sm.crc {l : List Int} (h : Sm l) : crcI 65535 l < 65536 := Z0n (by omega) h.b
theorem Z39 {l : List Int} (h : Sm l) : [(IntKind.u8.wrap (shrI .i64 (Zdg 65535 l) 8)), (IntKind.u8.wrap ((Zdg 65535 l)))] = tail2 l := by
  have hc := h.crc
  have e : shrI .i64 (crcI 65535 l : Int) 8 = ((crcI 65535 l / 256 : Nat) : Int) := by
    show (crcI 65535 l : Int).fdiv (2 ^ (min (8 : Int).toNat 64)) = _
    rw [show (2 : Int) ^ (min (8 : Int).toNat 64) = 256 by decide, Int.fdiv_eq_ediv_of_nonneg _ (by omega)]; omega
  rw [more_f h, e, Zxv, Zxv, Nat.mod_eq_of_lt (a := crcI 65535 l / 256) (by omega)]
  rfl
theorem Z9i (a : Bool) {l : List Int} (h : Sm l) : Zh9 a l = true ∧ Zij a l = (a && l.isEmpty) ∧ Zed a l = l := by
  have h1 : ((([] : List Int).length + l.length) * 1 ≤ 140737488355328) := by have := h.n; simp; omega
  cases l with
  | nil => cases a <;> simp [Zh9, Zij, Zed]
  | cons x l =>
    simp only [Zh9, Zij, Zed, h1, tb_eq]
    simp
theorem seal_r (a : Bool) {l : List Int} (h : Sm l) : Znj a l = true ∧ Zou a l = sealed l := by
  obtain ⟨c1, c2, c3⟩ := Z9i a h
  have h1 : (l.length + (tail2 l).length) * 1 ≤ 140737488355328 := by have := h.n; show (l.length + 2) * 1 ≤ _; omega
  constructor
  · simp only [Znj, sumc h, c1, c3, Z39 h, h1, decide_true, tb_eq, cond_true]
  · unfold Zou; rw [c3, Z39 h]; rfl
theorem rtail {l : List Int} (h : Sm l) : quoI .i64 (Zff 65535 l) 256 = ((crcI 65535 l / 256 : Nat) : Int) ∧ remI .i64 (Zff 65535 l) 256 = ((crcI 65535 l % 256 : Nat) : Int) := by
  have hc := h.crc
  rw [Z8b h]
  refine ⟨?_, rfl⟩
  unfold quoI
  rw [show ((crcI 65535 l : Int).tdiv 256) = ((crcI 65535 l / 256 : Nat) : Int) from rfl]
  exact wrap64 (by omega) (by omega)
def okS (l : List Int) : Bool := decide (2 ≤ l.length) && decide (sealed (l.take (l.length - 2)) = l)
theorem Sm.take {l : List Int} (h : Sm l) (k : Nat) : Sm (l.take k) := ⟨h.b.take k, by have := h.n; rw [List.length_take]; omega⟩
theorem cut_eq {l : List Int} (h : Sm l) (h2 : 2 ≤ l.length) : wi (((l.length : Nat) : Int) - 2) = ((l.length - 2 : Nat) : Int) ∧ sub l 0 (wi (((l.length : Nat) : Int) - 2)) = l.take (l.length - 2) ∧ ins l.length 0 (wi (((l.length : Nat) : Int) - 2)) = true := by
  have hn := h.n
  have e : wi (((l.length : Nat) : Int) - 2) = ((l.length - 2 : Nat) : Int) := by rw [wi_eq (x := (l.length : Int) - 2) (by omega) (by omega)]; omega
  refine ⟨e, ?_, ?_⟩
  · rw [e]; simp [sub]
  · rw [e]; simp [ins]
theorem Z8g {l : List Int} (h : 2 ≤ l.length) : l = l.take (l.length - 2) ++ [l[l.length - 2], l[l.length - 1]] := by
  conv => lhs; rw [← List.take_append_drop (l.length - 2) l]
  congr 1
  apply List.ext_getElem
  · simp; omega
  · intro i h1 h2
    rw [List.getElem_drop]
    simp at h2
    rcases (by omega : i = 0 ∨ i = 1) with rfl | rfl
    · simp
    · simp; congr 1; omega
theorem Z8i {l : List Int} (h : Sm l) : Zjf l = true ∧ Zq l = !(okS l) ∧ Zey l = okS l ∧ Zb l = if okS l then l.take (l.length - 2) else [] := by
  by_cases h2 : l.length < 2
  · have e2 : ((l.length : Nat) : Int) < 2 := by omega
    have e3 : ¬ 2 ≤ l.length := by omega
    simp [okS, Zjf, Zq, Zey, Zb, e2, e3]
  have h3 : 2 ≤ l.length := by omega
  have hn := h.n
  obtain ⟨c1, c2, c3⟩ := cut_eq h h3
  rw [c1] at c2 c3
  have hp := h.take (l.length - 2)
  have hneg : ¬ (((l.length : Nat) : Int) < 2) := by omega
  have e1 : wi (((l.length : Nat) : Int) - 1) = ((l.length - 1 : Nat) : Int) := by rw [wi_eq (x := (l.length : Int) - 1) (by omega) (by omega)]; omega
  have g1 : gt l ((l.length - 2 : Nat) : Int) = l[l.length - 2] := gt_nat (by omega)
  have g2 : gt l ((l.length - 1 : Nat) : Int) = l[l.length - 1] := gt_nat (by omega)
  have b1 := wfI_u8 (h.b _ (List.getElem_mem (show l.length - 2 < l.length by omega)))
  have b2 := wfI_u8 (h.b _ (List.getElem_mem (show l.length - 1 < l.length by omega)))
  have i1 : inb l.length ((l.length - 2 : Nat) : Int) = true := inb_of (by omega) (by omega)
  have i2 : inb l.length ((l.length - 1 : Nat) : Int) = true := inb_of (by omega) (by omega)
  have hl : (([] : List Int).length + (l.take (l.length - 2)).length) * 1 ≤ 140737488355328 := by rw [List.length_take]; simp; omega
  have ok : okS l = (decide (l[l.length - 2] = ((crcI 65535 (l.take (l.length - 2)) / 256 : Nat) : Int)) && decide (l[l.length - 1] = ((crcI 65535 (l.take (l.length - 2)) % 256 : Nat) : Int))) := by
    have hs : sealed (l.take (l.length - 2)) = l ↔ tail2 (l.take (l.length - 2)) = [l[l.length - 2], l[l.length - 1]] := by
      conv => lhs; rhs; rw [Z8g h3]
      unfold sealed
      rw [List.append_cancel_left_eq]
    unfold okS
    rw [Bool.eq_iff_iff]
    simp only [h3, decide_true, Bool.true_and, Bool.and_eq_true, decide_eq_true_eq, hs, tail2, List.cons.injEq, and_true]
    constructor <;> rintro ⟨a, b⟩ <;> exact ⟨a.symm, b.symm⟩
  rw [ok]
  simp only [Zjf, Zq, Zey, Zb, Zma, Zmd, hneg, c3, c2, c1, e1, rsumc hp, (rtail hp).1, (rtail hp).2, i1, i2, g1, g2, hl, decide_true, decide_false, tb_eq, cond_true, cond_false]
  rw [wi_eq (x := l[l.length - 2]) (by omega) (by omega), wi_eq (x := l[l.length - 1]) (by omega) (by omega)]
  simp only [bne]
  by_cases q1 : l[l.length - 2] = ((crcI 65535 (l.take (l.length - 2)) / 256 : Nat) : Int)
  · by_cases q2 : l[l.length - 1] = ((crcI 65535 (l.take (l.length - 2)) % 256 : Nat) : Int)
    · simp only [beq_iff_eq.2 q1, beq_iff_eq.2 q2, q1, q2]; simp
    · have : (l[l.length - 1] == ((crcI 65535 (l.take (l.length - 2)) % 256 : Nat) : Int)) = false := by simpa using q2
      simp only [beq_iff_eq.2 q1, this, q2, decide_false]; simp
  · have : (l[l.length - 2] == ((crcI 65535 (l.take (l.length - 2)) / 256 : Nat) : Int)) = false := by simpa using q1
    simp only [this, q1, decide_false]; simp
end Go.Proofs.Ytkipngagfiaddaa.Den

namespace Go.Proofs.Ytkipngagfiaddaa.Den
open Go Go.Proofs
set_option maxRecDepth 100000
set_option maxHeartbeats 4000000
set_option linter.unusedVariables false
set_option linter.unusedSimpArgs false
structure Zug where
 c3 : Int
 deriving Inhabited
end Go.Proofs.Ytkipngagfiaddaa.Den

namespace Go.Proofs.Ytkipngagfiaddaa.Den
open Go Go.Proofs
set_option maxRecDepth 100000
set_option maxHeartbeats 4000000
set_option linter.unusedVariables false
set_option linter.unusedSimpArgs false
structure Z3g where
 c1 : Int
 c10 : List Int
 deriving Inhabited
end Go.Proofs.Ytkipngagfiaddaa.Den

namespace Go.Proofs.Ytkipngagfiaddaa.Den
open Go Go.Proofs
set_option linter.unusedVariables false
set_option linter.unusedSimpArgs false
theorem Z7m {b : List Int} (hb : Byts b) (hl : b.length ≤ 1000000) (x : Bool) : Zik x b = (if b.length % 4 = 0 then b.length / 4 == 0 else true) := by
  have hrun := Z1n hb hl x
  have he : Zcg [] true x b = ⟨b.length / 4 == 0, fours b (b.length / 4), (b.length / 4 == 0) && x, b.drop (4 * (b.length / 4))⟩ := by
    simp only [Zcg, Zcl, hrun]; rfl
  simp only [Zik, rem4, he, tb_eq]
  by_cases h : b.length % 4 = 0
  · simp [h]
  · have : (((b.length % 4 : Nat) : Int) != 0) = true := by simp; omega
    simp only [this, cond_true, h, if_false]
def z8 : List Int := [0, 0, 0, 0, 0, 0, 0, 0]
theorem Z6j {B : List Int} {k : Nat} (hk : k < 8) : sta (fours B k ++ List.replicate (8 - k) 0) 8 (k : Int) (g4 ((B.drop (4 * k)).take 4)) = fours B (k + 1) ++ List.replicate (8 - (k + 1)) 0 := by
  have hl : (fours B k ++ List.replicate (8 - k) (0 : Int)).length = 8 := by simp [Zr7]; omega
  have ht : tab (fours B k ++ List.replicate (8 - k) (0 : Int)) 8 = fours B k ++ List.replicate (8 - k) 0 := by
    apply List.ext_getElem
    · rw [Z3x, hl]
    · intro i h1 h2
      simp only [tab, List.getElem_map, List.getElem_range]
      rw [gt_nat h2]
  unfold sta st
  rw [ht, Zvn]
  obtain ⟨m, hm⟩ : ∃ m, 8 - k = m + 1 := ⟨8 - k - 1, by omega⟩
  have hm2 : 8 - (k + 1) = m := by omega
  rw [hm, hm2, List.replicate_succ, Int.toNat_natCast, List.set_append_right _ _ (by rw [Zr7]; omega), Zr7, Nat.sub_self]
  simp
end Go.Proofs.Ytkipngagfiaddaa.Den

namespace Go.Proofs.Ytkipngagfiaddaa.Den
open Go Go.Proofs
set_option linter.unusedVariables false
set_option linter.unusedSimpArgs false
theorem arr8 {x : List Int} (h : x.length = 8) : [(gt x 0), (gt x 1), (gt x 2), (gt x 3), (gt x 4), (gt x 5), (gt x 6), (gt x 7)] = x := by
  match x, h with
  | [a, b, c, d, e, f, g, i], _ => rfl
def c3st0 : Nat → Zu
  | 0 => .h0 ⟨⟩
  | 1 => .h1 ⟨⟩
  | 2 => .h2 ⟨⟩
  | _ => .h3 ⟨⟩
def c3st2 : Nat → Zt
  | 0 => .h0 ⟨⟩
  | 1 => .h1 ⟨⟩
  | 2 => .h2 ⟨⟩
  | _ => .h3 ⟨⟩
theorem Z6l {a b c : List Int} (ha : a.length ≤ 1000) (hb : b.length ≤ 1000) (hc : c.length ≤ 1000) : Zfs a b c = true := by
  have w0 : wi (0 + ((a.length : Nat) : Int)) = ((a.length : Nat) : Int) := by rw [wi_eq (by omega) (by omega)]; omega
  have w1 : Zfd a b = ((a.length + b.length : Nat) : Int) := by unfold Zfd; rw [w0, wi_eq (by omega) (by omega)]; omega
  have w2 : Zbt a b c = ((a.length + b.length + c.length : Nat) : Int) := by unfold Zbt; rw [w1, wi_eq (by omega) (by omega)]; omega
  have r0 : itS (Zdr a b c) (Zgr a b c) bound (c3st0 0) = some (c3st0 3) := by
    refine Zmg c3st0 3 (by omega) (fun k hk => ?_) rfl
    rcases (by omega : k = 0 ∨ k = 1 ∨ k = 2) with rfl | rfl | rfl
    · refine ⟨?_, rfl⟩
      simp only [c3st0, Zdr, Zg8, w0, tb_eq]
      rw [decide_eq_false (by omega)]; rfl
    · refine ⟨?_, rfl⟩
      simp only [c3st0, Zdr, Zhg, w1, tb_eq]
      rw [decide_eq_false (by omega)]; rfl
    · refine ⟨?_, rfl⟩
      simp only [c3st0, Zdr, Zhb, w2, tb_eq]
      rw [decide_eq_false (by omega)]; rfl
  have r2 : itS (Zds a b c) (Zgs a b c) bound (c3st2 0) = some (c3st2 3) := by
    refine Zmg c3st2 3 (by omega) (fun k hk => ?_) rfl
    rcases (by omega : k = 0 ∨ k = 1 ∨ k = 2) with rfl | rfl | rfl
    · refine ⟨?_, rfl⟩
      simp only [c3st2, Zds, Zhd, tb_eq]
      rw [decide_eq_true (by simp; omega)]; rfl
    · refine ⟨?_, rfl⟩
      simp only [c3st2, Zds, Zhf, tb_eq]
      rw [decide_eq_true (by omega)]; rfl
    · refine ⟨?_, rfl⟩
      simp only [c3st2, Zds, Zg9, tb_eq]
      rw [decide_eq_true (by simp; omega)]; rfl
  have z0 : c3st0 0 = .h0 ⟨⟩ := rfl
  have z2 : c3st2 0 = .h0 ⟨⟩ := rfl
  rw [z0] at r0
  rw [z2] at r2
  have e0 : Zej a b c = .h3 ⟨⟩ := by simp only [Zej, Zcs, r0]; rfl
  have e1 : Zfa a b c = .h3 ⟨⟩ := by simp only [Zfa, Zct, r2]; rfl
  have s1 : Zf2 a b c = true := by
    simp only [Zf2, Zh2, r0, e0, tb_eq]; rfl
  have gr : Zkm ((a.length + b.length + c.length : Nat) : Int) = true := by
    simp only [Zkm, Bool.and_eq_true, decide_eq_true_eq]; omega
  simp only [Zfs, s1, w2, gr, Zh4, r2, e1, tb_eq]; rfl
theorem wf_u8 {z : Int} (h : 0 ≤ z ∧ z ≤ 255) : WfI .u8 z := by
  simp [WfI, Lit.wf, IntKind.min, IntKind.max, IntKind.signed, IntKind.bits]; omega
end Go.Proofs.Ytkipngagfiaddaa.Den

namespace Go.Proofs.Ytkipngagfiaddaa.Den
open Go Go.Proofs
set_option linter.unusedVariables false
set_option linter.unusedSimpArgs false
theorem p2_g2 {l : List Int} (hl : Byts l) (h : l.length = 2) : p2 (g2 l) = l ∧ n16 (g2 l) = true := by
  obtain ⟨a, b, rfl⟩ := len2 h
  have ha := hl a (by simp)
  have hb := hl b (by simp)
  simp only [g2, p2, Zso]
  refine ⟨?_, by omega, by omega⟩
  simp; omega
end Go.Proofs.Ytkipngagfiaddaa.Den

namespace Go.Proofs.Ytkipngagfiaddaa.Den
open Go Go.Proofs
set_option maxRecDepth 100000
set_option maxHeartbeats 4000000
set_option linter.unusedVariables false
set_option linter.unusedSimpArgs false
def Zhj (x0 : Int) : Bool := (bif tb (decide (x0 < (-2147483648))) then true else (decide (2147483647 < x0)))
theorem Zqw (x0 : Int) : cl E0 50 [(V.d (.int .i64 x0))] [] = some ([(V.d (.bool (Zhj x0)))], []) := by
 unfold Zhj
 cases h1 : tb (decide (x0 < (-2147483648)))
 ·exact w50 [.b (tbE h1)] (by kernel_rfl)
 ·exact w50 [.b (tbE h1)] (by kernel_rfl)
structure Zk where
 c3 : Int
 deriving Inhabited
def Zd8 (x0 : Bool) (x1 : List Int) (x2 x3 : Int) (s0 : Zk) : List V × Mem := ([(V.d (slD (encI .i64) true 1 x0 x1)), (V.fn (.func 50) [] []), (V.d (.int .i64 x2)), (V.d (.int .i64 s0.c3))], [])
def Zbc (x1 : List Int) (x2 : Int) (s0 : Zk) : Bool := (bif tb (decide (s0.c3 < x2)) then (bif tb (inb x1.length s0.c3) then (bif tb (Zhj (gt x1 s0.c3)) then false else true) else false) else false)
def Zde (x1 : List Int) (x2 : Int) (s0 : Zk) : Zk := ⟨(wi (s0.c3 + 1))⟩
def Zfi (x1 : List Int) (x2 : Int) (s0 : Zk) : Bool := (itS (Zbc x1 x2) (Zde x1 x2) bound s0).isSome
def Zby (x1 : List Int) (x2 : Int) (s0 : Zk) : Zk := (itS (Zbc x1 x2) (Zde x1 x2) bound s0).getD default
theorem Zkq (x0 : Bool) (x1 : List Int) (x2 x3 : Int) (s0 : Zk) : Zbc x1 x2 s0 = true → (roundG (runC E0 (cl E0) L69_0) [0, 1, 7, 8] [4] 0) (Zd8 x0 x1 x2 x3 s0) = some (.normal, Zd8 x0 x1 x2 x3 (Zde x1 x2 s0)) := by
 unfold Zbc Zde
 cases h1 : tb (decide (s0.c3 < x2))
 ·exact ZN
 ·cases h2 : tb (inb x1.length s0.c3)
  ·exact ZN
  ·cases h3 : tb (Zhj (gt x1 s0.c3))
   ·exact fun _ => Z8 [.b (tbE h1), .o 14 (fun _ => Zgq (enc := (encI .i64)) (l := x1) (fl := true) (n := x0) (s := 1) (k := .i64) (tbE h2)), .c (Zqw (gt x1 s0.c3)), .b (tbE h3)] (by kernel_rfl)
   ·exact ZN
def Zbg (x1 : List Int) (x2 : Int) (s0 : Zk) : Bool := (bif tb (decide (s0.c3 < x2)) then (bif tb (inb x1.length s0.c3) then true else false) else false)
def Zdc (x2 : Int) (s0 : Zk) : Bool := (bif tb (decide (s0.c3 < x2)) then false else true)
theorem Zn7 (x0 : Bool) (x1 : List Int) (x2 x3 : Int) (s0 : Zk) : Zbc x1 x2 s0 = false → Zbg x1 x2 s0 = true → (roundG (runC E0 (cl E0) L69_0) [0, 1, 7, 8] [4] 0) (Zd8 x0 x1 x2 x3 s0) = some (.ret, ([(V.d (.int .i64 s0.c3))], [])) := by
 unfold Zbc Zbg
 cases h1 : tb (decide (s0.c3 < x2))
 ·intro g0 g1
  exact absurd g1 ft
 ·cases h2 : tb (inb x1.length s0.c3)
  ·intro g0 g1
   exact absurd g1 ft
  ·cases h3 : tb (Zhj (gt x1 s0.c3))
   ·intro g0 g1
    exact absurd g0 tf
   ·intro g0 g1
    exact Z8 [.b (tbE h1), .o 14 (fun _ => Zgq (enc := (encI .i64)) (l := x1) (fl := true) (n := x0) (s := 1) (k := .i64) (tbE h2)), .c (Zqw (gt x1 s0.c3)), .b (tbE h3)] (by kernel_rfl)
theorem Zob (x0 : Bool) (x1 : List Int) (x2 x3 : Int) (s0 : Zk) : Zbc x1 x2 s0 = false → Zbg x1 x2 s0 = false → Zdc x2 s0 = true → (roundG (runC E0 (cl E0) L69_0) [0, 1, 7, 8] [4] 0) (Zd8 x0 x1 x2 x3 s0) = some ((.exit 0), ([V.un], [])) := by
 unfold Zbc Zbg Zdc
 cases h1 : tb (decide (s0.c3 < x2))
 ·intro g0 g1 g2
  exact Z8 [.b (tbE h1)] (by kernel_rfl)
 ·cases h2 : tb (inb x1.length s0.c3)
  ·intro g0 g1 g2
   exact absurd g2 ft
  ·cases h3 : tb (Zhj (gt x1 s0.c3))
   ·intro g0 g1 g2
    exact absurd g0 tf
   ·intro g0 g1 g2
    exact absurd g1 tf
theorem Znf (x0 : Bool) (x1 : List Int) (x2 x3 : Int) (s : Zk) (hok : Zfi x1 x2 s = true) (c0 : Zbg x1 x2 (Zby x1 x2 s) = true) : loopG (roundG (runC E0 (cl E0) L69_0) [0, 1, 7, 8] [4] 0) bound (Zd8 x0 x1 x2 x3 s) = some (.ret, ([(V.d (.int .i64 ((Zby x1 x2 s).c3)))], [])) := by
 have e : itS (Zbc x1 x2) (Zde x1 x2) bound s = some (Zby x1 x2 s) := Zgn hok
 have f := Ze1 e
 exact Zgh (Zkq x0 x1 x2 x3) bound s _ _ _ e (fun h => by cases h) (Zn7 x0 x1 x2 x3 (Zby x1 x2 s) f c0)
theorem Zne (x0 : Bool) (x1 : List Int) (x2 x3 : Int) (s : Zk) (hok : Zfi x1 x2 s = true) (c0 : Zbg x1 x2 (Zby x1 x2 s) = false) (c1 : Zdc x2 (Zby x1 x2 s) = true) : loopG (roundG (runC E0 (cl E0) L69_0) [0, 1, 7, 8] [4] 0) bound (Zd8 x0 x1 x2 x3 s) = some ((.exit 0), ([V.un], [])) := by
 have e : itS (Zbc x1 x2) (Zde x1 x2) bound s = some (Zby x1 x2 s) := Zgn hok
 have f := Ze1 e
 exact Zgh (Zkq x0 x1 x2 x3) bound s _ _ _ e (fun h => by cases h) (Zob x0 x1 x2 x3 (Zby x1 x2 s) f c0 c1)
def Zc6 (x1 : List Int) : Zk := Zby x1 ((x1.length : Nat) : Int) (⟨0⟩ : Zk)
def Ze4 (x1 : List Int) : Bool := (bif tb (Zfi x1 ((x1.length : Nat) : Int) (⟨0⟩ : Zk)) then (bif tb (Zbg x1 ((x1.length : Nat) : Int) (Zc6 x1)) then true else (bif tb (Zdc ((x1.length : Nat) : Int) (Zc6 x1)) then true else false)) else false)
def Zc1 (x1 : List Int) : Int := (bif tb (Zbg x1 ((x1.length : Nat) : Int) (Zc6 x1)) then ((Zc6 x1).c3) else (-1))
theorem Zol (x0 : Bool) (x1 : List Int) : Ze4 x1 = true → cl E0 69 [(V.d (slD (encI .i64) true 1 x0 x1)), (V.fn (.func 50) [] [])] [] = some ([(V.d (.int .i64 (Zc1 x1)))], []) := by
 unfold Ze4 Zc1
 cases h1 : tb (Zfi x1 ((x1.length : Nat) : Int) (⟨0⟩ : Zk))
 ·exact ZN
 ·cases h2 : tb (Zbg x1 ((x1.length : Nat) : Int) (Zc6 x1))
  ·cases h3 : tb (Zdc ((x1.length : Nat) : Int) (Zc6 x1))
   ·exact ZN
   ·exact fun g0 => w69 [.o 7 (fun _ => Zcd (enc := (encI .i64)) (l := x1) (fl := true) (n := x0) (s := 1)), .l (Zne x0 x1 ((x1.length : Nat) : Int) 0 (⟨0⟩ : Zk) (tbE h1) (tbE h2) (tbE h3))] (by kernel_rfl)
  ·exact fun g0 => w69 [.o 7 (fun _ => Zcd (enc := (encI .i64)) (l := x1) (fl := true) (n := x0) (s := 1)), .l (Znf x0 x1 ((x1.length : Nat) : Int) 0 (⟨0⟩ : Zk) (tbE h1) (tbE h2))] (by kernel_rfl)
def Zfj (x1 : List Int) : Bool := (bif tb (Ze4 x1) then true else false)
theorem Zko (x0 : Bool) (x1 : List Int) : Zfj x1 = true → cl E0 53 [(V.d (slD (encI .i64) true 1 x0 x1)), (V.fn (.func 50) [] [])] [] = some ([(V.d (.bool (decide (0 ≤ (Zc1 x1)))))], []) := by
 unfold Zfj
 cases h1 : tb (Ze4 x1)
 ·exact ZN
 ·exact fun g0 => w53 [.c (Zol x0 x1 (tbE h1))] (by kernel_rfl)
theorem Zp0 (x0 x1 x2 : Int) (x3 : Bool) : cl E0 51 [(V.agg [(V.d (.int .i64 x0)), (V.d (.int .i64 x1)), (V.d (.int .i64 x2)), (V.d (.bool x3))])] [] = some ([(V.d (.bool (!(Z4 x0 x1 x3 (Zv x0 x2)))))], []) := by
 exact w51 [.c (Zgl x0 x1 x2 x3)] (by kernel_rfl)
structure Zi where
 c3 : Int
 deriving Inhabited
def Zc8 (x0 : Bool) (x1 : List R_i64_i64_i64_bool) (x2 x3 : Int) (s0 : Zi) : List V × Mem := ([(V.d (slD Za true 4 x0 x1)), (V.fn (.func 51) [] []), (V.d (.int .i64 x2)), (V.d (.int .i64 s0.c3))], [])
def Z3 (x1 : List R_i64_i64_i64_bool) (x2 : Int) (s0 : Zi) : Bool := (bif tb (decide (s0.c3 < x2)) then (bif tb (inb x1.length s0.c3) then (bif tb (Z4 (gt x1 s0.c3).c0 (gt x1 s0.c3).c1 (gt x1 s0.c3).c3 (Zv (gt x1 s0.c3).c0 (gt x1 s0.c3).c2)) then true else false) else false) else false)
def Zcr (x1 : List R_i64_i64_i64_bool) (x2 : Int) (s0 : Zi) : Zi := ⟨(wi (s0.c3 + 1))⟩
def Zen (x1 : List R_i64_i64_i64_bool) (x2 : Int) (s0 : Zi) : Bool := (itS (Z3 x1 x2) (Zcr x1 x2) bound s0).isSome
def Zbl (x1 : List R_i64_i64_i64_bool) (x2 : Int) (s0 : Zi) : Zi := (itS (Z3 x1 x2) (Zcr x1 x2) bound s0).getD default
theorem Zi3 (x0 : Bool) (x1 : List R_i64_i64_i64_bool) (x2 x3 : Int) (s0 : Zi) : Z3 x1 x2 s0 = true → (roundG (runC E0 (cl E0) L70_0) [0, 1, 7, 8] [4] 0) (Zc8 x0 x1 x2 x3 s0) = some (.normal, Zc8 x0 x1 x2 x3 (Zcr x1 x2 s0)) := by
 unfold Z3 Zcr
 cases h1 : tb (decide (s0.c3 < x2))
 ·exact ZN
 ·cases h2 : tb (inb x1.length s0.c3)
  ·exact ZN
  ·cases h3 : tb (Z4 (gt x1 s0.c3).c0 (gt x1 s0.c3).c1 (gt x1 s0.c3).c3 (Zv (gt x1 s0.c3).c0 (gt x1 s0.c3).c2))
   ·exact ZN
   ·exact fun _ => Z8 [.b (tbE h1), .o 14 (fun _ => Zgq (enc := Za) (l := x1) (fl := true) (n := x0) (s := 4) (k := .i64) (tbE h2)), .c (Zp0 (gt x1 s0.c3).c0 (gt x1 s0.c3).c1 (gt x1 s0.c3).c2 (gt x1 s0.c3).c3), .b (notT (tbE h3))] (by kernel_rfl)
def Z7 (x1 : List R_i64_i64_i64_bool) (x2 : Int) (s0 : Zi) : Bool := (bif tb (decide (s0.c3 < x2)) then (bif tb (inb x1.length s0.c3) then true else false) else false)
def Zcq (x2 : Int) (s0 : Zi) : Bool := (bif tb (decide (s0.c3 < x2)) then false else true)
theorem Zmi (x0 : Bool) (x1 : List R_i64_i64_i64_bool) (x2 x3 : Int) (s0 : Zi) : Z3 x1 x2 s0 = false → Z7 x1 x2 s0 = true → (roundG (runC E0 (cl E0) L70_0) [0, 1, 7, 8] [4] 0) (Zc8 x0 x1 x2 x3 s0) = some (.ret, ([(V.d (.int .i64 s0.c3))], [])) := by
 unfold Z3 Z7
 cases h1 : tb (decide (s0.c3 < x2))
 ·intro g0 g1
  exact absurd g1 ft
 ·cases h2 : tb (inb x1.length s0.c3)
  ·intro g0 g1
   exact absurd g1 ft
  ·cases h3 : tb (Z4 (gt x1 s0.c3).c0 (gt x1 s0.c3).c1 (gt x1 s0.c3).c3 (Zv (gt x1 s0.c3).c0 (gt x1 s0.c3).c2))
   ·intro g0 g1
    exact Z8 [.b (tbE h1), .o 14 (fun _ => Zgq (enc := Za) (l := x1) (fl := true) (n := x0) (s := 4) (k := .i64) (tbE h2)), .c (Zp0 (gt x1 s0.c3).c0 (gt x1 s0.c3).c1 (gt x1 s0.c3).c2 (gt x1 s0.c3).c3), .b (notF (tbE h3))] (by kernel_rfl)
   ·intro g0 g1
    exact absurd g0 tf
theorem Zml (x0 : Bool) (x1 : List R_i64_i64_i64_bool) (x2 x3 : Int) (s0 : Zi) : Z3 x1 x2 s0 = false → Z7 x1 x2 s0 = false → Zcq x2 s0 = true → (roundG (runC E0 (cl E0) L70_0) [0, 1, 7, 8] [4] 0) (Zc8 x0 x1 x2 x3 s0) = some ((.exit 0), ([V.un], [])) := by
 unfold Z3 Z7 Zcq
 cases h1 : tb (decide (s0.c3 < x2))
 ·intro g0 g1 g2
  exact Z8 [.b (tbE h1)] (by kernel_rfl)
 ·cases h2 : tb (inb x1.length s0.c3)
  ·intro g0 g1 g2
   exact absurd g2 ft
  ·cases h3 : tb (Z4 (gt x1 s0.c3).c0 (gt x1 s0.c3).c1 (gt x1 s0.c3).c3 (Zv (gt x1 s0.c3).c0 (gt x1 s0.c3).c2))
   ·intro g0 g1 g2
    exact absurd g1 tf
   ·intro g0 g1 g2
    exact absurd g0 tf
theorem Zl7 (x0 : Bool) (x1 : List R_i64_i64_i64_bool) (x2 x3 : Int) (s : Zi) (hok : Zen x1 x2 s = true) (c0 : Z7 x1 x2 (Zbl x1 x2 s) = true) : loopG (roundG (runC E0 (cl E0) L70_0) [0, 1, 7, 8] [4] 0) bound (Zc8 x0 x1 x2 x3 s) = some (.ret, ([(V.d (.int .i64 ((Zbl x1 x2 s).c3)))], [])) := by
 have e : itS (Z3 x1 x2) (Zcr x1 x2) bound s = some (Zbl x1 x2 s) := Zgn hok
 have f := Ze1 e
 exact Zgh (Zi3 x0 x1 x2 x3) bound s _ _ _ e (fun h => by cases h) (Zmi x0 x1 x2 x3 (Zbl x1 x2 s) f c0)
theorem Zl8 (x0 : Bool) (x1 : List R_i64_i64_i64_bool) (x2 x3 : Int) (s : Zi) (hok : Zen x1 x2 s = true) (c0 : Z7 x1 x2 (Zbl x1 x2 s) = false) (c1 : Zcq x2 (Zbl x1 x2 s) = true) : loopG (roundG (runC E0 (cl E0) L70_0) [0, 1, 7, 8] [4] 0) bound (Zc8 x0 x1 x2 x3 s) = some ((.exit 0), ([V.un], [])) := by
 have e : itS (Z3 x1 x2) (Zcr x1 x2) bound s = some (Zbl x1 x2 s) := Zgn hok
 have f := Ze1 e
 exact Zgh (Zi3 x0 x1 x2 x3) bound s _ _ _ e (fun h => by cases h) (Zml x0 x1 x2 x3 (Zbl x1 x2 s) f c0 c1)
def Zci (x1 : List R_i64_i64_i64_bool) : Zi := Zbl x1 ((x1.length : Nat) : Int) (⟨0⟩ : Zi)
def Zdq (x1 : List R_i64_i64_i64_bool) : Bool := (bif tb (Zen x1 ((x1.length : Nat) : Int) (⟨0⟩ : Zi)) then (bif tb (Z7 x1 ((x1.length : Nat) : Int) (Zci x1)) then true else (bif tb (Zcq ((x1.length : Nat) : Int) (Zci x1)) then true else false)) else false)
def Zdj (x1 : List R_i64_i64_i64_bool) : Int := (bif tb (Z7 x1 ((x1.length : Nat) : Int) (Zci x1)) then ((Zci x1).c3) else (-1))
theorem Zmz (x0 : Bool) (x1 : List R_i64_i64_i64_bool) : Zdq x1 = true → cl E0 70 [(V.d (slD Za true 4 x0 x1)), (V.fn (.func 51) [] [])] [] = some ([(V.d (.int .i64 (Zdj x1)))], []) := by
 unfold Zdq Zdj
 cases h1 : tb (Zen x1 ((x1.length : Nat) : Int) (⟨0⟩ : Zi))
 ·exact ZN
 ·cases h2 : tb (Z7 x1 ((x1.length : Nat) : Int) (Zci x1))
  ·cases h3 : tb (Zcq ((x1.length : Nat) : Int) (Zci x1))
   ·exact ZN
   ·exact fun g0 => w70 [.o 7 (fun _ => Zcd (enc := Za) (l := x1) (fl := true) (n := x0) (s := 4)), .l (Zl8 x0 x1 ((x1.length : Nat) : Int) 0 (⟨0⟩ : Zi) (tbE h1) (tbE h2) (tbE h3))] (by kernel_rfl)
  ·exact fun g0 => w70 [.o 7 (fun _ => Zcd (enc := Za) (l := x1) (fl := true) (n := x0) (s := 4)), .l (Zl7 x0 x1 ((x1.length : Nat) : Int) 0 (⟨0⟩ : Zi) (tbE h1) (tbE h2))] (by kernel_rfl)
def Zek (x1 : List R_i64_i64_i64_bool) : Bool := (bif tb (Zdq x1) then true else false)
theorem Zmh (x0 : Bool) (x1 : List R_i64_i64_i64_bool) : Zek x1 = true → cl E0 54 [(V.d (slD Za true 4 x0 x1)), (V.fn (.func 51) [] [])] [] = some ([(V.d (.bool (decide (0 ≤ (Zdj x1)))))], []) := by
 unfold Zek
 cases h1 : tb (Zdq x1)
 ·exact ZN
 ·exact fun g0 => w54 [.c (Zmz x0 x1 (tbE h1))] (by kernel_rfl)
def Zc5 (x1 : List Int) : List Int := [(gt x1 0), (gt x1 1), (gt x1 2), (gt x1 3), (gt x1 4), (gt x1 5), (gt x1 6), (gt x1 7)]
def Zfo (x2 : List R_i64_i64_i64_bool) : List R_i64_i64_i64_bool := [⟨(gt x2 0).c0, (gt x2 0).c1, (gt x2 0).c2, (gt x2 0).c3⟩, ⟨(gt x2 1).c0, (gt x2 1).c1, (gt x2 1).c2, (gt x2 1).c3⟩, ⟨(gt x2 2).c0, (gt x2 2).c1, (gt x2 2).c2, (gt x2 2).c3⟩, ⟨(gt x2 3).c0, (gt x2 3).c1, (gt x2 3).c2, (gt x2 3).c3⟩, ⟨(gt x2 4).c0, (gt x2 4).c1, (gt x2 4).c2, (gt x2 4).c3⟩, ⟨(gt x2 5).c0, (gt x2 5).c1, (gt x2 5).c2, (gt x2 5).c3⟩, ⟨(gt x2 6).c0, (gt x2 6).c1, (gt x2 6).c2, (gt x2 6).c3⟩, ⟨(gt x2 7).c0, (gt x2 7).c1, (gt x2 7).c2, (gt x2 7).c3⟩]
def Zc3 (x0 : Int) (x1 : List Int) (x2 : List R_i64_i64_i64_bool) : Bool := (bif tb (decide (0 ≤ x0)) then (bif tb (decide (x0 < 65536)) then (bif tb (Zfj (Zc5 x1)) then (bif tb (decide (0 ≤ (Zc1 (Zc5 x1)))) then true else (bif tb (Zek (Zfo x2)) then true else false)) else false) else true) else true)
def Zbf (x0 : Int) (x1 : List Int) (x2 : List R_i64_i64_i64_bool) : Bool := (bif tb (decide (0 ≤ x0)) then (bif tb (decide (x0 < 65536)) then (bif tb (decide (0 ≤ (Zc1 (Zc5 x1)))) then false else (!(decide (0 ≤ (Zdj (Zfo x2)))))) else false) else false)
theorem Zgu (x0 : Int) (x1 : List Int) (x2 : List R_i64_i64_i64_bool) : Zc3 x0 x1 x2 = true → cl E0 23 [(V.agg (List.map V.d ([(.int .i64 x0)] ++ arrD .i64 x1 8 ++ arrE Za x2 8)))] [] = some ([(V.d (.bool (Zbf x0 x1 x2)))], []) := by
 unfold Zc3 Zbf
 cases h1 : tb (decide (0 ≤ x0))
 ·exact fun g0 => w23 [.b (tbE h1)] (by kernel_rfl)
 ·cases h2 : tb (decide (x0 < 65536))
  ·exact fun g0 => w23 [.b (tbE h1), .b (tbE h2)] (by kernel_rfl)
  ·cases h3 : tb (Zfj (Zc5 x1))
   ·exact ZN
   ·cases h4 : tb (decide (0 ≤ (Zc1 (Zc5 x1))))
    ·cases h5 : tb (Zek (Zfo x2))
     ·exact ZN
     ·exact fun g0 => w23 [.b (tbE h1), .b (tbE h2), .c (Zko false (Zc5 x1) (tbE h3)), .b (notF (tbE h4)), .c (Zmh false (Zfo x2) (tbE h5))] (by kernel_rfl)
    ·exact fun g0 => w23 [.b (tbE h1), .b (tbE h2), .c (Zko false (Zc5 x1) (tbE h3)), .b (notT (tbE h4))] (by kernel_rfl)
structure Zn where
 c0 : Int
 c2 : Int
 deriving Inhabited
def Zf4 (x0 : Int) (x1 : List Int) (x2 : List R_i64_i64_i64_bool) (x3 : Bool) (x4 : Int) (x5 : List R_i64_i64_i64_bool) (x6 : Int) (s0 : Zn) : List V × Mem := ([(V.d (.int .i64 s0.c0)), (V.agg (List.map V.d (arrE Za x5 8))), (V.d (.int .i64 s0.c2))], [(Blk.flat 55 41 [([(.int .i64 x0)] ++ arrD .i64 x1 8 ++ arrE Za x2 8)] x3)])
def Zb4 (x5 : List R_i64_i64_i64_bool) (s0 : Zn) : Bool := (bif tb (decide (s0.c2 < 8)) then (bif tb (inb 8 s0.c2) then true else false) else false)
def Zc7 (x5 : List R_i64_i64_i64_bool) (s0 : Zn) : Zn := (bif tb (gt x5 s0.c2).c3 then ⟨(wi (s0.c0 + 1)), (wi (s0.c2 + 1))⟩ else ⟨s0.c0, (wi (s0.c2 + 1))⟩)
def Zf9 (x5 : List R_i64_i64_i64_bool) (s0 : Zn) : Bool := (itS (Zb4 x5) (Zc7 x5) bound s0).isSome
def Zdu (x5 : List R_i64_i64_i64_bool) (s0 : Zn) : Zn := (itS (Zb4 x5) (Zc7 x5) bound s0).getD default
theorem Zna (x0 : Int) (x1 : List Int) (x2 : List R_i64_i64_i64_bool) (x3 : Bool) (x4 : Int) (x5 : List R_i64_i64_i64_bool) (x6 : Int) (s0 : Zn) : Zb4 x5 s0 = true → (roundG (runC E0 (cl E0) L25_0) [3, 7, 8] [3] 1) (Zf4 x0 x1 x2 x3 x4 x5 x6 s0) = some (.normal, Zf4 x0 x1 x2 x3 x4 x5 x6 (Zc7 x5 s0)) := by
 unfold Zb4 Zc7
 cases h1 : tb (decide (s0.c2 < 8))
 ·exact ZN
 ·cases h2 : tb (inb 8 s0.c2)
  ·exact ZN
  ·cases h3 : tb (gt x5 s0.c2).c3
   ·exact fun _ => Z8 [.b (tbE h1), .o 10 (fun _ => Zvb (enc := Za) (z := 4) (fun _ => rfl) (by decide) (n := 8) (agg := true) (cells := [(V.d (.int .i64 (gt x5 0).c0)), (V.d (.int .i64 (gt x5 0).c1)), (V.d (.int .i64 (gt x5 0).c2)), (V.d (.bool (gt x5 0).c3)), (V.d (.int .i64 (gt x5 1).c0)), (V.d (.int .i64 (gt x5 1).c1)), (V.d (.int .i64 (gt x5 1).c2)), (V.d (.bool (gt x5 1).c3)), (V.d (.int .i64 (gt x5 2).c0)), (V.d (.int .i64 (gt x5 2).c1)), (V.d (.int .i64 (gt x5 2).c2)), (V.d (.bool (gt x5 2).c3)), (V.d (.int .i64 (gt x5 3).c0)), (V.d (.int .i64 (gt x5 3).c1)), (V.d (.int .i64 (gt x5 3).c2)), (V.d (.bool (gt x5 3).c3)), (V.d (.int .i64 (gt x5 4).c0)), (V.d (.int .i64 (gt x5 4).c1)), (V.d (.int .i64 (gt x5 4).c2)), (V.d (.bool (gt x5 4).c3)), (V.d (.int .i64 (gt x5 5).c0)), (V.d (.int .i64 (gt x5 5).c1)), (V.d (.int .i64 (gt x5 5).c2)), (V.d (.bool (gt x5 5).c3)), (V.d (.int .i64 (gt x5 6).c0)), (V.d (.int .i64 (gt x5 6).c1)), (V.d (.int .i64 (gt x5 6).c2)), (V.d (.bool (gt x5 6).c3)), (V.d (.int .i64 (gt x5 7).c0)), (V.d (.int .i64 (gt x5 7).c1)), (V.d (.int .i64 (gt x5 7).c2)), (V.d (.bool (gt x5 7).c3))]) (k := .i64) (T := x5) (i := s0.c2) (v := (V.agg [(V.d (.int .i64 (gt x5 s0.c2).c0)), (V.d (.int .i64 (gt x5 s0.c2).c1)), (V.d (.int .i64 (gt x5 s0.c2).c2)), (V.d (.bool (gt x5 s0.c2).c3))])) (by kernel_rfl) (tbE h2) (by kernel_rfl)), .b (tbE h3)] (by kernel_rfl)
   ·exact fun _ => Z8 [.b (tbE h1), .o 10 (fun _ => Zvb (enc := Za) (z := 4) (fun _ => rfl) (by decide) (n := 8) (agg := true) (cells := [(V.d (.int .i64 (gt x5 0).c0)), (V.d (.int .i64 (gt x5 0).c1)), (V.d (.int .i64 (gt x5 0).c2)), (V.d (.bool (gt x5 0).c3)), (V.d (.int .i64 (gt x5 1).c0)), (V.d (.int .i64 (gt x5 1).c1)), (V.d (.int .i64 (gt x5 1).c2)), (V.d (.bool (gt x5 1).c3)), (V.d (.int .i64 (gt x5 2).c0)), (V.d (.int .i64 (gt x5 2).c1)), (V.d (.int .i64 (gt x5 2).c2)), (V.d (.bool (gt x5 2).c3)), (V.d (.int .i64 (gt x5 3).c0)), (V.d (.int .i64 (gt x5 3).c1)), (V.d (.int .i64 (gt x5 3).c2)), (V.d (.bool (gt x5 3).c3)), (V.d (.int .i64 (gt x5 4).c0)), (V.d (.int .i64 (gt x5 4).c1)), (V.d (.int .i64 (gt x5 4).c2)), (V.d (.bool (gt x5 4).c3)), (V.d (.int .i64 (gt x5 5).c0)), (V.d (.int .i64 (gt x5 5).c1)), (V.d (.int .i64 (gt x5 5).c2)), (V.d (.bool (gt x5 5).c3)), (V.d (.int .i64 (gt x5 6).c0)), (V.d (.int .i64 (gt x5 6).c1)), (V.d (.int .i64 (gt x5 6).c2)), (V.d (.bool (gt x5 6).c3)), (V.d (.int .i64 (gt x5 7).c0)), (V.d (.int .i64 (gt x5 7).c1)), (V.d (.int .i64 (gt x5 7).c2)), (V.d (.bool (gt x5 7).c3))]) (k := .i64) (T := x5) (i := s0.c2) (v := (V.agg [(V.d (.int .i64 (gt x5 s0.c2).c0)), (V.d (.int .i64 (gt x5 s0.c2).c1)), (V.d (.int .i64 (gt x5 s0.c2).c2)), (V.d (.bool (gt x5 s0.c2).c3))])) (by kernel_rfl) (tbE h2) (by kernel_rfl)), .b (tbE h3)] (by kernel_rfl)
def Zdv (s0 : Zn) : Bool := (bif tb (decide (s0.c2 < 8)) then false else true)
theorem Znb (x0 : Int) (x1 : List Int) (x2 : List R_i64_i64_i64_bool) (x3 : Bool) (x4 : Int) (x5 : List R_i64_i64_i64_bool) (x6 : Int) (s0 : Zn) : Zb4 x5 s0 = false → Zdv s0 = true → (roundG (runC E0 (cl E0) L25_0) [3, 7, 8] [3] 1) (Zf4 x0 x1 x2 x3 x4 x5 x6 s0) = some ((.exit 0), ([(V.d (.int .i64 s0.c0))], [(Blk.flat 55 41 [([(.int .i64 x0)] ++ arrD .i64 x1 8 ++ arrE Za x2 8)] x3)])) := by
 unfold Zb4 Zdv
 cases h1 : tb (decide (s0.c2 < 8))
 ·intro g0 g1
  exact Z8 [.b (tbE h1)] (by kernel_rfl)
 ·cases h2 : tb (inb 8 s0.c2)
  ·intro g0 g1
   exact absurd g1 ft
  ·cases h3 : tb (gt x5 s0.c2).c3
   ·intro g0 g1
    exact absurd g0 tf
   ·intro g0 g1
    exact absurd g0 tf
theorem Zmx (x0 : Int) (x1 : List Int) (x2 : List R_i64_i64_i64_bool) (x3 : Bool) (x4 : Int) (x5 : List R_i64_i64_i64_bool) (x6 : Int) (s : Zn) (hok : Zf9 x5 s = true) (c0 : Zdv (Zdu x5 s) = true) : loopG (roundG (runC E0 (cl E0) L25_0) [3, 7, 8] [3] 1) bound (Zf4 x0 x1 x2 x3 x4 x5 x6 s) = some ((.exit 0), ([(V.d (.int .i64 ((Zdu x5 s).c0)))], [(Blk.flat 55 41 [([(.int .i64 x0)] ++ arrD .i64 x1 8 ++ arrE Za x2 8)] x3)])) := by
 have e : itS (Zb4 x5) (Zc7 x5) bound s = some (Zdu x5 s) := Zgn hok
 have f := Ze1 e
 exact Zgh (Zna x0 x1 x2 x3 x4 x5 x6) bound s _ _ _ e (fun h => by cases h) (Znb x0 x1 x2 x3 x4 x5 x6 (Zdu x5 s) f c0)
def Zcj (x2 : List R_i64_i64_i64_bool) : Zn := Zdu x2 (⟨0, 0⟩ : Zn)
def Zc2 (x2 : List R_i64_i64_i64_bool) : Bool := (bif tb (Zf9 x2 (⟨0, 0⟩ : Zn)) then (bif tb (Zdv (Zcj x2)) then true else false) else false)
theorem Zkt (x0 : Int) (x1 : List Int) (x2 : List R_i64_i64_i64_bool) : Zc2 x2 = true → cl E0 25 [(V.agg (List.map V.d ([(.int .i64 x0)] ++ arrD .i64 x1 8 ++ arrE Za x2 8)))] [] = some ([(V.d (.int .i64 ((Zcj x2).c0)))], []) := by
 unfold Zc2
 cases h1 : tb (Zf9 x2 (⟨0, 0⟩ : Zn))
 ·exact ZN
 ·cases h2 : tb (Zdv (Zcj x2))
  ·exact ZN
  ·exact fun g0 => w25 [.l (Zmx x0 x1 x2 false 0 x2 0 (⟨0, 0⟩ : Zn) (tbE h1) (tbE h2))] (by kernel_rfl)
theorem Zoj (x0 : Int) (x1 : List Int) (x2 : List R_i64_i64_i64_bool) : cl E0 37 [(V.agg (List.map V.d ([(.int .i64 x0)] ++ arrD .i64 x1 8 ++ arrE Za x2 8)))] [] = some ([(V.fn (.func 62) [] [(V.ptr 0 1 0 0)])], [(Blk.flat 55 41 [([(.int .i64 x0)] ++ arrD .i64 x1 8 ++ arrE Za x2 8)] false)]) := by
 exact w37 [] (by kernel_rfl)
def Ze9 (x0 x6 : List Int) : Bool := (bif tb (decide ((x0.length + x6.length) * 1 ≤ 140737488355328)) then true else false)
theorem Zqv (x0 : List Int) (x2 x5 : Bool) (x6 : List Int) : Ze9 x0 x6 = true → cl E0 yfn [(V.yl 0), (V.d (slD (encI .u8) true 1 x5 x6))] [(Blk.loop .ready none [V.un, V.un, V.un, V.un, (V.ptr 1 1 0 0), V.un, V.un, V.un, V.un, V.un, V.un, V.un, V.un, V.un, V.un, V.un, V.un, V.un, V.un, V.un, V.un, V.un, V.un, V.un, V.un, V.un, V.un, V.un, V.un] [23] L18_0 L18_1 false), (Blk.gen 37 1 [[(V.so x2 2 x0.length)]] false), (Blk.flat 5 1 (List.map (encI .u8) x0) false)] = some ([(V.d (.bool true))], [(Blk.loop .ready none [V.un, V.un, V.un, V.un, (V.ptr 1 1 0 0), V.un, V.un, V.un, V.un, V.un, V.un, V.un, V.un, V.un, V.un, V.un, V.un, V.un, V.un, V.un, V.un, V.un, V.un, V.un, V.un, V.un, V.un, V.un, V.un] [23] L18_0 L18_1 false), (Blk.gen 37 1 [[(V.so (x6.isEmpty && x2) 2 ((x0 ++ x6).length))]] false), (Blk.flat 5 1 (List.map (encI .u8) (x0 ++ x6)) false)]) := by
 unfold Ze9
 cases h1 : tb (decide ((x0.length + x6.length) * 1 ≤ 140737488355328))
 ·exact ZN
 ·exact fun g0 => Zyh [.m 26 (Zoa (nl := x2) (m := [(Blk.loop .busy none [V.un, V.un, V.un, V.un, (V.ptr 1 1 0 0), V.un, V.un, V.un, V.un, V.un, V.un, V.un, V.un, V.un, V.un, V.un, V.un, V.un, V.un, V.un, V.un, V.un, V.un, V.un, V.un, V.un, V.un, V.un, V.un] [23] L18_0 L18_1 false), (Blk.gen 37 1 [[(V.so x2 2 x0.length)]] false), (Blk.flat 5 1 (List.map (encI .u8) x0) false)]) (enc := (encI .u8)) (l0 := x0) (l1 := x6) (id := 2) (e := 5) (s := 1) (bytes := 1) (x := (V.d (slD (encI .u8) true 1 x5 x6))) (n := x0.length) (Nat.beq_refl _) (by kernel_rfl) Zqe Ztq (tbE h1))] (by kernel_rfl)
structure Zg where
 c1 : Int
 c3 : Bool
 c5 : List Int
 deriving Inhabited
def Zz (x9 : List R_i64_i64_i64_bool) (s0 : Zg) : Int := (Zkx (gt x9 s0.c1).c0 (gt x9 s0.c1).c1 (gt x9 s0.c1).c2 (gt x9 s0.c1).c3)
def Zk1 (x9 : List R_i64_i64_i64_bool) (s0 : Zg) : Bool := (Zip (Zz x9 s0))
def Zbw (x9 : List R_i64_i64_i64_bool) (s0 : Zg) : List Int := (Zdh (Zz x9 s0))
def Zeq (x0 : List Int) (x1 : Int) (x2 : List Int) (x3 : List R_i64_i64_i64_bool) (x4 x5 x6 x7 x8 : Bool) (x9 : List R_i64_i64_i64_bool) (x10 : Int) (s0 : Zg) : List V × Mem := ([(V.yl 0), (V.agg (List.map V.d (arrE Za x9 8))), (V.d (.int .i64 s0.c1))], [(Blk.loop .ready none [V.un, V.un, V.un, V.un, (V.ptr 1 1 0 0), V.un, V.un, V.un, V.un, V.un, V.un, V.un, V.un, V.un, V.un, V.un, V.un, V.un, V.un, V.un, V.un, V.un, V.un, V.un, V.un, V.un, V.un, V.un, V.un] [23] L18_0 L18_1 false), (Blk.gen 37 1 [[(V.so s0.c3 2 s0.c5.length)]] false), (Blk.flat 5 1 (List.map (encI .u8) s0.c5) false), (Blk.flat 55 41 [([(.int .i64 x1)] ++ arrD .i64 x2 8 ++ arrE Za x3 8)] x8)])
def Zbb (x9 : List R_i64_i64_i64_bool) (s0 : Zg) : Bool := (bif tb (decide (s0.c1 < 8)) then (bif tb (inb 8 s0.c1) then (bif tb (Ze9 s0.c5 (Zbw x9 s0)) then true else false) else false) else false)
def Zbo (x9 : List R_i64_i64_i64_bool) (s0 : Zg) : Zg := ⟨(wi (s0.c1 + 1)), ((Zbw x9 s0).isEmpty && s0.c3), (s0.c5 ++ (Zbw x9 s0))⟩
def Zeu (x9 : List R_i64_i64_i64_bool) (s0 : Zg) : Bool := (itS (Zbb x9) (Zbo x9) bound s0).isSome
def Zbm (x9 : List R_i64_i64_i64_bool) (s0 : Zg) : Zg := (itS (Zbb x9) (Zbo x9) bound s0).getD default
theorem Zlf (x0 : List Int) (x1 : Int) (x2 : List Int) (x3 : List R_i64_i64_i64_bool) (x4 x5 x6 x7 x8 : Bool) (x9 : List R_i64_i64_i64_bool) (x10 : Int) (s0 : Zg) : Zbb x9 s0 = true → (roundG (runC E0 (cl E0) L62_0) [0, 8, 9] [] 4) (Zeq x0 x1 x2 x3 x4 x5 x6 x7 x8 x9 x10 s0) = some (.normal, Zeq x0 x1 x2 x3 x4 x5 x6 x7 x8 x9 x10 (Zbo x9 s0)) := by
 unfold Zbb Zbo
 cases h1 : tb (decide (s0.c1 < 8))
 ·exact ZN
 ·cases h2 : tb (inb 8 s0.c1)
  ·exact ZN
  ·cases h3 : tb (Ze9 s0.c5 (Zbw x9 s0))
   ·exact ZN
   ·exact fun _ => Z8 [.b (tbE h1), .o 11 (fun _ => Zvb (enc := Za) (z := 4) (fun _ => rfl) (by decide) (n := 8) (agg := true) (cells := [(V.d (.int .i64 (gt x9 0).c0)), (V.d (.int .i64 (gt x9 0).c1)), (V.d (.int .i64 (gt x9 0).c2)), (V.d (.bool (gt x9 0).c3)), (V.d (.int .i64 (gt x9 1).c0)), (V.d (.int .i64 (gt x9 1).c1)), (V.d (.int .i64 (gt x9 1).c2)), (V.d (.bool (gt x9 1).c3)), (V.d (.int .i64 (gt x9 2).c0)), (V.d (.int .i64 (gt x9 2).c1)), (V.d (.int .i64 (gt x9 2).c2)), (V.d (.bool (gt x9 2).c3)), (V.d (.int .i64 (gt x9 3).c0)), (V.d (.int .i64 (gt x9 3).c1)), (V.d (.int .i64 (gt x9 3).c2)), (V.d (.bool (gt x9 3).c3)), (V.d (.int .i64 (gt x9 4).c0)), (V.d (.int .i64 (gt x9 4).c1)), (V.d (.int .i64 (gt x9 4).c2)), (V.d (.bool (gt x9 4).c3)), (V.d (.int .i64 (gt x9 5).c0)), (V.d (.int .i64 (gt x9 5).c1)), (V.d (.int .i64 (gt x9 5).c2)), (V.d (.bool (gt x9 5).c3)), (V.d (.int .i64 (gt x9 6).c0)), (V.d (.int .i64 (gt x9 6).c1)), (V.d (.int .i64 (gt x9 6).c2)), (V.d (.bool (gt x9 6).c3)), (V.d (.int .i64 (gt x9 7).c0)), (V.d (.int .i64 (gt x9 7).c1)), (V.d (.int .i64 (gt x9 7).c2)), (V.d (.bool (gt x9 7).c3))]) (k := .i64) (T := x9) (i := s0.c1) (v := (V.agg [(V.d (.int .i64 (gt x9 s0.c1).c0)), (V.d (.int .i64 (gt x9 s0.c1).c1)), (V.d (.int .i64 (gt x9 s0.c1).c2)), (V.d (.bool (gt x9 s0.c1).c3))])) (by kernel_rfl) (tbE h2) (by kernel_rfl)), .c (Zws (gt x9 s0.c1).c0 (gt x9 s0.c1).c1 (gt x9 s0.c1).c2 (gt x9 s0.c1).c3), .c (Zuh (Zz x9 s0)), .y (mm := [(Blk.loop .ready none [V.un, V.un, V.un, V.un, (V.ptr 1 1 0 0), V.un, V.un, V.un, V.un, V.un, V.un, V.un, V.un, V.un, V.un, V.un, V.un, V.un, V.un, V.un, V.un, V.un, V.un, V.un, V.un, V.un, V.un, V.un, V.un] [23] L18_0 L18_1 false), (Blk.gen 37 1 [[(V.so s0.c3 2 s0.c5.length)]] false), (Blk.flat 5 1 (List.map (encI .u8) s0.c5) false), (Blk.flat 55 41 [([(.int .i64 x1)] ++ arrD .i64 x2 8 ++ arrE Za x3 8)] x8), (Blk.flat 52 4 [[(.int .i64 (gt x9 s0.c1).c0), (.int .i64 (gt x9 s0.c1).c1), (.int .i64 (gt x9 s0.c1).c2), (.bool (gt x9 s0.c1).c3)]] false), (Blk.flat 5 1 (List.map (encI .u8) (Zdh (Zz x9 s0))) false)]) (args := [(V.yl 0), (V.so (Zip (Zz x9 s0)) 5 ((Zdh (Zz x9 s0)).length))]) (args1 := [(V.yl 0), (V.d (slD (encI .u8) true 1 (Zip (Zz x9 s0)) (Zdh (Zz x9 s0))))]) (Zgj (by kernel_rfl) (Zgj (Zqi (enc := (encI .u8)) (l := (Zdh (Zz x9 s0))) (b := (Zip (Zz x9 s0))) (e := 5) (s := 1) (p := false) (n := ((Zdh (Zz x9 s0)).length)) (Nat.beq_refl _) (by kernel_rfl)) (by kernel_rfl))), .c (Zqv s0.c5 s0.c3 (Zk1 x9 s0) (Zbw x9 s0) (tbE h3)), .k false] (by kernel_rfl)
def Zdb (s0 : Zg) : Bool := (bif tb (decide (s0.c1 < 8)) then false else true)
theorem Zlj (x0 : List Int) (x1 : Int) (x2 : List Int) (x3 : List R_i64_i64_i64_bool) (x4 x5 x6 x7 x8 : Bool) (x9 : List R_i64_i64_i64_bool) (x10 : Int) (s0 : Zg) : Zbb x9 s0 = false → Zdb s0 = true → (roundG (runC E0 (cl E0) L62_0) [0, 8, 9] [] 4) (Zeq x0 x1 x2 x3 x4 x5 x6 x7 x8 x9 x10 s0) = some ((.exit 0), ([], [(Blk.loop .ready none [V.un, V.un, V.un, V.un, (V.ptr 1 1 0 0), V.un, V.un, V.un, V.un, V.un, V.un, V.un, V.un, V.un, V.un, V.un, V.un, V.un, V.un, V.un, V.un, V.un, V.un, V.un, V.un, V.un, V.un, V.un, V.un] [23] L18_0 L18_1 false), (Blk.gen 37 1 [[(V.so s0.c3 2 s0.c5.length)]] false), (Blk.flat 5 1 (List.map (encI .u8) s0.c5) false), (Blk.flat 55 41 [([(.int .i64 x1)] ++ arrD .i64 x2 8 ++ arrE Za x3 8)] x8)])) := by
 unfold Zbb Zdb
 cases h1 : tb (decide (s0.c1 < 8))
 ·intro g0 g1
  exact Z8 [.b (tbE h1)] (by kernel_rfl)
 ·cases h2 : tb (inb 8 s0.c1)
  ·intro g0 g1
   exact absurd g1 ft
  ·cases h3 : tb (Ze9 s0.c5 (Zbw x9 s0))
   ·intro g0 g1
    exact absurd g1 ft
   ·intro g0 g1
    exact absurd g0 tf
theorem Zla (x0 : List Int) (x1 : Int) (x2 : List Int) (x3 : List R_i64_i64_i64_bool) (x4 x5 x6 x7 x8 : Bool) (x9 : List R_i64_i64_i64_bool) (x10 : Int) (s : Zg) (hok : Zeu x9 s = true) (c0 : Zdb (Zbm x9 s) = true) : loopG (roundG (runC E0 (cl E0) L62_0) [0, 8, 9] [] 4) bound (Zeq x0 x1 x2 x3 x4 x5 x6 x7 x8 x9 x10 s) = some ((.exit 0), ([], [(Blk.loop .ready none [V.un, V.un, V.un, V.un, (V.ptr 1 1 0 0), V.un, V.un, V.un, V.un, V.un, V.un, V.un, V.un, V.un, V.un, V.un, V.un, V.un, V.un, V.un, V.un, V.un, V.un, V.un, V.un, V.un, V.un, V.un, V.un] [23] L18_0 L18_1 false), (Blk.gen 37 1 [[(V.so ((Zbm x9 s).c3) 2 (((Zbm x9 s).c5).length))]] false), (Blk.flat 5 1 (List.map (encI .u8) ((Zbm x9 s).c5)) false), (Blk.flat 55 41 [([(.int .i64 x1)] ++ arrD .i64 x2 8 ++ arrE Za x3 8)] x8)])) := by
 have e : itS (Zbb x9) (Zbo x9) bound s = some (Zbm x9 s) := Zgn hok
 have f := Ze1 e
 exact Zgh (Zlf x0 x1 x2 x3 x4 x5 x6 x7 x8 x9 x10) bound s _ _ _ e (fun h => by cases h) (Zlj x0 x1 x2 x3 x4 x5 x6 x7 x8 x9 x10 (Zbm x9 s) f c0)
def Zf (x0 : List Int) (x3 : List R_i64_i64_i64_bool) (x5 : Bool) : Zg := Zbm x3 (⟨0, x5, x0⟩ : Zg)
def Zcy (x0 : List Int) (x3 : List R_i64_i64_i64_bool) (x5 : Bool) : Bool := (bif tb (Zeu x3 (⟨0, x5, x0⟩ : Zg)) then (bif tb (Zdb (Zf x0 x3 x5)) then true else false) else false)
theorem Zlw (x0 : List Int) (x1 : Int) (x2 : List Int) (x3 : List R_i64_i64_i64_bool) (x5 x8 : Bool) : Zcy x0 x3 x5 = true → cl E0 62 [(V.yl 0), (V.ptr 3 1 0 0)] [(Blk.loop .ready none [V.un, V.un, V.un, V.un, (V.ptr 1 1 0 0), V.un, V.un, V.un, V.un, V.un, V.un, V.un, V.un, V.un, V.un, V.un, V.un, V.un, V.un, V.un, V.un, V.un, V.un, V.un, V.un, V.un, V.un, V.un, V.un] [23] L18_0 L18_1 false), (Blk.gen 37 1 [[(V.so x5 2 x0.length)]] false), (Blk.flat 5 1 (List.map (encI .u8) x0) false), (Blk.flat 55 41 [([(.int .i64 x1)] ++ arrD .i64 x2 8 ++ arrE Za x3 8)] x8)] = some ([], [(Blk.loop .ready none [V.un, V.un, V.un, V.un, (V.ptr 1 1 0 0), V.un, V.un, V.un, V.un, V.un, V.un, V.un, V.un, V.un, V.un, V.un, V.un, V.un, V.un, V.un, V.un, V.un, V.un, V.un, V.un, V.un, V.un, V.un, V.un] [23] L18_0 L18_1 false), (Blk.gen 37 1 [[(V.so ((Zf x0 x3 x5).c3) 2 (((Zf x0 x3 x5).c5).length))]] false), (Blk.flat 5 1 (List.map (encI .u8) ((Zf x0 x3 x5).c5)) false), (Blk.flat 55 41 [([(.int .i64 x1)] ++ arrD .i64 x2 8 ++ arrE Za x3 8)] x8)]) := by
 unfold Zcy
 cases h1 : tb (Zeu x3 (⟨0, x5, x0⟩ : Zg))
 ·exact ZN
 ·cases h2 : tb (Zdb (Zf x0 x3 x5))
  ·exact ZN
  ·exact fun g0 => w62 [.l (Zla x0 x1 x2 x3 false x5 false false x8 x3 0 (⟨0, x5, x0⟩ : Zg) (tbE h1) (tbE h2))] (by kernel_rfl)
def Zdx (x2 : List R_i64_i64_i64_bool) (x6 : List Int) (x17 : Bool) : Bool := (bif tb (Zcy x6 x2 x17) then true else false)
theorem Znc (x0 : Int) (x1 : List Int) (x2 : List R_i64_i64_i64_bool) (x3 x4 x5 x6 : List Int) (x7 x8 x9 x10 x11 x12 x13 x14 x16 x17 : Bool) : Zdx x2 x6 x17 = true → segG (runC E0 (cl E0) S18_2) [1, 2, 3, 4] [] [4] 9 ([(V.ptr 0 1 0 0), (V.so true 1 0), (V.d (.int .i64 0)), (V.ptr 8 1 0 0)], [(Blk.flat 55 41 [([(.int .i64 x0)] ++ arrD .i64 x1 8 ++ arrE Za x2 8)] x7), (Blk.flat 5 1 [] x8), (Blk.flat 5 1 (List.map (encI .u8) x3) x9), (Blk.flat 5 1 (List.map (encI .u8) x4) x10), (Blk.flat 5 1 (List.map (encI .u8) x5) x11), (Blk.gen 37 1 [[(V.so false 2 x3.length)], [(V.so x12 3 x4.length)], [(V.so x13 4 x5.length)]] x14), (Blk.flat 5 1 (List.map (encI .u8) x6) false), (Blk.flat 5 1 [] x16), (Blk.gen 37 1 [[(V.so x17 6 x6.length)]] false)]) = some (.normal, ([(V.ptr 8 1 0 0)], [(Blk.flat 55 41 [([(.int .i64 x0)] ++ arrD .i64 x1 8 ++ arrE Za x2 8)] x7), (Blk.flat 5 1 [] x8), (Blk.flat 5 1 (List.map (encI .u8) x3) x9), (Blk.flat 5 1 (List.map (encI .u8) x4) x10), (Blk.flat 5 1 (List.map (encI .u8) x5) x11), (Blk.gen 37 1 [[(V.so false 2 x3.length)], [(V.so x12 3 x4.length)], [(V.so x13 4 x5.length)]] x14), (Blk.flat 5 1 (List.map (encI .u8) ((Zf x6 x2 x17).c5)) false), (Blk.flat 5 1 [] x16), (Blk.gen 37 1 [[(V.so ((Zf x6 x2 x17).c3) 6 (((Zf x6 x2 x17).c5).length))]] false)])) := by
 unfold Zdx
 cases h1 : tb (Zcy x6 x2 x17)
 ·exact ZN
 ·exact fun g0 => Zbh [.c (Zoj x0 x1 x2), .c (Zlw x6 x0 x1 x2 x17 false (tbE h1))] (by kernel_rfl)
def Zbs (x2 : List R_i64_i64_i64_bool) : Int := IntKind.u8.wrap (((Zcj x2).c0))
def Zer (x1 : List Int) : List Int := [(gt x1 0), (gt x1 1), (gt x1 2), (gt x1 3), (gt x1 4), (gt x1 5), (gt x1 6), (gt x1 7)]
def Zbr (x1 : List Int) : List Int := (Zjw (Zer x1))
def Zib (x1 : List Int) : Bool := (Zpm (Zer x1))
def Zl (x0 : Int) (x1 : List Int) (x2 : List R_i64_i64_i64_bool) : List Int := (([90, (Zbs x2)] ++ (Zdh x0)) ++ (Zbr x1))
def Zo (x0 : Int) (x1 : List Int) (x2 : List R_i64_i64_i64_bool) : Bool := ((Zbr x1).isEmpty && ((Zdh x0).isEmpty && ([90, (Zbs x2)].isEmpty && (Zk9 [90, (Zbs x2)] (Zdh x0) (Zbr x1)))))
def Zfl (x0 : Int) (x1 : List Int) (x2 : List R_i64_i64_i64_bool) : Bool := ((Zf (Zl x0 x1 x2) x2 (Zo x0 x1 x2)).c3)
def Zes (x0 : Int) (x1 : List Int) (x2 : List R_i64_i64_i64_bool) : List Int := ((Zf (Zl x0 x1 x2) x2 (Zo x0 x1 x2)).c5)
def Zb3 (x0 : Int) (x1 : List Int) (x2 : List R_i64_i64_i64_bool) : Bool := (bif tb (Zc3 x0 x1 x2) then (bif tb (Zbf x0 x1 x2) then (bif tb (Zc2 x2) then (bif tb (Zku (Zer x1)) then (bif tb (Zfs [90, (Zbs x2)] (Zdh x0) (Zbr x1)) then (bif tb (Zdx x2 (Zl x0 x1 x2) (Zo x0 x1 x2)) then (bif tb (Znj (Zfl x0 x1 x2) (Zes x0 x1 x2)) then true else false) else false) else false) else false) else false) else true) else false)
def Zw (x0 : Int) (x1 : List Int) (x2 : List R_i64_i64_i64_bool) : Bool := (bif tb (Zbf x0 x1 x2) then false else true)
def Z9 (x0 : Int) (x1 : List Int) (x2 : List R_i64_i64_i64_bool) : Int := (bif tb (Zbf x0 x1 x2) then 0 else 1)
def Zc (x0 : Int) (x1 : List Int) (x2 : List R_i64_i64_i64_bool) : List Int := (bif tb (Zbf x0 x1 x2) then (Zou (Zfl x0 x1 x2) (Zes x0 x1 x2)) else ([] : List Int))
theorem Zgt (x0 : Int) (x1 : List Int) (x2 : List R_i64_i64_i64_bool) : Zb3 x0 x1 x2 = true → cl E0 18 [(V.agg (List.map V.d ([(.int .i64 x0)] ++ arrD .i64 x1 8 ++ arrE Za x2 8)))] [] = some ([(V.so (Zw x0 x1 x2) 0 ((Zc x0 x1 x2).length)), (V.d (.int .i64 (Z9 x0 x1 x2)))], [(Blk.flat 5 1 (List.map (encI .u8) (Zc x0 x1 x2)) false)]) := by
 unfold Zb3 Zw Z9 Zc
 cases h1 : tb (Zc3 x0 x1 x2)
 ·exact ZN
 ·cases h2 : tb (Zbf x0 x1 x2)
  ·exact fun g0 => w18 [.c (Zgu x0 x1 x2 (tbE h1)), .b (notF (tbE h2))] (by kernel_rfl)
  ·cases h3 : tb (Zc2 x2)
   ·exact ZN
   ·cases h4 : tb (Zku (Zer x1))
    ·exact ZN
    ·cases h5 : tb (Zfs [90, (Zbs x2)] (Zdh x0) (Zbr x1))
     ·exact ZN
     ·cases h6 : tb (Zdx x2 (Zl x0 x1 x2) (Zo x0 x1 x2))
      ·exact ZN
      ·cases h7 : tb (Znj (Zfl x0 x1 x2) (Zes x0 x1 x2))
       ·exact ZN
       ·exact fun g0 => w18 [.c (Zgu x0 x1 x2 (tbE h1)), .b (notT (tbE h2)), .c (Zkt x0 x1 x2 (tbE h3)), .c (Zuh x0), .c (Zy3 false (Zer x1) (tbE h4)), .c (Zqt [90, (Zbs x2)] (Zdh x0) (Zbr x1) false (Zip x0) (Zib x1) false false false false false (tbE h5)), .s (Znc x0 x1 x2 [90, (Zbs x2)] (Zdh x0) (Zbr x1) (Zl x0 x1 x2) false false false false false (Zip x0) (Zib x1) false false (Zo x0 x1 x2) (tbE h6)), .y (mm := [(Blk.flat 55 41 [([(.int .i64 x0)] ++ arrD .i64 x1 8 ++ arrE Za x2 8)] false), (Blk.flat 5 1 [] false), (Blk.flat 5 1 (List.map (encI .u8) [90, (Zbs x2)]) false), (Blk.flat 5 1 (List.map (encI .u8) (Zdh x0)) false), (Blk.flat 5 1 (List.map (encI .u8) (Zbr x1)) false), (Blk.gen 37 1 [[(V.so false 2 ([90, (Zbs x2)].length))], [(V.so (Zip x0) 3 ((Zdh x0).length))], [(V.so (Zib x1) 4 ((Zbr x1).length))]] false), (Blk.flat 5 1 (List.map (encI .u8) ((Zf (Zl x0 x1 x2) x2 (Zo x0 x1 x2)).c5)) false), (Blk.flat 5 1 [] false), (Blk.gen 37 1 [[(V.so ((Zf (Zl x0 x1 x2) x2 (Zo x0 x1 x2)).c3) 6 (((Zf (Zl x0 x1 x2) x2 (Zo x0 x1 x2)).c5).length))]] false)]) (args := [(V.so ((Zf (Zl x0 x1 x2) x2 (Zo x0 x1 x2)).c3) 6 (((Zf (Zl x0 x1 x2) x2 (Zo x0 x1 x2)).c5).length))]) (args1 := [(V.d (slD (encI .u8) true 1 ((Zf (Zl x0 x1 x2) x2 (Zo x0 x1 x2)).c3) ((Zf (Zl x0 x1 x2) x2 (Zo x0 x1 x2)).c5)))]) (Zgj (Zqi (enc := (encI .u8)) (l := ((Zf (Zl x0 x1 x2) x2 (Zo x0 x1 x2)).c5)) (b := ((Zf (Zl x0 x1 x2) x2 (Zo x0 x1 x2)).c3)) (e := 5) (s := 1) (p := false) (n := (((Zf (Zl x0 x1 x2) x2 (Zo x0 x1 x2)).c5).length)) (Nat.beq_refl _) (by kernel_rfl)) (by kernel_rfl)), .c (Z11 (Zfl x0 x1 x2) (Zes x0 x1 x2) (tbE h7))] (by kernel_rfl)
def Zd9 (x4 : List Int) : Bool := (bif tb ((((x4.length : Nat) : Int) : Int) != 54) then true else false)
theorem Zuk (x0 : List Int) (x1 : List R_i64_i64_i64_bool) (x3 : Bool) (x4 : List Int) : Zd9 x4 = true → segG (runC E0 (cl E0) S21_0) [0, 2] [2, 3] [0, 2] 1 ([(V.d (slD (encI .u8) true 1 x3 x4)), (V.ptr 0 1 0 0)], [(Blk.flat 55 41 [([(.int .i64 0)] ++ arrD .i64 x0 8 ++ arrE Za x1 8)] false)]) = some (.ret, ([(V.ptr 0 1 0 0), (V.d (.int .i64 3))], [(Blk.flat 55 41 [([(.int .i64 0)] ++ arrD .i64 [0, 0, 0, 0, 0, 0, 0, 0] 8 ++ arrE Za ([⟨0, 0, 0, false⟩, ⟨0, 0, 0, false⟩, ⟨0, 0, 0, false⟩, ⟨0, 0, 0, false⟩, ⟨0, 0, 0, false⟩, ⟨0, 0, 0, false⟩, ⟨0, 0, 0, false⟩, ⟨0, 0, 0, false⟩] : List R_i64_i64_i64_bool) 8)] false)])) := by
 unfold Zd9
 cases h1 : tb ((((x4.length : Nat) : Int) : Int) != 54)
 ·exact ZN
 ·exact fun g0 => Zbh [.o 13 (fun _ => Zcd (enc := (encI .u8)) (l := x4) (fl := true) (n := x3) (s := 1)), .b (tbE h1)] (by kernel_rfl)
theorem Zqr (x0 : List Int) (x1 : List R_i64_i64_i64_bool) (x3 : Bool) (x4 : List Int) : Zd9 x4 = false → segG (runC E0 (cl E0) S21_0) [0, 2] [2, 3] [0, 2] 1 ([(V.d (slD (encI .u8) true 1 x3 x4)), (V.ptr 0 1 0 0)], [(Blk.flat 55 41 [([(.int .i64 0)] ++ arrD .i64 x0 8 ++ arrE Za x1 8)] false)]) = some (.normal, ([(V.d (slD (encI .u8) true 1 x3 x4)), (V.ptr 0 1 0 0)], [(Blk.flat 55 41 [([(.int .i64 0)] ++ arrD .i64 x0 8 ++ arrE Za x1 8)] false)])) := by
 unfold Zd9
 cases h1 : tb ((((x4.length : Nat) : Int) : Int) != 54)
 ·exact fun g0 => Zbh [.o 13 (fun _ => Zcd (enc := (encI .u8)) (l := x4) (fl := true) (n := x3) (s := 1)), .b (tbE h1)] (by kernel_rfl)
 ·exact fun g0 => absurd g0 tf
def Zjr (x7 : List Int) : Bool := (bif tb (ins x7.length 2 4) then (bif tb (Zi2 (sub x7 2 4)) then true else false) else false)
theorem Zqq (x0 : List Int) (x1 : List R_i64_i64_i64_bool) (x2 : List Int) (x3 : List R_i64_i64_i64_bool) (x4 x6 : Bool) (x7 : List Int) : Zjr x7 = true → segG (runC E0 (cl E0) S21_1) [0, 2, 4] [] [0, 2, 4] 2 ([(V.d (slD (encI .u8) true 1 x6 x7)), (V.ptr 0 1 0 0), (V.ptr 1 1 0 0)], [(Blk.flat 55 41 [([(.int .i64 0)] ++ arrD .i64 x0 8 ++ arrE Za x1 8)] x4), (Blk.flat 55 41 [([(.int .i64 0)] ++ arrD .i64 x2 8 ++ arrE Za x3 8)] false)]) = some (.normal, ([(V.d (slD (encI .u8) true 1 x6 x7)), (V.ptr 0 1 0 0), (V.ptr 1 1 0 0)], [(Blk.flat 55 41 [([(.int .i64 0)] ++ arrD .i64 x0 8 ++ arrE Za x1 8)] x4), (Blk.flat 55 41 [([(.int .i64 (Zb9 (sub x7 2 4)))] ++ arrD .i64 x2 8 ++ arrE Za x3 8)] false)])) := by
 unfold Zjr
 cases h1 : tb (ins x7.length 2 4)
 ·exact ZN
 ·cases h2 : tb (Zi2 (sub x7 2 4))
  ·exact ZN
  ·exact fun g0 => Zbh [.o 18 (fun _ => Znp (enc := (encI .u8)) (l := x7) (fl := true) (n := x6) (s := 1) (some (.i64, 2)) (some (.i64, 4)) (tbE h1)), .c (Zul (x6 && x7.isEmpty) (sub x7 2 4) (tbE h2))] (by kernel_rfl)
def Zjq (x7 : Bool) (x8 : List Int) : Bool := (bif tb (ins x8.length 4 36) then (bif tb (Zkv (x7 && x8.isEmpty) (sub x8 4 36)) then (bif tb (Zik (x7 && x8.isEmpty) (sub x8 4 36)) then false else (bif tb (Nat.ble 8 ((Zbx (x7 && x8.isEmpty) (sub x8 4 36)).length)) then true else false)) else false) else false)
theorem Zql (x0 : List Int) (x1 : List R_i64_i64_i64_bool) (x2 : Int) (x3 : List Int) (x4 : List R_i64_i64_i64_bool) (x5 x7 : Bool) (x8 : List Int) : Zjq x7 x8 = true → segG (runC E0 (cl E0) S21_2) [0, 2, 4] [] [0, 2, 4] 2 ([(V.d (slD (encI .u8) true 1 x7 x8)), (V.ptr 0 1 0 0), (V.ptr 1 1 0 0)], [(Blk.flat 55 41 [([(.int .i64 0)] ++ arrD .i64 x0 8 ++ arrE Za x1 8)] x5), (Blk.flat 55 41 [([(.int .i64 x2)] ++ arrD .i64 x3 8 ++ arrE Za x4 8)] false)]) = some (.normal, ([(V.d (slD (encI .u8) true 1 x7 x8)), (V.ptr 0 1 0 0), (V.ptr 1 1 0 0)], [(Blk.flat 55 41 [([(.int .i64 0)] ++ arrD .i64 x0 8 ++ arrE Za x1 8)] x5), (Blk.flat 55 41 [([(.int .i64 x2)] ++ arrD .i64 (Zbx (x7 && x8.isEmpty) (sub x8 4 36)) 8 ++ arrE Za x4 8)] false)])) := by
 unfold Zjq
 cases h1 : tb (ins x8.length 4 36)
 ·exact ZN
 ·cases h2 : tb (Zkv (x7 && x8.isEmpty) (sub x8 4 36))
  ·exact ZN
  ·cases h3 : tb (Zik (x7 && x8.isEmpty) (sub x8 4 36))
   ·cases h4 : tb (Nat.ble 8 ((Zbx (x7 && x8.isEmpty) (sub x8 4 36)).length))
    ·exact ZN
    ·exact fun g0 => Zbh [.o 25 (fun _ => Znp (enc := (encI .u8)) (l := x8) (fl := true) (n := x7) (s := 1) (some (.i64, 4)) (some (.i64, 36)) (tbE h1)), .c (Zy5 (x7 && x8.isEmpty) (sub x8 4 36) (tbE h2)), .m 30 (o_arrP (m := [(Blk.flat 55 41 [([(.int .i64 0)] ++ arrD .i64 x0 8 ++ arrE Za x1 8)] x5), (Blk.flat 55 41 [([(.int .i64 x2)] ++ arrD .i64 x3 8 ++ arrE Za x4 8)] false), (Blk.flat 3 1 (List.map (encI .i64) (Zbx (x7 && x8.isEmpty) (sub x8 4 36))) false)]) (nl := (Zik (x7 && x8.isEmpty) (sub x8 4 36))) (id := 2) (n := ((Zbx (x7 && x8.isEmpty) (sub x8 4 36)).length)) (k := 8) (s := 1) (tbE h3) (by kernel_rfl) (tbE h4)), .m 31 (Z55 (m := [(Blk.flat 55 41 [([(.int .i64 0)] ++ arrD .i64 x0 8 ++ arrE Za x1 8)] x5), (Blk.flat 55 41 [([(.int .i64 x2)] ++ arrD .i64 x3 8 ++ arrE Za x4 8)] false), (Blk.flat 3 1 (List.map (encI .i64) (Zbx (x7 && x8.isEmpty) (sub x8 4 36))) false)]) (kd := .i64) (l := (Zbx (x7 && x8.isEmpty) (sub x8 4 36))) (id := 2) (n := ((Zbx (x7 && x8.isEmpty) (sub x8 4 36)).length)) (k := 8) (e := 3) (p := false) (Nat.beq_refl _) (by kernel_rfl) (tbE h4))] (by kernel_rfl)
   ·exact ZN
structure Zca where
 c2 : Int
 c9 : List R_i64_i64_i64_bool
 deriving Inhabited
def Ze2 (x9 : List Int) (s0 : Zca) : List Int := sub x9 (wi (36 + (wi (2 * s0.c2)))) (wi ((wi (36 + (wi (2 * s0.c2)))) + 2))
def Zle (x9 : List Int) (s0 : Zca) : R_i64_i64_i64_bool := (⟨(Zgy (Zb9 (Ze2 x9 s0))), (Zg0 (Zb9 (Ze2 x9 s0))), (Zg1 (Zb9 (Ze2 x9 s0))), (Zgx (Zb9 (Ze2 x9 s0)))⟩ : R_i64_i64_i64_bool)
def Zl4 (x0 : Int) (x1 : List Int) (x2 : List R_i64_i64_i64_bool) (x3 : Int) (x4 : List Int) (x5 : List R_i64_i64_i64_bool) (x6 x7 x8 : Bool) (x9 : List Int) (x10 : Int) (s0 : Zca) : List V × Mem := ([(V.d (slD (encI .u8) true 1 x8 x9)), (V.ptr 0 1 0 0), (V.ptr 1 1 0 0), (V.d (.int .i64 s0.c2))], [(Blk.flat 55 41 [([(.int .i64 x0)] ++ arrD .i64 x1 8 ++ arrE Za x2 8)] x6), (Blk.flat 55 41 [([(.int .i64 x3)] ++ arrD .i64 x4 8 ++ arrE Za s0.c9 8)] false)])
def Zfw (x9 : List Int) (s0 : Zca) : Bool := (bif tb (decide (s0.c2 < 8)) then (bif tb (ins x9.length (wi (36 + (wi (2 * s0.c2)))) (wi ((wi (36 + (wi (2 * s0.c2)))) + 2))) then (bif tb (Zi2 (Ze2 x9 s0)) then (bif tb (inb 8 s0.c2) then true else false) else false) else false) else false)
def Zht (x9 : List Int) (s0 : Zca) : Zca := ⟨(wi (s0.c2 + 1)), (staE s0.c9 8 s0.c2 (Zle x9 s0))⟩
def Zmb (x9 : List Int) (s0 : Zca) : Bool := (itS (Zfw x9) (Zht x9) bound s0).isSome
def Zgm (x9 : List Int) (s0 : Zca) : Zca := (itS (Zfw x9) (Zht x9) bound s0).getD default
theorem Zuw (x0 : Int) (x1 : List Int) (x2 : List R_i64_i64_i64_bool) (x3 : Int) (x4 : List Int) (x5 : List R_i64_i64_i64_bool) (x6 x7 x8 : Bool) (x9 : List Int) (x10 : Int) (s0 : Zca) : Zfw x9 s0 = true → (roundG (runC E0 (cl E0) L21_3) [0, 2, 4, 33] [0, 2, 4] 2) (Zl4 x0 x1 x2 x3 x4 x5 x6 x7 x8 x9 x10 s0) = some (.normal, Zl4 x0 x1 x2 x3 x4 x5 x6 x7 x8 x9 x10 (Zht x9 s0)) := by
 unfold Zfw Zht
 cases h1 : tb (decide (s0.c2 < 8))
 ·exact ZN
 ·cases h2 : tb (ins x9.length (wi (36 + (wi (2 * s0.c2)))) (wi ((wi (36 + (wi (2 * s0.c2)))) + 2)))
  ·exact ZN
  ·cases h3 : tb (Zi2 (Ze2 x9 s0))
   ·exact ZN
   ·cases h4 : tb (inb 8 s0.c2)
    ·exact ZN
    ·exact fun _ => Z8 [.b (tbE h1), .o 45 (fun _ => Znp (enc := (encI .u8)) (l := x9) (fl := true) (n := x8) (s := 1) (some (.i64, (wi (36 + (wi (2 * s0.c2)))))) (some (.i64, (wi ((wi (36 + (wi (2 * s0.c2)))) + 2)))) (tbE h2)), .c (Zul (x8 && x9.isEmpty) (Ze2 x9 s0) (tbE h3)), .c (Zx0 (Zb9 (Ze2 x9 s0))), .o 56 (fun _ => Zim (id := 1) (nn := 1) (row := 0) (off := 9) (n := 8) (s := 4) (k := .i64) (i := s0.c2) (tbE h4)), .m 100056 (Zpk (m := [(Blk.flat 55 41 [([(.int .i64 x0)] ++ arrD .i64 x1 8 ++ arrE Za x2 8)] x6), (Blk.flat 55 41 [([(.int .i64 x3)] ++ arrD .i64 x4 8 ++ arrE Za s0.c9 8)] false)]) (enc := Za) (z := 4) (fun _ => rfl) (by decide) (fun _ => rfl) (id := 1) (nn := 1) (row := 0) (off := 9) (n := 8) (s := 41) (e := 55) (rows := [([(.int .i64 x3)] ++ arrD .i64 x4 8 ++ arrE Za s0.c9 8)]) (cs := ([(.int .i64 x3)] ++ arrD .i64 x4 8 ++ arrE Za s0.c9 8)) (T := s0.c9) (i := s0.c2) (v := (Zle x9 s0)) (by kernel_rfl) (by kernel_rfl) (by kernel_rfl) (by kernel_rfl) (tbE h4))] (by kernel_rfl)
def Zk7 (s0 : Zca) : Bool := (bif tb (decide (s0.c2 < 8)) then false else true)
theorem Zuy (x0 : Int) (x1 : List Int) (x2 : List R_i64_i64_i64_bool) (x3 : Int) (x4 : List Int) (x5 : List R_i64_i64_i64_bool) (x6 x7 x8 : Bool) (x9 : List Int) (x10 : Int) (s0 : Zca) : Zfw x9 s0 = false → Zk7 s0 = true → (roundG (runC E0 (cl E0) L21_3) [0, 2, 4, 33] [0, 2, 4] 2) (Zl4 x0 x1 x2 x3 x4 x5 x6 x7 x8 x9 x10 s0) = some ((.exit 0), ([(V.d (slD (encI .u8) true 1 x8 x9)), (V.ptr 0 1 0 0), (V.ptr 1 1 0 0)], [(Blk.flat 55 41 [([(.int .i64 x0)] ++ arrD .i64 x1 8 ++ arrE Za x2 8)] x6), (Blk.flat 55 41 [([(.int .i64 x3)] ++ arrD .i64 x4 8 ++ arrE Za s0.c9 8)] false)])) := by
 unfold Zfw Zk7
 cases h1 : tb (decide (s0.c2 < 8))
 ·intro g0 g1
  exact Z8 [.b (tbE h1)] (by kernel_rfl)
 ·cases h2 : tb (ins x9.length (wi (36 + (wi (2 * s0.c2)))) (wi ((wi (36 + (wi (2 * s0.c2)))) + 2)))
  ·intro g0 g1
   exact absurd g1 ft
  ·cases h3 : tb (Zi2 (Ze2 x9 s0))
   ·intro g0 g1
    exact absurd g1 ft
   ·cases h4 : tb (inb 8 s0.c2)
    ·intro g0 g1
     exact absurd g1 ft
    ·intro g0 g1
     exact absurd g0 tf
theorem Zta (x0 : Int) (x1 : List Int) (x2 : List R_i64_i64_i64_bool) (x3 : Int) (x4 : List Int) (x5 : List R_i64_i64_i64_bool) (x6 x7 x8 : Bool) (x9 : List Int) (x10 : Int) (s : Zca) (hok : Zmb x9 s = true) (c0 : Zk7 (Zgm x9 s) = true) : loopG (roundG (runC E0 (cl E0) L21_3) [0, 2, 4, 33] [0, 2, 4] 2) bound (Zl4 x0 x1 x2 x3 x4 x5 x6 x7 x8 x9 x10 s) = some ((.exit 0), ([(V.d (slD (encI .u8) true 1 x8 x9)), (V.ptr 0 1 0 0), (V.ptr 1 1 0 0)], [(Blk.flat 55 41 [([(.int .i64 x0)] ++ arrD .i64 x1 8 ++ arrE Za x2 8)] x6), (Blk.flat 55 41 [([(.int .i64 x3)] ++ arrD .i64 x4 8 ++ arrE Za ((Zgm x9 s).c9) 8)] false)])) := by
 have e : itS (Zfw x9) (Zht x9) bound s = some (Zgm x9 s) := Zgn hok
 have f := Ze1 e
 exact Zgh (Zuw x0 x1 x2 x3 x4 x5 x6 x7 x8 x9 x10) bound s _ _ _ e (fun h => by cases h) (Zuy x0 x1 x2 x3 x4 x5 x6 x7 x8 x9 x10 (Zgm x9 s) f c0)
def Zd7 (x4 : List R_i64_i64_i64_bool) (x8 : List Int) : List R_i64_i64_i64_bool := ((Zgm x8 (⟨0, x4⟩ : Zca)).c9)
def Zjs (x4 : List R_i64_i64_i64_bool) (x8 : List Int) : Bool := (bif tb (Zmb x8 (⟨0, x4⟩ : Zca)) then (bif tb (Zk7 (Zgm x8 (⟨0, x4⟩ : Zca))) then true else false) else false)
theorem Zqm (x0 : List Int) (x1 : List R_i64_i64_i64_bool) (x2 : Int) (x3 : List Int) (x4 : List R_i64_i64_i64_bool) (x5 x7 : Bool) (x8 : List Int) : Zjs x4 x8 = true → segG (runC E0 (cl E0) S21_4) [0, 2, 4] [] [0, 2, 4] 2 ([(V.d (slD (encI .u8) true 1 x7 x8)), (V.ptr 0 1 0 0), (V.ptr 1 1 0 0)], [(Blk.flat 55 41 [([(.int .i64 0)] ++ arrD .i64 x0 8 ++ arrE Za x1 8)] x5), (Blk.flat 55 41 [([(.int .i64 x2)] ++ arrD .i64 x3 8 ++ arrE Za x4 8)] false)]) = some (.normal, ([(V.d (slD (encI .u8) true 1 x7 x8)), (V.ptr 0 1 0 0), (V.ptr 1 1 0 0)], [(Blk.flat 55 41 [([(.int .i64 0)] ++ arrD .i64 x0 8 ++ arrE Za x1 8)] x5), (Blk.flat 55 41 [([(.int .i64 x2)] ++ arrD .i64 x3 8 ++ arrE Za (Zd7 x4 x8) 8)] false)])) := by
 unfold Zjs
 cases h1 : tb (Zmb x8 (⟨0, x4⟩ : Zca))
 ·exact ZN
 ·cases h2 : tb (Zk7 (Zgm x8 (⟨0, x4⟩ : Zca)))
  ·exact ZN
  ·exact fun g0 => Zbh [.l (Zta 0 x0 x1 x2 x3 x4 x5 false x7 x8 0 (⟨0, x4⟩ : Zca) (tbE h1) (tbE h2))] (by kernel_rfl)
def Zfe (x2 : Int) (x3 : List Int) (x4 : List R_i64_i64_i64_bool) (x8 : List Int) : Bool := (bif tb (Zb3 x2 x3 x4) then (bif tb (((Z9 x2 x3 x4) : Int) != 0) then true else (bif tb (Zf7 (Zc x2 x3 x4) x8) then (bif tb (Zfr (Zc x2 x3 x4) x8) then false else true) else false)) else false)
def Zjp (x2 : Int) (x3 : List Int) (x4 : List R_i64_i64_i64_bool) (x8 : List Int) : Bool := (bif tb (Zb3 x2 x3 x4) then (bif tb (((Z9 x2 x3 x4) : Int) != 0) then false else (bif tb (Zf7 (Zc x2 x3 x4) x8) then (bif tb (Zfr (Zc x2 x3 x4) x8) then true else false) else false)) else false)
theorem Zuu (x0 : List Int) (x1 : List R_i64_i64_i64_bool) (x2 : Int) (x3 : List Int) (x4 : List R_i64_i64_i64_bool) (x6 x7 : Bool) (x8 : List Int) : Zfe x2 x3 x4 x8 = true → segG (runC E0 (cl E0) S21_5) [0, 2, 4] [2, 3] [2, 4] 2 ([(V.d (slD (encI .u8) true 1 x7 x8)), (V.ptr 0 1 0 0), (V.ptr 1 1 0 0)], [(Blk.flat 55 41 [([(.int .i64 0)] ++ arrD .i64 x0 8 ++ arrE Za x1 8)] false), (Blk.flat 55 41 [([(.int .i64 x2)] ++ arrD .i64 x3 8 ++ arrE Za x4 8)] x6)]) = some (.ret, ([(V.ptr 0 1 0 0), (V.d (.int .i64 3))], [(Blk.flat 55 41 [([(.int .i64 0)] ++ arrD .i64 [0, 0, 0, 0, 0, 0, 0, 0] 8 ++ arrE Za ([⟨0, 0, 0, false⟩, ⟨0, 0, 0, false⟩, ⟨0, 0, 0, false⟩, ⟨0, 0, 0, false⟩, ⟨0, 0, 0, false⟩, ⟨0, 0, 0, false⟩, ⟨0, 0, 0, false⟩, ⟨0, 0, 0, false⟩] : List R_i64_i64_i64_bool) 8)] false), (Blk.flat 55 41 [([(.int .i64 x2)] ++ arrD .i64 x3 8 ++ arrE Za x4 8)] x6)])) := by
 unfold Zfe
 cases h1 : tb (Zb3 x2 x3 x4)
 ·exact ZN
 ·cases h2 : tb (((Z9 x2 x3 x4) : Int) != 0)
  ·cases h3 : tb (Zf7 (Zc x2 x3 x4) x8)
   ·exact ZN
   ·cases h4 : tb (Zfr (Zc x2 x3 x4) x8)
    ·exact fun g0 => Zbh [.c (Zgt x2 x3 x4 (tbE h1)), .b (tbE h2), .y (mm := [(Blk.flat 55 41 [([(.int .i64 0)] ++ arrD .i64 x0 8 ++ arrE Za x1 8)] false), (Blk.flat 55 41 [([(.int .i64 x2)] ++ arrD .i64 x3 8 ++ arrE Za x4 8)] x6), (Blk.flat 5 1 (List.map (encI .u8) (Zc x2 x3 x4)) false)]) (args := [(V.so (Zw x2 x3 x4) 2 ((Zc x2 x3 x4).length)), (V.d (slD (encI .u8) true 1 x7 x8))]) (args1 := [(V.d (slD (encI .u8) true 1 (Zw x2 x3 x4) (Zc x2 x3 x4))), (V.d (slD (encI .u8) true 1 x7 x8))]) (Zgj (Zqi (enc := (encI .u8)) (l := (Zc x2 x3 x4)) (b := (Zw x2 x3 x4)) (e := 5) (s := 1) (p := false) (n := ((Zc x2 x3 x4).length)) (Nat.beq_refl _) (by kernel_rfl)) (by kernel_rfl)), .c (Zpz (Zw x2 x3 x4) (Zc x2 x3 x4) x7 x8 (tbE h3)), .b (notF (tbE h4))] (by kernel_rfl)
    ·exact ZN
  ·exact fun g0 => Zbh [.c (Zgt x2 x3 x4 (tbE h1)), .b (tbE h2)] (by kernel_rfl)
theorem Zux (x0 : List Int) (x1 : List R_i64_i64_i64_bool) (x2 : Int) (x3 : List Int) (x4 : List R_i64_i64_i64_bool) (x6 x7 : Bool) (x8 : List Int) : Zfe x2 x3 x4 x8 = false → Zjp x2 x3 x4 x8 = true → segG (runC E0 (cl E0) S21_5) [0, 2, 4] [2, 3] [2, 4] 2 ([(V.d (slD (encI .u8) true 1 x7 x8)), (V.ptr 0 1 0 0), (V.ptr 1 1 0 0)], [(Blk.flat 55 41 [([(.int .i64 0)] ++ arrD .i64 x0 8 ++ arrE Za x1 8)] false), (Blk.flat 55 41 [([(.int .i64 x2)] ++ arrD .i64 x3 8 ++ arrE Za x4 8)] x6)]) = some (.normal, ([(V.ptr 0 1 0 0), (V.ptr 1 1 0 0)], [(Blk.flat 55 41 [([(.int .i64 0)] ++ arrD .i64 x0 8 ++ arrE Za x1 8)] false), (Blk.flat 55 41 [([(.int .i64 x2)] ++ arrD .i64 x3 8 ++ arrE Za x4 8)] x6)])) := by
 unfold Zfe Zjp
 cases h1 : tb (Zb3 x2 x3 x4)
 ·intro g0 g1
  exact absurd g1 ft
 ·cases h2 : tb (((Z9 x2 x3 x4) : Int) != 0)
  ·cases h3 : tb (Zf7 (Zc x2 x3 x4) x8)
   ·intro g0 g1
    exact absurd g1 ft
   ·cases h4 : tb (Zfr (Zc x2 x3 x4) x8)
    ·intro g0 g1
     exact absurd g0 tf
    ·intro g0 g1
     exact Zbh [.c (Zgt x2 x3 x4 (tbE h1)), .b (tbE h2), .y (mm := [(Blk.flat 55 41 [([(.int .i64 0)] ++ arrD .i64 x0 8 ++ arrE Za x1 8)] false), (Blk.flat 55 41 [([(.int .i64 x2)] ++ arrD .i64 x3 8 ++ arrE Za x4 8)] x6), (Blk.flat 5 1 (List.map (encI .u8) (Zc x2 x3 x4)) false)]) (args := [(V.so (Zw x2 x3 x4) 2 ((Zc x2 x3 x4).length)), (V.d (slD (encI .u8) true 1 x7 x8))]) (args1 := [(V.d (slD (encI .u8) true 1 (Zw x2 x3 x4) (Zc x2 x3 x4))), (V.d (slD (encI .u8) true 1 x7 x8))]) (Zgj (Zqi (enc := (encI .u8)) (l := (Zc x2 x3 x4)) (b := (Zw x2 x3 x4)) (e := 5) (s := 1) (p := false) (n := ((Zc x2 x3 x4).length)) (Nat.beq_refl _) (by kernel_rfl)) (by kernel_rfl)), .c (Zpz (Zw x2 x3 x4) (Zc x2 x3 x4) x7 x8 (tbE h3)), .b (notT (tbE h4))] (by kernel_rfl)
  ·intro g0 g1
   exact absurd g0 tf
def Zbj  : List R_i64_i64_i64_bool := ([⟨0, 0, 0, false⟩, ⟨0, 0, 0, false⟩, ⟨0, 0, 0, false⟩, ⟨0, 0, 0, false⟩, ⟨0, 0, 0, false⟩, ⟨0, 0, 0, false⟩, ⟨0, 0, 0, false⟩, ⟨0, 0, 0, false⟩] : List R_i64_i64_i64_bool)
def Zj4 (x0 : Bool) (x1 : List Int) : Bool := (bif tb (Zd9 x1) then true else (bif tb (Zjr x1) then (bif tb (Zjq x0 x1) then (bif tb (Zjs Zbj x1) then (bif tb (Zfe (Zb9 (sub x1 2 4)) (Zbx (x0 && x1.isEmpty) (sub x1 4 36)) (Zd7 Zbj x1) x1) then true else (bif tb (Zjp (Zb9 (sub x1 2 4)) (Zbx (x0 && x1.isEmpty) (sub x1 4 36)) (Zd7 Zbj x1) x1) then true else false)) else false) else false) else false))
def Zkb (x0 : Bool) (x1 : List Int) : Int := (bif tb (Zd9 x1) then 0 else (bif tb (Zfe (Zb9 (sub x1 2 4)) (Zbx (x0 && x1.isEmpty) (sub x1 4 36)) (Zd7 Zbj x1) x1) then 0 else (Zb9 (sub x1 2 4))))
def Ze8 (x0 : Bool) (x1 : List Int) : List Int := (bif tb (Zd9 x1) then [0, 0, 0, 0, 0, 0, 0, 0] else (bif tb (Zfe (Zb9 (sub x1 2 4)) (Zbx (x0 && x1.isEmpty) (sub x1 4 36)) (Zd7 Zbj x1) x1) then [0, 0, 0, 0, 0, 0, 0, 0] else (Zbx (x0 && x1.isEmpty) (sub x1 4 36))))
def Zx (x0 : Bool) (x1 : List Int) : List R_i64_i64_i64_bool := (bif tb (Zd9 x1) then Zbj else (bif tb (Zfe (Zb9 (sub x1 2 4)) (Zbx (x0 && x1.isEmpty) (sub x1 4 36)) (Zd7 Zbj x1) x1) then Zbj else (Zd7 Zbj x1)))
def Zhe (x0 : Bool) (x1 : List Int) : Int := (bif tb (Zd9 x1) then 3 else (bif tb (Zfe (Zb9 (sub x1 2 4)) (Zbx (x0 && x1.isEmpty) (sub x1 4 36)) (Zd7 Zbj x1) x1) then 3 else 0))
theorem Zk4 (x0 : Bool) (x1 : List Int) : Zj4 x0 x1 = true → cl E0 21 [(V.d (slD (encI .u8) true 1 x0 x1))] [] = some ([(V.agg (List.map V.d ([(.int .i64 (Zkb x0 x1))] ++ arrD .i64 (Ze8 x0 x1) 8 ++ arrE Za (Zx x0 x1) 8))), (V.d (.int .i64 (Zhe x0 x1)))], []) := by
 unfold Zj4 Zkb Ze8 Zx Zhe
 cases h1 : tb (Zd9 x1)
 ·cases h2 : tb (Zjr x1)
  ·exact ZN
  ·cases h3 : tb (Zjq x0 x1)
   ·exact ZN
   ·cases h4 : tb (Zjs Zbj x1)
    ·exact ZN
    ·cases h5 : tb (Zfe (Zb9 (sub x1 2 4)) (Zbx (x0 && x1.isEmpty) (sub x1 4 36)) (Zd7 Zbj x1) x1)
     ·cases h6 : tb (Zjp (Zb9 (sub x1 2 4)) (Zbx (x0 && x1.isEmpty) (sub x1 4 36)) (Zd7 Zbj x1) x1)
      ·exact ZN
      ·exact fun g0 => w21 [.s (Zqr [0, 0, 0, 0, 0, 0, 0, 0] Zbj x0 x1 (tbE h1)), .s (Zqq [0, 0, 0, 0, 0, 0, 0, 0] Zbj [0, 0, 0, 0, 0, 0, 0, 0] Zbj false x0 x1 (tbE h2)), .s (Zql [0, 0, 0, 0, 0, 0, 0, 0] Zbj (Zb9 (sub x1 2 4)) [0, 0, 0, 0, 0, 0, 0, 0] Zbj false x0 x1 (tbE h3)), .s (Zqm [0, 0, 0, 0, 0, 0, 0, 0] Zbj (Zb9 (sub x1 2 4)) (Zbx (x0 && x1.isEmpty) (sub x1 4 36)) Zbj false x0 x1 (tbE h4)), .s (Zux [0, 0, 0, 0, 0, 0, 0, 0] Zbj (Zb9 (sub x1 2 4)) (Zbx (x0 && x1.isEmpty) (sub x1 4 36)) (Zd7 Zbj x1) false x0 x1 (tbE h5) (tbE h6))] (by kernel_rfl)
     ·exact fun g0 => w21 [.s (Zqr [0, 0, 0, 0, 0, 0, 0, 0] Zbj x0 x1 (tbE h1)), .s (Zqq [0, 0, 0, 0, 0, 0, 0, 0] Zbj [0, 0, 0, 0, 0, 0, 0, 0] Zbj false x0 x1 (tbE h2)), .s (Zql [0, 0, 0, 0, 0, 0, 0, 0] Zbj (Zb9 (sub x1 2 4)) [0, 0, 0, 0, 0, 0, 0, 0] Zbj false x0 x1 (tbE h3)), .s (Zqm [0, 0, 0, 0, 0, 0, 0, 0] Zbj (Zb9 (sub x1 2 4)) (Zbx (x0 && x1.isEmpty) (sub x1 4 36)) Zbj false x0 x1 (tbE h4)), .s (Zuu [0, 0, 0, 0, 0, 0, 0, 0] Zbj (Zb9 (sub x1 2 4)) (Zbx (x0 && x1.isEmpty) (sub x1 4 36)) (Zd7 Zbj x1) false x0 x1 (tbE h5))] (by kernel_rfl)
 ·exact fun g0 => w21 [.s (Zuk [0, 0, 0, 0, 0, 0, 0, 0] Zbj x0 x1 (tbE h1))] (by kernel_rfl)
end Go.Proofs.Ytkipngagfiaddaa.Den

namespace Go.Proofs.Ytkipngagfiaddaa.Den
open Go Go.Proofs
set_option linter.unusedVariables false
set_option linter.unusedSimpArgs false
theorem arr8S {x : List St4} (h : x.length = 8) : ([⟨((gt x 0).c0), ((gt x 0).c1), ((gt x 0).c2), ((gt x 0).c3)⟩, ⟨((gt x 1).c0), ((gt x 1).c1), ((gt x 1).c2), ((gt x 1).c3)⟩, ⟨((gt x 2).c0), ((gt x 2).c1), ((gt x 2).c2), ((gt x 2).c3)⟩, ⟨((gt x 3).c0), ((gt x 3).c1), ((gt x 3).c2), ((gt x 3).c3)⟩, ⟨((gt x 4).c0), ((gt x 4).c1), ((gt x 4).c2), ((gt x 4).c3)⟩, ⟨((gt x 5).c0), ((gt x 5).c1), ((gt x 5).c2), ((gt x 5).c3)⟩, ⟨((gt x 6).c0), ((gt x 6).c1), ((gt x 6).c2), ((gt x 6).c3)⟩, ⟨((gt x 7).c0), ((gt x 7).c1), ((gt x 7).c2), ((gt x 7).c3)⟩] : List St4) = x := by
  match x, h with
  | [a, b, c, d, e, f, g, i], _ => rfl
theorem Z85 (n : Int) : Zhj n = !(n32 n) := by
  simp only [Zhj, n32, tb_eq]
  by_cases h1 : n < -2147483648
  · have : ¬ (-2147483648 ≤ n) := by omega
    simp [h1, this]
  · have h2 : -2147483648 ≤ n := by omega
    by_cases h3 : 2147483647 < n
    · have : ¬ (n ≤ 2147483647) := by omega
      simp [h1, h2, h3, this]
    · have : n ≤ 2147483647 := by omega
      simp [h1, h2, h3, this]
theorem Z47 {l : List Int} (hl : l.length < 1152921504606846976) : Ze4 l = true ∧ decide (0 ≤ Zc1 l) = !(all32 l) := by
  obtain ⟨s1, e, _, a1, a2⟩ := Zvp (sel := Zbc l l.length) (nx := Zde l l.length) (s0 := ⟨0⟩) l (fun s => s.c3) n32 (fun _ => True) hl rfl trivial
    (fun s _ b1 b2 _ => ⟨by show wi _ = _; exact wi_eq (by omega) (by omega), trivial⟩)
    (fun s _ b1 b2 => by
      by_cases hi : s.c3 < l.length
      · have i1 := inb_of b1 hi
        simp only [Zbc, i1, hi, Z85, tb_eq, decide_true, cond_true, Bool.true_and]
        cases n32 (gt l s.c3) <;> rfl
      · simp [Zbc, hi])
  have he : Zc6 l = s1 := by simp only [Zc6, Zby, e, Option.getD_some]
  simp only [Ze4, Zc1, Zfi, e, he, tb_eq, Option.isSome_some, cond_true]
  rcases a2 with ⟨b1, b2⟩ | ⟨b1, b2, b3⟩
  · have h0 : Zbg l l.length s1 = false := by simp [Zbg, b1]
    have h1 : Zdc l.length s1 = true := by simp [Zdc, b1]
    have : all32 l = true := b2
    rw [h0, h1, this]; simp
  · have i1 := inb_of a1 b1
    have h0 : Zbg l l.length s1 = true := by simp [Zbg, b1, i1]
    have : all32 l = false := b3
    rw [h0, this]; simp [a1]
theorem Z5c {l : List St4} (hl : l.length < 1152921504606846976) : Zdq l = true ∧ decide (0 ≤ Zdj l) = !(l.all rightS) := by
  have hr : ∀ s : St4, Z4 s.c0 s.c1 s.c3 (Zv s.c0 s.c2) = rightS s := fun s => rfl
  obtain ⟨s1, e, _, a1, a2⟩ := Zvp (sel := Z3 l l.length) (nx := Zcr l l.length) (s0 := ⟨0⟩) l (fun s => s.c3) rightS (fun _ => True) hl rfl trivial
    (fun s _ b1 b2 _ => ⟨by show wi _ = _; exact wi_eq (by omega) (by omega), trivial⟩)
    (fun s _ b1 b2 => by
      by_cases hi : s.c3 < l.length
      · have i1 := inb_of b1 hi
        simp only [Z3, i1, hi, hr, tb_eq, decide_true, cond_true, Bool.true_and]
        cases rightS (gt l s.c3) <;> rfl
      · simp [Z3, hi])
  have he : Zci l = s1 := by simp only [Zci, Zbl, e, Option.getD_some]
  simp only [Zdq, Zdj, Zen, e, he, tb_eq, Option.isSome_some, cond_true]
  rcases a2 with ⟨b1, b2⟩ | ⟨b1, b2, b3⟩
  · have h0 : Z7 l l.length s1 = false := by simp [Z7, b1]
    have h1 : Zcq l.length s1 = true := by simp [Zcq, b1]
    rw [h0, h1, b2]; simp
  · have i1 := inb_of a1 b1
    have h0 : Z7 l l.length s1 = true := by simp [Z7, b1, i1]
    rw [h0, b3]; simp [a1]
def okO (s : Int) (x : List Int) (t : List St4) : Bool := n16 s && all32 x && t.all rightS
theorem Z0q (s : Int) {x : List Int} {t : List St4} (h : x.length = 8) (ht : t.length = 8) : Zc3 s x t = true ∧ Zbf s x t = okO s x t := by
  obtain ⟨i1, i2⟩ := Z47 (l := x) (by omega)
  obtain ⟨j1, j2⟩ := Z5c (l := t) (by omega)
  have e1 : Zfo t = t := arr8S ht
  simp only [Zc3, Zbf, Zc5, e1, arr8 h, Zfj, Zek, i1, i2, j1, j2, n16, tb_eq, okO]
  by_cases h1 : 0 ≤ s
  · by_cases h2 : s < 65536
    · cases all32 x <;> cases t.all rightS <;> simp [h1, h2]
    · simp [h1, h2]
  · simp [h1]
def failN (t : List St4) : Int := ((t.countP (·.c3) : Nat) : Int)
theorem Zzi {t : List St4} {k : Nat} (h : k < t.length) : (t.take (k + 1)).countP (·.c3) = (t.take k).countP (·.c3) + (if (gt t (k : Int)).c3 = true then 1 else 0) := by
  rw [Zpn h, List.countP_append]
  simp [List.countP_cons, List.countP_nil]
theorem Z23 (t : List St4) (k : Nat) : (t.take k).countP (·.c3) ≤ k := Nat.le_trans List.countP_le_length (by rw [List.length_take]; omega)
theorem Zzp {t : List St4} (ht : t.length = 8) : Zc2 t = true ∧ (Zcj t).c0 = failN t := by
  have run : itS (Zb4 t) (Zc7 t) bound ⟨0, 0⟩ = some ⟨(((t.take 8).countP (·.c3) : Nat) : Int), ((8 : Nat) : Int)⟩ := by
    refine Zmg (sel := Zb4 t) (nx := Zc7 t) (fun k => (⟨(((t.take k).countP (·.c3) : Nat) : Int), (k : Int)⟩ : Zn)) 8 (by omega) (fun k hk => ?_) rfl
    have i1 : inb 8 (k : Int) = true := inb_of (by omega) (by omega)
    have hc := Z23 t k
    have hw : wi ((k : Int) + 1) = ((k + 1 : Nat) : Int) := by rw [wi_eq (by omega) (by omega)]; omega
    constructor
    · show (bif tb (decide ((k : Int) < 8)) then (bif tb (inb 8 (k : Int)) then true else false) else false) = true
      rw [i1, decide_eq_true (by omega)]; rfl
    · show (bif tb ((gt t (k : Int)).c3) then (⟨(wi ((((t.take k).countP (·.c3) : Nat) : Int) + 1)), (wi ((k : Int) + 1))⟩ : Zn) else ⟨(((t.take k).countP (·.c3) : Nat) : Int), (wi ((k : Int) + 1))⟩) = _
      rw [hw, Zzi (by omega), wi_eq (by omega) (by omega)]
      cases (gt t (k : Int)).c3 <;> simp [tb_eq]
  have e0 : Zcj t = ⟨failN t, 8⟩ := by
    simp only [Zcj, Zdu, run, Option.getD_some]
    rw [List.take_of_length_le (by omega)]; rfl
  simp only [Zc2, e0, Zf9, run, Option.isSome_some, tb_eq, Zdv]
  exact ⟨rfl, trivial⟩
theorem Zub {t : List St4} (ht : t.length = 8) : 0 ≤ failN t ∧ failN t ≤ 8 := by
  have : t.countP (·.c3) ≤ t.length := List.countP_le_length
  unfold failN; omega
def pw (s : St4) : List Int := p2 (wordS s)
def bodyO (s : Int) (x : List Int) (t : List St4) : List Int := [90, failN t] ++ p2 s ++ x.flatMap p4 ++ t.flatMap pw
theorem Zto : ∀ t : List St4, (t.flatMap pw).length = 2 * t.length
  | [] => rfl
  | a :: t => by
    rw [List.flatMap_cons, List.length_append, Zto t]
    show 2 + _ = _
    rw [List.length_cons]; omega
theorem Zzm : ∀ t : List St4, Byts (t.flatMap pw)
  | [] => fun z hz => by simp at hz
  | a :: t => fun z hz => by
    rw [List.flatMap_cons, List.mem_append] at hz
    rcases hz with hz | hz
    · exact Z4i _ z hz
    · exact Zzm t z hz
theorem Ztg {s : Int} {x : List Int} {t : List St4} (h : x.length = 8) (ht : t.length = 8) : (bodyO s x t).length = 52 := by
  simp only [bodyO, List.length_append, Zqf, Zto, h, ht]; rfl
theorem Z49 {s : Int} {x : List Int} {t : List St4} (ht : t.length = 8) : Byts (bodyO s x t) := fun z hz => by
  have hf := Zub ht
  simp only [bodyO, List.mem_append] at hz
  rcases hz with ((hz | hz) | hz) | hz
  · simp at hz; omega
  · exact Z4i s z hz
  · exact Z02 x z hz
  · exact Zzm t z hz
theorem Z2d {s : Int} {x : List Int} {t : List St4} (h : x.length = 8) (ht : t.length = 8) : Sm (bodyO s x t) :=
  ⟨fun z hz => wf_u8 (Z49 ht z hz), by rw [Ztg h ht]; omega⟩
theorem Z5j {b0 : List Int} {t : List St4} (nl : Bool) (ht : t.length = 8) (hb : b0.length ≤ 1000) (hok : t.all rightS = true) :
    itS (Zbb t) (Zbo t) bound ⟨0, nl, b0⟩ = some ⟨8, false, b0 ++ t.flatMap pw⟩ := by
  have key : ∀ k : Nat, k < 8 → (Zbw t ⟨(k : Int), (if k = 0 then nl else false), b0 ++ (t.take k).flatMap pw⟩) = pw (gt t (k : Int)) := fun k hk => by
    show Zdh (wordS (gt t (k : Int))) = _
    have hm : rightS (gt t (k : Int)) = true := List.all_eq_true.1 hok _ (gt_mem (by omega) (by omega))
    obtain ⟨w1, w2, _⟩ := Z1q hm
    rw [Put2_r]; simp only [q2, pw, Zso.2 (show 0 ≤ wordS (gt t (k : Int)) ∧ wordS (gt t (k : Int)) < 65536 by omega), if_true]
  have run := Zmg (sel := Zbb t) (nx := Zbo t) (fun k => (⟨(k : Int), (if k = 0 then nl else false), b0 ++ (t.take k).flatMap pw⟩ : Zg)) 8 (by omega) (fun k hk => by
    have i1 : inb 8 (k : Int) = true := inb_of (by omega) (by omega)
    have hw : wi ((k : Int) + 1) = ((k + 1 : Nat) : Int) := by rw [wi_eq (by omega) (by omega)]; omega
    have hl : ((t.take k).flatMap pw).length = 2 * k := by rw [Zto, List.length_take]; omega
    have hk' := key k hk
    constructor
    · simp only [Zbb, hk', i1, tb_eq]
      show (bif decide ((k : Int) < 8) then (bif true then (bif (Ze9 (b0 ++ (t.take k).flatMap pw) (pw (gt t (k : Int)))) then true else false) else false) else false) = true
      have : Ze9 (b0 ++ (t.take k).flatMap pw) (pw (gt t (k : Int))) = true := by
        simp only [Ze9, tb_eq]
        rw [decide_eq_true (by rw [List.length_append, hl]; show (b0.length + 2 * k + 2) * 1 ≤ _; omega)]; rfl
      rw [this, decide_eq_true (by omega)]; rfl
    · simp only [Zbo, hk', hw]
      rw [Zpn (by omega), List.flatMap_append]
      simp [pw, p2]) rfl
  simp only [if_true, List.take_zero, List.flatMap_nil, List.append_nil] at run
  rw [show ((0 : Nat) : Int) = 0 from rfl] at run
  rw [run, List.take_of_length_le (by omega)]
  rfl
theorem Zzr (s : Int) {x : List Int} {t : List St4} (h : x.length = 8) (ht : t.length = 8) : Zb3 s x t = true ∧ Zw s x t = !(okO s x t) ∧ Z9 s x t = (if okO s x t = true then 0 else 1) ∧
    Zc s x t = (if okO s x t = true then sealed (bodyO s x t) else []) := by
  obtain ⟨r1, r2⟩ := Z0q s h ht
  simp only [Zb3, Zw, Z9, Zc, r1, r2]
  cases hk : okO s x t with
  | false => simp [tb_eq]
  | true =>
    have hk' := hk
    simp only [okO, Bool.and_eq_true] at hk'
    obtain ⟨⟨k3, k4⟩, k5⟩ := hk'
    obtain ⟨p1, p2'⟩ := Z62 (l := x) (by omega)
    obtain ⟨f1, f2⟩ := Zzp ht
    have hfb := Zub ht
    have hw : Zbs t = failN t := by simp only [Zbs, f2]; rw [u8w]; omega
    have hpa : putAll x = x.flatMap p4 := by simp [putAll, k4]
    have hq : q2 s = p2 s := by simp [q2, k3]
    have e1 : Zer x = x := arr8 h
    have e2 : Zbr x = x.flatMap p4 := by simp only [Zbr, e1, p2', hpa]
    have e4 : Zl s x t = [90, failN t] ++ p2 s ++ x.flatMap p4 := by simp only [Zl, hw, Put2_r, hq, e2]
    have cc : Zfs [90, failN t] (p2 s) (x.flatMap p4) = true := Z6l (by simp) (by simp [p2]) (by rw [Zqf]; omega)
    have hl4 : ([90, failN t] ++ p2 s ++ x.flatMap p4).length ≤ 1000 := by simp only [List.length_append, Zqf, h]; simp [p2]
    have run := Z5j (Zo s x t) ht hl4 k5
    have pe : Zf (Zl s x t) t (Zo s x t) = ⟨8, false, bodyO s x t⟩ := by
      simp only [Zf, Zbm, e4, run, Option.getD_some]; rfl
    have pc : Zcy (Zl s x t) t (Zo s x t) = true := by
      rw [e4] at pe; simp only [Zcy, Zeu, e4, pe, run, Option.isSome_some, tb_eq]; rfl
    have e7 : Zes s x t = bodyO s x t := by simp only [Zes, pe]
    have s2 : Zdx t (Zl s x t) (Zo s x t) = true := by simp only [Zdx, pc, tb_eq]; rfl
    obtain ⟨t1, t2⟩ := seal_r (Zfl s x t) (Z2d (s := s) h ht)
    simp only [f1, e1, p1, hw, Put2_r, hq, e2, cc, s2, e7, t1, t2, tb_eq, cond_true, Bool.not_true, if_true, and_self]
end Go.Proofs.Ytkipngagfiaddaa.Den

namespace Go.Proofs.Ytkipngagfiaddaa.Den
open Go Go.Proofs
set_option linter.unusedVariables false
set_option linter.unusedSimpArgs false
def seqO (l : List Int) : Int := g2 ((l.drop 2).take 2)
def valsO (l : List Int) : List Int := fours ((l.drop 4).take 32) 8
def wO (l : List Int) (i : Nat) : Int := g2 ((l.drop (36 + 2 * i)).take 2)
def stsN (l : List Int) (k : Nat) : List St4 := (List.range k).map fun i => parseS (wO l i)
def stsO (l : List Int) : List St4 := stsN l 8
def zS : St4 := ⟨0, 0, 0, false⟩
def zS8 : List St4 := [zS, zS, zS, zS, zS, zS, zS, zS]
theorem Zu5 (l : List Int) (k : Nat) : (stsN l k).length = k := by simp [stsN]
theorem Z09 (l : List Int) (k : Nat) : stsN l (k + 1) = stsN l k ++ [parseS (wO l k)] := by simp [stsN, List.range_succ]
theorem Zth (l : List Int) : (valsO l).length = 8 := Zr7 _ _
theorem Zv1 (l : List Int) : (stsO l).length = 8 := Zu5 _ _
theorem Z1f {l : List Int} {k : Nat} (hk : k < 8) : staE (stsN l k ++ List.replicate (8 - k) zS) 8 (k : Int) (parseS (wO l k)) = stsN l (k + 1) ++ List.replicate (8 - (k + 1)) zS := by
  have hl : (stsN l k ++ List.replicate (8 - k) zS).length = 8 := by simp [Zu5]; omega
  unfold staE st
  rw [Z33 hl, Z09]
  obtain ⟨m, hm⟩ : ∃ m, 8 - k = m + 1 := ⟨8 - k - 1, by omega⟩
  have hm2 : 8 - (k + 1) = m := by omega
  rw [hm, hm2, List.replicate_succ, Int.toNat_natCast, List.set_append_right _ _ (by rw [Zu5]; omega), Zu5, Nat.sub_self]
  simp
theorem byt_b {l : List Int} (h : Sm l) : Byts l := Z9h h.b
theorem Z8z {l : List Int} (hs : Sm l) (hl : l.length = 54) : itS (Zfw l) (Zht l) bound ⟨0, zS8⟩ = some ⟨8, stsO l⟩ := by
  have run := Zmg (sel := Zfw l) (nx := Zht l) (fun k => (⟨(k : Int), stsN l k ++ List.replicate (8 - k) zS⟩ : Zca)) 8 (by omega) (fun k hk => by
    have w0 : wi (2 * (k : Int)) = ((2 * k : Nat) : Int) := by rw [wi_eq (by omega) (by omega)]; omega
    have w1 : wi (36 + wi (2 * (k : Int))) = ((36 + 2 * k : Nat) : Int) := by rw [w0, wi_eq (by omega) (by omega)]; omega
    have w2 : wi (wi (36 + wi (2 * (k : Int))) + 2) = ((38 + 2 * k : Nat) : Int) := by rw [w1, wi_eq (by omega) (by omega)]; omega
    have w3 : wi ((k : Int) + 1) = ((k + 1 : Nat) : Int) := by rw [wi_eq (by omega) (by omega)]; omega
    have i1 : ins l.length ((36 + 2 * k : Nat) : Int) ((38 + 2 * k : Nat) : Int) = true := by simp only [ins, hl, Bool.and_eq_true, decide_eq_true_eq]; omega
    have i3 : inb 8 (k : Int) = true := inb_of (by omega) (by omega)
    have e0 : ∀ t, Ze2 l ⟨(k : Int), t⟩ = (l.drop (36 + 2 * k)).take 2 := fun t => by
      simp only [Ze2, w1]
      rw [show wi (((36 + 2 * k : Nat) : Int) + 2) = ((38 + 2 * k : Nat) : Int) by rw [wi_eq (by omega) (by omega)]; omega, Zu1]; congr 1; omega
    obtain ⟨g1, _, g3, _⟩ := Zum (l := (l.drop (36 + 2 * k)).take 2) (Zkf (Zj3 (byt_b hs) _) 2)
    have e1 : ∀ t, Zle l ⟨(k : Int), t⟩ = parseS (wO l k) := fun t => by
      simp only [Zle, e0, g3]; rfl
    constructor
    · simp only [Zfw, w1, w2, i1, i3, e0, g1, tb_eq]
      rw [show wi (((36 + 2 * k : Nat) : Int) + 2) = ((38 + 2 * k : Nat) : Int) by rw [wi_eq (by omega) (by omega)]; omega, i1, decide_eq_true (by omega)]; rfl
    · simp only [Zht, e1, w3, Z1f hk]) rfl
  exact run
def goodO (l : List Int) : Bool := decide (l.length = 54) && (okO (seqO l) (valsO l) (stsO l) && decide (sealed (bodyO (seqO l) (valsO l) (stsO l)) = l))
theorem Z41 (nl : Bool) {l : List Int} (hs : Sm l) : Zj4 nl l = true ∧ Zkb nl l = (if goodO l = true then seqO l else 0) ∧ Ze8 nl l = (if goodO l = true then valsO l else z8) ∧
    Zx nl l = (if goodO l = true then stsO l else zS8) ∧ Zhe nl l = (if goodO l = true then 0 else 3) := by
  have hz : ([0, 0, 0, 0, 0, 0, 0, 0] : List Int) = z8 := rfl
  have hz' : Zbj = zS8 := rfl
  by_cases hl : l.length = 54
  · have s0 : Zd9 l = false := by simp [Zd9, hl, tb_eq]
    have hb := byt_b hs
    have sub1 : sub l 2 4 = (l.drop 2).take 2 := rfl
    have sub2 : sub l 4 36 = (l.drop 4).take 32 := rfl
    have l32 : ((l.drop 4).take 32).length = 32 := by simp [hl]
    obtain ⟨g1, _, g3, _⟩ := Zum (l := (l.drop 2).take 2) (Zkf (Zj3 hb _) 2)
    have hb4 : Byts ((l.drop 4).take 32) := Zkf (Zj3 hb 4) 32
    have ga : ∀ x, Zkv x ((l.drop 4).take 32) = true ∧ Zbx x ((l.drop 4).take 32) = valsO l := fun x => by
      obtain ⟨a1, _, a3⟩ := Z6y hb4 (by omega) x
      refine ⟨a1, ?_⟩
      rw [a3]; simp only [getAll, l32]; rfl
    have gn : ∀ x, Zik x ((l.drop 4).take 32) = false := fun x => by rw [Z7m hb4 (by omega) x, l32]; rfl
    have s1 : Zjr l = true := by
      have : ins l.length 2 4 = true := by rw [hl]; rfl
      simp only [Zjr, sub1, g1, this, tb_eq]; rfl
    have s2 : Zjq nl l = true := by
      have : ins l.length 4 36 = true := by rw [hl]; rfl
      simp only [Zjq, sub2, (ga _).1, (ga _).2, gn, Zth, this, tb_eq]; rfl
    have run := Z8z hs hl
    have e4 : Zd7 zS8 l = stsO l := by simp only [Zd7, Zgm, run, Option.getD_some]
    have s4 : Zjs zS8 l = true := by simp only [Zjs, Zmb, Zgm, run, Option.isSome_some, Option.getD_some, tb_eq]; rfl
    obtain ⟨n1, _, n3, n4⟩ := Zzr (seqO l) (Zth l) (Zv1 l)
    have s5 : Zfe (seqO l) (valsO l) (stsO l) l = !(goodO l) ∧ Zjp (seqO l) (valsO l) (stsO l) l = goodO l := by
      simp only [Zfe, Zjp, n1, n3, n4, goodO, hl, tb_eq]
      cases hk : okO (seqO l) (valsO l) (stsO l) with
      | false => simp
      | true =>
        have hsl : (sealed (bodyO (seqO l) (valsO l) (stsO l))).length < 1152921504606846976 := by
          simp [sealed, tail2, Ztg (Zth l) (Zv1 l)]
        obtain ⟨q1, q2⟩ := Z7a (k := l) hsl
        simp only [if_true, q1, q2]
        by_cases he : sealed (bodyO (seqO l) (valsO l) (stsO l)) = l
        · simp [he]
        · simp [he]
    simp only [Zj4, Zkb, Ze8, Zx, Zhe, s0, s1, s2, hz', sub1, sub2, g3, (ga _).2, s4, e4, tb_eq, cond_true, cond_false, hz]
    have hse : g2 ((l.drop 2).take 2) = seqO l := rfl
    rw [hse, s5.1, s5.2]
    cases goodO l <;> simp
  · have s0 : Zd9 l = true := by
      simp only [Zd9, tb_eq]
      have : ((((l.length : Nat) : Int) : Int) != 54) = true := by rw [bne_iff_ne]; omega
      rw [this]; rfl
    have hg : goodO l = false := by simp [goodO, hl]
    simp only [Zj4, Zkb, Ze8, Zx, Zhe, s0, hg, hz, hz', tb_eq, cond_true]
    simp
theorem twos (l : List Int) (hl : Byts l) : ∀ k : Nat, 36 + 2 * k ≤ l.length → (∀ i, i < k → wordS (parseS (wO l i)) = wO l i) → (stsN l k).flatMap pw = (l.drop 36).take (2 * k)
  | 0, _, _ => by simp [stsN]
  | k + 1, h, hw => by
    rw [Z09, List.flatMap_append, twos l hl k (by omega) (fun i hi => hw i (by omega)), show 2 * (k + 1) = 2 * k + 2 by omega, List.take_add, List.drop_drop]
    congr 1
    simp only [List.flatMap_cons, List.flatMap_nil, List.append_nil, pw, hw k (by omega)]
    exact (p2_g2 (Zkf (Zj3 hl _) 2) (by simp; omega)).1
end Go.Proofs.Ytkipngagfiaddaa.Den

namespace Go.Proofs.Ytkipngagfiaddaa.Den
open Go Go.Proofs
set_option linter.unusedVariables false
set_option linter.unusedSimpArgs false
theorem Z9d {l k : List Int} (hl : l.length < 1152921504606846976) : Zkw l k = true ∧ Zjx l k = decide (l = k) := by
  by_cases h : l.length = k.length
  · obtain ⟨s1, e, g0, g⟩ := Z4b (sel := Zet l k) (nx := Zi9 l k) (s0 := ⟨0⟩) h (fun s => s.c4) hl rfl
      (fun s a1 a2 => by show wi _ = _; exact wi_eq (by omega) (by omega))
      (fun s a1 a2 => by
        by_cases hi : s.c4 < l.length
        · have i1 := inb_of a1 hi
          have i2 : inb k.length s.c4 = true := by rw [← h]; exact i1
          by_cases q : gt l s.c4 = gt k s.c4
          · simp [Zet, hi, i1, i2, q]
          · simp [Zet, hi, i1, i2, q, bne]
        · simp [Zet, hi])
    have hne : ((((l.length : Nat) : Int) : Int) != ((k.length : Nat) : Int)) = false := by simp [h]
    simp only [Zkw, Zjx, Zlv, Ze7, e, hne, tb_eq, cond_false, Option.isSome_some, cond_true, Option.getD_some]
    rcases g with ⟨a, b⟩ | ⟨a, b, c⟩
    · simp [Zgc, Zja, a, b]
    · have i1 := inb_of g0 a
      have i2 : inb k.length s1.c4 = true := by rw [← h]; exact i1
      simp [Zgc, Zja, a, c, i1, i2]
  · have hne : ((((l.length : Nat) : Int) : Int) != ((k.length : Nat) : Int)) = true := by simp; omega
    have : l ≠ k := fun e => h (by rw [e])
    simp [Zkw, Zjx, hne, this]
end Go.Proofs.Ytkipngagfiaddaa.Den
