/- StuckPlays: part 7 of what its proof rests on: an evaluator of the program's code, proved sound; plain functions printed from the code by a program of this session, with proofs; plain laws. No condition. -/
import Derived.Test.YtdlhhoejnhjbhaaDenstuckPlays6
import Derived.Test.YtdlhhoejnhjbhaaRows

namespace Go.Proofs.Ytdlhhoejnhjbhaa.Den
open Go Go.Proofs
set_option maxRecDepth 100000
set_option maxHeartbeats 4000000
set_option linter.unusedVariables false
set_option linter.unusedSimpArgs false
theorem Zrl (x0 x1 : Int) (x2 : List Int) (x3 x4 : Int) (x5 : List Int) (x6 : Bool) (x7 x8 : Int) (x9 : Bool) (x10 x11 : Int) (x12 x13 : Bool) (x14 : Int) (x15 : Bool) (x16 : List Zh) (x17 : Bool) (x18 : Int) (s0 : Zbw) : Zdz x0 x1 x5 x10 x11 x14 x16 s0 = false → Zf8 x0 x1 x5 x10 x11 x16 s0 = true → (roundG (runC E0 (cl E0) L10_4) [0, 2, 7, 10, 11, 12, 13] [6] 4) (Zbf x0 x1 x2 x3 x4 x5 x6 x7 x8 x9 x10 x11 x12 x13 x14 x15 x16 x17 x18 (.h1 s0)) = some (.ret, ([(V.d (.bool false))], [(Blk.flat 82 20 [([(.int .i64 x0), (.int .i64 x1)] ++ arrD .i64 (Zlp x16 s0) 16 ++ [(.int .i64 (Zlz x0 x16 s0)), (.int .i64 (Zl6 x0 x16 s0))])] false), (Blk.gen 84 3 [[(V.ptr 0 1 0 0), (V.d (.int .i64 (Zln x0 x1 x5 x10 x11 x16 s0))), (V.d (.int .i64 (Zlt x0 x1 x5 x10 x11 x16 s0)))]] false), (Blk.gen 86 3 [[(V.d (.int .i64 x10)), (V.d (.int .i64 x11)), (V.so false 4 ((Zjd x16 s0).length))]] false), (Blk.flat 3 1 (List.map (encI .i64) x5) x13), (Blk.flat 3 1 (List.map (encI .i64) (Zjd x16 s0)) false)])) := by
 unfold Zdz Zf8 Zlp Zlz Zl6 Zln Zlt Zjd
 cases h1 : tb (Zcx x16 s0.c4)
 ·intro g0 g1
  exact absurd g1 ft
 ·cases h2 : tb (inb x16.length s0.c4)
  ·intro g0 g1
   exact absurd g1 ft
  ·cases h3 : tb (((remI .u8 (gt x16 s0.c4).c0 2) : Int) == 1)
   ·cases h4 : tb (gt x16 s0.c4).c1
    ·cases h5 : tb (Z6 x0 s0.c7 s0.c8 s0.c9 s0.c11 s0.c12 (gt x16 s0.c4).c2)
     ·intro g0 g1
      exact absurd g1 ft
     ·cases h6 : tb (Zbv s0.c20 x5 x10 false (gt x16 s0.c4).c2)
      ·cases h7 : tb (Zec (gt x16 s0.c4).c2)
       ·intro g0 g1
        exact absurd g1 ft
       ·cases h8 : tb (true != ((Zg x0 x1 s0.c7 s0.c8 s0.c9 s0.c11 s0.c12 (gt x16 s0.c4).c2) == false))
        ·cases h9 : tb (((Zf (gt x16 s0.c4).c2) : Int) != 1)
         ·cases h10 : tb (Zc5 x0 s0.c7 s0.c8 s0.c9 s0.c20 x10)
          ·intro g0 g1
           exact absurd g1 ft
          ·cases h11 : tb (Zc6 x0 s0.c7 s0.c8 s0.c9 s0.c20 x10 (Zdf x0 x10 s0))
           ·intro g0 g1
            exact absurd g1 ft
           ·cases h12 : tb (Zdl x0 x1 s0.c7 s0.c8 s0.c9 x5 s0.c20 (Z4 x0 x16 s0) x10 x11 x14 (Zdf x0 x10 s0))
            ·intro g0 g1
             exact absurd g0 tf
            ·intro g0 g1
             exact Zv [.s (Zdm x0 x1 s0.c7 s0.c8 s0.c9 x5 s0.c20 false s0.c11 s0.c12 false x10 x11 false x13 false x14 x15 x16 x17 s0.c4 (tbE h1)), .o 72 (fun _ => Zn (enc := Zd) (l := x16) (fl := true) (n := x15) (s := 3) (k := .i64) (tbE h2)), .o 77 (fun _ => Zn (enc := Zd) (l := x16) (fl := true) (n := x15) (s := 3) (k := .i64) (tbE h2)), .b (tbE h3), .b (tbE h4), .c (Zu x0 x1 s0.c7 s0.c8 s0.c9 s0.c11 s0.c12 false (gt x16 s0.c4).c2 (tbE h5)), .c (Zh5 s0.c20 x5 x10 x11 false false false x13 x17 (gt x16 s0.c4).c2 (tbE h6) (tbE h7)), .b (tbE h8), .b (tbE h9), .s (Zky x0 x1 s0.c7 s0.c8 s0.c9 x5 s0.c20 (gt x16 s0.c4).c1 (gt x16 s0.c4).c2 false (Zbz x16 s0) (Z4 x0 x16 s0) false x10 x11 false x13 false false x14 x15 x16 x17 s0.c4 (tbE h10)), .s (Zkz x0 x1 s0.c7 s0.c8 s0.c9 x5 s0.c20 (gt x16 s0.c4).c1 (gt x16 s0.c4).c2 false (Zbz x16 s0) (Z4 x0 x16 s0) false x10 x11 false x13 false false x14 x15 x16 x17 s0.c4 (Zdf x0 x10 s0) (tbE h11)), .b (tbE h12)] (by kernel_rfl)
         ·intro g0 g1
          exact Zv [.s (Zdm x0 x1 s0.c7 s0.c8 s0.c9 x5 s0.c20 false s0.c11 s0.c12 false x10 x11 false x13 false x14 x15 x16 x17 s0.c4 (tbE h1)), .o 72 (fun _ => Zn (enc := Zd) (l := x16) (fl := true) (n := x15) (s := 3) (k := .i64) (tbE h2)), .o 77 (fun _ => Zn (enc := Zd) (l := x16) (fl := true) (n := x15) (s := 3) (k := .i64) (tbE h2)), .b (tbE h3), .b (tbE h4), .c (Zu x0 x1 s0.c7 s0.c8 s0.c9 s0.c11 s0.c12 false (gt x16 s0.c4).c2 (tbE h5)), .c (Zh5 s0.c20 x5 x10 x11 false false false x13 x17 (gt x16 s0.c4).c2 (tbE h6) (tbE h7)), .b (tbE h8), .b (tbE h9)] (by kernel_rfl)
        ·intro g0 g1
         exact Zv [.s (Zdm x0 x1 s0.c7 s0.c8 s0.c9 x5 s0.c20 false s0.c11 s0.c12 false x10 x11 false x13 false x14 x15 x16 x17 s0.c4 (tbE h1)), .o 72 (fun _ => Zn (enc := Zd) (l := x16) (fl := true) (n := x15) (s := 3) (k := .i64) (tbE h2)), .o 77 (fun _ => Zn (enc := Zd) (l := x16) (fl := true) (n := x15) (s := 3) (k := .i64) (tbE h2)), .b (tbE h3), .b (tbE h4), .c (Zu x0 x1 s0.c7 s0.c8 s0.c9 s0.c11 s0.c12 false (gt x16 s0.c4).c2 (tbE h5)), .c (Zh5 s0.c20 x5 x10 x11 false false false x13 x17 (gt x16 s0.c4).c2 (tbE h6) (tbE h7)), .b (tbE h8)] (by kernel_rfl)
      ·cases h7 : tb (true != ((Zg x0 x1 s0.c7 s0.c8 s0.c9 s0.c11 s0.c12 (gt x16 s0.c4).c2) == (Zcb s0.c20 x5 x10 x11 (gt x16 s0.c4).c2)))
       ·cases h8 : tb (((Zf (gt x16 s0.c4).c2) : Int) != 0)
        ·cases h9 : tb (Zfs x0 s0.c7 s0.c8 s0.c9 s0.c20 x10)
         ·intro g0 g1
          exact absurd g1 ft
         ·cases h10 : tb (Zfr x0 s0.c7 s0.c8 s0.c9 s0.c20 x10 (Zdc x0 x10 s0))
          ·intro g0 g1
           exact absurd g1 ft
          ·cases h11 : tb (Zfp x0 x1 s0.c7 s0.c8 s0.c9 s0.c20 (Zbn x5 (gt x16 s0.c4).c2) (Z4 x0 x16 s0) x10 x11 x14 (Zdc x0 x10 s0))
           ·intro g0 g1
            exact absurd g0 tf
           ·intro g0 g1
            exact Zv [.s (Zdm x0 x1 s0.c7 s0.c8 s0.c9 x5 s0.c20 false s0.c11 s0.c12 false x10 x11 false x13 false x14 x15 x16 x17 s0.c4 (tbE h1)), .o 72 (fun _ => Zn (enc := Zd) (l := x16) (fl := true) (n := x15) (s := 3) (k := .i64) (tbE h2)), .o 77 (fun _ => Zn (enc := Zd) (l := x16) (fl := true) (n := x15) (s := 3) (k := .i64) (tbE h2)), .b (tbE h3), .b (tbE h4), .c (Zu x0 x1 s0.c7 s0.c8 s0.c9 s0.c11 s0.c12 false (gt x16 s0.c4).c2 (tbE h5)), .c (Zh3 s0.c20 x5 x10 x11 false false false x13 x17 (gt x16 s0.c4).c2 (tbE h6)), .b (tbE h7), .b (tbE h8), .s (Zoi x0 x1 s0.c7 s0.c8 s0.c9 x5 s0.c20 (gt x16 s0.c4).c1 (gt x16 s0.c4).c2 (Zbn x5 (gt x16 s0.c4).c2) false (Zbz x16 s0) (Z4 x0 x16 s0) false x10 x11 false x13 false false false x14 x15 x16 s0.c4 (tbE h9)), .s (Zoh x0 x1 s0.c7 s0.c8 s0.c9 x5 s0.c20 (gt x16 s0.c4).c1 (gt x16 s0.c4).c2 (Zbn x5 (gt x16 s0.c4).c2) false (Zbz x16 s0) (Z4 x0 x16 s0) false x10 x11 false x13 false false false x14 x15 x16 s0.c4 (Zdc x0 x10 s0) (tbE h10)), .b (tbE h11)] (by kernel_rfl)
        ·intro g0 g1
         exact Zv [.s (Zdm x0 x1 s0.c7 s0.c8 s0.c9 x5 s0.c20 false s0.c11 s0.c12 false x10 x11 false x13 false x14 x15 x16 x17 s0.c4 (tbE h1)), .o 72 (fun _ => Zn (enc := Zd) (l := x16) (fl := true) (n := x15) (s := 3) (k := .i64) (tbE h2)), .o 77 (fun _ => Zn (enc := Zd) (l := x16) (fl := true) (n := x15) (s := 3) (k := .i64) (tbE h2)), .b (tbE h3), .b (tbE h4), .c (Zu x0 x1 s0.c7 s0.c8 s0.c9 s0.c11 s0.c12 false (gt x16 s0.c4).c2 (tbE h5)), .c (Zh3 s0.c20 x5 x10 x11 false false false x13 x17 (gt x16 s0.c4).c2 (tbE h6)), .b (tbE h7), .b (tbE h8)] (by kernel_rfl)
       ·intro g0 g1
        exact Zv [.s (Zdm x0 x1 s0.c7 s0.c8 s0.c9 x5 s0.c20 false s0.c11 s0.c12 false x10 x11 false x13 false x14 x15 x16 x17 s0.c4 (tbE h1)), .o 72 (fun _ => Zn (enc := Zd) (l := x16) (fl := true) (n := x15) (s := 3) (k := .i64) (tbE h2)), .o 77 (fun _ => Zn (enc := Zd) (l := x16) (fl := true) (n := x15) (s := 3) (k := .i64) (tbE h2)), .b (tbE h3), .b (tbE h4), .c (Zu x0 x1 s0.c7 s0.c8 s0.c9 s0.c11 s0.c12 false (gt x16 s0.c4).c2 (tbE h5)), .c (Zh3 s0.c20 x5 x10 x11 false false false x13 x17 (gt x16 s0.c4).c2 (tbE h6)), .b (tbE h7)] (by kernel_rfl)
    ·cases h5 : tb (Zfl x0 s0.c7 s0.c8 s0.c9 s0.c20 x10)
     ·intro g0 g1
      exact absurd g1 ft
     ·cases h6 : tb (Zfn x0 s0.c7 s0.c8 s0.c9 s0.c20 x10 (Zdb x0 x10 s0))
      ·intro g0 g1
       exact absurd g1 ft
      ·cases h7 : tb (Zfm x0 x1 s0.c7 s0.c8 s0.c9 s0.c20 x10 x11 x14 (Zdb x0 x10 s0))
       ·intro g0 g1
        exact absurd g0 tf
       ·intro g0 g1
        exact Zv [.s (Zdm x0 x1 s0.c7 s0.c8 s0.c9 x5 s0.c20 false s0.c11 s0.c12 false x10 x11 false x13 false x14 x15 x16 x17 s0.c4 (tbE h1)), .o 72 (fun _ => Zn (enc := Zd) (l := x16) (fl := true) (n := x15) (s := 3) (k := .i64) (tbE h2)), .o 77 (fun _ => Zn (enc := Zd) (l := x16) (fl := true) (n := x15) (s := 3) (k := .i64) (tbE h2)), .b (tbE h3), .b (tbE h4), .c (Zgo x0 x1 s0.c7 s0.c8 s0.c9 s0.c11 s0.c12 false), .s (Zoq x0 x1 s0.c7 s0.c8 s0.c9 x5 s0.c20 (gt x16 s0.c4).c1 (gt x16 s0.c4).c2 false s0.c11 false x10 x11 false x13 false false false x14 x15 x16 s0.c4 (tbE h5)), .s (Zom x0 x1 s0.c7 s0.c8 s0.c9 x5 s0.c20 (gt x16 s0.c4).c1 (gt x16 s0.c4).c2 false s0.c11 false x10 x11 false x13 false false false x14 x15 x16 s0.c4 (Zdb x0 x10 s0) (tbE h6)), .b (tbE h7)] (by kernel_rfl)
   ·cases h4 : tb (Zbb x0 s0.c8 (gt x16 s0.c4).c2)
    ·intro g0 g1
     exact absurd g1 ft
    ·cases h5 : tb (Zbi s0.c20 (gt x16 s0.c4).c2)
     ·cases h6 : tb (Zdq (gt x16 s0.c4).c2)
      ·intro g0 g1
       exact absurd g1 ft
      ·cases h7 : tb (((Zi (gt x16 s0.c4).c2) : Int) != 1)
       ·cases h8 : tb (Zc5 x0 (Zm x16 s0) (Zc x0 s0.c8 (gt x16 s0.c4).c2) (Zb x0 s0.c9 (gt x16 s0.c4).c2) s0.c20 x10)
        ·intro g0 g1
         exact absurd g1 ft
        ·cases h9 : tb (Zc6 x0 (Zm x16 s0) (Zc x0 s0.c8 (gt x16 s0.c4).c2) (Zb x0 s0.c9 (gt x16 s0.c4).c2) s0.c20 x10 (Zde x0 x10 x16 s0))
         ·intro g0 g1
          exact absurd g1 ft
         ·cases h10 : tb (Zdl x0 x1 (Zm x16 s0) (Zc x0 s0.c8 (gt x16 s0.c4).c2) (Zb x0 s0.c9 (gt x16 s0.c4).c2) x5 s0.c20 s0.c12 x10 x11 x14 (Zde x0 x10 x16 s0))
          ·intro g0 g1
           exact absurd g0 tf
          ·intro g0 g1
           exact Zv [.s (Zdm x0 x1 s0.c7 s0.c8 s0.c9 x5 s0.c20 false s0.c11 s0.c12 false x10 x11 false x13 false x14 x15 x16 x17 s0.c4 (tbE h1)), .o 72 (fun _ => Zn (enc := Zd) (l := x16) (fl := true) (n := x15) (s := 3) (k := .i64) (tbE h2)), .o 77 (fun _ => Zn (enc := Zd) (l := x16) (fl := true) (n := x15) (s := 3) (k := .i64) (tbE h2)), .b (tbE h3), .c (Zbm x0 x1 s0.c7 s0.c8 s0.c9 (gt x16 s0.c4).c2 (tbE h4)), .c (Zir s0.c20 x10 x11 false false (gt x16 s0.c4).c2 (tbE h5) (tbE h6)), .b (tbE h7), .s (Zky x0 x1 (Zm x16 s0) (Zc x0 s0.c8 (gt x16 s0.c4).c2) (Zb x0 s0.c9 (gt x16 s0.c4).c2) x5 s0.c20 (gt x16 s0.c4).c1 (gt x16 s0.c4).c2 false s0.c11 s0.c12 false x10 x11 false x13 false false x14 x15 x16 x17 s0.c4 (tbE h8)), .s (Zkz x0 x1 (Zm x16 s0) (Zc x0 s0.c8 (gt x16 s0.c4).c2) (Zb x0 s0.c9 (gt x16 s0.c4).c2) x5 s0.c20 (gt x16 s0.c4).c1 (gt x16 s0.c4).c2 false s0.c11 s0.c12 false x10 x11 false x13 false false x14 x15 x16 x17 s0.c4 (Zde x0 x10 x16 s0) (tbE h9)), .b (tbE h10)] (by kernel_rfl)
       ·intro g0 g1
        exact Zv [.s (Zdm x0 x1 s0.c7 s0.c8 s0.c9 x5 s0.c20 false s0.c11 s0.c12 false x10 x11 false x13 false x14 x15 x16 x17 s0.c4 (tbE h1)), .o 72 (fun _ => Zn (enc := Zd) (l := x16) (fl := true) (n := x15) (s := 3) (k := .i64) (tbE h2)), .o 77 (fun _ => Zn (enc := Zd) (l := x16) (fl := true) (n := x15) (s := 3) (k := .i64) (tbE h2)), .b (tbE h3), .c (Zbm x0 x1 s0.c7 s0.c8 s0.c9 (gt x16 s0.c4).c2 (tbE h4)), .c (Zir s0.c20 x10 x11 false false (gt x16 s0.c4).c2 (tbE h5) (tbE h6)), .b (tbE h7)] (by kernel_rfl)
     ·cases h6 : tb (((Zi (gt x16 s0.c4).c2) : Int) != 0)
      ·cases h7 : tb (Zfu x0 (Zm x16 s0) (Zc x0 s0.c8 (gt x16 s0.c4).c2) (Zb x0 s0.c9 (gt x16 s0.c4).c2) (s0.c20 ++ [(gt x16 s0.c4).c2]) x10)
       ·intro g0 g1
        exact absurd g1 ft
       ·cases h8 : tb (Zfq x0 (Zm x16 s0) (Zc x0 s0.c8 (gt x16 s0.c4).c2) (Zb x0 s0.c9 (gt x16 s0.c4).c2) (s0.c20 ++ [(gt x16 s0.c4).c2]) x10 (Zda x0 x10 x16 s0))
        ·intro g0 g1
         exact absurd g1 ft
        ·cases h9 : tb (Zft x0 x1 (Zm x16 s0) (Zc x0 s0.c8 (gt x16 s0.c4).c2) (Zb x0 s0.c9 (gt x16 s0.c4).c2) x5 (s0.c20 ++ [(gt x16 s0.c4).c2]) s0.c12 x10 x11 x14 (Zda x0 x10 x16 s0))
         ·intro g0 g1
          exact absurd g0 tf
         ·intro g0 g1
          exact Zv [.s (Zdm x0 x1 s0.c7 s0.c8 s0.c9 x5 s0.c20 false s0.c11 s0.c12 false x10 x11 false x13 false x14 x15 x16 x17 s0.c4 (tbE h1)), .o 72 (fun _ => Zn (enc := Zd) (l := x16) (fl := true) (n := x15) (s := 3) (k := .i64) (tbE h2)), .o 77 (fun _ => Zn (enc := Zd) (l := x16) (fl := true) (n := x15) (s := 3) (k := .i64) (tbE h2)), .b (tbE h3), .c (Zbm x0 x1 s0.c7 s0.c8 s0.c9 (gt x16 s0.c4).c2 (tbE h4)), .c (Zio s0.c20 x10 x11 false false (gt x16 s0.c4).c2 (tbE h5)), .b (tbE h6), .s (Zoj x0 x1 (Zm x16 s0) (Zc x0 s0.c8 (gt x16 s0.c4).c2) (Zb x0 s0.c9 (gt x16 s0.c4).c2) x5 s0.c20 (gt x16 s0.c4).c1 (gt x16 s0.c4).c2 (s0.c20 ++ [(gt x16 s0.c4).c2]) false s0.c11 s0.c12 false x10 x11 false x13 false false false x14 x15 x16 x17 s0.c4 (tbE h7)), .s (Zos x0 x1 (Zm x16 s0) (Zc x0 s0.c8 (gt x16 s0.c4).c2) (Zb x0 s0.c9 (gt x16 s0.c4).c2) x5 s0.c20 (gt x16 s0.c4).c1 (gt x16 s0.c4).c2 (s0.c20 ++ [(gt x16 s0.c4).c2]) false s0.c11 s0.c12 false x10 x11 false x13 false false false x14 x15 x16 x17 s0.c4 (Zda x0 x10 x16 s0) (tbE h8)), .b (tbE h9)] (by kernel_rfl)
      ·intro g0 g1
       exact Zv [.s (Zdm x0 x1 s0.c7 s0.c8 s0.c9 x5 s0.c20 false s0.c11 s0.c12 false x10 x11 false x13 false x14 x15 x16 x17 s0.c4 (tbE h1)), .o 72 (fun _ => Zn (enc := Zd) (l := x16) (fl := true) (n := x15) (s := 3) (k := .i64) (tbE h2)), .o 77 (fun _ => Zn (enc := Zd) (l := x16) (fl := true) (n := x15) (s := 3) (k := .i64) (tbE h2)), .b (tbE h3), .c (Zbm x0 x1 s0.c7 s0.c8 s0.c9 (gt x16 s0.c4).c2 (tbE h4)), .c (Zio s0.c20 x10 x11 false false (gt x16 s0.c4).c2 (tbE h5)), .b (tbE h6)] (by kernel_rfl)
theorem Zrt (x0 x1 : Int) (x2 : List Int) (x3 x4 : Int) (x5 : List Int) (x6 : Bool) (x7 x8 : Int) (x9 : Bool) (x10 x11 : Int) (x12 x13 : Bool) (x14 : Int) (x15 : Bool) (x16 : List Zh) (x17 : Bool) (x18 : Int) (s0 : Zbw) : Zdz x0 x1 x5 x10 x11 x14 x16 s0 = false → Zf8 x0 x1 x5 x10 x11 x16 s0 = false → Zif x16 s0 = true → (roundG (runC E0 (cl E0) L10_4) [0, 2, 7, 10, 11, 12, 13] [6] 4) (Zbf x0 x1 x2 x3 x4 x5 x6 x7 x8 x9 x10 x11 x12 x13 x14 x15 x16 x17 x18 (.h1 s0)) = some ((.exit 0), ([V.un], [(Blk.flat 82 20 [([(.int .i64 x0), (.int .i64 x1)] ++ arrD .i64 s0.c7 16 ++ [(.int .i64 s0.c8), (.int .i64 s0.c9)])] false), (Blk.gen 84 3 [[(V.ptr 0 1 0 0), (V.d (.int .i64 s0.c11)), (V.d (.int .i64 s0.c12))]] false), (Blk.gen 86 3 [[(V.d (.int .i64 x10)), (V.d (.int .i64 x11)), (V.so false 4 s0.c20.length)]] false), (Blk.flat 3 1 (List.map (encI .i64) x5) x13), (Blk.flat 3 1 (List.map (encI .i64) s0.c20) false)])) := by
 unfold Zdz Zf8 Zif
 cases h1 : tb (Zcx x16 s0.c4)
 ·intro g0 g1 g2
  exact Zv [.s (Zso x0 x1 s0.c7 s0.c8 s0.c9 x5 s0.c20 false s0.c11 s0.c12 false x10 x11 false x13 false x14 x15 x16 x17 s0.c4 (tbE h1))] (by kernel_rfl)
 ·cases h2 : tb (inb x16.length s0.c4)
  ·intro g0 g1 g2
   exact absurd g2 ft
  ·cases h3 : tb (((remI .u8 (gt x16 s0.c4).c0 2) : Int) == 1)
   ·cases h4 : tb (gt x16 s0.c4).c1
    ·cases h5 : tb (Z6 x0 s0.c7 s0.c8 s0.c9 s0.c11 s0.c12 (gt x16 s0.c4).c2)
     ·intro g0 g1 g2
      exact absurd g2 ft
     ·cases h6 : tb (Zbv s0.c20 x5 x10 false (gt x16 s0.c4).c2)
      ·cases h7 : tb (Zec (gt x16 s0.c4).c2)
       ·intro g0 g1 g2
        exact absurd g2 ft
       ·cases h8 : tb (true != ((Zg x0 x1 s0.c7 s0.c8 s0.c9 s0.c11 s0.c12 (gt x16 s0.c4).c2) == false))
        ·cases h9 : tb (((Zf (gt x16 s0.c4).c2) : Int) != 1)
         ·cases h10 : tb (Zc5 x0 s0.c7 s0.c8 s0.c9 s0.c20 x10)
          ·intro g0 g1 g2
           exact absurd g2 ft
          ·cases h11 : tb (Zc6 x0 s0.c7 s0.c8 s0.c9 s0.c20 x10 (Zdf x0 x10 s0))
           ·intro g0 g1 g2
            exact absurd g2 ft
           ·cases h12 : tb (Zdl x0 x1 s0.c7 s0.c8 s0.c9 x5 s0.c20 (Z4 x0 x16 s0) x10 x11 x14 (Zdf x0 x10 s0))
            ·intro g0 g1 g2
             exact absurd g0 tf
            ·intro g0 g1 g2
             exact absurd g1 tf
         ·intro g0 g1 g2
          exact absurd g1 tf
        ·intro g0 g1 g2
         exact absurd g1 tf
      ·cases h7 : tb (true != ((Zg x0 x1 s0.c7 s0.c8 s0.c9 s0.c11 s0.c12 (gt x16 s0.c4).c2) == (Zcb s0.c20 x5 x10 x11 (gt x16 s0.c4).c2)))
       ·cases h8 : tb (((Zf (gt x16 s0.c4).c2) : Int) != 0)
        ·cases h9 : tb (Zfs x0 s0.c7 s0.c8 s0.c9 s0.c20 x10)
         ·intro g0 g1 g2
          exact absurd g2 ft
         ·cases h10 : tb (Zfr x0 s0.c7 s0.c8 s0.c9 s0.c20 x10 (Zdc x0 x10 s0))
          ·intro g0 g1 g2
           exact absurd g2 ft
          ·cases h11 : tb (Zfp x0 x1 s0.c7 s0.c8 s0.c9 s0.c20 (Zbn x5 (gt x16 s0.c4).c2) (Z4 x0 x16 s0) x10 x11 x14 (Zdc x0 x10 s0))
           ·intro g0 g1 g2
            exact absurd g0 tf
           ·intro g0 g1 g2
            exact absurd g1 tf
        ·intro g0 g1 g2
         exact absurd g1 tf
       ·intro g0 g1 g2
        exact absurd g1 tf
    ·cases h5 : tb (Zfl x0 s0.c7 s0.c8 s0.c9 s0.c20 x10)
     ·intro g0 g1 g2
      exact absurd g2 ft
     ·cases h6 : tb (Zfn x0 s0.c7 s0.c8 s0.c9 s0.c20 x10 (Zdb x0 x10 s0))
      ·intro g0 g1 g2
       exact absurd g2 ft
      ·cases h7 : tb (Zfm x0 x1 s0.c7 s0.c8 s0.c9 s0.c20 x10 x11 x14 (Zdb x0 x10 s0))
       ·intro g0 g1 g2
        exact absurd g0 tf
       ·intro g0 g1 g2
        exact absurd g1 tf
   ·cases h4 : tb (Zbb x0 s0.c8 (gt x16 s0.c4).c2)
    ·intro g0 g1 g2
     exact absurd g2 ft
    ·cases h5 : tb (Zbi s0.c20 (gt x16 s0.c4).c2)
     ·cases h6 : tb (Zdq (gt x16 s0.c4).c2)
      ·intro g0 g1 g2
       exact absurd g2 ft
      ·cases h7 : tb (((Zi (gt x16 s0.c4).c2) : Int) != 1)
       ·cases h8 : tb (Zc5 x0 (Zm x16 s0) (Zc x0 s0.c8 (gt x16 s0.c4).c2) (Zb x0 s0.c9 (gt x16 s0.c4).c2) s0.c20 x10)
        ·intro g0 g1 g2
         exact absurd g2 ft
        ·cases h9 : tb (Zc6 x0 (Zm x16 s0) (Zc x0 s0.c8 (gt x16 s0.c4).c2) (Zb x0 s0.c9 (gt x16 s0.c4).c2) s0.c20 x10 (Zde x0 x10 x16 s0))
         ·intro g0 g1 g2
          exact absurd g2 ft
         ·cases h10 : tb (Zdl x0 x1 (Zm x16 s0) (Zc x0 s0.c8 (gt x16 s0.c4).c2) (Zb x0 s0.c9 (gt x16 s0.c4).c2) x5 s0.c20 s0.c12 x10 x11 x14 (Zde x0 x10 x16 s0))
          ·intro g0 g1 g2
           exact absurd g0 tf
          ·intro g0 g1 g2
           exact absurd g1 tf
       ·intro g0 g1 g2
        exact absurd g1 tf
     ·cases h6 : tb (((Zi (gt x16 s0.c4).c2) : Int) != 0)
      ·cases h7 : tb (Zfu x0 (Zm x16 s0) (Zc x0 s0.c8 (gt x16 s0.c4).c2) (Zb x0 s0.c9 (gt x16 s0.c4).c2) (s0.c20 ++ [(gt x16 s0.c4).c2]) x10)
       ·intro g0 g1 g2
        exact absurd g2 ft
       ·cases h8 : tb (Zfq x0 (Zm x16 s0) (Zc x0 s0.c8 (gt x16 s0.c4).c2) (Zb x0 s0.c9 (gt x16 s0.c4).c2) (s0.c20 ++ [(gt x16 s0.c4).c2]) x10 (Zda x0 x10 x16 s0))
        ·intro g0 g1 g2
         exact absurd g2 ft
        ·cases h9 : tb (Zft x0 x1 (Zm x16 s0) (Zc x0 s0.c8 (gt x16 s0.c4).c2) (Zb x0 s0.c9 (gt x16 s0.c4).c2) x5 (s0.c20 ++ [(gt x16 s0.c4).c2]) s0.c12 x10 x11 x14 (Zda x0 x10 x16 s0))
         ·intro g0 g1 g2
          exact absurd g0 tf
         ·intro g0 g1 g2
          exact absurd g1 tf
      ·intro g0 g1 g2
       exact absurd g1 tf
theorem Zrp (x0 x1 : Int) (x2 : List Int) (x3 x4 : Int) (x5 : List Int) (x6 : Bool) (x7 x8 : Int) (x9 : Bool) (x10 x11 : Int) (x12 x13 : Bool) (x14 : Int) (x15 : Bool) (x16 : List Zh) (x17 : Bool) (x18 : Int) (s0 : Zbp) : Zc3 x0 x1 x5 x10 x11 x14 x16 s0 = true → (roundG (runC E0 (cl E0) L10_4) [0, 2, 7, 10, 11, 12, 13] [6] 4) (Zbf x0 x1 x2 x3 x4 x5 x6 x7 x8 x9 x10 x11 x12 x13 x14 x15 x16 x17 x18 (.h2 s0)) = some (.normal, Zbf x0 x1 x2 x3 x4 x5 x6 x7 x8 x9 x10 x11 x12 x13 x14 x15 x16 x17 x18 (Zdv x0 x1 x5 x10 x11 x14 x16 s0)) := by
 unfold Zc3 Zdv
 cases h1 : tb (Zb9 x16 s0.c4)
 ·exact ZN
 ·cases h2 : tb (inb x16.length s0.c4)
  ·exact ZN
  ·cases h3 : tb (((remI .u8 (gt x16 s0.c4).c0 2) : Int) == 1)
   ·cases h4 : tb (gt x16 s0.c4).c1
    ·cases h5 : tb (Z6 x0 s0.c7 s0.c8 s0.c9 s0.c11 s0.c12 (gt x16 s0.c4).c2)
     ·exact ZN
     ·cases h6 : tb (Zbr s0.c19 x10 (gt x16 s0.c4).c2)
      ·cases h7 : tb (Zdx (gt x16 s0.c4).c2)
       ·exact ZN
       ·cases h8 : tb (true != ((Zg x0 x1 s0.c7 s0.c8 s0.c9 s0.c11 s0.c12 (gt x16 s0.c4).c2) == false))
        ·cases h9 : tb (((Zf (gt x16 s0.c4).c2) : Int) != 1)
         ·cases h10 : tb (Zce x0 s0.c7 s0.c8 s0.c9 x10)
          ·exact ZN
          ·cases h11 : tb (Zch x0 s0.c7 s0.c8 s0.c9 x10 (Zcp x0 s0))
           ·exact ZN
           ·cases h12 : tb (Zcs x0 x1 s0.c7 s0.c8 s0.c9 s0.c19 (Zz x0 x16 s0) x10 x11 x14 (Zcp x0 s0))
            ·exact fun _ => Zv [.s (Zdo x0 x1 s0.c7 s0.c8 s0.c9 x5 s0.c19 false s0.c11 s0.c12 false x10 x11 false x13 false x14 x15 x16 s0.c3 s0.c4 (tbE h1)), .o 72 (fun _ => Zn (enc := Zd) (l := x16) (fl := true) (n := x15) (s := 3) (k := .i64) (tbE h2)), .o 77 (fun _ => Zn (enc := Zd) (l := x16) (fl := true) (n := x15) (s := 3) (k := .i64) (tbE h2)), .b (tbE h3), .b (tbE h4), .c (Zu x0 x1 s0.c7 s0.c8 s0.c9 s0.c11 s0.c12 false (gt x16 s0.c4).c2 (tbE h5)), .c (Zib s0.c19 x10 x11 false false s0.c3 (gt x16 s0.c4).c2 (tbE h6) (tbE h7)), .b (tbE h8), .b (tbE h9), .s (Zkw x0 x1 s0.c7 s0.c8 s0.c9 x5 s0.c19 (gt x16 s0.c4).c1 (gt x16 s0.c4).c2 false (Zb0 x16 s0) (Zz x0 x16 s0) false x10 x11 false x13 false false x14 x15 x16 s0.c3 s0.c4 (tbE h10)), .s (Zkt x0 x1 s0.c7 s0.c8 s0.c9 x5 s0.c19 (gt x16 s0.c4).c1 (gt x16 s0.c4).c2 false (Zb0 x16 s0) (Zz x0 x16 s0) false x10 x11 false x13 false false x14 x15 x16 s0.c3 s0.c4 (Zcp x0 s0) (tbE h11)), .b (tbE h12)] (by kernel_rfl)
            ·exact ZN
         ·exact ZN
        ·exact ZN
      ·cases h7 : tb (true != ((Zg x0 x1 s0.c7 s0.c8 s0.c9 s0.c11 s0.c12 (gt x16 s0.c4).c2) == (Zb6 s0.c19 x10 x11 (gt x16 s0.c4).c2)))
       ·cases h8 : tb (((Zf (gt x16 s0.c4).c2) : Int) != 0)
        ·cases h9 : tb (Zej x0 s0.c7 s0.c8 s0.c9 x10)
         ·exact ZN
         ·cases h10 : tb (Zeo x0 s0.c7 s0.c8 s0.c9 x10 (Zci x0 s0))
          ·exact ZN
          ·cases h11 : tb (Zee x0 x1 s0.c7 s0.c8 s0.c9 (Zbk s0.c19 (gt x16 s0.c4).c2) (Zz x0 x16 s0) x10 x11 x14 (Zci x0 s0))
           ·exact fun _ => Zv [.s (Zdo x0 x1 s0.c7 s0.c8 s0.c9 x5 s0.c19 false s0.c11 s0.c12 false x10 x11 false x13 false x14 x15 x16 s0.c3 s0.c4 (tbE h1)), .o 72 (fun _ => Zn (enc := Zd) (l := x16) (fl := true) (n := x15) (s := 3) (k := .i64) (tbE h2)), .o 77 (fun _ => Zn (enc := Zd) (l := x16) (fl := true) (n := x15) (s := 3) (k := .i64) (tbE h2)), .b (tbE h3), .b (tbE h4), .c (Zu x0 x1 s0.c7 s0.c8 s0.c9 s0.c11 s0.c12 false (gt x16 s0.c4).c2 (tbE h5)), .c (Zic s0.c19 x10 x11 false false s0.c3 (gt x16 s0.c4).c2 (tbE h6)), .b (tbE h7), .b (tbE h8), .s (Znx x0 x1 s0.c7 s0.c8 s0.c9 x5 s0.c19 (gt x16 s0.c4).c1 (gt x16 s0.c4).c2 (Zbk s0.c19 (gt x16 s0.c4).c2) false (Zb0 x16 s0) (Zz x0 x16 s0) false x10 x11 false x13 false false false x14 x15 x16 s0.c4 (tbE h9)), .s (Znt x0 x1 s0.c7 s0.c8 s0.c9 x5 s0.c19 (gt x16 s0.c4).c1 (gt x16 s0.c4).c2 (Zbk s0.c19 (gt x16 s0.c4).c2) false (Zb0 x16 s0) (Zz x0 x16 s0) false x10 x11 false x13 false false false x14 x15 x16 s0.c4 (Zci x0 s0) (tbE h10)), .b (tbE h11)] (by kernel_rfl)
           ·exact ZN
        ·exact ZN
       ·exact ZN
    ·cases h5 : tb (Zek x0 s0.c7 s0.c8 s0.c9 x10)
     ·exact ZN
     ·cases h6 : tb (Zep x0 s0.c7 s0.c8 s0.c9 x10 (Zcn x0 s0))
      ·exact ZN
      ·cases h7 : tb (Zeg x0 x1 s0.c7 s0.c8 s0.c9 x10 x11 x14 (Zcn x0 s0))
       ·exact fun _ => Zv [.s (Zdo x0 x1 s0.c7 s0.c8 s0.c9 x5 s0.c19 false s0.c11 s0.c12 false x10 x11 false x13 false x14 x15 x16 s0.c3 s0.c4 (tbE h1)), .o 72 (fun _ => Zn (enc := Zd) (l := x16) (fl := true) (n := x15) (s := 3) (k := .i64) (tbE h2)), .o 77 (fun _ => Zn (enc := Zd) (l := x16) (fl := true) (n := x15) (s := 3) (k := .i64) (tbE h2)), .b (tbE h3), .b (tbE h4), .c (Zgo x0 x1 s0.c7 s0.c8 s0.c9 s0.c11 s0.c12 false), .s (Znp x0 x1 s0.c7 s0.c8 s0.c9 x5 s0.c19 (gt x16 s0.c4).c1 (gt x16 s0.c4).c2 false s0.c11 false x10 x11 false x13 false false false x14 x15 x16 s0.c4 (tbE h5)), .s (Zn3 x0 x1 s0.c7 s0.c8 s0.c9 x5 s0.c19 (gt x16 s0.c4).c1 (gt x16 s0.c4).c2 false s0.c11 false x10 x11 false x13 false false false x14 x15 x16 s0.c4 (Zcn x0 s0) (tbE h6)), .b (tbE h7)] (by kernel_rfl)
       ·exact ZN
   ·cases h4 : tb (Zbb x0 s0.c8 (gt x16 s0.c4).c2)
    ·exact ZN
    ·cases h5 : tb (Zbl (gt x16 s0.c4).c2)
     ·cases h6 : tb (((Zi (gt x16 s0.c4).c2) : Int) != 1)
      ·cases h7 : tb (Zce x0 (Zj x16 s0) (Zc x0 s0.c8 (gt x16 s0.c4).c2) (Zb x0 s0.c9 (gt x16 s0.c4).c2) x10)
       ·exact ZN
       ·cases h8 : tb (Zch x0 (Zj x16 s0) (Zc x0 s0.c8 (gt x16 s0.c4).c2) (Zb x0 s0.c9 (gt x16 s0.c4).c2) x10 (Zcj x0 x16 s0))
        ·exact ZN
        ·cases h9 : tb (Zcs x0 x1 (Zj x16 s0) (Zc x0 s0.c8 (gt x16 s0.c4).c2) (Zb x0 s0.c9 (gt x16 s0.c4).c2) s0.c19 s0.c12 x10 x11 x14 (Zcj x0 x16 s0))
         ·exact fun _ => Zv [.s (Zdo x0 x1 s0.c7 s0.c8 s0.c9 x5 s0.c19 false s0.c11 s0.c12 false x10 x11 false x13 false x14 x15 x16 s0.c3 s0.c4 (tbE h1)), .o 72 (fun _ => Zn (enc := Zd) (l := x16) (fl := true) (n := x15) (s := 3) (k := .i64) (tbE h2)), .o 77 (fun _ => Zn (enc := Zd) (l := x16) (fl := true) (n := x15) (s := 3) (k := .i64) (tbE h2)), .b (tbE h3), .c (Zbm x0 x1 s0.c7 s0.c8 s0.c9 (gt x16 s0.c4).c2 (tbE h4)), .c (Zi2 x10 x11 (gt x16 s0.c4).c2 (tbE h5)), .b (tbE h6), .s (Zkw x0 x1 (Zj x16 s0) (Zc x0 s0.c8 (gt x16 s0.c4).c2) (Zb x0 s0.c9 (gt x16 s0.c4).c2) x5 s0.c19 (gt x16 s0.c4).c1 (gt x16 s0.c4).c2 false s0.c11 s0.c12 false x10 x11 false x13 false false x14 x15 x16 s0.c3 s0.c4 (tbE h7)), .s (Zkt x0 x1 (Zj x16 s0) (Zc x0 s0.c8 (gt x16 s0.c4).c2) (Zb x0 s0.c9 (gt x16 s0.c4).c2) x5 s0.c19 (gt x16 s0.c4).c1 (gt x16 s0.c4).c2 false s0.c11 s0.c12 false x10 x11 false x13 false false x14 x15 x16 s0.c3 s0.c4 (Zcj x0 x16 s0) (tbE h8)), .b (tbE h9)] (by kernel_rfl)
         ·exact ZN
      ·exact ZN
     ·cases h6 : tb (((Zi (gt x16 s0.c4).c2) : Int) != 0)
      ·cases h7 : tb (Ze2 x0 (Zj x16 s0) (Zc x0 s0.c8 (gt x16 s0.c4).c2) (Zb x0 s0.c9 (gt x16 s0.c4).c2) (gt x16 s0.c4).c2 x10)
       ·exact ZN
       ·cases h8 : tb (Ze7 x0 (Zj x16 s0) (Zc x0 s0.c8 (gt x16 s0.c4).c2) (Zb x0 s0.c9 (gt x16 s0.c4).c2) [(gt x16 s0.c4).c2] x10 (Zcl x0 x10 x16 s0))
        ·exact ZN
        ·cases h9 : tb (Zex x0 x1 (Zj x16 s0) (Zc x0 s0.c8 (gt x16 s0.c4).c2) (Zb x0 s0.c9 (gt x16 s0.c4).c2) s0.c19 [(gt x16 s0.c4).c2] s0.c12 x10 x11 x14 (Zcl x0 x10 x16 s0))
         ·exact fun _ => Zv [.s (Zdo x0 x1 s0.c7 s0.c8 s0.c9 x5 s0.c19 false s0.c11 s0.c12 false x10 x11 false x13 false x14 x15 x16 s0.c3 s0.c4 (tbE h1)), .o 72 (fun _ => Zn (enc := Zd) (l := x16) (fl := true) (n := x15) (s := 3) (k := .i64) (tbE h2)), .o 77 (fun _ => Zn (enc := Zd) (l := x16) (fl := true) (n := x15) (s := 3) (k := .i64) (tbE h2)), .b (tbE h3), .c (Zbm x0 x1 s0.c7 s0.c8 s0.c9 (gt x16 s0.c4).c2 (tbE h4)), .c (Zi0 x10 x11 (gt x16 s0.c4).c2 (tbE h5)), .b (tbE h6), .s (Zor x0 x1 (Zj x16 s0) (Zc x0 s0.c8 (gt x16 s0.c4).c2) (Zb x0 s0.c9 (gt x16 s0.c4).c2) x5 s0.c19 (gt x16 s0.c4).c1 (gt x16 s0.c4).c2 (gt x16 s0.c4).c2 false s0.c11 s0.c12 false x10 x11 false x13 false false false x14 x15 x16 s0.c3 s0.c4 (tbE h7)), .s (Zoa x0 x1 (Zj x16 s0) (Zc x0 s0.c8 (gt x16 s0.c4).c2) (Zb x0 s0.c9 (gt x16 s0.c4).c2) x5 s0.c19 (gt x16 s0.c4).c1 (gt x16 s0.c4).c2 [(gt x16 s0.c4).c2] false s0.c11 s0.c12 false x10 x11 false x13 false false false x14 x15 x16 s0.c3 s0.c4 (Zcl x0 x10 x16 s0) (tbE h8)), .b (tbE h9)] (by kernel_rfl)
         ·exact ZN
      ·exact ZN
def Zd3 (x0 x10 : Int) (x16 : List Zh) (s0 : Zbp) : Bool := (bif tb (Zb9 x16 s0.c4) then (bif tb (inb x16.length s0.c4) then (bif tb (((remI .u8 (gt x16 s0.c4).c0 2) : Int) == 1) then (bif tb (Zbb x0 s0.c8 (gt x16 s0.c4).c2) then (bif tb (Zbl (gt x16 s0.c4).c2) then (bif tb (((Zi (gt x16 s0.c4).c2) : Int) != 0) then true else (bif tb (Ze2 x0 (Zj x16 s0) (Zc x0 s0.c8 (gt x16 s0.c4).c2) (Zb x0 s0.c9 (gt x16 s0.c4).c2) (gt x16 s0.c4).c2 x10) then (bif tb (Ze7 x0 (Zj x16 s0) (Zc x0 s0.c8 (gt x16 s0.c4).c2) (Zb x0 s0.c9 (gt x16 s0.c4).c2) [(gt x16 s0.c4).c2] x10 (Zcl x0 x10 x16 s0)) then true else false) else false)) else false) else false) else false) else false) else false)
def Zlv (x16 : List Zh) (s0 : Zbp) : List Int := (bif tb (((Zi (gt x16 s0.c4).c2) : Int) != 0) then (Zbs s0.c7 s0.c8 (gt x16 s0.c4).c2) else (Zj x16 s0))
def Zf4 (x0 x1 x10 x11 : Int) (x16 : List Zh) (s0 : Zbp) : Bool := (bif tb (Zb9 x16 s0.c4) then (bif tb (inb x16.length s0.c4) then (bif tb (((remI .u8 (gt x16 s0.c4).c0 2) : Int) == 1) then (bif tb (Zbb x0 s0.c8 (gt x16 s0.c4).c2) then (bif tb (Zbl (gt x16 s0.c4).c2) then false else (bif tb (((Zi (gt x16 s0.c4).c2) : Int) != 1) then true else (bif tb (Zce x0 (Zj x16 s0) (Zc x0 s0.c8 (gt x16 s0.c4).c2) (Zb x0 s0.c9 (gt x16 s0.c4).c2) x10) then (bif tb (Zch x0 (Zj x16 s0) (Zc x0 s0.c8 (gt x16 s0.c4).c2) (Zb x0 s0.c9 (gt x16 s0.c4).c2) x10 (Zcj x0 x16 s0)) then true else false) else false))) else false) else (bif tb (gt x16 s0.c4).c1 then (bif tb (Zek x0 s0.c7 s0.c8 s0.c9 x10) then (bif tb (Zep x0 s0.c7 s0.c8 s0.c9 x10 (Zcn x0 s0)) then true else false) else false) else (bif tb (Z6 x0 s0.c7 s0.c8 s0.c9 s0.c11 s0.c12 (gt x16 s0.c4).c2) then (bif tb (Zbr s0.c19 x10 (gt x16 s0.c4).c2) then (bif tb (true != ((Zg x0 x1 s0.c7 s0.c8 s0.c9 s0.c11 s0.c12 (gt x16 s0.c4).c2) == (Zb6 s0.c19 x10 x11 (gt x16 s0.c4).c2))) then true else (bif tb (((Zf (gt x16 s0.c4).c2) : Int) != 0) then true else (bif tb (Zej x0 s0.c7 s0.c8 s0.c9 x10) then (bif tb (Zeo x0 s0.c7 s0.c8 s0.c9 x10 (Zci x0 s0)) then true else false) else false))) else (bif tb (Zdx (gt x16 s0.c4).c2) then (bif tb (true != ((Zg x0 x1 s0.c7 s0.c8 s0.c9 s0.c11 s0.c12 (gt x16 s0.c4).c2) == false)) then true else (bif tb (((Zf (gt x16 s0.c4).c2) : Int) != 1) then true else (bif tb (Zce x0 s0.c7 s0.c8 s0.c9 x10) then (bif tb (Zch x0 s0.c7 s0.c8 s0.c9 x10 (Zcp x0 s0)) then true else false) else false))) else false)) else false))) else false) else false)
def Zlw (x16 : List Zh) (s0 : Zbp) : List Int := (bif tb (((remI .u8 (gt x16 s0.c4).c0 2) : Int) == 1) then (bif tb (((Zi (gt x16 s0.c4).c2) : Int) != 1) then (Zbs s0.c7 s0.c8 (gt x16 s0.c4).c2) else (Zj x16 s0)) else s0.c7)
def Zll (x0 : Int) (x16 : List Zh) (s0 : Zbp) : Int := (bif tb (((remI .u8 (gt x16 s0.c4).c0 2) : Int) == 1) then (Zc x0 s0.c8 (gt x16 s0.c4).c2) else s0.c8)
def Zl5 (x0 : Int) (x16 : List Zh) (s0 : Zbp) : Int := (bif tb (((remI .u8 (gt x16 s0.c4).c0 2) : Int) == 1) then (Zb x0 s0.c9 (gt x16 s0.c4).c2) else s0.c9)
def Zl0 (x0 x1 x10 x11 : Int) (x16 : List Zh) (s0 : Zbp) : Int := (bif tb (((remI .u8 (gt x16 s0.c4).c0 2) : Int) == 1) then s0.c11 else (bif tb (gt x16 s0.c4).c1 then s0.c11 else (bif tb (Zbr s0.c19 x10 (gt x16 s0.c4).c2) then (bif tb (true != ((Zg x0 x1 s0.c7 s0.c8 s0.c9 s0.c11 s0.c12 (gt x16 s0.c4).c2) == (Zb6 s0.c19 x10 x11 (gt x16 s0.c4).c2))) then (Z7 s0.c11 (gt x16 s0.c4).c2) else (bif tb (((Zf (gt x16 s0.c4).c2) : Int) != 0) then (Z7 s0.c11 (gt x16 s0.c4).c2) else (Zb0 x16 s0))) else (bif tb (true != ((Zg x0 x1 s0.c7 s0.c8 s0.c9 s0.c11 s0.c12 (gt x16 s0.c4).c2) == false)) then (Z7 s0.c11 (gt x16 s0.c4).c2) else (bif tb (((Zf (gt x16 s0.c4).c2) : Int) != 1) then (Z7 s0.c11 (gt x16 s0.c4).c2) else (Zb0 x16 s0))))))
def Zly (x0 x1 x10 x11 : Int) (x16 : List Zh) (s0 : Zbp) : Int := (bif tb (((remI .u8 (gt x16 s0.c4).c0 2) : Int) == 1) then s0.c12 else (bif tb (gt x16 s0.c4).c1 then 0 else (bif tb (Zbr s0.c19 x10 (gt x16 s0.c4).c2) then (bif tb (true != ((Zg x0 x1 s0.c7 s0.c8 s0.c9 s0.c11 s0.c12 (gt x16 s0.c4).c2) == (Zb6 s0.c19 x10 x11 (gt x16 s0.c4).c2))) then (Z8 x0 s0.c11 s0.c12 (gt x16 s0.c4).c2) else (bif tb (((Zf (gt x16 s0.c4).c2) : Int) != 0) then (Z8 x0 s0.c11 s0.c12 (gt x16 s0.c4).c2) else (Zz x0 x16 s0))) else (bif tb (true != ((Zg x0 x1 s0.c7 s0.c8 s0.c9 s0.c11 s0.c12 (gt x16 s0.c4).c2) == false)) then (Z8 x0 s0.c11 s0.c12 (gt x16 s0.c4).c2) else (bif tb (((Zf (gt x16 s0.c4).c2) : Int) != 1) then (Z8 x0 s0.c11 s0.c12 (gt x16 s0.c4).c2) else (Zz x0 x16 s0))))))
def Zig (x16 : List Zh) (s0 : Zbp) : Bool := (bif tb (Zb9 x16 s0.c4) then false else true)
theorem Zro (x0 x1 : Int) (x2 : List Int) (x3 x4 : Int) (x5 : List Int) (x6 : Bool) (x7 x8 : Int) (x9 : Bool) (x10 x11 : Int) (x12 x13 : Bool) (x14 : Int) (x15 : Bool) (x16 : List Zh) (x17 : Bool) (x18 : Int) (s0 : Zbp) : Zc3 x0 x1 x5 x10 x11 x14 x16 s0 = false → Zd3 x0 x10 x16 s0 = true → (roundG (runC E0 (cl E0) L10_4) [0, 2, 7, 10, 11, 12, 13] [6] 4) (Zbf x0 x1 x2 x3 x4 x5 x6 x7 x8 x9 x10 x11 x12 x13 x14 x15 x16 x17 x18 (.h2 s0)) = some (.ret, ([(V.d (.bool false))], [(Blk.flat 82 20 [([(.int .i64 x0), (.int .i64 x1)] ++ arrD .i64 (Zlv x16 s0) 16 ++ [(.int .i64 (Zc x0 s0.c8 (gt x16 s0.c4).c2)), (.int .i64 (Zb x0 s0.c9 (gt x16 s0.c4).c2))])] false), (Blk.gen 84 3 [[(V.ptr 0 1 0 0), (V.d (.int .i64 s0.c11)), (V.d (.int .i64 s0.c12))]] false), (Blk.gen 86 3 [[(V.d (.int .i64 x10)), (V.d (.int .i64 x11)), (V.so false 4 ([(gt x16 s0.c4).c2].length))]] false), (Blk.flat 3 1 (List.map (encI .i64) x5) x13), (Blk.flat 3 1 (List.map (encI .i64) [(gt x16 s0.c4).c2]) false)])) := by
 unfold Zc3 Zd3 Zlv
 cases h1 : tb (Zb9 x16 s0.c4)
 ·intro g0 g1
  exact absurd g1 ft
 ·cases h2 : tb (inb x16.length s0.c4)
  ·intro g0 g1
   exact absurd g1 ft
  ·cases h3 : tb (((remI .u8 (gt x16 s0.c4).c0 2) : Int) == 1)
   ·cases h4 : tb (gt x16 s0.c4).c1
    ·cases h5 : tb (Z6 x0 s0.c7 s0.c8 s0.c9 s0.c11 s0.c12 (gt x16 s0.c4).c2)
     ·intro g0 g1
      exact absurd g1 ft
     ·cases h6 : tb (Zbr s0.c19 x10 (gt x16 s0.c4).c2)
      ·cases h7 : tb (Zdx (gt x16 s0.c4).c2)
       ·intro g0 g1
        exact absurd g1 ft
       ·cases h8 : tb (true != ((Zg x0 x1 s0.c7 s0.c8 s0.c9 s0.c11 s0.c12 (gt x16 s0.c4).c2) == false))
        ·cases h9 : tb (((Zf (gt x16 s0.c4).c2) : Int) != 1)
         ·cases h10 : tb (Zce x0 s0.c7 s0.c8 s0.c9 x10)
          ·intro g0 g1
           exact absurd g1 ft
          ·cases h11 : tb (Zch x0 s0.c7 s0.c8 s0.c9 x10 (Zcp x0 s0))
           ·intro g0 g1
            exact absurd g1 ft
           ·cases h12 : tb (Zcs x0 x1 s0.c7 s0.c8 s0.c9 s0.c19 (Zz x0 x16 s0) x10 x11 x14 (Zcp x0 s0))
            ·intro g0 g1
             exact absurd g0 tf
            ·intro g0 g1
             exact absurd g1 ft
         ·intro g0 g1
          exact absurd g1 ft
        ·intro g0 g1
         exact absurd g1 ft
      ·cases h7 : tb (true != ((Zg x0 x1 s0.c7 s0.c8 s0.c9 s0.c11 s0.c12 (gt x16 s0.c4).c2) == (Zb6 s0.c19 x10 x11 (gt x16 s0.c4).c2)))
       ·cases h8 : tb (((Zf (gt x16 s0.c4).c2) : Int) != 0)
        ·cases h9 : tb (Zej x0 s0.c7 s0.c8 s0.c9 x10)
         ·intro g0 g1
          exact absurd g1 ft
         ·cases h10 : tb (Zeo x0 s0.c7 s0.c8 s0.c9 x10 (Zci x0 s0))
          ·intro g0 g1
           exact absurd g1 ft
          ·cases h11 : tb (Zee x0 x1 s0.c7 s0.c8 s0.c9 (Zbk s0.c19 (gt x16 s0.c4).c2) (Zz x0 x16 s0) x10 x11 x14 (Zci x0 s0))
           ·intro g0 g1
            exact absurd g0 tf
           ·intro g0 g1
            exact absurd g1 ft
        ·intro g0 g1
         exact absurd g1 ft
       ·intro g0 g1
        exact absurd g1 ft
    ·cases h5 : tb (Zek x0 s0.c7 s0.c8 s0.c9 x10)
     ·intro g0 g1
      exact absurd g1 ft
     ·cases h6 : tb (Zep x0 s0.c7 s0.c8 s0.c9 x10 (Zcn x0 s0))
      ·intro g0 g1
       exact absurd g1 ft
      ·cases h7 : tb (Zeg x0 x1 s0.c7 s0.c8 s0.c9 x10 x11 x14 (Zcn x0 s0))
       ·intro g0 g1
        exact absurd g0 tf
       ·intro g0 g1
        exact absurd g1 ft
   ·cases h4 : tb (Zbb x0 s0.c8 (gt x16 s0.c4).c2)
    ·intro g0 g1
     exact absurd g1 ft
    ·cases h5 : tb (Zbl (gt x16 s0.c4).c2)
     ·cases h6 : tb (((Zi (gt x16 s0.c4).c2) : Int) != 1)
      ·cases h7 : tb (Zce x0 (Zj x16 s0) (Zc x0 s0.c8 (gt x16 s0.c4).c2) (Zb x0 s0.c9 (gt x16 s0.c4).c2) x10)
       ·intro g0 g1
        exact absurd g1 ft
       ·cases h8 : tb (Zch x0 (Zj x16 s0) (Zc x0 s0.c8 (gt x16 s0.c4).c2) (Zb x0 s0.c9 (gt x16 s0.c4).c2) x10 (Zcj x0 x16 s0))
        ·intro g0 g1
         exact absurd g1 ft
        ·cases h9 : tb (Zcs x0 x1 (Zj x16 s0) (Zc x0 s0.c8 (gt x16 s0.c4).c2) (Zb x0 s0.c9 (gt x16 s0.c4).c2) s0.c19 s0.c12 x10 x11 x14 (Zcj x0 x16 s0))
         ·intro g0 g1
          exact absurd g0 tf
         ·intro g0 g1
          exact absurd g1 ft
      ·intro g0 g1
       exact absurd g1 ft
     ·cases h6 : tb (((Zi (gt x16 s0.c4).c2) : Int) != 0)
      ·cases h7 : tb (Ze2 x0 (Zj x16 s0) (Zc x0 s0.c8 (gt x16 s0.c4).c2) (Zb x0 s0.c9 (gt x16 s0.c4).c2) (gt x16 s0.c4).c2 x10)
       ·intro g0 g1
        exact absurd g1 ft
       ·cases h8 : tb (Ze7 x0 (Zj x16 s0) (Zc x0 s0.c8 (gt x16 s0.c4).c2) (Zb x0 s0.c9 (gt x16 s0.c4).c2) [(gt x16 s0.c4).c2] x10 (Zcl x0 x10 x16 s0))
        ·intro g0 g1
         exact absurd g1 ft
        ·cases h9 : tb (Zex x0 x1 (Zj x16 s0) (Zc x0 s0.c8 (gt x16 s0.c4).c2) (Zb x0 s0.c9 (gt x16 s0.c4).c2) s0.c19 [(gt x16 s0.c4).c2] s0.c12 x10 x11 x14 (Zcl x0 x10 x16 s0))
         ·intro g0 g1
          exact absurd g0 tf
         ·intro g0 g1
          exact Zv [.s (Zdo x0 x1 s0.c7 s0.c8 s0.c9 x5 s0.c19 false s0.c11 s0.c12 false x10 x11 false x13 false x14 x15 x16 s0.c3 s0.c4 (tbE h1)), .o 72 (fun _ => Zn (enc := Zd) (l := x16) (fl := true) (n := x15) (s := 3) (k := .i64) (tbE h2)), .o 77 (fun _ => Zn (enc := Zd) (l := x16) (fl := true) (n := x15) (s := 3) (k := .i64) (tbE h2)), .b (tbE h3), .c (Zbm x0 x1 s0.c7 s0.c8 s0.c9 (gt x16 s0.c4).c2 (tbE h4)), .c (Zi0 x10 x11 (gt x16 s0.c4).c2 (tbE h5)), .b (tbE h6), .s (Zor x0 x1 (Zj x16 s0) (Zc x0 s0.c8 (gt x16 s0.c4).c2) (Zb x0 s0.c9 (gt x16 s0.c4).c2) x5 s0.c19 (gt x16 s0.c4).c1 (gt x16 s0.c4).c2 (gt x16 s0.c4).c2 false s0.c11 s0.c12 false x10 x11 false x13 false false false x14 x15 x16 s0.c3 s0.c4 (tbE h7)), .s (Zoa x0 x1 (Zj x16 s0) (Zc x0 s0.c8 (gt x16 s0.c4).c2) (Zb x0 s0.c9 (gt x16 s0.c4).c2) x5 s0.c19 (gt x16 s0.c4).c1 (gt x16 s0.c4).c2 [(gt x16 s0.c4).c2] false s0.c11 s0.c12 false x10 x11 false x13 false false false x14 x15 x16 s0.c3 s0.c4 (Zcl x0 x10 x16 s0) (tbE h8)), .b (tbE h9)] (by kernel_rfl)
      ·intro g0 g1
       exact Zv [.s (Zdo x0 x1 s0.c7 s0.c8 s0.c9 x5 s0.c19 false s0.c11 s0.c12 false x10 x11 false x13 false x14 x15 x16 s0.c3 s0.c4 (tbE h1)), .o 72 (fun _ => Zn (enc := Zd) (l := x16) (fl := true) (n := x15) (s := 3) (k := .i64) (tbE h2)), .o 77 (fun _ => Zn (enc := Zd) (l := x16) (fl := true) (n := x15) (s := 3) (k := .i64) (tbE h2)), .b (tbE h3), .c (Zbm x0 x1 s0.c7 s0.c8 s0.c9 (gt x16 s0.c4).c2 (tbE h4)), .c (Zi0 x10 x11 (gt x16 s0.c4).c2 (tbE h5)), .b (tbE h6)] (by kernel_rfl)
theorem Zrq (x0 x1 : Int) (x2 : List Int) (x3 x4 : Int) (x5 : List Int) (x6 : Bool) (x7 x8 : Int) (x9 : Bool) (x10 x11 : Int) (x12 x13 : Bool) (x14 : Int) (x15 : Bool) (x16 : List Zh) (x17 : Bool) (x18 : Int) (s0 : Zbp) : Zc3 x0 x1 x5 x10 x11 x14 x16 s0 = false → Zd3 x0 x10 x16 s0 = false → Zf4 x0 x1 x10 x11 x16 s0 = true → (roundG (runC E0 (cl E0) L10_4) [0, 2, 7, 10, 11, 12, 13] [6] 4) (Zbf x0 x1 x2 x3 x4 x5 x6 x7 x8 x9 x10 x11 x12 x13 x14 x15 x16 x17 x18 (.h2 s0)) = some (.ret, ([(V.d (.bool false))], [(Blk.flat 82 20 [([(.int .i64 x0), (.int .i64 x1)] ++ arrD .i64 (Zlw x16 s0) 16 ++ [(.int .i64 (Zll x0 x16 s0)), (.int .i64 (Zl5 x0 x16 s0))])] false), (Blk.gen 84 3 [[(V.ptr 0 1 0 0), (V.d (.int .i64 (Zl0 x0 x1 x10 x11 x16 s0))), (V.d (.int .i64 (Zly x0 x1 x10 x11 x16 s0)))]] false), (Blk.gen 86 3 [[(V.d (.int .i64 x10)), (V.d (.int .i64 x11)), (V.d .nils)]] false), (Blk.flat 3 1 (List.map (encI .i64) x5) x13)])) := by
 unfold Zc3 Zd3 Zf4 Zlw Zll Zl5 Zl0 Zly
 cases h1 : tb (Zb9 x16 s0.c4)
 ·intro g0 g1 g2
  exact absurd g2 ft
 ·cases h2 : tb (inb x16.length s0.c4)
  ·intro g0 g1 g2
   exact absurd g2 ft
  ·cases h3 : tb (((remI .u8 (gt x16 s0.c4).c0 2) : Int) == 1)
   ·cases h4 : tb (gt x16 s0.c4).c1
    ·cases h5 : tb (Z6 x0 s0.c7 s0.c8 s0.c9 s0.c11 s0.c12 (gt x16 s0.c4).c2)
     ·intro g0 g1 g2
      exact absurd g2 ft
     ·cases h6 : tb (Zbr s0.c19 x10 (gt x16 s0.c4).c2)
      ·cases h7 : tb (Zdx (gt x16 s0.c4).c2)
       ·intro g0 g1 g2
        exact absurd g2 ft
       ·cases h8 : tb (true != ((Zg x0 x1 s0.c7 s0.c8 s0.c9 s0.c11 s0.c12 (gt x16 s0.c4).c2) == false))
        ·cases h9 : tb (((Zf (gt x16 s0.c4).c2) : Int) != 1)
         ·cases h10 : tb (Zce x0 s0.c7 s0.c8 s0.c9 x10)
          ·intro g0 g1 g2
           exact absurd g2 ft
          ·cases h11 : tb (Zch x0 s0.c7 s0.c8 s0.c9 x10 (Zcp x0 s0))
           ·intro g0 g1 g2
            exact absurd g2 ft
           ·cases h12 : tb (Zcs x0 x1 s0.c7 s0.c8 s0.c9 s0.c19 (Zz x0 x16 s0) x10 x11 x14 (Zcp x0 s0))
            ·intro g0 g1 g2
             exact absurd g0 tf
            ·intro g0 g1 g2
             exact Zv [.s (Zdo x0 x1 s0.c7 s0.c8 s0.c9 x5 s0.c19 false s0.c11 s0.c12 false x10 x11 false x13 false x14 x15 x16 s0.c3 s0.c4 (tbE h1)), .o 72 (fun _ => Zn (enc := Zd) (l := x16) (fl := true) (n := x15) (s := 3) (k := .i64) (tbE h2)), .o 77 (fun _ => Zn (enc := Zd) (l := x16) (fl := true) (n := x15) (s := 3) (k := .i64) (tbE h2)), .b (tbE h3), .b (tbE h4), .c (Zu x0 x1 s0.c7 s0.c8 s0.c9 s0.c11 s0.c12 false (gt x16 s0.c4).c2 (tbE h5)), .c (Zib s0.c19 x10 x11 false false s0.c3 (gt x16 s0.c4).c2 (tbE h6) (tbE h7)), .b (tbE h8), .b (tbE h9), .s (Zkw x0 x1 s0.c7 s0.c8 s0.c9 x5 s0.c19 (gt x16 s0.c4).c1 (gt x16 s0.c4).c2 false (Zb0 x16 s0) (Zz x0 x16 s0) false x10 x11 false x13 false false x14 x15 x16 s0.c3 s0.c4 (tbE h10)), .s (Zkt x0 x1 s0.c7 s0.c8 s0.c9 x5 s0.c19 (gt x16 s0.c4).c1 (gt x16 s0.c4).c2 false (Zb0 x16 s0) (Zz x0 x16 s0) false x10 x11 false x13 false false x14 x15 x16 s0.c3 s0.c4 (Zcp x0 s0) (tbE h11)), .b (tbE h12)] (by kernel_rfl)
         ·intro g0 g1 g2
          exact Zv [.s (Zdo x0 x1 s0.c7 s0.c8 s0.c9 x5 s0.c19 false s0.c11 s0.c12 false x10 x11 false x13 false x14 x15 x16 s0.c3 s0.c4 (tbE h1)), .o 72 (fun _ => Zn (enc := Zd) (l := x16) (fl := true) (n := x15) (s := 3) (k := .i64) (tbE h2)), .o 77 (fun _ => Zn (enc := Zd) (l := x16) (fl := true) (n := x15) (s := 3) (k := .i64) (tbE h2)), .b (tbE h3), .b (tbE h4), .c (Zu x0 x1 s0.c7 s0.c8 s0.c9 s0.c11 s0.c12 false (gt x16 s0.c4).c2 (tbE h5)), .c (Zib s0.c19 x10 x11 false false s0.c3 (gt x16 s0.c4).c2 (tbE h6) (tbE h7)), .b (tbE h8), .b (tbE h9)] (by kernel_rfl)
        ·intro g0 g1 g2
         exact Zv [.s (Zdo x0 x1 s0.c7 s0.c8 s0.c9 x5 s0.c19 false s0.c11 s0.c12 false x10 x11 false x13 false x14 x15 x16 s0.c3 s0.c4 (tbE h1)), .o 72 (fun _ => Zn (enc := Zd) (l := x16) (fl := true) (n := x15) (s := 3) (k := .i64) (tbE h2)), .o 77 (fun _ => Zn (enc := Zd) (l := x16) (fl := true) (n := x15) (s := 3) (k := .i64) (tbE h2)), .b (tbE h3), .b (tbE h4), .c (Zu x0 x1 s0.c7 s0.c8 s0.c9 s0.c11 s0.c12 false (gt x16 s0.c4).c2 (tbE h5)), .c (Zib s0.c19 x10 x11 false false s0.c3 (gt x16 s0.c4).c2 (tbE h6) (tbE h7)), .b (tbE h8)] (by kernel_rfl)
      ·cases h7 : tb (true != ((Zg x0 x1 s0.c7 s0.c8 s0.c9 s0.c11 s0.c12 (gt x16 s0.c4).c2) == (Zb6 s0.c19 x10 x11 (gt x16 s0.c4).c2)))
       ·cases h8 : tb (((Zf (gt x16 s0.c4).c2) : Int) != 0)
        ·cases h9 : tb (Zej x0 s0.c7 s0.c8 s0.c9 x10)
         ·intro g0 g1 g2
          exact absurd g2 ft
         ·cases h10 : tb (Zeo x0 s0.c7 s0.c8 s0.c9 x10 (Zci x0 s0))
          ·intro g0 g1 g2
           exact absurd g2 ft
          ·cases h11 : tb (Zee x0 x1 s0.c7 s0.c8 s0.c9 (Zbk s0.c19 (gt x16 s0.c4).c2) (Zz x0 x16 s0) x10 x11 x14 (Zci x0 s0))
           ·intro g0 g1 g2
            exact absurd g0 tf
           ·intro g0 g1 g2
            exact Zv [.s (Zdo x0 x1 s0.c7 s0.c8 s0.c9 x5 s0.c19 false s0.c11 s0.c12 false x10 x11 false x13 false x14 x15 x16 s0.c3 s0.c4 (tbE h1)), .o 72 (fun _ => Zn (enc := Zd) (l := x16) (fl := true) (n := x15) (s := 3) (k := .i64) (tbE h2)), .o 77 (fun _ => Zn (enc := Zd) (l := x16) (fl := true) (n := x15) (s := 3) (k := .i64) (tbE h2)), .b (tbE h3), .b (tbE h4), .c (Zu x0 x1 s0.c7 s0.c8 s0.c9 s0.c11 s0.c12 false (gt x16 s0.c4).c2 (tbE h5)), .c (Zic s0.c19 x10 x11 false false s0.c3 (gt x16 s0.c4).c2 (tbE h6)), .b (tbE h7), .b (tbE h8), .s (Znx x0 x1 s0.c7 s0.c8 s0.c9 x5 s0.c19 (gt x16 s0.c4).c1 (gt x16 s0.c4).c2 (Zbk s0.c19 (gt x16 s0.c4).c2) false (Zb0 x16 s0) (Zz x0 x16 s0) false x10 x11 false x13 false false false x14 x15 x16 s0.c4 (tbE h9)), .s (Znt x0 x1 s0.c7 s0.c8 s0.c9 x5 s0.c19 (gt x16 s0.c4).c1 (gt x16 s0.c4).c2 (Zbk s0.c19 (gt x16 s0.c4).c2) false (Zb0 x16 s0) (Zz x0 x16 s0) false x10 x11 false x13 false false false x14 x15 x16 s0.c4 (Zci x0 s0) (tbE h10)), .b (tbE h11)] (by kernel_rfl)
        ·intro g0 g1 g2
         exact Zv [.s (Zdo x0 x1 s0.c7 s0.c8 s0.c9 x5 s0.c19 false s0.c11 s0.c12 false x10 x11 false x13 false x14 x15 x16 s0.c3 s0.c4 (tbE h1)), .o 72 (fun _ => Zn (enc := Zd) (l := x16) (fl := true) (n := x15) (s := 3) (k := .i64) (tbE h2)), .o 77 (fun _ => Zn (enc := Zd) (l := x16) (fl := true) (n := x15) (s := 3) (k := .i64) (tbE h2)), .b (tbE h3), .b (tbE h4), .c (Zu x0 x1 s0.c7 s0.c8 s0.c9 s0.c11 s0.c12 false (gt x16 s0.c4).c2 (tbE h5)), .c (Zic s0.c19 x10 x11 false false s0.c3 (gt x16 s0.c4).c2 (tbE h6)), .b (tbE h7), .b (tbE h8)] (by kernel_rfl)
       ·intro g0 g1 g2
        exact Zv [.s (Zdo x0 x1 s0.c7 s0.c8 s0.c9 x5 s0.c19 false s0.c11 s0.c12 false x10 x11 false x13 false x14 x15 x16 s0.c3 s0.c4 (tbE h1)), .o 72 (fun _ => Zn (enc := Zd) (l := x16) (fl := true) (n := x15) (s := 3) (k := .i64) (tbE h2)), .o 77 (fun _ => Zn (enc := Zd) (l := x16) (fl := true) (n := x15) (s := 3) (k := .i64) (tbE h2)), .b (tbE h3), .b (tbE h4), .c (Zu x0 x1 s0.c7 s0.c8 s0.c9 s0.c11 s0.c12 false (gt x16 s0.c4).c2 (tbE h5)), .c (Zic s0.c19 x10 x11 false false s0.c3 (gt x16 s0.c4).c2 (tbE h6)), .b (tbE h7)] (by kernel_rfl)
    ·cases h5 : tb (Zek x0 s0.c7 s0.c8 s0.c9 x10)
     ·intro g0 g1 g2
      exact absurd g2 ft
     ·cases h6 : tb (Zep x0 s0.c7 s0.c8 s0.c9 x10 (Zcn x0 s0))
      ·intro g0 g1 g2
       exact absurd g2 ft
      ·cases h7 : tb (Zeg x0 x1 s0.c7 s0.c8 s0.c9 x10 x11 x14 (Zcn x0 s0))
       ·intro g0 g1 g2
        exact absurd g0 tf
       ·intro g0 g1 g2
        exact Zv [.s (Zdo x0 x1 s0.c7 s0.c8 s0.c9 x5 s0.c19 false s0.c11 s0.c12 false x10 x11 false x13 false x14 x15 x16 s0.c3 s0.c4 (tbE h1)), .o 72 (fun _ => Zn (enc := Zd) (l := x16) (fl := true) (n := x15) (s := 3) (k := .i64) (tbE h2)), .o 77 (fun _ => Zn (enc := Zd) (l := x16) (fl := true) (n := x15) (s := 3) (k := .i64) (tbE h2)), .b (tbE h3), .b (tbE h4), .c (Zgo x0 x1 s0.c7 s0.c8 s0.c9 s0.c11 s0.c12 false), .s (Znp x0 x1 s0.c7 s0.c8 s0.c9 x5 s0.c19 (gt x16 s0.c4).c1 (gt x16 s0.c4).c2 false s0.c11 false x10 x11 false x13 false false false x14 x15 x16 s0.c4 (tbE h5)), .s (Zn3 x0 x1 s0.c7 s0.c8 s0.c9 x5 s0.c19 (gt x16 s0.c4).c1 (gt x16 s0.c4).c2 false s0.c11 false x10 x11 false x13 false false false x14 x15 x16 s0.c4 (Zcn x0 s0) (tbE h6)), .b (tbE h7)] (by kernel_rfl)
   ·cases h4 : tb (Zbb x0 s0.c8 (gt x16 s0.c4).c2)
    ·intro g0 g1 g2
     exact absurd g2 ft
    ·cases h5 : tb (Zbl (gt x16 s0.c4).c2)
     ·cases h6 : tb (((Zi (gt x16 s0.c4).c2) : Int) != 1)
      ·cases h7 : tb (Zce x0 (Zj x16 s0) (Zc x0 s0.c8 (gt x16 s0.c4).c2) (Zb x0 s0.c9 (gt x16 s0.c4).c2) x10)
       ·intro g0 g1 g2
        exact absurd g2 ft
       ·cases h8 : tb (Zch x0 (Zj x16 s0) (Zc x0 s0.c8 (gt x16 s0.c4).c2) (Zb x0 s0.c9 (gt x16 s0.c4).c2) x10 (Zcj x0 x16 s0))
        ·intro g0 g1 g2
         exact absurd g2 ft
        ·cases h9 : tb (Zcs x0 x1 (Zj x16 s0) (Zc x0 s0.c8 (gt x16 s0.c4).c2) (Zb x0 s0.c9 (gt x16 s0.c4).c2) s0.c19 s0.c12 x10 x11 x14 (Zcj x0 x16 s0))
         ·intro g0 g1 g2
          exact absurd g0 tf
         ·intro g0 g1 g2
          exact Zv [.s (Zdo x0 x1 s0.c7 s0.c8 s0.c9 x5 s0.c19 false s0.c11 s0.c12 false x10 x11 false x13 false x14 x15 x16 s0.c3 s0.c4 (tbE h1)), .o 72 (fun _ => Zn (enc := Zd) (l := x16) (fl := true) (n := x15) (s := 3) (k := .i64) (tbE h2)), .o 77 (fun _ => Zn (enc := Zd) (l := x16) (fl := true) (n := x15) (s := 3) (k := .i64) (tbE h2)), .b (tbE h3), .c (Zbm x0 x1 s0.c7 s0.c8 s0.c9 (gt x16 s0.c4).c2 (tbE h4)), .c (Zi2 x10 x11 (gt x16 s0.c4).c2 (tbE h5)), .b (tbE h6), .s (Zkw x0 x1 (Zj x16 s0) (Zc x0 s0.c8 (gt x16 s0.c4).c2) (Zb x0 s0.c9 (gt x16 s0.c4).c2) x5 s0.c19 (gt x16 s0.c4).c1 (gt x16 s0.c4).c2 false s0.c11 s0.c12 false x10 x11 false x13 false false x14 x15 x16 s0.c3 s0.c4 (tbE h7)), .s (Zkt x0 x1 (Zj x16 s0) (Zc x0 s0.c8 (gt x16 s0.c4).c2) (Zb x0 s0.c9 (gt x16 s0.c4).c2) x5 s0.c19 (gt x16 s0.c4).c1 (gt x16 s0.c4).c2 false s0.c11 s0.c12 false x10 x11 false x13 false false x14 x15 x16 s0.c3 s0.c4 (Zcj x0 x16 s0) (tbE h8)), .b (tbE h9)] (by kernel_rfl)
      ·intro g0 g1 g2
       exact Zv [.s (Zdo x0 x1 s0.c7 s0.c8 s0.c9 x5 s0.c19 false s0.c11 s0.c12 false x10 x11 false x13 false x14 x15 x16 s0.c3 s0.c4 (tbE h1)), .o 72 (fun _ => Zn (enc := Zd) (l := x16) (fl := true) (n := x15) (s := 3) (k := .i64) (tbE h2)), .o 77 (fun _ => Zn (enc := Zd) (l := x16) (fl := true) (n := x15) (s := 3) (k := .i64) (tbE h2)), .b (tbE h3), .c (Zbm x0 x1 s0.c7 s0.c8 s0.c9 (gt x16 s0.c4).c2 (tbE h4)), .c (Zi2 x10 x11 (gt x16 s0.c4).c2 (tbE h5)), .b (tbE h6)] (by kernel_rfl)
     ·cases h6 : tb (((Zi (gt x16 s0.c4).c2) : Int) != 0)
      ·cases h7 : tb (Ze2 x0 (Zj x16 s0) (Zc x0 s0.c8 (gt x16 s0.c4).c2) (Zb x0 s0.c9 (gt x16 s0.c4).c2) (gt x16 s0.c4).c2 x10)
       ·intro g0 g1 g2
        exact absurd g2 ft
       ·cases h8 : tb (Ze7 x0 (Zj x16 s0) (Zc x0 s0.c8 (gt x16 s0.c4).c2) (Zb x0 s0.c9 (gt x16 s0.c4).c2) [(gt x16 s0.c4).c2] x10 (Zcl x0 x10 x16 s0))
        ·intro g0 g1 g2
         exact absurd g2 ft
        ·cases h9 : tb (Zex x0 x1 (Zj x16 s0) (Zc x0 s0.c8 (gt x16 s0.c4).c2) (Zb x0 s0.c9 (gt x16 s0.c4).c2) s0.c19 [(gt x16 s0.c4).c2] s0.c12 x10 x11 x14 (Zcl x0 x10 x16 s0))
         ·intro g0 g1 g2
          exact absurd g0 tf
         ·intro g0 g1 g2
          exact absurd g1 tf
      ·intro g0 g1 g2
       exact absurd g1 tf
theorem Zru (x0 x1 : Int) (x2 : List Int) (x3 x4 : Int) (x5 : List Int) (x6 : Bool) (x7 x8 : Int) (x9 : Bool) (x10 x11 : Int) (x12 x13 : Bool) (x14 : Int) (x15 : Bool) (x16 : List Zh) (x17 : Bool) (x18 : Int) (s0 : Zbp) : Zc3 x0 x1 x5 x10 x11 x14 x16 s0 = false → Zd3 x0 x10 x16 s0 = false → Zf4 x0 x1 x10 x11 x16 s0 = false → Zig x16 s0 = true → (roundG (runC E0 (cl E0) L10_4) [0, 2, 7, 10, 11, 12, 13] [6] 4) (Zbf x0 x1 x2 x3 x4 x5 x6 x7 x8 x9 x10 x11 x12 x13 x14 x15 x16 x17 x18 (.h2 s0)) = some ((.exit 0), ([V.un], [(Blk.flat 82 20 [([(.int .i64 x0), (.int .i64 x1)] ++ arrD .i64 s0.c7 16 ++ [(.int .i64 s0.c8), (.int .i64 s0.c9)])] false), (Blk.gen 84 3 [[(V.ptr 0 1 0 0), (V.d (.int .i64 s0.c11)), (V.d (.int .i64 s0.c12))]] false), (Blk.gen 86 3 [[(V.d (.int .i64 x10)), (V.d (.int .i64 x11)), (V.d .nils)]] false), (Blk.flat 3 1 (List.map (encI .i64) x5) x13)])) := by
 unfold Zc3 Zd3 Zf4 Zig
 cases h1 : tb (Zb9 x16 s0.c4)
 ·intro g0 g1 g2 g3
  exact Zv [.s (Zsu x0 x1 s0.c7 s0.c8 s0.c9 x5 s0.c19 false s0.c11 s0.c12 false x10 x11 false x13 false x14 x15 x16 s0.c3 s0.c4 (tbE h1))] (by kernel_rfl)
 ·cases h2 : tb (inb x16.length s0.c4)
  ·intro g0 g1 g2 g3
   exact absurd g3 ft
  ·cases h3 : tb (((remI .u8 (gt x16 s0.c4).c0 2) : Int) == 1)
   ·cases h4 : tb (gt x16 s0.c4).c1
    ·cases h5 : tb (Z6 x0 s0.c7 s0.c8 s0.c9 s0.c11 s0.c12 (gt x16 s0.c4).c2)
     ·intro g0 g1 g2 g3
      exact absurd g3 ft
     ·cases h6 : tb (Zbr s0.c19 x10 (gt x16 s0.c4).c2)
      ·cases h7 : tb (Zdx (gt x16 s0.c4).c2)
       ·intro g0 g1 g2 g3
        exact absurd g3 ft
       ·cases h8 : tb (true != ((Zg x0 x1 s0.c7 s0.c8 s0.c9 s0.c11 s0.c12 (gt x16 s0.c4).c2) == false))
        ·cases h9 : tb (((Zf (gt x16 s0.c4).c2) : Int) != 1)
         ·cases h10 : tb (Zce x0 s0.c7 s0.c8 s0.c9 x10)
          ·intro g0 g1 g2 g3
           exact absurd g3 ft
          ·cases h11 : tb (Zch x0 s0.c7 s0.c8 s0.c9 x10 (Zcp x0 s0))
           ·intro g0 g1 g2 g3
            exact absurd g3 ft
           ·cases h12 : tb (Zcs x0 x1 s0.c7 s0.c8 s0.c9 s0.c19 (Zz x0 x16 s0) x10 x11 x14 (Zcp x0 s0))
            ·intro g0 g1 g2 g3
             exact absurd g0 tf
            ·intro g0 g1 g2 g3
             exact absurd g2 tf
         ·intro g0 g1 g2 g3
          exact absurd g2 tf
        ·intro g0 g1 g2 g3
         exact absurd g2 tf
      ·cases h7 : tb (true != ((Zg x0 x1 s0.c7 s0.c8 s0.c9 s0.c11 s0.c12 (gt x16 s0.c4).c2) == (Zb6 s0.c19 x10 x11 (gt x16 s0.c4).c2)))
       ·cases h8 : tb (((Zf (gt x16 s0.c4).c2) : Int) != 0)
        ·cases h9 : tb (Zej x0 s0.c7 s0.c8 s0.c9 x10)
         ·intro g0 g1 g2 g3
          exact absurd g3 ft
         ·cases h10 : tb (Zeo x0 s0.c7 s0.c8 s0.c9 x10 (Zci x0 s0))
          ·intro g0 g1 g2 g3
           exact absurd g3 ft
          ·cases h11 : tb (Zee x0 x1 s0.c7 s0.c8 s0.c9 (Zbk s0.c19 (gt x16 s0.c4).c2) (Zz x0 x16 s0) x10 x11 x14 (Zci x0 s0))
           ·intro g0 g1 g2 g3
            exact absurd g0 tf
           ·intro g0 g1 g2 g3
            exact absurd g2 tf
        ·intro g0 g1 g2 g3
         exact absurd g2 tf
       ·intro g0 g1 g2 g3
        exact absurd g2 tf
    ·cases h5 : tb (Zek x0 s0.c7 s0.c8 s0.c9 x10)
     ·intro g0 g1 g2 g3
      exact absurd g3 ft
     ·cases h6 : tb (Zep x0 s0.c7 s0.c8 s0.c9 x10 (Zcn x0 s0))
      ·intro g0 g1 g2 g3
       exact absurd g3 ft
      ·cases h7 : tb (Zeg x0 x1 s0.c7 s0.c8 s0.c9 x10 x11 x14 (Zcn x0 s0))
       ·intro g0 g1 g2 g3
        exact absurd g0 tf
       ·intro g0 g1 g2 g3
        exact absurd g2 tf
   ·cases h4 : tb (Zbb x0 s0.c8 (gt x16 s0.c4).c2)
    ·intro g0 g1 g2 g3
     exact absurd g3 ft
    ·cases h5 : tb (Zbl (gt x16 s0.c4).c2)
     ·cases h6 : tb (((Zi (gt x16 s0.c4).c2) : Int) != 1)
      ·cases h7 : tb (Zce x0 (Zj x16 s0) (Zc x0 s0.c8 (gt x16 s0.c4).c2) (Zb x0 s0.c9 (gt x16 s0.c4).c2) x10)
       ·intro g0 g1 g2 g3
        exact absurd g3 ft
       ·cases h8 : tb (Zch x0 (Zj x16 s0) (Zc x0 s0.c8 (gt x16 s0.c4).c2) (Zb x0 s0.c9 (gt x16 s0.c4).c2) x10 (Zcj x0 x16 s0))
        ·intro g0 g1 g2 g3
         exact absurd g3 ft
        ·cases h9 : tb (Zcs x0 x1 (Zj x16 s0) (Zc x0 s0.c8 (gt x16 s0.c4).c2) (Zb x0 s0.c9 (gt x16 s0.c4).c2) s0.c19 s0.c12 x10 x11 x14 (Zcj x0 x16 s0))
         ·intro g0 g1 g2 g3
          exact absurd g0 tf
         ·intro g0 g1 g2 g3
          exact absurd g2 tf
      ·intro g0 g1 g2 g3
       exact absurd g2 tf
     ·cases h6 : tb (((Zi (gt x16 s0.c4).c2) : Int) != 0)
      ·cases h7 : tb (Ze2 x0 (Zj x16 s0) (Zc x0 s0.c8 (gt x16 s0.c4).c2) (Zb x0 s0.c9 (gt x16 s0.c4).c2) (gt x16 s0.c4).c2 x10)
       ·intro g0 g1 g2 g3
        exact absurd g3 ft
       ·cases h8 : tb (Ze7 x0 (Zj x16 s0) (Zc x0 s0.c8 (gt x16 s0.c4).c2) (Zb x0 s0.c9 (gt x16 s0.c4).c2) [(gt x16 s0.c4).c2] x10 (Zcl x0 x10 x16 s0))
        ·intro g0 g1 g2 g3
         exact absurd g3 ft
        ·cases h9 : tb (Zex x0 x1 (Zj x16 s0) (Zc x0 s0.c8 (gt x16 s0.c4).c2) (Zb x0 s0.c9 (gt x16 s0.c4).c2) s0.c19 [(gt x16 s0.c4).c2] s0.c12 x10 x11 x14 (Zcl x0 x10 x16 s0))
         ·intro g0 g1 g2 g3
          exact absurd g0 tf
         ·intro g0 g1 g2 g3
          exact absurd g1 tf
      ·intro g0 g1 g2 g3
       exact absurd g1 tf
theorem Zrs (x0 x1 : Int) (x2 : List Int) (x3 x4 : Int) (x5 : List Int) (x6 : Bool) (x7 x8 : Int) (x9 : Bool) (x10 x11 : Int) (x12 x13 : Bool) (x14 : Int) (x15 : Bool) (x16 : List Zh) (x17 : Bool) (x18 : Int) (s0 : Zbx) : Zd0 x0 x1 x5 x10 x11 x14 x16 s0 = true → (roundG (runC E0 (cl E0) L10_4) [0, 2, 7, 10, 11, 12, 13] [6] 4) (Zbf x0 x1 x2 x3 x4 x5 x6 x7 x8 x9 x10 x11 x12 x13 x14 x15 x16 x17 x18 (.h3 s0)) = some (.normal, Zbf x0 x1 x2 x3 x4 x5 x6 x7 x8 x9 x10 x11 x12 x13 x14 x15 x16 x17 x18 (Zds x0 x1 x5 x10 x11 x14 x16 s0)) := by
 unfold Zd0 Zds
 cases h1 : tb (Zcy x16 s0.c4)
 ·exact ZN
 ·cases h2 : tb (inb x16.length s0.c4)
  ·exact ZN
  ·cases h3 : tb (((remI .u8 (gt x16 s0.c4).c0 2) : Int) == 1)
   ·cases h4 : tb (gt x16 s0.c4).c1
    ·cases h5 : tb (Z6 x0 s0.c7 s0.c8 s0.c9 s0.c11 s0.c12 (gt x16 s0.c4).c2)
     ·exact ZN
     ·cases h6 : tb (Zbv s0.c20 s0.c22 x10 false (gt x16 s0.c4).c2)
      ·cases h7 : tb (Zec (gt x16 s0.c4).c2)
       ·exact ZN
       ·cases h8 : tb (true != ((Zg x0 x1 s0.c7 s0.c8 s0.c9 s0.c11 s0.c12 (gt x16 s0.c4).c2) == false))
        ·cases h9 : tb (((Zf (gt x16 s0.c4).c2) : Int) != 1)
         ·cases h10 : tb (Zc0 x0 s0.c7 s0.c8 s0.c9 s0.c20 x10)
          ·exact ZN
          ·cases h11 : tb (Zc1 x0 s0.c7 s0.c8 s0.c9 s0.c20 x10 (Zc9 x0 x10 s0))
           ·exact ZN
           ·cases h12 : tb (Zc4 x0 x1 s0.c7 s0.c8 s0.c9 s0.c20 s0.c22 (Z5 x0 x16 s0) x10 x11 x14 (Zc9 x0 x10 s0))
            ·exact fun _ => Zv [.s (Zdp x0 x1 s0.c7 s0.c8 s0.c9 x5 s0.c20 s0.c22 false s0.c11 s0.c12 false x10 x11 false x13 false false x14 x15 x16 s0.c3 s0.c4 (tbE h1)), .o 72 (fun _ => Zn (enc := Zd) (l := x16) (fl := true) (n := x15) (s := 3) (k := .i64) (tbE h2)), .o 77 (fun _ => Zn (enc := Zd) (l := x16) (fl := true) (n := x15) (s := 3) (k := .i64) (tbE h2)), .b (tbE h3), .b (tbE h4), .c (Zu x0 x1 s0.c7 s0.c8 s0.c9 s0.c11 s0.c12 false (gt x16 s0.c4).c2 (tbE h5)), .c (Zh5 s0.c20 s0.c22 x10 x11 false false false false s0.c3 (gt x16 s0.c4).c2 (tbE h6) (tbE h7)), .b (tbE h8), .b (tbE h9), .s (Zkq x0 x1 s0.c7 s0.c8 s0.c9 x5 s0.c20 s0.c22 (gt x16 s0.c4).c1 (gt x16 s0.c4).c2 false (Zb1 x16 s0) (Z5 x0 x16 s0) false x10 x11 false x13 false false false x14 x15 x16 s0.c3 s0.c4 (tbE h10)), .s (Zkp x0 x1 s0.c7 s0.c8 s0.c9 x5 s0.c20 s0.c22 (gt x16 s0.c4).c1 (gt x16 s0.c4).c2 false (Zb1 x16 s0) (Z5 x0 x16 s0) false x10 x11 false x13 false false false x14 x15 x16 s0.c3 s0.c4 (Zc9 x0 x10 s0) (tbE h11)), .b (tbE h12)] (by kernel_rfl)
            ·exact ZN
         ·exact ZN
        ·exact ZN
      ·cases h7 : tb (true != ((Zg x0 x1 s0.c7 s0.c8 s0.c9 s0.c11 s0.c12 (gt x16 s0.c4).c2) == (Zcb s0.c20 s0.c22 x10 x11 (gt x16 s0.c4).c2)))
       ·cases h8 : tb (((Zf (gt x16 s0.c4).c2) : Int) != 0)
        ·cases h9 : tb (Zfd x0 s0.c7 s0.c8 s0.c9 s0.c20 x10)
         ·exact ZN
         ·cases h10 : tb (Zfe x0 s0.c7 s0.c8 s0.c9 s0.c20 x10 (Zdg x0 x10 s0))
          ·exact ZN
          ·cases h11 : tb (Zfh x0 x1 s0.c7 s0.c8 s0.c9 s0.c20 (Zbn s0.c22 (gt x16 s0.c4).c2) (Z5 x0 x16 s0) x10 x11 x14 (Zdg x0 x10 s0))
           ·exact fun _ => Zv [.s (Zdp x0 x1 s0.c7 s0.c8 s0.c9 x5 s0.c20 s0.c22 false s0.c11 s0.c12 false x10 x11 false x13 false false x14 x15 x16 s0.c3 s0.c4 (tbE h1)), .o 72 (fun _ => Zn (enc := Zd) (l := x16) (fl := true) (n := x15) (s := 3) (k := .i64) (tbE h2)), .o 77 (fun _ => Zn (enc := Zd) (l := x16) (fl := true) (n := x15) (s := 3) (k := .i64) (tbE h2)), .b (tbE h3), .b (tbE h4), .c (Zu x0 x1 s0.c7 s0.c8 s0.c9 s0.c11 s0.c12 false (gt x16 s0.c4).c2 (tbE h5)), .c (Zh3 s0.c20 s0.c22 x10 x11 false false false false s0.c3 (gt x16 s0.c4).c2 (tbE h6)), .b (tbE h7), .b (tbE h8), .s (Zny x0 x1 s0.c7 s0.c8 s0.c9 x5 s0.c20 s0.c22 (gt x16 s0.c4).c1 (gt x16 s0.c4).c2 (Zbn s0.c22 (gt x16 s0.c4).c2) false (Zb1 x16 s0) (Z5 x0 x16 s0) false x10 x11 false x13 false false false false x14 x15 x16 s0.c4 (tbE h9)), .s (Znv x0 x1 s0.c7 s0.c8 s0.c9 x5 s0.c20 s0.c22 (gt x16 s0.c4).c1 (gt x16 s0.c4).c2 (Zbn s0.c22 (gt x16 s0.c4).c2) false (Zb1 x16 s0) (Z5 x0 x16 s0) false x10 x11 false x13 false false false false x14 x15 x16 s0.c4 (Zdg x0 x10 s0) (tbE h10)), .b (tbE h11)] (by kernel_rfl)
           ·exact ZN
        ·exact ZN
       ·exact ZN
    ·cases h5 : tb (Zfb x0 s0.c7 s0.c8 s0.c9 s0.c20 x10)
     ·exact ZN
     ·cases h6 : tb (Zfc x0 s0.c7 s0.c8 s0.c9 s0.c20 x10 (Zdi x0 x10 s0))
      ·exact ZN
      ·cases h7 : tb (Zfg x0 x1 s0.c7 s0.c8 s0.c9 s0.c20 x10 x11 x14 (Zdi x0 x10 s0))
       ·exact fun _ => Zv [.s (Zdp x0 x1 s0.c7 s0.c8 s0.c9 x5 s0.c20 s0.c22 false s0.c11 s0.c12 false x10 x11 false x13 false false x14 x15 x16 s0.c3 s0.c4 (tbE h1)), .o 72 (fun _ => Zn (enc := Zd) (l := x16) (fl := true) (n := x15) (s := 3) (k := .i64) (tbE h2)), .o 77 (fun _ => Zn (enc := Zd) (l := x16) (fl := true) (n := x15) (s := 3) (k := .i64) (tbE h2)), .b (tbE h3), .b (tbE h4), .c (Zgo x0 x1 s0.c7 s0.c8 s0.c9 s0.c11 s0.c12 false), .s (Znw x0 x1 s0.c7 s0.c8 s0.c9 x5 s0.c20 s0.c22 (gt x16 s0.c4).c1 (gt x16 s0.c4).c2 false s0.c11 false x10 x11 false x13 false false false false x14 x15 x16 s0.c4 (tbE h5)), .s (Zn0 x0 x1 s0.c7 s0.c8 s0.c9 x5 s0.c20 s0.c22 (gt x16 s0.c4).c1 (gt x16 s0.c4).c2 false s0.c11 false x10 x11 false x13 false false false false x14 x15 x16 s0.c4 (Zdi x0 x10 s0) (tbE h6)), .b (tbE h7)] (by kernel_rfl)
       ·exact ZN
   ·cases h4 : tb (Zbb x0 s0.c8 (gt x16 s0.c4).c2)
    ·exact ZN
    ·cases h5 : tb (Zbi s0.c20 (gt x16 s0.c4).c2)
     ·cases h6 : tb (Zdq (gt x16 s0.c4).c2)
      ·exact ZN
      ·cases h7 : tb (((Zi (gt x16 s0.c4).c2) : Int) != 1)
       ·cases h8 : tb (Zc0 x0 (Zl x16 s0) (Zc x0 s0.c8 (gt x16 s0.c4).c2) (Zb x0 s0.c9 (gt x16 s0.c4).c2) s0.c20 x10)
        ·exact ZN
        ·cases h9 : tb (Zc1 x0 (Zl x16 s0) (Zc x0 s0.c8 (gt x16 s0.c4).c2) (Zb x0 s0.c9 (gt x16 s0.c4).c2) s0.c20 x10 (Zdd x0 x10 x16 s0))
         ·exact ZN
         ·cases h10 : tb (Zc4 x0 x1 (Zl x16 s0) (Zc x0 s0.c8 (gt x16 s0.c4).c2) (Zb x0 s0.c9 (gt x16 s0.c4).c2) s0.c20 s0.c22 s0.c12 x10 x11 x14 (Zdd x0 x10 x16 s0))
          ·exact fun _ => Zv [.s (Zdp x0 x1 s0.c7 s0.c8 s0.c9 x5 s0.c20 s0.c22 false s0.c11 s0.c12 false x10 x11 false x13 false false x14 x15 x16 s0.c3 s0.c4 (tbE h1)), .o 72 (fun _ => Zn (enc := Zd) (l := x16) (fl := true) (n := x15) (s := 3) (k := .i64) (tbE h2)), .o 77 (fun _ => Zn (enc := Zd) (l := x16) (fl := true) (n := x15) (s := 3) (k := .i64) (tbE h2)), .b (tbE h3), .c (Zbm x0 x1 s0.c7 s0.c8 s0.c9 (gt x16 s0.c4).c2 (tbE h4)), .c (Zir s0.c20 x10 x11 false false (gt x16 s0.c4).c2 (tbE h5) (tbE h6)), .b (tbE h7), .s (Zkq x0 x1 (Zl x16 s0) (Zc x0 s0.c8 (gt x16 s0.c4).c2) (Zb x0 s0.c9 (gt x16 s0.c4).c2) x5 s0.c20 s0.c22 (gt x16 s0.c4).c1 (gt x16 s0.c4).c2 false s0.c11 s0.c12 false x10 x11 false x13 false false false x14 x15 x16 s0.c3 s0.c4 (tbE h8)), .s (Zkp x0 x1 (Zl x16 s0) (Zc x0 s0.c8 (gt x16 s0.c4).c2) (Zb x0 s0.c9 (gt x16 s0.c4).c2) x5 s0.c20 s0.c22 (gt x16 s0.c4).c1 (gt x16 s0.c4).c2 false s0.c11 s0.c12 false x10 x11 false x13 false false false x14 x15 x16 s0.c3 s0.c4 (Zdd x0 x10 x16 s0) (tbE h9)), .b (tbE h10)] (by kernel_rfl)
          ·exact ZN
       ·exact ZN
     ·cases h6 : tb (((Zi (gt x16 s0.c4).c2) : Int) != 0)
      ·cases h7 : tb (Zfa x0 (Zl x16 s0) (Zc x0 s0.c8 (gt x16 s0.c4).c2) (Zb x0 s0.c9 (gt x16 s0.c4).c2) (s0.c20 ++ [(gt x16 s0.c4).c2]) x10)
       ·exact ZN
       ·cases h8 : tb (Zff x0 (Zl x16 s0) (Zc x0 s0.c8 (gt x16 s0.c4).c2) (Zb x0 s0.c9 (gt x16 s0.c4).c2) (s0.c20 ++ [(gt x16 s0.c4).c2]) x10 (Zdh x0 x10 x16 s0))
        ·exact ZN
        ·cases h9 : tb (Zfi x0 x1 (Zl x16 s0) (Zc x0 s0.c8 (gt x16 s0.c4).c2) (Zb x0 s0.c9 (gt x16 s0.c4).c2) s0.c22 (s0.c20 ++ [(gt x16 s0.c4).c2]) s0.c12 x10 x11 x14 (Zdh x0 x10 x16 s0))
         ·exact fun _ => Zv [.s (Zdp x0 x1 s0.c7 s0.c8 s0.c9 x5 s0.c20 s0.c22 false s0.c11 s0.c12 false x10 x11 false x13 false false x14 x15 x16 s0.c3 s0.c4 (tbE h1)), .o 72 (fun _ => Zn (enc := Zd) (l := x16) (fl := true) (n := x15) (s := 3) (k := .i64) (tbE h2)), .o 77 (fun _ => Zn (enc := Zd) (l := x16) (fl := true) (n := x15) (s := 3) (k := .i64) (tbE h2)), .b (tbE h3), .c (Zbm x0 x1 s0.c7 s0.c8 s0.c9 (gt x16 s0.c4).c2 (tbE h4)), .c (Zio s0.c20 x10 x11 false false (gt x16 s0.c4).c2 (tbE h5)), .b (tbE h6), .s (Zn2 x0 x1 (Zl x16 s0) (Zc x0 s0.c8 (gt x16 s0.c4).c2) (Zb x0 s0.c9 (gt x16 s0.c4).c2) x5 s0.c20 s0.c22 (gt x16 s0.c4).c1 (gt x16 s0.c4).c2 (s0.c20 ++ [(gt x16 s0.c4).c2]) false s0.c11 s0.c12 false x10 x11 false x13 false false false false x14 x15 x16 s0.c3 s0.c4 (tbE h7)), .s (Zn1 x0 x1 (Zl x16 s0) (Zc x0 s0.c8 (gt x16 s0.c4).c2) (Zb x0 s0.c9 (gt x16 s0.c4).c2) x5 s0.c20 s0.c22 (gt x16 s0.c4).c1 (gt x16 s0.c4).c2 (s0.c20 ++ [(gt x16 s0.c4).c2]) false s0.c11 s0.c12 false x10 x11 false x13 false false false false x14 x15 x16 s0.c3 s0.c4 (Zdh x0 x10 x16 s0) (tbE h8)), .b (tbE h9)] (by kernel_rfl)
         ·exact ZN
      ·exact ZN
def Zf7 (x0 x1 x10 x11 : Int) (x16 : List Zh) (s0 : Zbx) : Bool := (bif tb (Zcy x16 s0.c4) then (bif tb (inb x16.length s0.c4) then (bif tb (((remI .u8 (gt x16 s0.c4).c0 2) : Int) == 1) then (bif tb (Zbb x0 s0.c8 (gt x16 s0.c4).c2) then (bif tb (Zbi s0.c20 (gt x16 s0.c4).c2) then (bif tb (((Zi (gt x16 s0.c4).c2) : Int) != 0) then true else (bif tb (Zfa x0 (Zl x16 s0) (Zc x0 s0.c8 (gt x16 s0.c4).c2) (Zb x0 s0.c9 (gt x16 s0.c4).c2) (s0.c20 ++ [(gt x16 s0.c4).c2]) x10) then (bif tb (Zff x0 (Zl x16 s0) (Zc x0 s0.c8 (gt x16 s0.c4).c2) (Zb x0 s0.c9 (gt x16 s0.c4).c2) (s0.c20 ++ [(gt x16 s0.c4).c2]) x10 (Zdh x0 x10 x16 s0)) then true else false) else false)) else (bif tb (Zdq (gt x16 s0.c4).c2) then (bif tb (((Zi (gt x16 s0.c4).c2) : Int) != 1) then true else (bif tb (Zc0 x0 (Zl x16 s0) (Zc x0 s0.c8 (gt x16 s0.c4).c2) (Zb x0 s0.c9 (gt x16 s0.c4).c2) s0.c20 x10) then (bif tb (Zc1 x0 (Zl x16 s0) (Zc x0 s0.c8 (gt x16 s0.c4).c2) (Zb x0 s0.c9 (gt x16 s0.c4).c2) s0.c20 x10 (Zdd x0 x10 x16 s0)) then true else false) else false)) else false)) else false) else (bif tb (gt x16 s0.c4).c1 then (bif tb (Zfb x0 s0.c7 s0.c8 s0.c9 s0.c20 x10) then (bif tb (Zfc x0 s0.c7 s0.c8 s0.c9 s0.c20 x10 (Zdi x0 x10 s0)) then true else false) else false) else (bif tb (Z6 x0 s0.c7 s0.c8 s0.c9 s0.c11 s0.c12 (gt x16 s0.c4).c2) then (bif tb (Zbv s0.c20 s0.c22 x10 false (gt x16 s0.c4).c2) then (bif tb (true != ((Zg x0 x1 s0.c7 s0.c8 s0.c9 s0.c11 s0.c12 (gt x16 s0.c4).c2) == (Zcb s0.c20 s0.c22 x10 x11 (gt x16 s0.c4).c2))) then true else (bif tb (((Zf (gt x16 s0.c4).c2) : Int) != 0) then true else (bif tb (Zfd x0 s0.c7 s0.c8 s0.c9 s0.c20 x10) then (bif tb (Zfe x0 s0.c7 s0.c8 s0.c9 s0.c20 x10 (Zdg x0 x10 s0)) then true else false) else false))) else (bif tb (Zec (gt x16 s0.c4).c2) then (bif tb (true != ((Zg x0 x1 s0.c7 s0.c8 s0.c9 s0.c11 s0.c12 (gt x16 s0.c4).c2) == false)) then true else (bif tb (((Zf (gt x16 s0.c4).c2) : Int) != 1) then true else (bif tb (Zc0 x0 s0.c7 s0.c8 s0.c9 s0.c20 x10) then (bif tb (Zc1 x0 s0.c7 s0.c8 s0.c9 s0.c20 x10 (Zc9 x0 x10 s0)) then true else false) else false))) else false)) else false))) else false) else false)
def Zl2 (x16 : List Zh) (s0 : Zbx) : List Int := (bif tb (((remI .u8 (gt x16 s0.c4).c0 2) : Int) == 1) then (bif tb (Zbi s0.c20 (gt x16 s0.c4).c2) then (bif tb (((Zi (gt x16 s0.c4).c2) : Int) != 0) then (Zbs s0.c7 s0.c8 (gt x16 s0.c4).c2) else (Zl x16 s0)) else (bif tb (((Zi (gt x16 s0.c4).c2) : Int) != 1) then (Zbs s0.c7 s0.c8 (gt x16 s0.c4).c2) else (Zl x16 s0))) else s0.c7)
def Zlu (x0 : Int) (x16 : List Zh) (s0 : Zbx) : Int := (bif tb (((remI .u8 (gt x16 s0.c4).c0 2) : Int) == 1) then (Zc x0 s0.c8 (gt x16 s0.c4).c2) else s0.c8)
def Zli (x0 : Int) (x16 : List Zh) (s0 : Zbx) : Int := (bif tb (((remI .u8 (gt x16 s0.c4).c0 2) : Int) == 1) then (Zb x0 s0.c9 (gt x16 s0.c4).c2) else s0.c9)
def Zlr (x0 x1 x10 x11 : Int) (x16 : List Zh) (s0 : Zbx) : Int := (bif tb (((remI .u8 (gt x16 s0.c4).c0 2) : Int) == 1) then s0.c11 else (bif tb (gt x16 s0.c4).c1 then s0.c11 else (bif tb (Zbv s0.c20 s0.c22 x10 false (gt x16 s0.c4).c2) then (bif tb (true != ((Zg x0 x1 s0.c7 s0.c8 s0.c9 s0.c11 s0.c12 (gt x16 s0.c4).c2) == (Zcb s0.c20 s0.c22 x10 x11 (gt x16 s0.c4).c2))) then (Z7 s0.c11 (gt x16 s0.c4).c2) else (bif tb (((Zf (gt x16 s0.c4).c2) : Int) != 0) then (Z7 s0.c11 (gt x16 s0.c4).c2) else (Zb1 x16 s0))) else (bif tb (true != ((Zg x0 x1 s0.c7 s0.c8 s0.c9 s0.c11 s0.c12 (gt x16 s0.c4).c2) == false)) then (Z7 s0.c11 (gt x16 s0.c4).c2) else (bif tb (((Zf (gt x16 s0.c4).c2) : Int) != 1) then (Z7 s0.c11 (gt x16 s0.c4).c2) else (Zb1 x16 s0))))))
def Zl3 (x0 x1 x10 x11 : Int) (x16 : List Zh) (s0 : Zbx) : Int := (bif tb (((remI .u8 (gt x16 s0.c4).c0 2) : Int) == 1) then s0.c12 else (bif tb (gt x16 s0.c4).c1 then 0 else (bif tb (Zbv s0.c20 s0.c22 x10 false (gt x16 s0.c4).c2) then (bif tb (true != ((Zg x0 x1 s0.c7 s0.c8 s0.c9 s0.c11 s0.c12 (gt x16 s0.c4).c2) == (Zcb s0.c20 s0.c22 x10 x11 (gt x16 s0.c4).c2))) then (Z8 x0 s0.c11 s0.c12 (gt x16 s0.c4).c2) else (bif tb (((Zf (gt x16 s0.c4).c2) : Int) != 0) then (Z8 x0 s0.c11 s0.c12 (gt x16 s0.c4).c2) else (Z5 x0 x16 s0))) else (bif tb (true != ((Zg x0 x1 s0.c7 s0.c8 s0.c9 s0.c11 s0.c12 (gt x16 s0.c4).c2) == false)) then (Z8 x0 s0.c11 s0.c12 (gt x16 s0.c4).c2) else (bif tb (((Zf (gt x16 s0.c4).c2) : Int) != 1) then (Z8 x0 s0.c11 s0.c12 (gt x16 s0.c4).c2) else (Z5 x0 x16 s0))))))
def Zjf (x16 : List Zh) (s0 : Zbx) : List Int := (bif tb (((remI .u8 (gt x16 s0.c4).c0 2) : Int) == 1) then (bif tb (Zbi s0.c20 (gt x16 s0.c4).c2) then (s0.c20 ++ [(gt x16 s0.c4).c2]) else s0.c20) else s0.c20)
def Zih (x16 : List Zh) (s0 : Zbx) : Bool := (bif tb (Zcy x16 s0.c4) then false else true)
theorem Zrh (x0 x1 : Int) (x2 : List Int) (x3 x4 : Int) (x5 : List Int) (x6 : Bool) (x7 x8 : Int) (x9 : Bool) (x10 x11 : Int) (x12 x13 : Bool) (x14 : Int) (x15 : Bool) (x16 : List Zh) (x17 : Bool) (x18 : Int) (s0 : Zbx) : Zd0 x0 x1 x5 x10 x11 x14 x16 s0 = false → Zf7 x0 x1 x10 x11 x16 s0 = true → (roundG (runC E0 (cl E0) L10_4) [0, 2, 7, 10, 11, 12, 13] [6] 4) (Zbf x0 x1 x2 x3 x4 x5 x6 x7 x8 x9 x10 x11 x12 x13 x14 x15 x16 x17 x18 (.h3 s0)) = some (.ret, ([(V.d (.bool false))], [(Blk.flat 82 20 [([(.int .i64 x0), (.int .i64 x1)] ++ arrD .i64 (Zl2 x16 s0) 16 ++ [(.int .i64 (Zlu x0 x16 s0)), (.int .i64 (Zli x0 x16 s0))])] false), (Blk.gen 84 3 [[(V.ptr 0 1 0 0), (V.d (.int .i64 (Zlr x0 x1 x10 x11 x16 s0))), (V.d (.int .i64 (Zl3 x0 x1 x10 x11 x16 s0)))]] false), (Blk.gen 86 3 [[(V.d (.int .i64 x10)), (V.d (.int .i64 x11)), (V.so false 4 ((Zjf x16 s0).length))]] false), (Blk.flat 3 1 (List.map (encI .i64) x5) x13), (Blk.flat 3 1 (List.map (encI .i64) (Zjf x16 s0)) false)])) := by
 unfold Zd0 Zf7 Zl2 Zlu Zli Zlr Zl3 Zjf
 cases h1 : tb (Zcy x16 s0.c4)
 ·intro g0 g1
  exact absurd g1 ft
 ·cases h2 : tb (inb x16.length s0.c4)
  ·intro g0 g1
   exact absurd g1 ft
  ·cases h3 : tb (((remI .u8 (gt x16 s0.c4).c0 2) : Int) == 1)
   ·cases h4 : tb (gt x16 s0.c4).c1
    ·cases h5 : tb (Z6 x0 s0.c7 s0.c8 s0.c9 s0.c11 s0.c12 (gt x16 s0.c4).c2)
     ·intro g0 g1
      exact absurd g1 ft
     ·cases h6 : tb (Zbv s0.c20 s0.c22 x10 false (gt x16 s0.c4).c2)
      ·cases h7 : tb (Zec (gt x16 s0.c4).c2)
       ·intro g0 g1
        exact absurd g1 ft
       ·cases h8 : tb (true != ((Zg x0 x1 s0.c7 s0.c8 s0.c9 s0.c11 s0.c12 (gt x16 s0.c4).c2) == false))
        ·cases h9 : tb (((Zf (gt x16 s0.c4).c2) : Int) != 1)
         ·cases h10 : tb (Zc0 x0 s0.c7 s0.c8 s0.c9 s0.c20 x10)
          ·intro g0 g1
           exact absurd g1 ft
          ·cases h11 : tb (Zc1 x0 s0.c7 s0.c8 s0.c9 s0.c20 x10 (Zc9 x0 x10 s0))
           ·intro g0 g1
            exact absurd g1 ft
           ·cases h12 : tb (Zc4 x0 x1 s0.c7 s0.c8 s0.c9 s0.c20 s0.c22 (Z5 x0 x16 s0) x10 x11 x14 (Zc9 x0 x10 s0))
            ·intro g0 g1
             exact absurd g0 tf
            ·intro g0 g1
             exact Zv [.s (Zdp x0 x1 s0.c7 s0.c8 s0.c9 x5 s0.c20 s0.c22 false s0.c11 s0.c12 false x10 x11 false x13 false false x14 x15 x16 s0.c3 s0.c4 (tbE h1)), .o 72 (fun _ => Zn (enc := Zd) (l := x16) (fl := true) (n := x15) (s := 3) (k := .i64) (tbE h2)), .o 77 (fun _ => Zn (enc := Zd) (l := x16) (fl := true) (n := x15) (s := 3) (k := .i64) (tbE h2)), .b (tbE h3), .b (tbE h4), .c (Zu x0 x1 s0.c7 s0.c8 s0.c9 s0.c11 s0.c12 false (gt x16 s0.c4).c2 (tbE h5)), .c (Zh5 s0.c20 s0.c22 x10 x11 false false false false s0.c3 (gt x16 s0.c4).c2 (tbE h6) (tbE h7)), .b (tbE h8), .b (tbE h9), .s (Zkq x0 x1 s0.c7 s0.c8 s0.c9 x5 s0.c20 s0.c22 (gt x16 s0.c4).c1 (gt x16 s0.c4).c2 false (Zb1 x16 s0) (Z5 x0 x16 s0) false x10 x11 false x13 false false false x14 x15 x16 s0.c3 s0.c4 (tbE h10)), .s (Zkp x0 x1 s0.c7 s0.c8 s0.c9 x5 s0.c20 s0.c22 (gt x16 s0.c4).c1 (gt x16 s0.c4).c2 false (Zb1 x16 s0) (Z5 x0 x16 s0) false x10 x11 false x13 false false false x14 x15 x16 s0.c3 s0.c4 (Zc9 x0 x10 s0) (tbE h11)), .b (tbE h12)] (by kernel_rfl)
         ·intro g0 g1
          exact Zv [.s (Zdp x0 x1 s0.c7 s0.c8 s0.c9 x5 s0.c20 s0.c22 false s0.c11 s0.c12 false x10 x11 false x13 false false x14 x15 x16 s0.c3 s0.c4 (tbE h1)), .o 72 (fun _ => Zn (enc := Zd) (l := x16) (fl := true) (n := x15) (s := 3) (k := .i64) (tbE h2)), .o 77 (fun _ => Zn (enc := Zd) (l := x16) (fl := true) (n := x15) (s := 3) (k := .i64) (tbE h2)), .b (tbE h3), .b (tbE h4), .c (Zu x0 x1 s0.c7 s0.c8 s0.c9 s0.c11 s0.c12 false (gt x16 s0.c4).c2 (tbE h5)), .c (Zh5 s0.c20 s0.c22 x10 x11 false false false false s0.c3 (gt x16 s0.c4).c2 (tbE h6) (tbE h7)), .b (tbE h8), .b (tbE h9)] (by kernel_rfl)
        ·intro g0 g1
         exact Zv [.s (Zdp x0 x1 s0.c7 s0.c8 s0.c9 x5 s0.c20 s0.c22 false s0.c11 s0.c12 false x10 x11 false x13 false false x14 x15 x16 s0.c3 s0.c4 (tbE h1)), .o 72 (fun _ => Zn (enc := Zd) (l := x16) (fl := true) (n := x15) (s := 3) (k := .i64) (tbE h2)), .o 77 (fun _ => Zn (enc := Zd) (l := x16) (fl := true) (n := x15) (s := 3) (k := .i64) (tbE h2)), .b (tbE h3), .b (tbE h4), .c (Zu x0 x1 s0.c7 s0.c8 s0.c9 s0.c11 s0.c12 false (gt x16 s0.c4).c2 (tbE h5)), .c (Zh5 s0.c20 s0.c22 x10 x11 false false false false s0.c3 (gt x16 s0.c4).c2 (tbE h6) (tbE h7)), .b (tbE h8)] (by kernel_rfl)
      ·cases h7 : tb (true != ((Zg x0 x1 s0.c7 s0.c8 s0.c9 s0.c11 s0.c12 (gt x16 s0.c4).c2) == (Zcb s0.c20 s0.c22 x10 x11 (gt x16 s0.c4).c2)))
       ·cases h8 : tb (((Zf (gt x16 s0.c4).c2) : Int) != 0)
        ·cases h9 : tb (Zfd x0 s0.c7 s0.c8 s0.c9 s0.c20 x10)
         ·intro g0 g1
          exact absurd g1 ft
         ·cases h10 : tb (Zfe x0 s0.c7 s0.c8 s0.c9 s0.c20 x10 (Zdg x0 x10 s0))
          ·intro g0 g1
           exact absurd g1 ft
          ·cases h11 : tb (Zfh x0 x1 s0.c7 s0.c8 s0.c9 s0.c20 (Zbn s0.c22 (gt x16 s0.c4).c2) (Z5 x0 x16 s0) x10 x11 x14 (Zdg x0 x10 s0))
           ·intro g0 g1
            exact absurd g0 tf
           ·intro g0 g1
            exact Zv [.s (Zdp x0 x1 s0.c7 s0.c8 s0.c9 x5 s0.c20 s0.c22 false s0.c11 s0.c12 false x10 x11 false x13 false false x14 x15 x16 s0.c3 s0.c4 (tbE h1)), .o 72 (fun _ => Zn (enc := Zd) (l := x16) (fl := true) (n := x15) (s := 3) (k := .i64) (tbE h2)), .o 77 (fun _ => Zn (enc := Zd) (l := x16) (fl := true) (n := x15) (s := 3) (k := .i64) (tbE h2)), .b (tbE h3), .b (tbE h4), .c (Zu x0 x1 s0.c7 s0.c8 s0.c9 s0.c11 s0.c12 false (gt x16 s0.c4).c2 (tbE h5)), .c (Zh3 s0.c20 s0.c22 x10 x11 false false false false s0.c3 (gt x16 s0.c4).c2 (tbE h6)), .b (tbE h7), .b (tbE h8), .s (Zny x0 x1 s0.c7 s0.c8 s0.c9 x5 s0.c20 s0.c22 (gt x16 s0.c4).c1 (gt x16 s0.c4).c2 (Zbn s0.c22 (gt x16 s0.c4).c2) false (Zb1 x16 s0) (Z5 x0 x16 s0) false x10 x11 false x13 false false false false x14 x15 x16 s0.c4 (tbE h9)), .s (Znv x0 x1 s0.c7 s0.c8 s0.c9 x5 s0.c20 s0.c22 (gt x16 s0.c4).c1 (gt x16 s0.c4).c2 (Zbn s0.c22 (gt x16 s0.c4).c2) false (Zb1 x16 s0) (Z5 x0 x16 s0) false x10 x11 false x13 false false false false x14 x15 x16 s0.c4 (Zdg x0 x10 s0) (tbE h10)), .b (tbE h11)] (by kernel_rfl)
        ·intro g0 g1
         exact Zv [.s (Zdp x0 x1 s0.c7 s0.c8 s0.c9 x5 s0.c20 s0.c22 false s0.c11 s0.c12 false x10 x11 false x13 false false x14 x15 x16 s0.c3 s0.c4 (tbE h1)), .o 72 (fun _ => Zn (enc := Zd) (l := x16) (fl := true) (n := x15) (s := 3) (k := .i64) (tbE h2)), .o 77 (fun _ => Zn (enc := Zd) (l := x16) (fl := true) (n := x15) (s := 3) (k := .i64) (tbE h2)), .b (tbE h3), .b (tbE h4), .c (Zu x0 x1 s0.c7 s0.c8 s0.c9 s0.c11 s0.c12 false (gt x16 s0.c4).c2 (tbE h5)), .c (Zh3 s0.c20 s0.c22 x10 x11 false false false false s0.c3 (gt x16 s0.c4).c2 (tbE h6)), .b (tbE h7), .b (tbE h8)] (by kernel_rfl)
       ·intro g0 g1
        exact Zv [.s (Zdp x0 x1 s0.c7 s0.c8 s0.c9 x5 s0.c20 s0.c22 false s0.c11 s0.c12 false x10 x11 false x13 false false x14 x15 x16 s0.c3 s0.c4 (tbE h1)), .o 72 (fun _ => Zn (enc := Zd) (l := x16) (fl := true) (n := x15) (s := 3) (k := .i64) (tbE h2)), .o 77 (fun _ => Zn (enc := Zd) (l := x16) (fl := true) (n := x15) (s := 3) (k := .i64) (tbE h2)), .b (tbE h3), .b (tbE h4), .c (Zu x0 x1 s0.c7 s0.c8 s0.c9 s0.c11 s0.c12 false (gt x16 s0.c4).c2 (tbE h5)), .c (Zh3 s0.c20 s0.c22 x10 x11 false false false false s0.c3 (gt x16 s0.c4).c2 (tbE h6)), .b (tbE h7)] (by kernel_rfl)
    ·cases h5 : tb (Zfb x0 s0.c7 s0.c8 s0.c9 s0.c20 x10)
     ·intro g0 g1
      exact absurd g1 ft
     ·cases h6 : tb (Zfc x0 s0.c7 s0.c8 s0.c9 s0.c20 x10 (Zdi x0 x10 s0))
      ·intro g0 g1
       exact absurd g1 ft
      ·cases h7 : tb (Zfg x0 x1 s0.c7 s0.c8 s0.c9 s0.c20 x10 x11 x14 (Zdi x0 x10 s0))
       ·intro g0 g1
        exact absurd g0 tf
       ·intro g0 g1
        exact Zv [.s (Zdp x0 x1 s0.c7 s0.c8 s0.c9 x5 s0.c20 s0.c22 false s0.c11 s0.c12 false x10 x11 false x13 false false x14 x15 x16 s0.c3 s0.c4 (tbE h1)), .o 72 (fun _ => Zn (enc := Zd) (l := x16) (fl := true) (n := x15) (s := 3) (k := .i64) (tbE h2)), .o 77 (fun _ => Zn (enc := Zd) (l := x16) (fl := true) (n := x15) (s := 3) (k := .i64) (tbE h2)), .b (tbE h3), .b (tbE h4), .c (Zgo x0 x1 s0.c7 s0.c8 s0.c9 s0.c11 s0.c12 false), .s (Znw x0 x1 s0.c7 s0.c8 s0.c9 x5 s0.c20 s0.c22 (gt x16 s0.c4).c1 (gt x16 s0.c4).c2 false s0.c11 false x10 x11 false x13 false false false false x14 x15 x16 s0.c4 (tbE h5)), .s (Zn0 x0 x1 s0.c7 s0.c8 s0.c9 x5 s0.c20 s0.c22 (gt x16 s0.c4).c1 (gt x16 s0.c4).c2 false s0.c11 false x10 x11 false x13 false false false false x14 x15 x16 s0.c4 (Zdi x0 x10 s0) (tbE h6)), .b (tbE h7)] (by kernel_rfl)
   ·cases h4 : tb (Zbb x0 s0.c8 (gt x16 s0.c4).c2)
    ·intro g0 g1
     exact absurd g1 ft
    ·cases h5 : tb (Zbi s0.c20 (gt x16 s0.c4).c2)
     ·cases h6 : tb (Zdq (gt x16 s0.c4).c2)
      ·intro g0 g1
       exact absurd g1 ft
      ·cases h7 : tb (((Zi (gt x16 s0.c4).c2) : Int) != 1)
       ·cases h8 : tb (Zc0 x0 (Zl x16 s0) (Zc x0 s0.c8 (gt x16 s0.c4).c2) (Zb x0 s0.c9 (gt x16 s0.c4).c2) s0.c20 x10)
        ·intro g0 g1
         exact absurd g1 ft
        ·cases h9 : tb (Zc1 x0 (Zl x16 s0) (Zc x0 s0.c8 (gt x16 s0.c4).c2) (Zb x0 s0.c9 (gt x16 s0.c4).c2) s0.c20 x10 (Zdd x0 x10 x16 s0))
         ·intro g0 g1
          exact absurd g1 ft
         ·cases h10 : tb (Zc4 x0 x1 (Zl x16 s0) (Zc x0 s0.c8 (gt x16 s0.c4).c2) (Zb x0 s0.c9 (gt x16 s0.c4).c2) s0.c20 s0.c22 s0.c12 x10 x11 x14 (Zdd x0 x10 x16 s0))
          ·intro g0 g1
           exact absurd g0 tf
          ·intro g0 g1
           exact Zv [.s (Zdp x0 x1 s0.c7 s0.c8 s0.c9 x5 s0.c20 s0.c22 false s0.c11 s0.c12 false x10 x11 false x13 false false x14 x15 x16 s0.c3 s0.c4 (tbE h1)), .o 72 (fun _ => Zn (enc := Zd) (l := x16) (fl := true) (n := x15) (s := 3) (k := .i64) (tbE h2)), .o 77 (fun _ => Zn (enc := Zd) (l := x16) (fl := true) (n := x15) (s := 3) (k := .i64) (tbE h2)), .b (tbE h3), .c (Zbm x0 x1 s0.c7 s0.c8 s0.c9 (gt x16 s0.c4).c2 (tbE h4)), .c (Zir s0.c20 x10 x11 false false (gt x16 s0.c4).c2 (tbE h5) (tbE h6)), .b (tbE h7), .s (Zkq x0 x1 (Zl x16 s0) (Zc x0 s0.c8 (gt x16 s0.c4).c2) (Zb x0 s0.c9 (gt x16 s0.c4).c2) x5 s0.c20 s0.c22 (gt x16 s0.c4).c1 (gt x16 s0.c4).c2 false s0.c11 s0.c12 false x10 x11 false x13 false false false x14 x15 x16 s0.c3 s0.c4 (tbE h8)), .s (Zkp x0 x1 (Zl x16 s0) (Zc x0 s0.c8 (gt x16 s0.c4).c2) (Zb x0 s0.c9 (gt x16 s0.c4).c2) x5 s0.c20 s0.c22 (gt x16 s0.c4).c1 (gt x16 s0.c4).c2 false s0.c11 s0.c12 false x10 x11 false x13 false false false x14 x15 x16 s0.c3 s0.c4 (Zdd x0 x10 x16 s0) (tbE h9)), .b (tbE h10)] (by kernel_rfl)
       ·intro g0 g1
        exact Zv [.s (Zdp x0 x1 s0.c7 s0.c8 s0.c9 x5 s0.c20 s0.c22 false s0.c11 s0.c12 false x10 x11 false x13 false false x14 x15 x16 s0.c3 s0.c4 (tbE h1)), .o 72 (fun _ => Zn (enc := Zd) (l := x16) (fl := true) (n := x15) (s := 3) (k := .i64) (tbE h2)), .o 77 (fun _ => Zn (enc := Zd) (l := x16) (fl := true) (n := x15) (s := 3) (k := .i64) (tbE h2)), .b (tbE h3), .c (Zbm x0 x1 s0.c7 s0.c8 s0.c9 (gt x16 s0.c4).c2 (tbE h4)), .c (Zir s0.c20 x10 x11 false false (gt x16 s0.c4).c2 (tbE h5) (tbE h6)), .b (tbE h7)] (by kernel_rfl)
     ·cases h6 : tb (((Zi (gt x16 s0.c4).c2) : Int) != 0)
      ·cases h7 : tb (Zfa x0 (Zl x16 s0) (Zc x0 s0.c8 (gt x16 s0.c4).c2) (Zb x0 s0.c9 (gt x16 s0.c4).c2) (s0.c20 ++ [(gt x16 s0.c4).c2]) x10)
       ·intro g0 g1
        exact absurd g1 ft
       ·cases h8 : tb (Zff x0 (Zl x16 s0) (Zc x0 s0.c8 (gt x16 s0.c4).c2) (Zb x0 s0.c9 (gt x16 s0.c4).c2) (s0.c20 ++ [(gt x16 s0.c4).c2]) x10 (Zdh x0 x10 x16 s0))
        ·intro g0 g1
         exact absurd g1 ft
        ·cases h9 : tb (Zfi x0 x1 (Zl x16 s0) (Zc x0 s0.c8 (gt x16 s0.c4).c2) (Zb x0 s0.c9 (gt x16 s0.c4).c2) s0.c22 (s0.c20 ++ [(gt x16 s0.c4).c2]) s0.c12 x10 x11 x14 (Zdh x0 x10 x16 s0))
         ·intro g0 g1
          exact absurd g0 tf
         ·intro g0 g1
          exact Zv [.s (Zdp x0 x1 s0.c7 s0.c8 s0.c9 x5 s0.c20 s0.c22 false s0.c11 s0.c12 false x10 x11 false x13 false false x14 x15 x16 s0.c3 s0.c4 (tbE h1)), .o 72 (fun _ => Zn (enc := Zd) (l := x16) (fl := true) (n := x15) (s := 3) (k := .i64) (tbE h2)), .o 77 (fun _ => Zn (enc := Zd) (l := x16) (fl := true) (n := x15) (s := 3) (k := .i64) (tbE h2)), .b (tbE h3), .c (Zbm x0 x1 s0.c7 s0.c8 s0.c9 (gt x16 s0.c4).c2 (tbE h4)), .c (Zio s0.c20 x10 x11 false false (gt x16 s0.c4).c2 (tbE h5)), .b (tbE h6), .s (Zn2 x0 x1 (Zl x16 s0) (Zc x0 s0.c8 (gt x16 s0.c4).c2) (Zb x0 s0.c9 (gt x16 s0.c4).c2) x5 s0.c20 s0.c22 (gt x16 s0.c4).c1 (gt x16 s0.c4).c2 (s0.c20 ++ [(gt x16 s0.c4).c2]) false s0.c11 s0.c12 false x10 x11 false x13 false false false false x14 x15 x16 s0.c3 s0.c4 (tbE h7)), .s (Zn1 x0 x1 (Zl x16 s0) (Zc x0 s0.c8 (gt x16 s0.c4).c2) (Zb x0 s0.c9 (gt x16 s0.c4).c2) x5 s0.c20 s0.c22 (gt x16 s0.c4).c1 (gt x16 s0.c4).c2 (s0.c20 ++ [(gt x16 s0.c4).c2]) false s0.c11 s0.c12 false x10 x11 false x13 false false false false x14 x15 x16 s0.c3 s0.c4 (Zdh x0 x10 x16 s0) (tbE h8)), .b (tbE h9)] (by kernel_rfl)
      ·intro g0 g1
       exact Zv [.s (Zdp x0 x1 s0.c7 s0.c8 s0.c9 x5 s0.c20 s0.c22 false s0.c11 s0.c12 false x10 x11 false x13 false false x14 x15 x16 s0.c3 s0.c4 (tbE h1)), .o 72 (fun _ => Zn (enc := Zd) (l := x16) (fl := true) (n := x15) (s := 3) (k := .i64) (tbE h2)), .o 77 (fun _ => Zn (enc := Zd) (l := x16) (fl := true) (n := x15) (s := 3) (k := .i64) (tbE h2)), .b (tbE h3), .c (Zbm x0 x1 s0.c7 s0.c8 s0.c9 (gt x16 s0.c4).c2 (tbE h4)), .c (Zio s0.c20 x10 x11 false false (gt x16 s0.c4).c2 (tbE h5)), .b (tbE h6)] (by kernel_rfl)
theorem Zrw (x0 x1 : Int) (x2 : List Int) (x3 x4 : Int) (x5 : List Int) (x6 : Bool) (x7 x8 : Int) (x9 : Bool) (x10 x11 : Int) (x12 x13 : Bool) (x14 : Int) (x15 : Bool) (x16 : List Zh) (x17 : Bool) (x18 : Int) (s0 : Zbx) : Zd0 x0 x1 x5 x10 x11 x14 x16 s0 = false → Zf7 x0 x1 x10 x11 x16 s0 = false → Zih x16 s0 = true → (roundG (runC E0 (cl E0) L10_4) [0, 2, 7, 10, 11, 12, 13] [6] 4) (Zbf x0 x1 x2 x3 x4 x5 x6 x7 x8 x9 x10 x11 x12 x13 x14 x15 x16 x17 x18 (.h3 s0)) = some ((.exit 0), ([V.un], [(Blk.flat 82 20 [([(.int .i64 x0), (.int .i64 x1)] ++ arrD .i64 s0.c7 16 ++ [(.int .i64 s0.c8), (.int .i64 s0.c9)])] false), (Blk.gen 84 3 [[(V.ptr 0 1 0 0), (V.d (.int .i64 s0.c11)), (V.d (.int .i64 s0.c12))]] false), (Blk.gen 86 3 [[(V.d (.int .i64 x10)), (V.d (.int .i64 x11)), (V.so false 4 s0.c20.length)]] false), (Blk.flat 3 1 (List.map (encI .i64) x5) x13), (Blk.flat 3 1 (List.map (encI .i64) s0.c20) false)])) := by
 unfold Zd0 Zf7 Zih
 cases h1 : tb (Zcy x16 s0.c4)
 ·intro g0 g1 g2
  exact Zv [.s (Zsk x0 x1 s0.c7 s0.c8 s0.c9 x5 s0.c20 s0.c22 false s0.c11 s0.c12 false x10 x11 false x13 false false x14 x15 x16 s0.c3 s0.c4 (tbE h1))] (by kernel_rfl)
 ·cases h2 : tb (inb x16.length s0.c4)
  ·intro g0 g1 g2
   exact absurd g2 ft
  ·cases h3 : tb (((remI .u8 (gt x16 s0.c4).c0 2) : Int) == 1)
   ·cases h4 : tb (gt x16 s0.c4).c1
    ·cases h5 : tb (Z6 x0 s0.c7 s0.c8 s0.c9 s0.c11 s0.c12 (gt x16 s0.c4).c2)
     ·intro g0 g1 g2
      exact absurd g2 ft
     ·cases h6 : tb (Zbv s0.c20 s0.c22 x10 false (gt x16 s0.c4).c2)
      ·cases h7 : tb (Zec (gt x16 s0.c4).c2)
       ·intro g0 g1 g2
        exact absurd g2 ft
       ·cases h8 : tb (true != ((Zg x0 x1 s0.c7 s0.c8 s0.c9 s0.c11 s0.c12 (gt x16 s0.c4).c2) == false))
        ·cases h9 : tb (((Zf (gt x16 s0.c4).c2) : Int) != 1)
         ·cases h10 : tb (Zc0 x0 s0.c7 s0.c8 s0.c9 s0.c20 x10)
          ·intro g0 g1 g2
           exact absurd g2 ft
          ·cases h11 : tb (Zc1 x0 s0.c7 s0.c8 s0.c9 s0.c20 x10 (Zc9 x0 x10 s0))
           ·intro g0 g1 g2
            exact absurd g2 ft
           ·cases h12 : tb (Zc4 x0 x1 s0.c7 s0.c8 s0.c9 s0.c20 s0.c22 (Z5 x0 x16 s0) x10 x11 x14 (Zc9 x0 x10 s0))
            ·intro g0 g1 g2
             exact absurd g0 tf
            ·intro g0 g1 g2
             exact absurd g1 tf
         ·intro g0 g1 g2
          exact absurd g1 tf
        ·intro g0 g1 g2
         exact absurd g1 tf
      ·cases h7 : tb (true != ((Zg x0 x1 s0.c7 s0.c8 s0.c9 s0.c11 s0.c12 (gt x16 s0.c4).c2) == (Zcb s0.c20 s0.c22 x10 x11 (gt x16 s0.c4).c2)))
       ·cases h8 : tb (((Zf (gt x16 s0.c4).c2) : Int) != 0)
        ·cases h9 : tb (Zfd x0 s0.c7 s0.c8 s0.c9 s0.c20 x10)
         ·intro g0 g1 g2
          exact absurd g2 ft
         ·cases h10 : tb (Zfe x0 s0.c7 s0.c8 s0.c9 s0.c20 x10 (Zdg x0 x10 s0))
          ·intro g0 g1 g2
           exact absurd g2 ft
          ·cases h11 : tb (Zfh x0 x1 s0.c7 s0.c8 s0.c9 s0.c20 (Zbn s0.c22 (gt x16 s0.c4).c2) (Z5 x0 x16 s0) x10 x11 x14 (Zdg x0 x10 s0))
           ·intro g0 g1 g2
            exact absurd g0 tf
           ·intro g0 g1 g2
            exact absurd g1 tf
        ·intro g0 g1 g2
         exact absurd g1 tf
       ·intro g0 g1 g2
        exact absurd g1 tf
    ·cases h5 : tb (Zfb x0 s0.c7 s0.c8 s0.c9 s0.c20 x10)
     ·intro g0 g1 g2
      exact absurd g2 ft
     ·cases h6 : tb (Zfc x0 s0.c7 s0.c8 s0.c9 s0.c20 x10 (Zdi x0 x10 s0))
      ·intro g0 g1 g2
       exact absurd g2 ft
      ·cases h7 : tb (Zfg x0 x1 s0.c7 s0.c8 s0.c9 s0.c20 x10 x11 x14 (Zdi x0 x10 s0))
       ·intro g0 g1 g2
        exact absurd g0 tf
       ·intro g0 g1 g2
        exact absurd g1 tf
   ·cases h4 : tb (Zbb x0 s0.c8 (gt x16 s0.c4).c2)
    ·intro g0 g1 g2
     exact absurd g2 ft
    ·cases h5 : tb (Zbi s0.c20 (gt x16 s0.c4).c2)
     ·cases h6 : tb (Zdq (gt x16 s0.c4).c2)
      ·intro g0 g1 g2
       exact absurd g2 ft
      ·cases h7 : tb (((Zi (gt x16 s0.c4).c2) : Int) != 1)
       ·cases h8 : tb (Zc0 x0 (Zl x16 s0) (Zc x0 s0.c8 (gt x16 s0.c4).c2) (Zb x0 s0.c9 (gt x16 s0.c4).c2) s0.c20 x10)
        ·intro g0 g1 g2
         exact absurd g2 ft
        ·cases h9 : tb (Zc1 x0 (Zl x16 s0) (Zc x0 s0.c8 (gt x16 s0.c4).c2) (Zb x0 s0.c9 (gt x16 s0.c4).c2) s0.c20 x10 (Zdd x0 x10 x16 s0))
         ·intro g0 g1 g2
          exact absurd g2 ft
         ·cases h10 : tb (Zc4 x0 x1 (Zl x16 s0) (Zc x0 s0.c8 (gt x16 s0.c4).c2) (Zb x0 s0.c9 (gt x16 s0.c4).c2) s0.c20 s0.c22 s0.c12 x10 x11 x14 (Zdd x0 x10 x16 s0))
          ·intro g0 g1 g2
           exact absurd g0 tf
          ·intro g0 g1 g2
           exact absurd g1 tf
       ·intro g0 g1 g2
        exact absurd g1 tf
     ·cases h6 : tb (((Zi (gt x16 s0.c4).c2) : Int) != 0)
      ·cases h7 : tb (Zfa x0 (Zl x16 s0) (Zc x0 s0.c8 (gt x16 s0.c4).c2) (Zb x0 s0.c9 (gt x16 s0.c4).c2) (s0.c20 ++ [(gt x16 s0.c4).c2]) x10)
       ·intro g0 g1 g2
        exact absurd g2 ft
       ·cases h8 : tb (Zff x0 (Zl x16 s0) (Zc x0 s0.c8 (gt x16 s0.c4).c2) (Zb x0 s0.c9 (gt x16 s0.c4).c2) (s0.c20 ++ [(gt x16 s0.c4).c2]) x10 (Zdh x0 x10 x16 s0))
        ·intro g0 g1 g2
         exact absurd g2 ft
        ·cases h9 : tb (Zfi x0 x1 (Zl x16 s0) (Zc x0 s0.c8 (gt x16 s0.c4).c2) (Zb x0 s0.c9 (gt x16 s0.c4).c2) s0.c22 (s0.c20 ++ [(gt x16 s0.c4).c2]) s0.c12 x10 x11 x14 (Zdh x0 x10 x16 s0))
         ·intro g0 g1 g2
          exact absurd g0 tf
         ·intro g0 g1 g2
          exact absurd g1 tf
      ·intro g0 g1 g2
       exact absurd g1 tf
theorem Zhb (x0 x1 : Int) (x2 : List Int) (x3 x4 : Int) (x5 : List Int) (x6 : Bool) (x7 x8 : Int) (x9 : Bool) (x10 x11 : Int) (x12 x13 : Bool) (x14 : Int) (x15 : Bool) (x16 : List Zh) (x17 : Bool) (x18 : Int) : ∀ s, Zcw x0 x1 x5 x10 x11 x14 x16 s = true → (roundG (runC E0 (cl E0) L10_4) [0, 2, 7, 10, 11, 12, 13] [6] 4) (Zbf x0 x1 x2 x3 x4 x5 x6 x7 x8 x9 x10 x11 x12 x13 x14 x15 x16 x17 x18 s) = some (.normal, Zbf x0 x1 x2 x3 x4 x5 x6 x7 x8 x9 x10 x11 x12 x13 x14 x15 x16 x17 x18 (Zd7 x0 x1 x5 x10 x11 x14 x16 s))
 | .h0 s0, h => Zrm x0 x1 x2 x3 x4 x5 x6 x7 x8 x9 x10 x11 x12 x13 x14 x15 x16 x17 x18 s0 h
 | .h1 s0, h => Zrf x0 x1 x2 x3 x4 x5 x6 x7 x8 x9 x10 x11 x12 x13 x14 x15 x16 x17 x18 s0 h
 | .h2 s0, h => Zrp x0 x1 x2 x3 x4 x5 x6 x7 x8 x9 x10 x11 x12 x13 x14 x15 x16 x17 x18 s0 h
 | .h3 s0, h => Zrs x0 x1 x2 x3 x4 x5 x6 x7 x8 x9 x10 x11 x12 x13 x14 x15 x16 x17 x18 s0 h
theorem Zsa (x0 x1 : Int) (x2 : List Int) (x3 x4 : Int) (x5 : List Int) (x6 : Bool) (x7 x8 : Int) (x9 : Bool) (x10 x11 : Int) (x12 x13 : Bool) (x14 : Int) (x15 : Bool) (x16 : List Zh) (x17 : Bool) (x18 : Int) (s : Zs) (hok : Zd6 x0 x1 x5 x10 x11 x14 x16 s = true) (k0 : Zcv (Ze x0 x1 x5 x10 x11 x14 x16 s) = true) (c0 : Zd4 x0 x10 x16 (Zx (Ze x0 x1 x5 x10 x11 x14 x16 s)) = true) : loopG (roundG (runC E0 (cl E0) L10_4) [0, 2, 7, 10, 11, 12, 13] [6] 4) bound (Zbf x0 x1 x2 x3 x4 x5 x6 x7 x8 x9 x10 x11 x12 x13 x14 x15 x16 x17 x18 s) = some (.ret, ([(V.d (.bool false))], [(Blk.flat 82 20 [([(.int .i64 x0), (.int .i64 x1)] ++ arrD .i64 (Zl4 x16 (Zx (Ze x0 x1 x5 x10 x11 x14 x16 s))) 16 ++ [(.int .i64 (Zc x0 (Zx (Ze x0 x1 x5 x10 x11 x14 x16 s)).c8 ((gt x16 (Zx (Ze x0 x1 x5 x10 x11 x14 x16 s)).c4).c2))), (.int .i64 (Zb x0 (Zx (Ze x0 x1 x5 x10 x11 x14 x16 s)).c9 ((gt x16 (Zx (Ze x0 x1 x5 x10 x11 x14 x16 s)).c4).c2)))])] false), (Blk.gen 84 3 [[(V.ptr 0 1 0 0), (V.d (.int .i64 ((Zx (Ze x0 x1 x5 x10 x11 x14 x16 s)).c11))), (V.d (.int .i64 ((Zx (Ze x0 x1 x5 x10 x11 x14 x16 s)).c12)))]] false), (Blk.gen 86 3 [[(V.d (.int .i64 x10)), (V.d (.int .i64 x11)), (V.so false 4 ([((gt x16 (Zx (Ze x0 x1 x5 x10 x11 x14 x16 s)).c4).c2)].length))]] false), (Blk.flat 3 1 (List.map (encI .i64) x5) x13), (Blk.flat 3 1 (List.map (encI .i64) [((gt x16 (Zx (Ze x0 x1 x5 x10 x11 x14 x16 s)).c4).c2)]) false)])) := by
 have e : itS (Zcw x0 x1 x5 x10 x11 x14 x16) (Zd7 x0 x1 x5 x10 x11 x14 x16) bound s = some (Ze x0 x1 x5 x10 x11 x14 x16 s) := Zis hok
 have f := Zgz e
 have a := Zmq k0
 have g := Zrk x0 x1 x2 x3 x4 x5 x6 x7 x8 x9 x10 x11 x12 x13 x14 x15 x16 x17 x18 (Zx (Ze x0 x1 x5 x10 x11 x14 x16 s)) (by rw [a] at f; exact f) c0
 exact Zil (Zhb x0 x1 x2 x3 x4 x5 x6 x7 x8 x9 x10 x11 x12 x13 x14 x15 x16 x17 x18) bound s _ _ _ e (fun h => by cases h) (by rw [a]; exact g)
theorem Zsn (x0 x1 : Int) (x2 : List Int) (x3 x4 : Int) (x5 : List Int) (x6 : Bool) (x7 x8 : Int) (x9 : Bool) (x10 x11 : Int) (x12 x13 : Bool) (x14 : Int) (x15 : Bool) (x16 : List Zh) (x17 : Bool) (x18 : Int) (s : Zs) (hok : Zd6 x0 x1 x5 x10 x11 x14 x16 s = true) (k0 : Zcv (Ze x0 x1 x5 x10 x11 x14 x16 s) = true) (c0 : Zd4 x0 x10 x16 (Zx (Ze x0 x1 x5 x10 x11 x14 x16 s)) = false) (c1 : Zf6 x0 x1 x5 x10 x11 x16 (Zx (Ze x0 x1 x5 x10 x11 x14 x16 s)) = true) : loopG (roundG (runC E0 (cl E0) L10_4) [0, 2, 7, 10, 11, 12, 13] [6] 4) bound (Zbf x0 x1 x2 x3 x4 x5 x6 x7 x8 x9 x10 x11 x12 x13 x14 x15 x16 x17 x18 s) = some (.ret, ([(V.d (.bool false))], [(Blk.flat 82 20 [([(.int .i64 x0), (.int .i64 x1)] ++ arrD .i64 (Zlo x16 (Zx (Ze x0 x1 x5 x10 x11 x14 x16 s))) 16 ++ [(.int .i64 (Zl1 x0 x16 (Zx (Ze x0 x1 x5 x10 x11 x14 x16 s)))), (.int .i64 (Zlk x0 x16 (Zx (Ze x0 x1 x5 x10 x11 x14 x16 s))))])] false), (Blk.gen 84 3 [[(V.ptr 0 1 0 0), (V.d (.int .i64 (Zlq x0 x1 x5 x10 x11 x16 (Zx (Ze x0 x1 x5 x10 x11 x14 x16 s))))), (V.d (.int .i64 (Zlm x0 x1 x5 x10 x11 x16 (Zx (Ze x0 x1 x5 x10 x11 x14 x16 s)))))]] false), (Blk.gen 86 3 [[(V.d (.int .i64 x10)), (V.d (.int .i64 x11)), (V.d .nils)]] false), (Blk.flat 3 1 (List.map (encI .i64) x5) x13)])) := by
 have e : itS (Zcw x0 x1 x5 x10 x11 x14 x16) (Zd7 x0 x1 x5 x10 x11 x14 x16) bound s = some (Ze x0 x1 x5 x10 x11 x14 x16 s) := Zis hok
 have f := Zgz e
 have a := Zmq k0
 have g := Zrj x0 x1 x2 x3 x4 x5 x6 x7 x8 x9 x10 x11 x12 x13 x14 x15 x16 x17 x18 (Zx (Ze x0 x1 x5 x10 x11 x14 x16 s)) (by rw [a] at f; exact f) c0 c1
 exact Zil (Zhb x0 x1 x2 x3 x4 x5 x6 x7 x8 x9 x10 x11 x12 x13 x14 x15 x16 x17 x18) bound s _ _ _ e (fun h => by cases h) (by rw [a]; exact g)
theorem Zr8 (x0 x1 : Int) (x2 : List Int) (x3 x4 : Int) (x5 : List Int) (x6 : Bool) (x7 x8 : Int) (x9 : Bool) (x10 x11 : Int) (x12 x13 : Bool) (x14 : Int) (x15 : Bool) (x16 : List Zh) (x17 : Bool) (x18 : Int) (s : Zs) (hok : Zd6 x0 x1 x5 x10 x11 x14 x16 s = true) (k0 : Zcv (Ze x0 x1 x5 x10 x11 x14 x16 s) = true) (c0 : Zd4 x0 x10 x16 (Zx (Ze x0 x1 x5 x10 x11 x14 x16 s)) = false) (c1 : Zf6 x0 x1 x5 x10 x11 x16 (Zx (Ze x0 x1 x5 x10 x11 x14 x16 s)) = false) (c2 : Zie x16 (Zx (Ze x0 x1 x5 x10 x11 x14 x16 s)) = true) : loopG (roundG (runC E0 (cl E0) L10_4) [0, 2, 7, 10, 11, 12, 13] [6] 4) bound (Zbf x0 x1 x2 x3 x4 x5 x6 x7 x8 x9 x10 x11 x12 x13 x14 x15 x16 x17 x18 s) = some ((.exit 0), ([V.un], [(Blk.flat 82 20 [([(.int .i64 x0), (.int .i64 x1)] ++ arrD .i64 ((Zx (Ze x0 x1 x5 x10 x11 x14 x16 s)).c7) 16 ++ [(.int .i64 ((Zx (Ze x0 x1 x5 x10 x11 x14 x16 s)).c8)), (.int .i64 ((Zx (Ze x0 x1 x5 x10 x11 x14 x16 s)).c9))])] false), (Blk.gen 84 3 [[(V.ptr 0 1 0 0), (V.d (.int .i64 ((Zx (Ze x0 x1 x5 x10 x11 x14 x16 s)).c11))), (V.d (.int .i64 ((Zx (Ze x0 x1 x5 x10 x11 x14 x16 s)).c12)))]] false), (Blk.gen 86 3 [[(V.d (.int .i64 x10)), (V.d (.int .i64 x11)), (V.d .nils)]] false), (Blk.flat 3 1 (List.map (encI .i64) x5) x13)])) := by
 have e : itS (Zcw x0 x1 x5 x10 x11 x14 x16) (Zd7 x0 x1 x5 x10 x11 x14 x16) bound s = some (Ze x0 x1 x5 x10 x11 x14 x16 s) := Zis hok
 have f := Zgz e
 have a := Zmq k0
 have g := Zrg x0 x1 x2 x3 x4 x5 x6 x7 x8 x9 x10 x11 x12 x13 x14 x15 x16 x17 x18 (Zx (Ze x0 x1 x5 x10 x11 x14 x16 s)) (by rw [a] at f; exact f) c0 c1 c2
 exact Zil (Zhb x0 x1 x2 x3 x4 x5 x6 x7 x8 x9 x10 x11 x12 x13 x14 x15 x16 x17 x18) bound s _ _ _ e (fun h => by cases h) (by rw [a]; exact g)
theorem Zss (x0 x1 : Int) (x2 : List Int) (x3 x4 : Int) (x5 : List Int) (x6 : Bool) (x7 x8 : Int) (x9 : Bool) (x10 x11 : Int) (x12 x13 : Bool) (x14 : Int) (x15 : Bool) (x16 : List Zh) (x17 : Bool) (x18 : Int) (s : Zs) (hok : Zd6 x0 x1 x5 x10 x11 x14 x16 s = true) (k0 : Zcv (Ze x0 x1 x5 x10 x11 x14 x16 s) = false) (k1 : Zeb (Ze x0 x1 x5 x10 x11 x14 x16 s) = true) (c0 : Zf8 x0 x1 x5 x10 x11 x16 (Zbg (Ze x0 x1 x5 x10 x11 x14 x16 s)) = true) : loopG (roundG (runC E0 (cl E0) L10_4) [0, 2, 7, 10, 11, 12, 13] [6] 4) bound (Zbf x0 x1 x2 x3 x4 x5 x6 x7 x8 x9 x10 x11 x12 x13 x14 x15 x16 x17 x18 s) = some (.ret, ([(V.d (.bool false))], [(Blk.flat 82 20 [([(.int .i64 x0), (.int .i64 x1)] ++ arrD .i64 (Zlp x16 (Zbg (Ze x0 x1 x5 x10 x11 x14 x16 s))) 16 ++ [(.int .i64 (Zlz x0 x16 (Zbg (Ze x0 x1 x5 x10 x11 x14 x16 s)))), (.int .i64 (Zl6 x0 x16 (Zbg (Ze x0 x1 x5 x10 x11 x14 x16 s))))])] false), (Blk.gen 84 3 [[(V.ptr 0 1 0 0), (V.d (.int .i64 (Zln x0 x1 x5 x10 x11 x16 (Zbg (Ze x0 x1 x5 x10 x11 x14 x16 s))))), (V.d (.int .i64 (Zlt x0 x1 x5 x10 x11 x16 (Zbg (Ze x0 x1 x5 x10 x11 x14 x16 s)))))]] false), (Blk.gen 86 3 [[(V.d (.int .i64 x10)), (V.d (.int .i64 x11)), (V.so false 4 ((Zjd x16 (Zbg (Ze x0 x1 x5 x10 x11 x14 x16 s))).length))]] false), (Blk.flat 3 1 (List.map (encI .i64) x5) x13), (Blk.flat 3 1 (List.map (encI .i64) (Zjd x16 (Zbg (Ze x0 x1 x5 x10 x11 x14 x16 s)))) false)])) := by
 have e : itS (Zcw x0 x1 x5 x10 x11 x14 x16) (Zd7 x0 x1 x5 x10 x11 x14 x16) bound s = some (Ze x0 x1 x5 x10 x11 x14 x16 s) := Zis hok
 have f := Zgz e
 have a := Zoz k1
 have g := Zrl x0 x1 x2 x3 x4 x5 x6 x7 x8 x9 x10 x11 x12 x13 x14 x15 x16 x17 x18 (Zbg (Ze x0 x1 x5 x10 x11 x14 x16 s)) (by rw [a] at f; exact f) c0
 exact Zil (Zhb x0 x1 x2 x3 x4 x5 x6 x7 x8 x9 x10 x11 x12 x13 x14 x15 x16 x17 x18) bound s _ _ _ e (fun h => by cases h) (by rw [a]; exact g)
theorem Zsp (x0 x1 : Int) (x2 : List Int) (x3 x4 : Int) (x5 : List Int) (x6 : Bool) (x7 x8 : Int) (x9 : Bool) (x10 x11 : Int) (x12 x13 : Bool) (x14 : Int) (x15 : Bool) (x16 : List Zh) (x17 : Bool) (x18 : Int) (s : Zs) (hok : Zd6 x0 x1 x5 x10 x11 x14 x16 s = true) (k0 : Zcv (Ze x0 x1 x5 x10 x11 x14 x16 s) = false) (k1 : Zeb (Ze x0 x1 x5 x10 x11 x14 x16 s) = true) (c0 : Zf8 x0 x1 x5 x10 x11 x16 (Zbg (Ze x0 x1 x5 x10 x11 x14 x16 s)) = false) (c1 : Zif x16 (Zbg (Ze x0 x1 x5 x10 x11 x14 x16 s)) = true) : loopG (roundG (runC E0 (cl E0) L10_4) [0, 2, 7, 10, 11, 12, 13] [6] 4) bound (Zbf x0 x1 x2 x3 x4 x5 x6 x7 x8 x9 x10 x11 x12 x13 x14 x15 x16 x17 x18 s) = some ((.exit 0), ([V.un], [(Blk.flat 82 20 [([(.int .i64 x0), (.int .i64 x1)] ++ arrD .i64 ((Zbg (Ze x0 x1 x5 x10 x11 x14 x16 s)).c7) 16 ++ [(.int .i64 ((Zbg (Ze x0 x1 x5 x10 x11 x14 x16 s)).c8)), (.int .i64 ((Zbg (Ze x0 x1 x5 x10 x11 x14 x16 s)).c9))])] false), (Blk.gen 84 3 [[(V.ptr 0 1 0 0), (V.d (.int .i64 ((Zbg (Ze x0 x1 x5 x10 x11 x14 x16 s)).c11))), (V.d (.int .i64 ((Zbg (Ze x0 x1 x5 x10 x11 x14 x16 s)).c12)))]] false), (Blk.gen 86 3 [[(V.d (.int .i64 x10)), (V.d (.int .i64 x11)), (V.so false 4 (((Zbg (Ze x0 x1 x5 x10 x11 x14 x16 s)).c20).length))]] false), (Blk.flat 3 1 (List.map (encI .i64) x5) x13), (Blk.flat 3 1 (List.map (encI .i64) ((Zbg (Ze x0 x1 x5 x10 x11 x14 x16 s)).c20)) false)])) := by
 have e : itS (Zcw x0 x1 x5 x10 x11 x14 x16) (Zd7 x0 x1 x5 x10 x11 x14 x16) bound s = some (Ze x0 x1 x5 x10 x11 x14 x16 s) := Zis hok
 have f := Zgz e
 have a := Zoz k1
 have g := Zrt x0 x1 x2 x3 x4 x5 x6 x7 x8 x9 x10 x11 x12 x13 x14 x15 x16 x17 x18 (Zbg (Ze x0 x1 x5 x10 x11 x14 x16 s)) (by rw [a] at f; exact f) c0 c1
 exact Zil (Zhb x0 x1 x2 x3 x4 x5 x6 x7 x8 x9 x10 x11 x12 x13 x14 x15 x16 x17 x18) bound s _ _ _ e (fun h => by cases h) (by rw [a]; exact g)
theorem Zsd (x0 x1 : Int) (x2 : List Int) (x3 x4 : Int) (x5 : List Int) (x6 : Bool) (x7 x8 : Int) (x9 : Bool) (x10 x11 : Int) (x12 x13 : Bool) (x14 : Int) (x15 : Bool) (x16 : List Zh) (x17 : Bool) (x18 : Int) (s : Zs) (hok : Zd6 x0 x1 x5 x10 x11 x14 x16 s = true) (k0 : Zcv (Ze x0 x1 x5 x10 x11 x14 x16 s) = false) (k1 : Zeb (Ze x0 x1 x5 x10 x11 x14 x16 s) = false) (k2 : Zf9 (Ze x0 x1 x5 x10 x11 x14 x16 s) = true) (c0 : Zd3 x0 x10 x16 (Zw (Ze x0 x1 x5 x10 x11 x14 x16 s)) = true) : loopG (roundG (runC E0 (cl E0) L10_4) [0, 2, 7, 10, 11, 12, 13] [6] 4) bound (Zbf x0 x1 x2 x3 x4 x5 x6 x7 x8 x9 x10 x11 x12 x13 x14 x15 x16 x17 x18 s) = some (.ret, ([(V.d (.bool false))], [(Blk.flat 82 20 [([(.int .i64 x0), (.int .i64 x1)] ++ arrD .i64 (Zlv x16 (Zw (Ze x0 x1 x5 x10 x11 x14 x16 s))) 16 ++ [(.int .i64 (Zc x0 (Zw (Ze x0 x1 x5 x10 x11 x14 x16 s)).c8 ((gt x16 (Zw (Ze x0 x1 x5 x10 x11 x14 x16 s)).c4).c2))), (.int .i64 (Zb x0 (Zw (Ze x0 x1 x5 x10 x11 x14 x16 s)).c9 ((gt x16 (Zw (Ze x0 x1 x5 x10 x11 x14 x16 s)).c4).c2)))])] false), (Blk.gen 84 3 [[(V.ptr 0 1 0 0), (V.d (.int .i64 ((Zw (Ze x0 x1 x5 x10 x11 x14 x16 s)).c11))), (V.d (.int .i64 ((Zw (Ze x0 x1 x5 x10 x11 x14 x16 s)).c12)))]] false), (Blk.gen 86 3 [[(V.d (.int .i64 x10)), (V.d (.int .i64 x11)), (V.so false 4 ([((gt x16 (Zw (Ze x0 x1 x5 x10 x11 x14 x16 s)).c4).c2)].length))]] false), (Blk.flat 3 1 (List.map (encI .i64) x5) x13), (Blk.flat 3 1 (List.map (encI .i64) [((gt x16 (Zw (Ze x0 x1 x5 x10 x11 x14 x16 s)).c4).c2)]) false)])) := by
 have e : itS (Zcw x0 x1 x5 x10 x11 x14 x16) (Zd7 x0 x1 x5 x10 x11 x14 x16) bound s = some (Ze x0 x1 x5 x10 x11 x14 x16 s) := Zis hok
 have f := Zgz e
 have a := Zmp k2
 have g := Zro x0 x1 x2 x3 x4 x5 x6 x7 x8 x9 x10 x11 x12 x13 x14 x15 x16 x17 x18 (Zw (Ze x0 x1 x5 x10 x11 x14 x16 s)) (by rw [a] at f; exact f) c0
 exact Zil (Zhb x0 x1 x2 x3 x4 x5 x6 x7 x8 x9 x10 x11 x12 x13 x14 x15 x16 x17 x18) bound s _ _ _ e (fun h => by cases h) (by rw [a]; exact g)
theorem Zsv (x0 x1 : Int) (x2 : List Int) (x3 x4 : Int) (x5 : List Int) (x6 : Bool) (x7 x8 : Int) (x9 : Bool) (x10 x11 : Int) (x12 x13 : Bool) (x14 : Int) (x15 : Bool) (x16 : List Zh) (x17 : Bool) (x18 : Int) (s : Zs) (hok : Zd6 x0 x1 x5 x10 x11 x14 x16 s = true) (k0 : Zcv (Ze x0 x1 x5 x10 x11 x14 x16 s) = false) (k1 : Zeb (Ze x0 x1 x5 x10 x11 x14 x16 s) = false) (k2 : Zf9 (Ze x0 x1 x5 x10 x11 x14 x16 s) = true) (c0 : Zd3 x0 x10 x16 (Zw (Ze x0 x1 x5 x10 x11 x14 x16 s)) = false) (c1 : Zf4 x0 x1 x10 x11 x16 (Zw (Ze x0 x1 x5 x10 x11 x14 x16 s)) = true) : loopG (roundG (runC E0 (cl E0) L10_4) [0, 2, 7, 10, 11, 12, 13] [6] 4) bound (Zbf x0 x1 x2 x3 x4 x5 x6 x7 x8 x9 x10 x11 x12 x13 x14 x15 x16 x17 x18 s) = some (.ret, ([(V.d (.bool false))], [(Blk.flat 82 20 [([(.int .i64 x0), (.int .i64 x1)] ++ arrD .i64 (Zlw x16 (Zw (Ze x0 x1 x5 x10 x11 x14 x16 s))) 16 ++ [(.int .i64 (Zll x0 x16 (Zw (Ze x0 x1 x5 x10 x11 x14 x16 s)))), (.int .i64 (Zl5 x0 x16 (Zw (Ze x0 x1 x5 x10 x11 x14 x16 s))))])] false), (Blk.gen 84 3 [[(V.ptr 0 1 0 0), (V.d (.int .i64 (Zl0 x0 x1 x10 x11 x16 (Zw (Ze x0 x1 x5 x10 x11 x14 x16 s))))), (V.d (.int .i64 (Zly x0 x1 x10 x11 x16 (Zw (Ze x0 x1 x5 x10 x11 x14 x16 s)))))]] false), (Blk.gen 86 3 [[(V.d (.int .i64 x10)), (V.d (.int .i64 x11)), (V.d .nils)]] false), (Blk.flat 3 1 (List.map (encI .i64) x5) x13)])) := by
 have e : itS (Zcw x0 x1 x5 x10 x11 x14 x16) (Zd7 x0 x1 x5 x10 x11 x14 x16) bound s = some (Ze x0 x1 x5 x10 x11 x14 x16 s) := Zis hok
 have f := Zgz e
 have a := Zmp k2
 have g := Zrq x0 x1 x2 x3 x4 x5 x6 x7 x8 x9 x10 x11 x12 x13 x14 x15 x16 x17 x18 (Zw (Ze x0 x1 x5 x10 x11 x14 x16 s)) (by rw [a] at f; exact f) c0 c1
 exact Zil (Zhb x0 x1 x2 x3 x4 x5 x6 x7 x8 x9 x10 x11 x12 x13 x14 x15 x16 x17 x18) bound s _ _ _ e (fun h => by cases h) (by rw [a]; exact g)
theorem Zr9 (x0 x1 : Int) (x2 : List Int) (x3 x4 : Int) (x5 : List Int) (x6 : Bool) (x7 x8 : Int) (x9 : Bool) (x10 x11 : Int) (x12 x13 : Bool) (x14 : Int) (x15 : Bool) (x16 : List Zh) (x17 : Bool) (x18 : Int) (s : Zs) (hok : Zd6 x0 x1 x5 x10 x11 x14 x16 s = true) (k0 : Zcv (Ze x0 x1 x5 x10 x11 x14 x16 s) = false) (k1 : Zeb (Ze x0 x1 x5 x10 x11 x14 x16 s) = false) (k2 : Zf9 (Ze x0 x1 x5 x10 x11 x14 x16 s) = true) (c0 : Zd3 x0 x10 x16 (Zw (Ze x0 x1 x5 x10 x11 x14 x16 s)) = false) (c1 : Zf4 x0 x1 x10 x11 x16 (Zw (Ze x0 x1 x5 x10 x11 x14 x16 s)) = false) (c2 : Zig x16 (Zw (Ze x0 x1 x5 x10 x11 x14 x16 s)) = true) : loopG (roundG (runC E0 (cl E0) L10_4) [0, 2, 7, 10, 11, 12, 13] [6] 4) bound (Zbf x0 x1 x2 x3 x4 x5 x6 x7 x8 x9 x10 x11 x12 x13 x14 x15 x16 x17 x18 s) = some ((.exit 0), ([V.un], [(Blk.flat 82 20 [([(.int .i64 x0), (.int .i64 x1)] ++ arrD .i64 ((Zw (Ze x0 x1 x5 x10 x11 x14 x16 s)).c7) 16 ++ [(.int .i64 ((Zw (Ze x0 x1 x5 x10 x11 x14 x16 s)).c8)), (.int .i64 ((Zw (Ze x0 x1 x5 x10 x11 x14 x16 s)).c9))])] false), (Blk.gen 84 3 [[(V.ptr 0 1 0 0), (V.d (.int .i64 ((Zw (Ze x0 x1 x5 x10 x11 x14 x16 s)).c11))), (V.d (.int .i64 ((Zw (Ze x0 x1 x5 x10 x11 x14 x16 s)).c12)))]] false), (Blk.gen 86 3 [[(V.d (.int .i64 x10)), (V.d (.int .i64 x11)), (V.d .nils)]] false), (Blk.flat 3 1 (List.map (encI .i64) x5) x13)])) := by
 have e : itS (Zcw x0 x1 x5 x10 x11 x14 x16) (Zd7 x0 x1 x5 x10 x11 x14 x16) bound s = some (Ze x0 x1 x5 x10 x11 x14 x16 s) := Zis hok
 have f := Zgz e
 have a := Zmp k2
 have g := Zru x0 x1 x2 x3 x4 x5 x6 x7 x8 x9 x10 x11 x12 x13 x14 x15 x16 x17 x18 (Zw (Ze x0 x1 x5 x10 x11 x14 x16 s)) (by rw [a] at f; exact f) c0 c1 c2
 exact Zil (Zhb x0 x1 x2 x3 x4 x5 x6 x7 x8 x9 x10 x11 x12 x13 x14 x15 x16 x17 x18) bound s _ _ _ e (fun h => by cases h) (by rw [a]; exact g)
theorem Zsw (x0 x1 : Int) (x2 : List Int) (x3 x4 : Int) (x5 : List Int) (x6 : Bool) (x7 x8 : Int) (x9 : Bool) (x10 x11 : Int) (x12 x13 : Bool) (x14 : Int) (x15 : Bool) (x16 : List Zh) (x17 : Bool) (x18 : Int) (s : Zs) (hok : Zd6 x0 x1 x5 x10 x11 x14 x16 s = true) (k0 : Zcv (Ze x0 x1 x5 x10 x11 x14 x16 s) = false) (k1 : Zeb (Ze x0 x1 x5 x10 x11 x14 x16 s) = false) (k2 : Zf9 (Ze x0 x1 x5 x10 x11 x14 x16 s) = false) (c0 : Zf7 x0 x1 x10 x11 x16 (Zbe (Ze x0 x1 x5 x10 x11 x14 x16 s)) = true) : loopG (roundG (runC E0 (cl E0) L10_4) [0, 2, 7, 10, 11, 12, 13] [6] 4) bound (Zbf x0 x1 x2 x3 x4 x5 x6 x7 x8 x9 x10 x11 x12 x13 x14 x15 x16 x17 x18 s) = some (.ret, ([(V.d (.bool false))], [(Blk.flat 82 20 [([(.int .i64 x0), (.int .i64 x1)] ++ arrD .i64 (Zl2 x16 (Zbe (Ze x0 x1 x5 x10 x11 x14 x16 s))) 16 ++ [(.int .i64 (Zlu x0 x16 (Zbe (Ze x0 x1 x5 x10 x11 x14 x16 s)))), (.int .i64 (Zli x0 x16 (Zbe (Ze x0 x1 x5 x10 x11 x14 x16 s))))])] false), (Blk.gen 84 3 [[(V.ptr 0 1 0 0), (V.d (.int .i64 (Zlr x0 x1 x10 x11 x16 (Zbe (Ze x0 x1 x5 x10 x11 x14 x16 s))))), (V.d (.int .i64 (Zl3 x0 x1 x10 x11 x16 (Zbe (Ze x0 x1 x5 x10 x11 x14 x16 s)))))]] false), (Blk.gen 86 3 [[(V.d (.int .i64 x10)), (V.d (.int .i64 x11)), (V.so false 4 ((Zjf x16 (Zbe (Ze x0 x1 x5 x10 x11 x14 x16 s))).length))]] false), (Blk.flat 3 1 (List.map (encI .i64) x5) x13), (Blk.flat 3 1 (List.map (encI .i64) (Zjf x16 (Zbe (Ze x0 x1 x5 x10 x11 x14 x16 s)))) false)])) := by
 have e : itS (Zcw x0 x1 x5 x10 x11 x14 x16) (Zd7 x0 x1 x5 x10 x11 x14 x16) bound s = some (Ze x0 x1 x5 x10 x11 x14 x16 s) := Zis hok
 have f := Zgz e
 have a : (Ze x0 x1 x5 x10 x11 x14 x16 s) = .h3 (Zbe (Ze x0 x1 x5 x10 x11 x14 x16 s)) := by
  revert k0 k1 k2
  cases (Ze x0 x1 x5 x10 x11 x14 x16 s) with
  | h0 w => intros; contradiction
  | h1 w => intros; contradiction
  | h2 w => intros; contradiction
  | h3 w => intros; rfl
 have g := Zrh x0 x1 x2 x3 x4 x5 x6 x7 x8 x9 x10 x11 x12 x13 x14 x15 x16 x17 x18 (Zbe (Ze x0 x1 x5 x10 x11 x14 x16 s)) (by rw [a] at f; exact f) c0
 exact Zil (Zhb x0 x1 x2 x3 x4 x5 x6 x7 x8 x9 x10 x11 x12 x13 x14 x15 x16 x17 x18) bound s _ _ _ e (fun h => by cases h) (by rw [a]; exact g)
theorem Zsr (x0 x1 : Int) (x2 : List Int) (x3 x4 : Int) (x5 : List Int) (x6 : Bool) (x7 x8 : Int) (x9 : Bool) (x10 x11 : Int) (x12 x13 : Bool) (x14 : Int) (x15 : Bool) (x16 : List Zh) (x17 : Bool) (x18 : Int) (s : Zs) (hok : Zd6 x0 x1 x5 x10 x11 x14 x16 s = true) (k0 : Zcv (Ze x0 x1 x5 x10 x11 x14 x16 s) = false) (k1 : Zeb (Ze x0 x1 x5 x10 x11 x14 x16 s) = false) (k2 : Zf9 (Ze x0 x1 x5 x10 x11 x14 x16 s) = false) (c0 : Zf7 x0 x1 x10 x11 x16 (Zbe (Ze x0 x1 x5 x10 x11 x14 x16 s)) = false) (c1 : Zih x16 (Zbe (Ze x0 x1 x5 x10 x11 x14 x16 s)) = true) : loopG (roundG (runC E0 (cl E0) L10_4) [0, 2, 7, 10, 11, 12, 13] [6] 4) bound (Zbf x0 x1 x2 x3 x4 x5 x6 x7 x8 x9 x10 x11 x12 x13 x14 x15 x16 x17 x18 s) = some ((.exit 0), ([V.un], [(Blk.flat 82 20 [([(.int .i64 x0), (.int .i64 x1)] ++ arrD .i64 ((Zbe (Ze x0 x1 x5 x10 x11 x14 x16 s)).c7) 16 ++ [(.int .i64 ((Zbe (Ze x0 x1 x5 x10 x11 x14 x16 s)).c8)), (.int .i64 ((Zbe (Ze x0 x1 x5 x10 x11 x14 x16 s)).c9))])] false), (Blk.gen 84 3 [[(V.ptr 0 1 0 0), (V.d (.int .i64 ((Zbe (Ze x0 x1 x5 x10 x11 x14 x16 s)).c11))), (V.d (.int .i64 ((Zbe (Ze x0 x1 x5 x10 x11 x14 x16 s)).c12)))]] false), (Blk.gen 86 3 [[(V.d (.int .i64 x10)), (V.d (.int .i64 x11)), (V.so false 4 (((Zbe (Ze x0 x1 x5 x10 x11 x14 x16 s)).c20).length))]] false), (Blk.flat 3 1 (List.map (encI .i64) x5) x13), (Blk.flat 3 1 (List.map (encI .i64) ((Zbe (Ze x0 x1 x5 x10 x11 x14 x16 s)).c20)) false)])) := by
 have e : itS (Zcw x0 x1 x5 x10 x11 x14 x16) (Zd7 x0 x1 x5 x10 x11 x14 x16) bound s = some (Ze x0 x1 x5 x10 x11 x14 x16 s) := Zis hok
 have f := Zgz e
 have a : (Ze x0 x1 x5 x10 x11 x14 x16 s) = .h3 (Zbe (Ze x0 x1 x5 x10 x11 x14 x16 s)) := by
  revert k0 k1 k2
  cases (Ze x0 x1 x5 x10 x11 x14 x16 s) with
  | h0 w => intros; contradiction
  | h1 w => intros; contradiction
  | h2 w => intros; contradiction
  | h3 w => intros; rfl
 have g := Zrw x0 x1 x2 x3 x4 x5 x6 x7 x8 x9 x10 x11 x12 x13 x14 x15 x16 x17 x18 (Zbe (Ze x0 x1 x5 x10 x11 x14 x16 s)) (by rw [a] at f; exact f) c0 c1
 exact Zil (Zhb x0 x1 x2 x3 x4 x5 x6 x7 x8 x9 x10 x11 x12 x13 x14 x15 x16 x17 x18) bound s _ _ _ e (fun h => by cases h) (by rw [a]; exact g)
def Zq (x0 x1 : Int) (x3 : List Zh) : Zs := Ze x0 x1 ([] : List Int) x0 x1 x0 x3 (.h0 ⟨0, [0, 0, 0, 0, 0, 0, 0, 0, 0, 0, 0, 0, 0, 0, 0, 0], 0, 0, 0, 0⟩ : Zs)
def Zhc (x0 x1 : Int) (x3 : List Zh) : Bool := (bif tb (Zim x0 x1) then true else (bif tb (Zhj x0 x1) then (bif tb (Zd6 x0 x1 ([] : List Int) x0 x1 x0 x3 (.h0 ⟨0, [0, 0, 0, 0, 0, 0, 0, 0, 0, 0, 0, 0, 0, 0, 0, 0], 0, 0, 0, 0⟩ : Zs)) then (bif tb (Zcv (Zq x0 x1 x3)) then (bif tb (Zd4 x0 x0 x3 (Zx (Zq x0 x1 x3))) then true else (bif tb (Zf6 x0 x1 ([] : List Int) x0 x1 x3 (Zx (Zq x0 x1 x3))) then true else false)) else (bif tb (Zeb (Zq x0 x1 x3)) then (bif tb (Zf8 x0 x1 ([] : List Int) x0 x1 x3 (Zbg (Zq x0 x1 x3))) then true else false) else (bif tb (Zf9 (Zq x0 x1 x3)) then (bif tb (Zd3 x0 x0 x3 (Zw (Zq x0 x1 x3))) then true else (bif tb (Zf4 x0 x1 x0 x1 x3 (Zw (Zq x0 x1 x3))) then true else false)) else (bif tb (Zf7 x0 x1 x0 x1 x3 (Zbe (Zq x0 x1 x3))) then true else false)))) else false) else true))
def Zk1 (x0 x1 : Int) : Bool := (bif tb (Zim x0 x1) then (bif tb (Zhj x0 x1) then false else true) else false)
def Zjn (x0 x1 : Int) (x3 : List Zh) : Bool := (bif tb (Zim x0 x1) then false else (bif tb (Zhj x0 x1) then (bif tb (Zd6 x0 x1 ([] : List Int) x0 x1 x0 x3 (.h0 ⟨0, [0, 0, 0, 0, 0, 0, 0, 0, 0, 0, 0, 0, 0, 0, 0, 0], 0, 0, 0, 0⟩ : Zs)) then (bif tb (Zcv (Zq x0 x1 x3)) then (bif tb (Zd4 x0 x0 x3 (Zx (Zq x0 x1 x3))) then false else (bif tb (Zf6 x0 x1 ([] : List Int) x0 x1 x3 (Zx (Zq x0 x1 x3))) then false else (bif tb (Zie x3 (Zx (Zq x0 x1 x3))) then true else false))) else (bif tb (Zeb (Zq x0 x1 x3)) then (bif tb (Zf8 x0 x1 ([] : List Int) x0 x1 x3 (Zbg (Zq x0 x1 x3))) then false else (bif tb (Zif x3 (Zbg (Zq x0 x1 x3))) then true else false)) else (bif tb (Zf9 (Zq x0 x1 x3)) then (bif tb (Zd3 x0 x0 x3 (Zw (Zq x0 x1 x3))) then false else (bif tb (Zf4 x0 x1 x0 x1 x3 (Zw (Zq x0 x1 x3))) then false else (bif tb (Zig x3 (Zw (Zq x0 x1 x3))) then true else false))) else (bif tb (Zf7 x0 x1 x0 x1 x3 (Zbe (Zq x0 x1 x3))) then false else (bif tb (Zih x3 (Zbe (Zq x0 x1 x3))) then true else false))))) else false) else false))
theorem Ztq (x0 x1 : Int) (x2 : Bool) (x3 : List Zh) : Zhc x0 x1 x3 = true → segG (runC E0 (cl E0) S10_5) [0, 1, 2] [6] [] 0 ([(V.d (.int .i64 x0)), (V.d (.int .i64 x1)), (V.d (slD Zd true 3 x2 x3))], []) = some (.ret, ([(V.d (.bool (Zk1 x0 x1)))], [])) := by
 unfold Zhc Zk1
 cases h1 : tb (Zim x0 x1)
 ·cases h2 : tb (Zhj x0 x1)
  ·exact fun g0 => Z2 [.c (Zi6 x0 x1 (tbE h1)), .c (Zh7 x0 x1), .b (notF (tbE h2)), .c (Zm9), .k true, .k false] (by kernel_rfl)
  ·cases h3 : tb (Zd6 x0 x1 ([] : List Int) x0 x1 x0 x3 (.h0 ⟨0, [0, 0, 0, 0, 0, 0, 0, 0, 0, 0, 0, 0, 0, 0, 0, 0], 0, 0, 0, 0⟩ : Zs))
   ·exact ZN
   ·cases h4 : tb (Zcv (Zq x0 x1 x3))
    ·cases h5 : tb (Zeb (Zq x0 x1 x3))
     ·cases h6 : tb (Zf9 (Zq x0 x1 x3))
      ·cases h7 : tb (Zf7 x0 x1 x0 x1 x3 (Zbe (Zq x0 x1 x3)))
       ·cases h8 : tb (Zih x3 (Zbe (Zq x0 x1 x3)))
        ·exact ZN
        ·exact ZN
       ·exact fun g0 => Z2 [.c (Zi6 x0 x1 (tbE h1)), .c (Zh7 x0 x1), .b (notT (tbE h2)), .c (Zge x0 x1 [0, 0, 0, 0, 0, 0, 0, 0, 0, 0, 0, 0, 0, 0, 0, 0] 0 0 false), .k false, .k false, .k false, .c (Ziu x0 x1), .l (Zsw x0 x1 [0, 0, 0, 0, 0, 0, 0, 0, 0, 0, 0, 0, 0, 0, 0, 0] 0 0 ([] : List Int) false 0 0 false x0 x1 false false x0 x2 x3 true 0 (.h0 ⟨0, [0, 0, 0, 0, 0, 0, 0, 0, 0, 0, 0, 0, 0, 0, 0, 0], 0, 0, 0, 0⟩ : Zs) (tbE h3) (tbE h4) (tbE h5) (tbE h6) (tbE h7))] (by kernel_rfl)
      ·cases h7 : tb (Zd3 x0 x0 x3 (Zw (Zq x0 x1 x3)))
       ·cases h8 : tb (Zf4 x0 x1 x0 x1 x3 (Zw (Zq x0 x1 x3)))
        ·cases h9 : tb (Zig x3 (Zw (Zq x0 x1 x3)))
         ·exact ZN
         ·exact ZN
        ·exact fun g0 => Z2 [.c (Zi6 x0 x1 (tbE h1)), .c (Zh7 x0 x1), .b (notT (tbE h2)), .c (Zge x0 x1 [0, 0, 0, 0, 0, 0, 0, 0, 0, 0, 0, 0, 0, 0, 0, 0] 0 0 false), .k false, .k false, .k false, .c (Ziu x0 x1), .l (Zsv x0 x1 [0, 0, 0, 0, 0, 0, 0, 0, 0, 0, 0, 0, 0, 0, 0, 0] 0 0 ([] : List Int) false 0 0 false x0 x1 false false x0 x2 x3 true 0 (.h0 ⟨0, [0, 0, 0, 0, 0, 0, 0, 0, 0, 0, 0, 0, 0, 0, 0, 0], 0, 0, 0, 0⟩ : Zs) (tbE h3) (tbE h4) (tbE h5) (tbE h6) (tbE h7) (tbE h8))] (by kernel_rfl)
       ·exact fun g0 => Z2 [.c (Zi6 x0 x1 (tbE h1)), .c (Zh7 x0 x1), .b (notT (tbE h2)), .c (Zge x0 x1 [0, 0, 0, 0, 0, 0, 0, 0, 0, 0, 0, 0, 0, 0, 0, 0] 0 0 false), .k false, .k false, .k false, .c (Ziu x0 x1), .l (Zsd x0 x1 [0, 0, 0, 0, 0, 0, 0, 0, 0, 0, 0, 0, 0, 0, 0, 0] 0 0 ([] : List Int) false 0 0 false x0 x1 false false x0 x2 x3 true 0 (.h0 ⟨0, [0, 0, 0, 0, 0, 0, 0, 0, 0, 0, 0, 0, 0, 0, 0, 0], 0, 0, 0, 0⟩ : Zs) (tbE h3) (tbE h4) (tbE h5) (tbE h6) (tbE h7))] (by kernel_rfl)
     ·cases h6 : tb (Zf8 x0 x1 ([] : List Int) x0 x1 x3 (Zbg (Zq x0 x1 x3)))
      ·cases h7 : tb (Zif x3 (Zbg (Zq x0 x1 x3)))
       ·exact ZN
       ·exact ZN
      ·exact fun g0 => Z2 [.c (Zi6 x0 x1 (tbE h1)), .c (Zh7 x0 x1), .b (notT (tbE h2)), .c (Zge x0 x1 [0, 0, 0, 0, 0, 0, 0, 0, 0, 0, 0, 0, 0, 0, 0, 0] 0 0 false), .k false, .k false, .k false, .c (Ziu x0 x1), .l (Zss x0 x1 [0, 0, 0, 0, 0, 0, 0, 0, 0, 0, 0, 0, 0, 0, 0, 0] 0 0 ([] : List Int) false 0 0 false x0 x1 false false x0 x2 x3 true 0 (.h0 ⟨0, [0, 0, 0, 0, 0, 0, 0, 0, 0, 0, 0, 0, 0, 0, 0, 0], 0, 0, 0, 0⟩ : Zs) (tbE h3) (tbE h4) (tbE h5) (tbE h6))] (by kernel_rfl)
    ·cases h5 : tb (Zd4 x0 x0 x3 (Zx (Zq x0 x1 x3)))
     ·cases h6 : tb (Zf6 x0 x1 ([] : List Int) x0 x1 x3 (Zx (Zq x0 x1 x3)))
      ·cases h7 : tb (Zie x3 (Zx (Zq x0 x1 x3)))
       ·exact ZN
       ·exact ZN
      ·exact fun g0 => Z2 [.c (Zi6 x0 x1 (tbE h1)), .c (Zh7 x0 x1), .b (notT (tbE h2)), .c (Zge x0 x1 [0, 0, 0, 0, 0, 0, 0, 0, 0, 0, 0, 0, 0, 0, 0, 0] 0 0 false), .k false, .k false, .k false, .c (Ziu x0 x1), .l (Zsn x0 x1 [0, 0, 0, 0, 0, 0, 0, 0, 0, 0, 0, 0, 0, 0, 0, 0] 0 0 ([] : List Int) false 0 0 false x0 x1 false false x0 x2 x3 true 0 (.h0 ⟨0, [0, 0, 0, 0, 0, 0, 0, 0, 0, 0, 0, 0, 0, 0, 0, 0], 0, 0, 0, 0⟩ : Zs) (tbE h3) (tbE h4) (tbE h5) (tbE h6))] (by kernel_rfl)
     ·exact fun g0 => Z2 [.c (Zi6 x0 x1 (tbE h1)), .c (Zh7 x0 x1), .b (notT (tbE h2)), .c (Zge x0 x1 [0, 0, 0, 0, 0, 0, 0, 0, 0, 0, 0, 0, 0, 0, 0, 0] 0 0 false), .k false, .k false, .k false, .c (Ziu x0 x1), .l (Zsa x0 x1 [0, 0, 0, 0, 0, 0, 0, 0, 0, 0, 0, 0, 0, 0, 0, 0] 0 0 ([] : List Int) false 0 0 false x0 x1 false false x0 x2 x3 true 0 (.h0 ⟨0, [0, 0, 0, 0, 0, 0, 0, 0, 0, 0, 0, 0, 0, 0, 0, 0], 0, 0, 0, 0⟩ : Zs) (tbE h3) (tbE h4) (tbE h5))] (by kernel_rfl)
 ·cases h2 : tb (Zhj x0 x1)
  ·exact fun g0 => Z2 [.c (Zsy x0 x1 (tbE h1)), .c (Zh7 x0 x1), .b (notF (tbE h2)), .c (Zm9), .k true, .k true] (by kernel_rfl)
  ·exact fun g0 => Z2 [.c (Zsy x0 x1 (tbE h1)), .c (Zh7 x0 x1), .b (notT (tbE h2)), .c (Zpp), .k true] (by kernel_rfl)
theorem Ztx (x0 x1 : Int) (x2 : Bool) (x3 : List Zh) : Zhc x0 x1 x3 = false → Zjn x0 x1 x3 = true → segG (runC E0 (cl E0) S10_5) [0, 1, 2] [6] [] 0 ([(V.d (.int .i64 x0)), (V.d (.int .i64 x1)), (V.d (slD Zd true 3 x2 x3))], []) = some (.normal, ([], [])) := by
 unfold Zhc Zjn
 cases h1 : tb (Zim x0 x1)
 ·cases h2 : tb (Zhj x0 x1)
  ·intro g0 g1
   exact absurd g0 tf
  ·cases h3 : tb (Zd6 x0 x1 ([] : List Int) x0 x1 x0 x3 (.h0 ⟨0, [0, 0, 0, 0, 0, 0, 0, 0, 0, 0, 0, 0, 0, 0, 0, 0], 0, 0, 0, 0⟩ : Zs))
   ·intro g0 g1
    exact absurd g1 ft
   ·cases h4 : tb (Zcv (Zq x0 x1 x3))
    ·cases h5 : tb (Zeb (Zq x0 x1 x3))
     ·cases h6 : tb (Zf9 (Zq x0 x1 x3))
      ·cases h7 : tb (Zf7 x0 x1 x0 x1 x3 (Zbe (Zq x0 x1 x3)))
       ·cases h8 : tb (Zih x3 (Zbe (Zq x0 x1 x3)))
        ·intro g0 g1
         exact absurd g1 ft
        ·intro g0 g1
         exact Z2 [.c (Zi6 x0 x1 (tbE h1)), .c (Zh7 x0 x1), .b (notT (tbE h2)), .c (Zge x0 x1 [0, 0, 0, 0, 0, 0, 0, 0, 0, 0, 0, 0, 0, 0, 0, 0] 0 0 false), .k false, .k false, .k false, .c (Ziu x0 x1), .l (Zsr x0 x1 [0, 0, 0, 0, 0, 0, 0, 0, 0, 0, 0, 0, 0, 0, 0, 0] 0 0 ([] : List Int) false 0 0 false x0 x1 false false x0 x2 x3 true 0 (.h0 ⟨0, [0, 0, 0, 0, 0, 0, 0, 0, 0, 0, 0, 0, 0, 0, 0, 0], 0, 0, 0, 0⟩ : Zs) (tbE h3) (tbE h4) (tbE h5) (tbE h6) (tbE h7) (tbE h8))] (by kernel_rfl)
       ·intro g0 g1
        exact absurd g0 tf
      ·cases h7 : tb (Zd3 x0 x0 x3 (Zw (Zq x0 x1 x3)))
       ·cases h8 : tb (Zf4 x0 x1 x0 x1 x3 (Zw (Zq x0 x1 x3)))
        ·cases h9 : tb (Zig x3 (Zw (Zq x0 x1 x3)))
         ·intro g0 g1
          exact absurd g1 ft
         ·intro g0 g1
          exact Z2 [.c (Zi6 x0 x1 (tbE h1)), .c (Zh7 x0 x1), .b (notT (tbE h2)), .c (Zge x0 x1 [0, 0, 0, 0, 0, 0, 0, 0, 0, 0, 0, 0, 0, 0, 0, 0] 0 0 false), .k false, .k false, .k false, .c (Ziu x0 x1), .l (Zr9 x0 x1 [0, 0, 0, 0, 0, 0, 0, 0, 0, 0, 0, 0, 0, 0, 0, 0] 0 0 ([] : List Int) false 0 0 false x0 x1 false false x0 x2 x3 true 0 (.h0 ⟨0, [0, 0, 0, 0, 0, 0, 0, 0, 0, 0, 0, 0, 0, 0, 0, 0], 0, 0, 0, 0⟩ : Zs) (tbE h3) (tbE h4) (tbE h5) (tbE h6) (tbE h7) (tbE h8) (tbE h9))] (by kernel_rfl)
        ·intro g0 g1
         exact absurd g0 tf
       ·intro g0 g1
        exact absurd g0 tf
     ·cases h6 : tb (Zf8 x0 x1 ([] : List Int) x0 x1 x3 (Zbg (Zq x0 x1 x3)))
      ·cases h7 : tb (Zif x3 (Zbg (Zq x0 x1 x3)))
       ·intro g0 g1
        exact absurd g1 ft
       ·intro g0 g1
        exact Z2 [.c (Zi6 x0 x1 (tbE h1)), .c (Zh7 x0 x1), .b (notT (tbE h2)), .c (Zge x0 x1 [0, 0, 0, 0, 0, 0, 0, 0, 0, 0, 0, 0, 0, 0, 0, 0] 0 0 false), .k false, .k false, .k false, .c (Ziu x0 x1), .l (Zsp x0 x1 [0, 0, 0, 0, 0, 0, 0, 0, 0, 0, 0, 0, 0, 0, 0, 0] 0 0 ([] : List Int) false 0 0 false x0 x1 false false x0 x2 x3 true 0 (.h0 ⟨0, [0, 0, 0, 0, 0, 0, 0, 0, 0, 0, 0, 0, 0, 0, 0, 0], 0, 0, 0, 0⟩ : Zs) (tbE h3) (tbE h4) (tbE h5) (tbE h6) (tbE h7))] (by kernel_rfl)
      ·intro g0 g1
       exact absurd g0 tf
    ·cases h5 : tb (Zd4 x0 x0 x3 (Zx (Zq x0 x1 x3)))
     ·cases h6 : tb (Zf6 x0 x1 ([] : List Int) x0 x1 x3 (Zx (Zq x0 x1 x3)))
      ·cases h7 : tb (Zie x3 (Zx (Zq x0 x1 x3)))
       ·intro g0 g1
        exact absurd g1 ft
       ·intro g0 g1
        exact Z2 [.c (Zi6 x0 x1 (tbE h1)), .c (Zh7 x0 x1), .b (notT (tbE h2)), .c (Zge x0 x1 [0, 0, 0, 0, 0, 0, 0, 0, 0, 0, 0, 0, 0, 0, 0, 0] 0 0 false), .k false, .k false, .k false, .c (Ziu x0 x1), .l (Zr8 x0 x1 [0, 0, 0, 0, 0, 0, 0, 0, 0, 0, 0, 0, 0, 0, 0, 0] 0 0 ([] : List Int) false 0 0 false x0 x1 false false x0 x2 x3 true 0 (.h0 ⟨0, [0, 0, 0, 0, 0, 0, 0, 0, 0, 0, 0, 0, 0, 0, 0, 0], 0, 0, 0, 0⟩ : Zs) (tbE h3) (tbE h4) (tbE h5) (tbE h6) (tbE h7))] (by kernel_rfl)
      ·intro g0 g1
       exact absurd g0 tf
     ·intro g0 g1
      exact absurd g0 tf
 ·cases h2 : tb (Zhj x0 x1)
  ·intro g0 g1
   exact absurd g0 tf
  ·intro g0 g1
   exact absurd g0 tf
theorem Zts  : segG (runC E0 (cl E0) S10_6) [21, 22] [] [21, 22] 0 ([(V.d .nilp), (V.d .nilp)], []) = some (.normal, ([(V.d .nilp), (V.d .nilp)], [])) := by
 exact Z2 [.c (Zua)] (by kernel_rfl)
theorem Ztt  : segG (runC E0 (cl E0) S10_7) [21, 22] [] [21, 22, 23, 24] 0 ([(V.d .nilp), (V.d .nilp)], []) = some (.normal, ([(V.d .nilp), (V.d .nilp), (V.d (.bool false)), (V.d (.int .i64 1))], [])) := by
 exact Z2 [.c (Ztj 0)] (by kernel_rfl)
def Zk2  : Bool := (bif tb ((((([] : List Int).length : Nat) : Int) : Int) == 0) then true else false)
theorem Ztm  : segG (runC E0 (cl E0) S10_8) [21, 22, 23, 24] [] [6] 0 ([(V.d .nilp), (V.d .nilp), (V.d (.bool false)), (V.d (.int .i64 1))], []) = some (.normal, ([(V.d (.bool Zk2))], [])) := by
 unfold Zk2
 cases h1 : tb ((((([] : List Int).length : Nat) : Int) : Int) == 0)
 ·exact Z2 [.c (Zm9), .k true, .c (Zpi 0), .k true, .c (Zpl), .b (tbE h1)] (by kernel_rfl)
 ·exact Z2 [.c (Zm9), .k true, .c (Zpi 0), .k true, .c (Zpl), .b (tbE h1), .c (Zt9), .k true, .c (Zpp), .k true, .k true, .k true, .c (Zut)] (by kernel_rfl)
def Zkg (x0 x1 : Int) (x3 : List Zh) : Bool := (bif tb (Zgt x3) then true else (bif tb (Zhc x0 x1 x3) then true else (bif tb (Zjn x0 x1 x3) then true else false)))
def Zjz (x0 x1 : Int) (x3 : List Zh) : Bool := (bif tb (Zgt x3) then true else (bif tb (Zhc x0 x1 x3) then (Zk1 x0 x1) else Zk2))
theorem Zvq (x0 x1 : Int) (x2 : Bool) (x3 : List Zh) : Zkg x0 x1 x3 = true → cl E0 10 [(V.d (.int .i64 x0)), (V.d (.int .i64 x1)), (V.d (slD Zd true 3 x2 x3))] [] = some ([(V.d (.bool (Zjz x0 x1 x3)))], []) := by
 unfold Zkg Zjz
 cases h1 : tb (Zgt x3)
 ·cases h2 : tb (Zhc x0 x1 x3)
  ·cases h3 : tb (Zjn x0 x1 x3)
   ·exact ZN
   ·exact fun g0 => w10 [.s (Zo4 x0 x1 x2 x3 (tbE h1)), .s (Ztx x0 x1 x2 x3 (tbE h2) (tbE h3)), .s (Zts), .s (Ztt), .s (Ztm)] (by kernel_rfl)
  ·exact fun g0 => w10 [.s (Zo4 x0 x1 x2 x3 (tbE h1)), .s (Ztq x0 x1 x2 x3 (tbE h2))] (by kernel_rfl)
 ·exact fun g0 => w10 [.s (Ztf x0 x1 x2 x3 (tbE h1))] (by kernel_rfl)
end Go.Proofs.Ytdlhhoejnhjbhaa.Den

namespace Go.Proofs.Ytdlhhoejnhjbhaa.Den
open Go
set_option linter.unusedVariables false
set_option linter.unusedSimpArgs false
inductive CK where
  | b
  | i (k : IntKind)
  | s
  | l (e : TypeId)
def flatK (P : Program) : Nat → TypeId → Option (List CK)
  | 0, _ => none
  | n + 1, t => match P.underlying t with
    | some .bool => some [.b]
    | some (.int k) => some [.i k]
    | some .string => some [.s]
    | some (.slice e) => some [.l e]
    | some (.struct fs) => (fs.toList.mapM fun f => flatK P n f.type).map List.flatten
    | some (.array m e) => (flatK P n e).map fun l => (List.replicate m l).flatten
    | _ => none
def WfI (k : IntKind) (z : Int) : Prop := (Lit.int k z).wf = true
def CellK (P : Program) : CK → D → Prop
  | .b, d => ∃ b, d = .bool b
  | .i k, d => ∃ z, d = .int k z ∧ WfI k z
  | .s, d => ∃ s, d = .str s ∧ s.size ≤ 140737488351232
  | .l e, d => d = .nils ∨ ∃ rows, d = .rs (isFlat P e) (P.cellsOf e) rows false ∧ rows.length ≤ maxLen ∧ rows.length * P.bytesOf e ≤ 140737488351232 ∧ ∃ n, ∀ r, r ∈ rows → Ty P n e r
def CellsK (P : Program) : List CK → List D → Prop
  | [], ds => ds = []
  | k :: ks, ds => ∃ d r, ds = d :: r ∧ CellK P k d ∧ CellsK P ks r
theorem CellsK.append {P : Program} : ∀ {a b : List CK} {x y : List D}, CellsK P a x → CellsK P b y → CellsK P (a ++ b) (x ++ y)
  | [], _, _, _, h, h' => by simp only [CellsK] at h; subst h; simpa using h'
  | k :: a, b, x, y, h, h' => by
    simp only [CellsK] at h
    obtain ⟨d, r, rfl, h1, h2⟩ := h
    simp only [List.cons_append, CellsK]
    exact ⟨d, _, rfl, h1, CellsK.append h2 h'⟩
theorem Z0f {P : Program} {n : Nat} (ih : ∀ t ks ds, flatK P n t = some ks → Ty P n t ds → CellsK P ks ds) : ∀ (fs : List Field) (l : List (List CK)) (ds : List D), fs.mapM (fun f => flatK P n f.type) = some l → TyFs (Ty P n) fs ds → CellsK P l.flatten ds
  | [], l, ds, h, ht => by
    simp at h; subst h
    obtain rfl := Z4m ht
    simp [CellsK]
  | f :: fs, l, ds, h, ht => by
    rw [List.mapM_cons] at h
    simp only [Option.bind_eq_bind, Option.bind_eq_some_iff, Option.pure_def, Option.some.injEq] at h
    obtain ⟨a, h1, b, h2, rfl⟩ := h
    obtain ⟨x, y, rfl, g1, g2⟩ := Zyz ht
    simp only [List.flatten_cons]
    exact (ih _ _ _ h1 g1).append (Z0f ih fs b y h2 g2)
theorem Zqa {P : Program} : ∀ (n : Nat) (t : TypeId) (ks : List CK) (ds : List D), flatK P n t = some ks → Ty P n t ds → CellsK P ks ds
  | 0, _, _, _, h, _ => by simp [flatK] at h
  | n + 1, t, ks, ds, h, ht => by
    simp only [flatK] at h
    cases hu : P.underlying t with
    | none => simp [hu] at h
    | some u =>
      rw [hu] at h
      cases u with
      | bool => cases h; obtain ⟨b, rfl⟩ := Z5l ht hu; exact ⟨_, [], rfl, ⟨b, rfl⟩, rfl⟩
      | int k => cases h; obtain ⟨z, rfl, hz⟩ := ty_int ht hu; exact ⟨_, [], rfl, ⟨z, rfl, hz⟩, rfl⟩
      | string => cases h; obtain ⟨z, rfl, hz⟩ := ty_str ht hu; exact ⟨_, [], rfl, ⟨z, rfl, hz⟩, rfl⟩
      | slice e =>
        cases h
        rcases Z41 ht hu with rfl | ⟨rows, rfl, h1, h1b, h2⟩
        · exact ⟨_, [], rfl, .inl rfl, rfl⟩
        · exact ⟨_, [], rfl, .inr ⟨rows, rfl, h1, h1b, n, h2⟩, rfl⟩
      | struct fs =>
        obtain ⟨l, hl, rfl⟩ := Option.map_eq_some_iff.1 h
        exact Z0f (fun t ks ds => Zqa n t ks ds) fs.toList l ds hl (Z3y ht hu)
      | array m e =>
        obtain ⟨l, hl, rfl⟩ := Option.map_eq_some_iff.1 h
        obtain ⟨rows, hr, rfl, hall⟩ := ty_arr ht hu
        have key : ∀ (rows : List (List D)), (∀ r, r ∈ rows → Ty P n e r) → CellsK P (List.replicate rows.length l).flatten rows.flatten := by
          intro rows
          induction rows with
          | nil => intro _; simp [CellsK]
          | cons r rows ih =>
            intro hall
            simp only [List.length_cons, List.replicate_succ, List.flatten_cons]
            exact (Zqa n e l r hl (hall r (by simp))).append (ih fun x hx => hall x (by simp [hx]))
        rw [← hr]; exact key rows hall
      | _ => simp at h
theorem Z19 {α : Type} {enc : α → List D} {wf : α → Prop} {T : List D → Prop} (h : ∀ r, T r → ∃ x, r = enc x ∧ wf x) : ∀ rows : List (List D), (∀ r, r ∈ rows → T r) → ∃ l : List α, rows = l.map enc ∧ ∀ x, x ∈ l → wf x
  | [], _ => ⟨[], rfl, fun _ h => by simp at h⟩
  | r :: rows, hr => by
    obtain ⟨x, rfl, hx⟩ := h r (hr r (by simp))
    obtain ⟨l, rfl, hl⟩ := Z19 h rows fun y hy => hr y (by simp [hy])
    refine ⟨x :: l, rfl, fun y hy => ?_⟩
    rcases List.mem_cons.1 hy with rfl | hy
    · exact hx
    · exact hl y hy
theorem Zzl {T T' : TypeId → List D → Prop} (h : ∀ t ds, T t ds → T' t ds) : ∀ (fs : List Field) (ds : List D), TyFs T fs ds → TyFs T' fs ds
  | [], ds, ht => ht
  | f :: fs, ds, ht => by
    obtain ⟨x, y, rfl, g1, g2⟩ := Zyz ht
    simp only [TyFs]
    exact ⟨x, y, rfl, h _ _ g1, Zzl h fs y g2⟩
theorem Zwo {P : Program} : ∀ (n : Nat) (t : TypeId) (ds : List D), Ty P n t ds → Ty P (n + 1) t ds
  | 0, _, _, h => by simp [Ty] at h
  | n + 1, t, ds, h => by
    rw [Ty] at h ⊢
    cases hu : P.underlying t with
    | none => simp [hu] at h
    | some u =>
      rw [hu] at h
      cases u with
      | slice e =>
        rcases h with rfl | ⟨rows, rfl, h1, h1b, h2⟩
        · exact .inl rfl
        · exact .inr ⟨rows, rfl, h1, h1b, fun r hr => Zwo n _ _ (h2 r hr)⟩
      | struct fs => exact Zzl (fun t ds => Zwo n t ds) _ _ h
      | array m e =>
        obtain ⟨rows, h1, rfl, h2⟩ := h
        exact ⟨rows, h1, rfl, fun r hr => Zwo n _ _ (h2 r hr)⟩
      | _ => exact h
theorem Zz2 {α β : Type} {f g : α → Option β} (h : ∀ a b, f a = some b → g a = some b) : ∀ (l : List α) (r : List β), l.mapM f = some r → l.mapM g = some r
  | [], r, hr => by simpa using hr
  | a :: l, r, hr => by
    rw [List.mapM_cons] at hr ⊢
    simp only [Option.bind_eq_bind, Option.bind_eq_some_iff, Option.pure_def, Option.some.injEq] at hr ⊢
    obtain ⟨x, h1, y, h2, rfl⟩ := hr
    exact ⟨x, h a x h1, y, Zz2 h l y h2, rfl⟩
theorem Zvc {P : Program} : ∀ (n : Nat) (t : TypeId) (ks : List CK), flatK P n t = some ks → flatK P (n + 1) t = some ks
  | 0, _, _, h => by simp [flatK] at h
  | n + 1, t, ks, h => by
    rw [flatK] at h ⊢
    cases hu : P.underlying t with
    | none => simp [hu] at h
    | some u =>
      rw [hu] at h
      cases u with
      | struct fs =>
        obtain ⟨l, hl, rfl⟩ := Option.map_eq_some_iff.1 h
        simp only [Zz2 (fun f b hb => Zvc n _ _ hb) _ _ hl, Option.map_some]
      | array m e =>
        obtain ⟨l, hl, rfl⟩ := Option.map_eq_some_iff.1 h
        simp only [Zvc n _ _ hl, Option.map_some]
      | _ => exact h
theorem Z26 {P : Program} {k : Nat} {t : TypeId} {ks : List CK} {ds : List D} (h : flatK P k t = some ks) {n : Nat} (ht : Ty P n t ds) : CellsK P ks ds := by
  have h1 : ∀ j, flatK P (k + j) t = some ks := fun j => by
    induction j with
    | zero => exact h
    | succ j ih => exact Zvc _ _ _ ih
  have h2 : ∀ j, Ty P (n + j) t ds := fun j => by
    induction j with
    | zero => exact ht
    | succ j ih => exact Zwo _ _ _ ih
  refine Zqa (k + n) t ks ds (h1 n) ?_
  rw [Nat.add_comm]; exact h2 k
end Go.Proofs.Ytdlhhoejnhjbhaa.Den

namespace Go.Proofs.Ytdlhhoejnhjbhaa.Den
open Go
set_option linter.unusedVariables false
set_option linter.unusedSimpArgs false
@[simp] theorem tb_eq (b : Bool) : tb b = b := rfl
theorem wrap64 {x : Int} (h1 : -9223372036854775808 ≤ x) (h2 : x ≤ 9223372036854775807) : IntKind.i64.wrap x = x := by
  unfold IntKind.wrap
  simp [IntKind.bits, IntKind.signed]
  omega
theorem wi_eq {x : Int} (h1 : -9223372036854775808 ≤ x) (h2 : x ≤ 9223372036854775807) : wi x = x := wrap64 h1 h2
theorem mxI_eq (a b : Int) : mxI a b = max a b := by unfold mxI; split <;> omega
theorem mnI_eq (a b : Int) : mnI a b = min a b := by unfold mnI; split <;> omega
theorem Z6j {n : Nat} {i : Int} : inb n i = true ↔ 0 ≤ i ∧ i < n := by simp [inb]
theorem inb_of {n : Nat} {i : Int} (h1 : 0 ≤ i) (h2 : i < n) : inb n i = true := Z6j.2 ⟨h1, h2⟩
theorem Z0q {S : Type} {sel : S → Bool} {nx : S → S} (J : S → Prop) (μ : S → Nat) {s0 : S} (h0 : J s0) (hb : μ s0 < 1152921504606846976) (hn : ∀ s, J s → sel s = true → J (nx s) ∧ μ (nx s) < μ s) :
    ∃ s1, itS sel nx bound s0 = some s1 ∧ J s1 ∧ sel s1 = false := Z14 J μ hn bound s0 h0 hb
theorem gt_mem {α : Type} [Inhabited α] {l : List α} {i : Int} (h1 : 0 ≤ i) (h2 : i < l.length) : gt l i ∈ l := by
  have h : i.toNat < l.length := by omega
  have : gt l i = l[i.toNat] := by simp [gt, List.getD, h]
  rw [this]; exact List.getElem_mem h
theorem gt_nat {α : Type} [Inhabited α] {l : List α} {k : Nat} (h : k < l.length) : gt l (k : Int) = l[k] := by simp [gt, List.getD, h]
theorem Zmh {α : Type} [Inhabited α] {l : List α} {i : Int} (h1 : 0 ≤ i) (h2 : i.toNat < l.length) : gt l i = l[i.toNat] := by simp [gt, List.getD, h2]
theorem Zxj {S α : Type} [Inhabited α] {sel : S → Bool} {nx : S → S} {s0 : S} (l : List α) (ix : S → Int) (p : α → Bool) (J : S → Prop) (hl : l.length < 1152921504606846976) (h0 : ix s0 = 0) (hJ0 : J s0)
    (hnx : ∀ s, J s → 0 ≤ ix s → ix s < l.length → sel s = true → ix (nx s) = ix s + 1 ∧ J (nx s)) (hsel : ∀ s, J s → 0 ≤ ix s → ix s ≤ l.length → sel s = (decide (ix s < l.length) && p (gt l (ix s)))) :
    ∃ s1, itS sel nx bound s0 = some s1 ∧ J s1 ∧ 0 ≤ ix s1 ∧ ((ix s1 = l.length ∧ l.all p = true) ∨ (ix s1 < l.length ∧ p (gt l (ix s1)) = false ∧ l.all p = false)) := by
  obtain ⟨s1, e, ⟨hJ, a1, a2, a3⟩, hs⟩ := Z0q (sel := sel) (nx := nx) (fun s => J s ∧ 0 ≤ ix s ∧ ix s ≤ l.length ∧ ∀ j : Nat, (j : Int) < ix s → p (gt l j) = true) (fun s => (l.length - ix s).toNat) (s0 := s0)
    ⟨hJ0, by omega, by omega, fun j hj => by omega⟩ (by omega) (fun s ⟨hJ, b1, b2, b3⟩ hs => by
      have h1 := hsel s hJ b1 b2
      rw [hs] at h1
      have h2 := (Bool.and_eq_true _ _).mp h1.symm
      have h3 : ix s < l.length := by simpa using h2.1
      obtain ⟨h4, h5⟩ := hnx s hJ b1 h3 hs
      refine ⟨⟨h5, by omega, by omega, fun j hj => ?_⟩, by omega⟩
      by_cases hjj : (j : Int) < ix s
      · exact b3 j hjj
      · have : (j : Int) = ix s := by omega
        rw [this]; exact h2.2)
  refine ⟨s1, e, hJ, a1, ?_⟩
  rcases Int.lt_or_eq_of_le a2 with h | h
  · have h1 := hsel s1 hJ a1 a2
    rw [hs] at h1
    have hp : p (gt l (ix s1)) = false := by simpa [h] using h1.symm
    refine .inr ⟨h, hp, ?_⟩
    rw [List.all_eq_false]
    exact ⟨_, gt_mem a1 h, by simp [hp]⟩
  · refine .inl ⟨h, ?_⟩
    rw [List.all_eq_true]
    intro x hx
    obtain ⟨j, hj, rfl⟩ := List.getElem_of_mem hx
    have := a3 j (by omega)
    rwa [gt_nat hj] at this
theorem Zxl {S : Type} {sel : S → Bool} {nx : S → S} {s0 : S} (n : Int) (ix : S → Int) (J : S → Prop) (hn : n < 1152921504606846976) (h0 : J s0) (h1 : 0 ≤ ix s0) (h2 : ix s0 ≤ n)
    (hr : ∀ s, J s → 0 ≤ ix s → ix s < n → sel s = true ∧ J (nx s) ∧ ix (nx s) = ix s + 1) (he : ∀ s, J s → ix s = n → sel s = false) : ∃ s1, itS sel nx bound s0 = some s1 ∧ J s1 ∧ ix s1 = n := by
  obtain ⟨s1, e, ⟨hJ, a1, a2⟩, hs⟩ := Z0q (sel := sel) (nx := nx) (fun s => J s ∧ 0 ≤ ix s ∧ ix s ≤ n) (fun s => (n - ix s).toNat) (s0 := s0) ⟨h0, h1, h2⟩ (by omega) (fun s ⟨hJ, b1, b2⟩ hs => by
    by_cases h : ix s = n
    · rw [he s hJ h] at hs; cases hs
    · obtain ⟨_, g1, g2⟩ := hr s hJ b1 (by omega)
      exact ⟨⟨g1, by omega, by omega⟩, by omega⟩)
  refine ⟨s1, e, hJ, ?_⟩
  by_cases h : ix s1 = n
  · exact h
  · rw [(hr s1 hJ a1 (by omega)).1] at hs; cases hs
end Go.Proofs.Ytdlhhoejnhjbhaa.Den

namespace Go.Proofs.Ytdlhhoejnhjbhaa.Den
open Go
set_option linter.unusedVariables false
set_option linter.unusedSimpArgs false
theorem Zun {S : Type} {sel : S → Bool} {nx : S → S} (st : Nat → S) (n : Nat) (hb : n < 1152921504606846976) (hn : ∀ k, k < n → sel (st k) = true ∧ nx (st k) = st (k + 1)) (he : sel (st n) = false) : itS sel nx bound (st 0) = some (st n) := by
  have key : ∀ (d N : Nat), d ≤ n → d < N → itS sel nx N (st (n - d)) = some (st n) := by
    intro d
    induction d with
    | zero =>
      intro N _ hN
      obtain ⟨N, rfl⟩ : ∃ M, N = M + 1 := ⟨N - 1, by omega⟩
      simp only [Nat.sub_zero, itS, he]
    | succ d ih =>
      intro N h1 hN
      obtain ⟨N, rfl⟩ : ∃ M, N = M + 1 := ⟨N - 1, by omega⟩
      obtain ⟨g1, g2⟩ := hn (n - (d + 1)) (by omega)
      simp only [itS, g1, g2]
      rw [show n - (d + 1) + 1 = n - d by omega]
      exact ih N (by omega) (by omega)
  have := key n bound (Nat.le_refl _) (by unfold bound; omega)
  rwa [Nat.sub_self] at this
theorem gt_zip {l k : List Int} (h : l.length = k.length) {i : Int} (h1 : 0 ≤ i) (h2 : i < l.length) : gt (l.zip k) i = (gt l i, gt k i) := by
  rw [Zmh h1 (by rw [List.length_zip]; omega), Zmh h1 (by omega), Zmh h1 (by omega), List.getElem_zip]
theorem Z15 : ∀ {l k : List Int}, l.length = k.length → ((l.zip k).all fun p => p.1 == p.2) = decide (l = k)
  | [], [], _ => by simp
  | x :: l, y :: k, h => by
    rw [List.zip_cons_cons, List.all_cons, Z15 (by simpa using h), Bool.eq_iff_iff]
    simp
  | [], _ :: _, h => by simp at h
  | _ :: _, [], h => by simp at h
theorem Z50 {S : Type} {sel : S → Bool} {nx : S → S} {s0 : S} {l k : List Int} (hlk : l.length = k.length) (ix : S → Int) (hl : l.length < 1152921504606846976) (h0 : ix s0 = 0)
    (hnx : ∀ s, 0 ≤ ix s → ix s < l.length → ix (nx s) = ix s + 1) (hsel : ∀ s, 0 ≤ ix s → ix s ≤ l.length → sel s = (decide (ix s < l.length) && (gt l (ix s) == gt k (ix s)))) :
    ∃ s1, itS sel nx bound s0 = some s1 ∧ 0 ≤ ix s1 ∧ ((ix s1 = l.length ∧ l = k) ∨ (ix s1 < l.length ∧ (gt l (ix s1) == gt k (ix s1)) = false ∧ l ≠ k)) := by
  have hz : (l.zip k).length = l.length := by rw [List.length_zip]; omega
  obtain ⟨s1, e, -, g0, g⟩ := Zxj (sel := sel) (nx := nx) (s0 := s0) (l.zip k) ix (fun p => p.1 == p.2) (fun _ => True) (by omega) h0 trivial
    (fun s _ a1 a2 _ => ⟨hnx s a1 (by omega), trivial⟩)
    (fun s _ a1 a2 => by
      rw [hsel s a1 (by omega), hz]
      by_cases h : ix s < l.length
      · rw [gt_zip hlk a1 h]
      · simp [h])
  rw [Z15 hlk, hz] at g
  refine ⟨s1, e, g0, ?_⟩
  rcases g with ⟨a, b⟩ | ⟨a, b, c⟩
  · exact .inl ⟨a, by simpa using b⟩
  · rw [gt_zip hlk g0 a] at b
    exact .inr ⟨a, b, by simpa using c⟩
theorem Z57 {α : Type} (l : List α) (a b : Nat) : sub l (a : Int) (b : Int) = (l.drop a).take (b - a) := by
  unfold sub; congr 1; omega
theorem Ztz {α : Type} [Inhabited α] {l k : List α} {i : Int} (h : 0 ≤ i) (h2 : i < l.length) : gt (l ++ k) i = gt l i := by
  rw [Zmh h (by rw [List.length_append]; omega), Zmh h (by omega), List.getElem_append_left]
theorem Zok {α : Type} [Inhabited α] {l : List α} {k : Nat} (h : k < l.length) : l.take (k + 1) = l.take k ++ [gt l (k : Int)] := by
  rw [gt_nat h, List.take_succ_eq_append_getElem h]
theorem Z10 {x y : Int} (h1 : 0 ≤ x) : remI .i64 x y = x % y := by
  unfold remI; exact Int.tmod_eq_emod_of_nonneg h1
end Go.Proofs.Ytdlhhoejnhjbhaa.Den

namespace Go.Proofs.Ytdlhhoejnhjbhaa.Den
open Go
set_option linter.unusedVariables false
set_option linter.unusedSimpArgs false
def Srt (l : List Int) : Prop := l.Pairwise (· ≤ ·)
def insI (x : Int) (l : List Int) : List Int := l.takeWhile (fun y => decide (y ≤ x)) ++ x :: l.dropWhile (fun y => decide (y ≤ x))
theorem Zvv (x : Int) (l : List Int) : (insI x l).Perm (x :: l) := by
  unfold insI
  refine List.perm_middle.trans ?_
  rw [List.takeWhile_append_dropWhile]
theorem Ztd (x y : Int) (l : List Int) : insI x (y :: l) = if y ≤ x then y :: insI x l else x :: y :: l := by
  unfold insI
  by_cases h : y ≤ x <;> simp [h]
theorem Z0t (x : Int) : ∀ {l : List Int}, Srt l → Srt (insI x l)
  | [], _ => by simp [insI, Srt]
  | y :: l, h => by
    obtain ⟨h1, h2⟩ := List.pairwise_cons.1 h
    rw [Ztd]
    split
    · rename_i hle
      refine List.pairwise_cons.2 ⟨fun z hz => ?_, Z0t x h2⟩
      have := (Zvv x l).mem_iff.1 hz
      rcases List.mem_cons.1 this with rfl | hz'
      · exact hle
      · exact h1 z hz'
    · rename_i hle
      refine List.pairwise_cons.2 ⟨fun z hz => ?_, h⟩
      rcases List.mem_cons.1 hz with rfl | hz'
      · omega
      · have := h1 z hz'; omega
def isort (l : List Int) : List Int := l.foldl (fun out x => insI x out) []
theorem Z2d (l : List Int) (x : Int) : isort (l ++ [x]) = insI x (isort l) := by simp [isort]
theorem Zvx : ∀ (l acc : List Int), Srt acc → Srt (l.foldl (fun out x => insI x out) acc) ∧ (l.foldl (fun out x => insI x out) acc).Perm (acc ++ l)
  | [], acc, h => ⟨h, by simp⟩
  | x :: l, acc, h => by
    obtain ⟨h1, h2⟩ := Zvx l (insI x acc) (Z0t x h)
    refine ⟨h1, h2.trans ?_⟩
    exact ((Zvv x acc).append_right l).trans (List.perm_middle.symm)
theorem Zzj (l : List Int) : Srt (isort l) := (Zvx l [] List.Pairwise.nil).1
theorem Znh (l : List Int) : (isort l).Perm l := by unfold isort; simpa using (Zvx l [] List.Pairwise.nil).2
theorem Zk4 (l : List Int) : (isort l).length = l.length := (Znh l).length_eq
theorem Z23 (x y : Int) (p : List Int) : insI x (p ++ [y]) = if p.any (fun z => decide (x < z)) then insI x p ++ [y] else if x < y then p ++ [x, y] else p ++ [y, x] := by
  induction p with
  | nil =>
    by_cases h : x < y
    · have : ¬ y ≤ x := by omega
      simp [insI, h, this]
    · have : y ≤ x := by omega
      simp [insI, h, this]
  | cons a p ih =>
    rw [List.cons_append, Ztd, ih, Ztd]
    by_cases h : a ≤ x
    · have : ¬ x < a := by omega
      simp only [h, if_true, List.any_cons, this, decide_false, Bool.false_or]
      split
      · rfl
      · split <;> rfl
    · have : x < a := by omega
      simp [h, this]
theorem Zzu (x : Int) : ∀ {p : List Int}, p.any (fun z => decide (x < z)) = false → insI x p = p ++ [x]
  | [], _ => rfl
  | a :: p, h => by
    simp only [List.any_cons, Bool.or_eq_false_iff, decide_eq_false_iff_not] at h
    rw [Ztd, if_pos (by omega), Zzu x h.2]; rfl
end Go.Proofs.Ytdlhhoejnhjbhaa.Den

namespace Go.Proofs.Ytdlhhoejnhjbhaa.Den
open Go Go.Proofs
set_option maxRecDepth 100000
set_option maxHeartbeats 4000000
set_option linter.unusedVariables false
set_option linter.unusedSimpArgs false
structure Z35 where
 c3 : Int
 deriving Inhabited
structure Z5a where
 c2 : Int
 c4 : Int
 deriving Inhabited
end Go.Proofs.Ytdlhhoejnhjbhaa.Den

namespace Go.Proofs.Ytdlhhoejnhjbhaa.Den
open Go
set_option linter.unusedVariables false
set_option linter.unusedSimpArgs false
def sm (z : Int) : Bool := decide (-1099511627776 ≤ z) && decide (z ≤ 1099511627776)
theorem sm_iff {z : Int} : sm z = true ↔ -1099511627776 ≤ z ∧ z ≤ 1099511627776 := by simp [sm]
end Go.Proofs.Ytdlhhoejnhjbhaa.Den

namespace Go.Proofs.Ytdlhhoejnhjbhaa.Den
open Go
set_option linter.unusedVariables false
set_option linter.unusedSimpArgs false
theorem bigr (z : Int) : Zip z = !sm z := by
  simp only [Zip, tb_eq, sm]
  by_cases h1 : z < -1099511627776
  · have : ¬ (-1099511627776 ≤ z) := by omega
    simp [h1, this]
  · have h2 : -1099511627776 ≤ z := by omega
    by_cases h3 : 1099511627776 < z
    · have : ¬ (z ≤ 1099511627776) := by omega
      simp [h1, h2, h3, this]
    · have : z ≤ 1099511627776 := by omega
      simp [h1, h2, h3, this]
theorem Z5v (l : List Int) (hl : l.length < 1152921504606846976) : Zgh l = true ∧ (decide (0 ≤ Zgb l)) = !(l.all sm) := by
  obtain ⟨s1, e, -, h0, h⟩ := Zxj (sel := Zbt l l.length) (nx := Zer l l.length) (s0 := ⟨0⟩) l (fun s => s.c3) sm (fun _ => True) hl rfl trivial
    (fun s _ h1 h2 _ => ⟨by show wi _ = _; exact wi_eq (by omega) (by omega), trivial⟩)
    (fun s _ h1 h2 => by
      by_cases h : s.c3 < l.length
      · have hi := inb_of h1 h
        simp only [Zbt, h, hi, bigr, tb_eq, decide_true, cond_true, Bool.true_and]
        cases sm (gt l s.c3) <;> rfl
      · simp [Zbt, h])
  have hok : Zf3 l l.length ⟨0⟩ = true := by simp [Zf3, e]
  have hend : Zed l = s1 := by simp [Zed, Zcd, e]
  simp only [Zgh, Zgb, hok, hend, tb_eq, cond_true]
  rcases h with ⟨h1, h2⟩ | ⟨h1, h2, h3⟩
  · simp [Zb8, Zet, h1, h2]
  · have hi := inb_of h0 h1
    simp [Zb8, Zet, h1, h3, hi, h0]
def lst16 (l : List Int) : Bool := decide (l.length ≤ 16) && l.all sm
theorem Z6c (l : List Int) (hl : l.length < 1152921504606846976) : Zle l = true ∧ Zj3 l = lst16 l := by
  obtain ⟨h1, h2⟩ := Z5v l hl
  simp only [Zle, Zj3, Zgy, h1, h2, tb_eq, lst16]
  by_cases h : l.length ≤ 16
  · have : ((l.length : Int) ≤ 16) := by omega
    simp [h, this]
  · have : ¬ ((l.length : Int) ≤ 16) := by omega
    simp [h, this]
theorem Z02 {l : List Int} (h : lst16 l = true) {i : Int} (h1 : 0 ≤ i) (h2 : i < l.length) : -1099511627776 ≤ gt (isort l) i ∧ gt (isort l) i ≤ 1099511627776 := by
  have hm := gt_mem (l := isort l) h1 (by rw [Zk4]; exact h2)
  have := (Znh l).mem_iff.1 hm
  simp only [lst16, Bool.and_eq_true, List.all_eq_true] at h
  exact sm_iff.1 (h.2 _ this)
end Go.Proofs.Ytdlhhoejnhjbhaa.Den

namespace Go.Proofs.Ytdlhhoejnhjbhaa.Den
open Go
set_option linter.unusedVariables false
set_option linter.unusedSimpArgs false
set_option maxRecDepth 100000
theorem Z4b {l : List Int} (h : Srt l) (h0 : 1 ≤ l.length) : ∀ z, z ∈ l → z ≤ gt l ((l.length : Int) - 1) := by
  intro z hz
  obtain ⟨i, hi, rfl⟩ := List.getElem_of_mem hz
  rw [Zmh (by omega) (by omega)]
  rcases Nat.lt_or_ge i (((l.length : Int) - 1).toNat) with h1 | h1
  · exact List.pairwise_iff_getElem.1 h i _ hi (by omega) h1
  · have : i = ((l.length : Int) - 1).toNat := by omega
    subst this; exact Int.le_refl _
theorem Z3u {l : List Int} (h : Srt l) : ∀ z, z ∈ l → gt l 0 ≤ z := by
  intro z hz
  obtain ⟨i, hi, rfl⟩ := List.getElem_of_mem hz
  rw [Zmh (by omega) (by simp; omega)]
  rcases Nat.lt_or_ge 0 i with h1 | h1
  · exact List.pairwise_iff_getElem.1 h _ i (by simp; omega) hi (by simpa using h1)
  · have : i = 0 := by omega
    subst this; exact Int.le_refl _
end Go.Proofs.Ytdlhhoejnhjbhaa.Den

namespace Go.Proofs.Ytdlhhoejnhjbhaa.Den
open Go
set_option linter.unusedVariables false
set_option linter.unusedSimpArgs false
theorem Z5y (z : Int) : Zjj z = sm z := by
  simp only [Zjj, tb_eq, sm]; cases decide (-1099511627776 ≤ z) <;> rfl
theorem All_eq (l : List Int) (hl : l.length < 1152921504606846976) : Zmj l = true ∧ Zlc l = l.all sm := by
  obtain ⟨s1, e, -, h0, h⟩ := Zxj (sel := Zg2 l) (nx := Zka l) (s0 := ⟨0⟩) l (fun s => s.c2) sm (fun _ => True) hl rfl trivial
    (fun s _ h1 h2 _ => ⟨by show wi _ = _; exact wi_eq (by omega) (by omega), trivial⟩)
    (fun s _ h1 h2 => by
      by_cases h : s.c2 < l.length
      · have hi := inb_of h1 h
        simp only [Zg2, h, hi, Z5y, tb_eq, decide_true, cond_true, Bool.true_and]
        cases sm (gt l s.c2) <;> rfl
      · simp [Zg2, h])
  have hok : Zk3 l ⟨0⟩ = true := by simp [Zk3, e]
  have hend : Zgq l ⟨0⟩ = s1 := by simp [Zgq, e]
  simp only [Zmj, Zlc, hok, hend, tb_eq, cond_true]
  rcases h with ⟨h1, h2⟩ | ⟨h1, h2, h3⟩
  · simp [Zid, Zkc, h1, h2]
  · simp [Zid, Zkc, h1, h3, inb_of h0 h1]
end Go.Proofs.Ytdlhhoejnhjbhaa.Den

namespace Go.Proofs.Ytdlhhoejnhjbhaa.Den
open Go
set_option linter.unusedVariables false
set_option linter.unusedSimpArgs false
def lst16r (l : List Int) : Bool := l.all sm && decide (l.length ≤ 16)
theorem Z4y (l : List Int) (hl : l.length < 1152921504606846976) : Zlb l = true ∧ Zh1 l = lst16r l := by
  obtain ⟨h1, h2⟩ := All_eq l hl
  simp only [Zlb, Zh1, h1, h2, tb_eq, lst16r]
  by_cases h : l.length ≤ 16
  · have : ((l.length : Int) ≤ 16) := by omega
    simp [h, this]
  · have : ¬ ((l.length : Int) ≤ 16) := by omega
    simp [h, this]
def insK (x : Int) (p : List Int) : List Int := if p.any (fun z => decide (x < z)) then insI x p else p
theorem Z0v (x : Int) (p : List Int) : (insK x p).length ≤ p.length + 1 := by
  unfold insK
  split
  · rw [(Zvv x p).length_eq]; simp
  · omega
theorem Z2w (x y : Int) (p : List Int) : insK x (p ++ [y]) = if p.any (fun z => decide (x < z)) then insK x p ++ [y] else if x < y then (insK x p ++ [x]) ++ [y] else insK x p ++ [y] := by
  unfold insK
  rw [Z23]
  simp only [List.any_append, List.any_cons, List.any_nil, Bool.or_false]
  cases h : p.any (fun z => decide (x < z)) with
  | true => simp
  | false =>
    by_cases hxy : x < y
    · simp [hxy]
    · simp [hxy]
theorem Z58 {out l : List Int} {i : Nat} (ho : out.length ≤ 1000) (hl : l.length ≤ 1000) (hi : i < l.length) :
    itS (Zg1 out l (i : Int)) (Zi3 out l (i : Int)) bound ⟨true, false, 0, []⟩ = some ⟨out.length == 0, out.any (fun z => decide (gt l (i : Int) < z)), out.length, insK (gt l (i : Int)) out⟩ := by
  generalize hx : gt l (i : Int) = x
  have := Zun (sel := Zg1 out l (i : Int)) (nx := Zi3 out l (i : Int)) (fun k => ⟨k == 0, (out.take k).any (fun z => decide (x < z)), (k : Int), insK x (out.take k)⟩) out.length (by omega) (fun k hk => ?_) ?_
  · simpa [insK] using this
  · have b1 : inb out.length (k : Int) = true := inb_of (by omega) (by omega)
    have b2 : inb l.length (i : Int) = true := inb_of (by omega) (by omega)
    have hlt : (k : Int) < (out.length : Int) := by omega
    have hlen := Z0v x (out.take k)
    have htk : (out.take k).length = k := by simp; omega
    rw [htk] at hlen
    have s1 : ((insK x (out.take k)).length + 1) * 8 ≤ 140737488355328 := by omega
    have s2 : ((insK x (out.take k)).length + 1 + 1) * 8 ≤ 140737488355328 := by omega
    have htake := Zok hk
    constructor
    · simp only [Zg1, b1, b2, hlt, hx, List.length_append, List.length_singleton, s1, s2, tb_eq, decide_true, cond_true]
      cases (out.take k).any (fun z => decide (x < z)) <;> cases decide (x < gt out (k : Int)) <;> rfl
    · simp only [Zi3, hx, htake, Z2w, tb_eq, List.any_append, List.any_cons, List.any_nil, Bool.or_false]
      rw [wi_eq (by omega) (by omega)]
      cases h : (out.take k).any (fun z => decide (x < z)) with
      | true => simp
      | false =>
        by_cases hxy : x < gt out (k : Int)
        · simp [hxy]
        · simp [hxy]
  · have : ¬ ((out.length : Int) < (out.length : Int)) := by omega
    simp [Zg1, tb_eq]
theorem Z4w {l : List Int} {i : Int} : itS (Zia [] l i) (Zj4 [] l i) bound ⟨true, false, 0, []⟩ = some ⟨true, false, 0, []⟩ := by
  have := Zun (sel := Zia [] l i) (nx := Zj4 [] l i) (fun _ => ⟨true, false, 0, []⟩) 0 (by omega) (fun k hk => by omega) (by simp [Zia, tb_eq])
  exact this
def rSt (l : List Int) : Nat → Zdy
  | 0 => .h0 ⟨⟩
  | k + 1 => .h1 ⟨false, ((k + 1 : Nat) : Int), isort (l.take (k + 1))⟩
theorem Z3v {l : List Int} (hl : l.length ≤ 900) : itS (Zhu [] l 0) (Zi5 [] l 0) bound (.h0 ⟨⟩) = some (rSt l l.length) := by
  have := Zun (sel := Zhu [] l 0) (nx := Zi5 [] l 0) (rSt l) l.length (by omega) (fun k hk => ?_) ?_
  · exact this
  · cases k with
    | zero =>
      have h0 := Z4w (l := l) (i := 0)
      have a1 : Zkl [] l 0 ⟨true, false, 0, []⟩ = true := by simp only [Zkl, h0]; rfl
      have a2 : Zh9 [] l 0 ⟨true, false, 0, []⟩ = ⟨true, false, 0, []⟩ := by simp only [Zh9, h0]; rfl
      have hp : (0 : Int) < (l.length : Int) := by omega
      have b1 : inb l.length 0 = true := inb_of (by omega) (by omega)
      constructor
      · simp only [rSt, Zhu, Zi8, Zdj, Zh6, a1, a2, hp, b1, Zj2, tb_eq]; simp
      · simp only [rSt, Zi5, Zl9, Zdj, a2, tb_eq, cond_false]
        have e : isort (l.take (0 + 1)) = [gt l 0] := by
          have := Zok (l := l) (k := 0) hk
          rw [this]; simp [isort, insI]
        rw [e, wi_eq (by omega) (by omega)]; simp
    | succ k =>
      have hlen : (isort (l.take (k + 1))).length = k + 1 := by rw [Zk4]; simp; omega
      have h0 := Z58 (out := isort (l.take (k + 1))) (l := l) (i := k + 1) (by omega) (by omega) hk
      rw [hlen] at h0
      have a1 : Zj7 (isort (l.take (k + 1))) l ((k + 1 : Nat) : Int) ⟨true, false, 0, []⟩ = true := by simp only [Zj7, h0]; rfl
      have a2 := congrArg (fun o => Option.getD o default) h0
      have a3 : Zhs (isort (l.take (k + 1))) l ((k + 1 : Nat) : Int) ⟨true, false, 0, []⟩ = ⟨k + 1 == 0, (isort (l.take (k + 1))).any (fun z => decide (gt l ((k + 1 : Nat) : Int) < z)), ((k + 1 : Nat) : Int), insK (gt l ((k + 1 : Nat) : Int)) (isort (l.take (k + 1)))⟩ := by
        simp only [Zhs, h0]; rfl
      have hp : ((k + 1 : Nat) : Int) < (l.length : Int) := by omega
      have b1 : inb l.length ((k + 1 : Nat) : Int) = true := inb_of (by omega) (by omega)
      have c1 : Zi4 (isort (l.take (k + 1))) ⟨k + 1 == 0, (isort (l.take (k + 1))).any (fun z => decide (gt l ((k + 1 : Nat) : Int) < z)), ((k + 1 : Nat) : Int), insK (gt l ((k + 1 : Nat) : Int)) (isort (l.take (k + 1)))⟩ = true := by
        simp [Zi4, hlen, tb_eq]
      have hil := Z0v (gt l ((k + 1 : Nat) : Int)) (isort (l.take (k + 1)))
      rw [hlen] at hil
      have s1 : ((insK (gt l ((k + 1 : Nat) : Int)) (isort (l.take (k + 1)))).length + 1) * 8 ≤ 140737488355328 := by omega
      have hsn : isort (l.take (k + 1 + 1)) = insI (gt l ((k + 1 : Nat) : Int)) (isort (l.take (k + 1))) := by rw [Zok hk, Z2d]
      constructor
      · simp only [rSt, Zhu, Zi9, Zdk, Zhh, a1, a3, c1, hp, b1, s1, List.length_singleton, tb_eq, decide_true, cond_true]
        cases (isort (l.take (k + 1))).any (fun z => decide (gt l ((k + 1 : Nat) : Int) < z)) <;> rfl
      · simp only [rSt, Zi5, Zma, Zdk, a3, tb_eq, hsn]
        rw [wi_eq (by omega) (by omega)]
        have e1 : (((k + 1 : Nat) : Int) + 1) = ((k + 1 + 1 : Nat) : Int) := by omega
        cases h : (isort (l.take (k + 1))).any (fun z => decide (gt l ((k + 1 : Nat) : Int) < z)) with
        | true => simp only [insK, h, if_true, cond_true, e1]; rfl
        | false => simp only [insK, h, Bool.false_eq_true, if_false, cond_false, e1, Zzu _ h]
  · cases hn : l.length with
    | zero => simp [rSt, Zhu, Zi8, Zh6, hn, tb_eq]
    | succ k =>
      have : ¬ (((k + 1 : Nat) : Int) < (l.length : Int)) := by omega
      simp only [rSt, Zhu, Zi9, Zhh, tb_eq]
      rw [decide_eq_false this]; rfl
theorem Z5t (l : List Int) (hl : l.length < 1152921504606846976) : Zkd l = true ∧ Zby l = if lst16r l then isort l else [] := by
  obtain ⟨a1, a2⟩ := Z4y l hl
  cases h : lst16r l with
  | false => exact ⟨by simp [Zkd, Zgn, a1, a2, h, tb_eq], by simp [Zby, Zgn, a2, h, tb_eq]⟩
  | true =>
    have hl16 : l.length ≤ 16 := by simp [lst16r] at h; exact h.2
    have hrun := Z3v (l := l) (by omega)
    have he : Zjg l = rSt l l.length := by simp only [Zjg, Zf1, hrun]; rfl
    have hok : Zko [] l 0 (.h0 ⟨⟩) = true := by simp only [Zko, hrun]; rfl
    cases hn : l.length with
    | zero =>
      have hnil : l = [] := List.length_eq_zero_iff.1 hn
      rw [hn] at he
      simp only [rSt] at he
      constructor
      · simp [Zkd, Zgn, a1, a2, h, hok, he, Zhv, Zjy, Zh6, hn, tb_eq]
      · have hs : isort l = [] := by rw [hnil]; rfl
        simp only [Zby, Zgn, a2, h, he, Zhv, tb_eq, hs]; rfl
    | succ k =>
      rw [hn] at he
      simp only [rSt] at he
      have hlt : ¬ (((k + 1 : Nat) : Int) < (l.length : Int)) := by omega
      have htk : l.take (k + 1) = l := List.take_of_length_le (by omega)
      rw [htk] at he
      constructor
      · simp only [Zkd, Zgn, a1, a2, h, hok, he, Zhv, Zgx, Zj0, Zhh, tb_eq]
        rw [decide_eq_false hlt]; rfl
      · simp [Zby, Zgn, a2, h, he, Zhv, Zgx, tb_eq]
theorem Zzb {l : List Int} (h : lst16r l = true) {i : Int} (h1 : 0 ≤ i) (h2 : i < l.length) : -1099511627776 ≤ gt (isort l) i ∧ gt (isort l) i ≤ 1099511627776 := by
  have hm := gt_mem (l := isort l) h1 (by rw [Zk4]; exact h2)
  have := (Znh l).mem_iff.1 hm
  simp only [lst16r, Bool.and_eq_true, List.all_eq_true] at h
  exact sm_iff.1 (h.1 _ this)
end Go.Proofs.Ytdlhhoejnhjbhaa.Den

namespace Go.Proofs.Ytdlhhoejnhjbhaa.Den
open Go
set_option linter.unusedVariables false
set_option linter.unusedSimpArgs false
theorem Z5u {l k : List Int} (hl : l.length < 1152921504606846976) : Zbq l k = true ∧ Zb4 l k = decide (l = k) := by
  by_cases h : l.length = k.length
  · obtain ⟨s1, e, g0, g⟩ := Z50 (sel := Zf5 l k) (nx := Zjr l k) (s0 := ⟨0⟩) h (fun s => s.c4) hl rfl
      (fun s a1 a2 => by show wi _ = _; exact wi_eq (by omega) (by omega))
      (fun s a1 a2 => by
        by_cases hi : s.c4 < l.length
        · have i1 := inb_of a1 hi
          have i2 : inb k.length s.c4 = true := by rw [← h]; exact i1
          by_cases q : gt l s.c4 = gt k s.c4
          · simp [Zf5, hi, i1, i2, q]
          · simp [Zf5, hi, i1, i2, q, bne]
        · simp [Zf5, hi])
    have hne : ((((l.length : Nat) : Int) : Int) != ((k.length : Nat) : Int)) = false := by simp [h]
    simp only [Zbq, Zb4, Zla, Zgg, e, hne, tb_eq, cond_false, Option.isSome_some, cond_true, Option.getD_some]
    rcases g with ⟨a, b⟩ | ⟨a, b, c⟩
    · simp [Zhw, Zjs, a, b]
    · have i1 := inb_of g0 a
      have i2 : inb k.length s1.c4 = true := by rw [← h]; exact i1
      simp [Zhw, Zjs, a, c, i1, i2]
  · have hne : ((((l.length : Nat) : Int) : Int) != ((k.length : Nat) : Int)) = true := by simp; omega
    have : l ≠ k := fun e => h (by rw [e])
    simp [Zbq, Zb4, hne, this]
end Go.Proofs.Ytdlhhoejnhjbhaa.Den

namespace Go.Proofs.Ytdlhhoejnhjbhaa.Den
open Go
set_option linter.unusedVariables false
set_option linter.unusedSimpArgs false
theorem Z5f {l : List Int} (h0 : 1 ≤ l.length) (hb : l.length ≤ 1000) : ∃ s1, itS (Zgi l) (Zij l) bound ⟨gt l 0, 1⟩ = some s1 ∧ s1.c3 = l.length ∧ s1.c2 ∈ l ∧ ∀ z, z ∈ l → z ≤ s1.c2 := by
  obtain ⟨s1, e, ⟨h1, h2, h3⟩, hn⟩ := Zxl (sel := Zgi l) (nx := Zij l) (s0 := ⟨gt l 0, 1⟩) (l.length : Int) (fun s => s.c3) (fun s => s.c2 ∈ l ∧ 1 ≤ s.c3 ∧ ∀ z, z ∈ l.take s.c3.toNat → z ≤ s.c2) (by omega)
    ⟨gt_mem (by omega) (by omega), by simp, fun z hz => by
      have : l.take 1 = [gt l 0] := by
        have := Zok (l := l) (k := 0) (by omega)
        simpa using this
      have hz' : z ∈ l.take 1 := hz
      rw [this] at hz'
      simp at hz'; simp [hz']⟩ (by simp) (by simp; omega)
    (fun s ⟨a, a2, b⟩ h1 h2 => by
      have hin := inb_of h1 h2
      have hw : wi (s.c3 + 1) = s.c3 + 1 := wi_eq (by omega) (by omega)
      have ht : l.take (s.c3 + 1).toNat = l.take s.c3.toNat ++ [gt l s.c3] := by
        rw [show (s.c3 + 1).toNat = s.c3.toNat + 1 by omega, List.take_succ_eq_append_getElem (by omega), Zmh h1 (by omega)]
      refine ⟨by simp [Zgi, h2, hin], ?_⟩
      simp only [Zij, hw, mxI_eq]
      refine ⟨⟨?_, by omega, fun z hz => ?_⟩, trivial⟩
      · have := gt_mem (l := l) h1 (by omega)
        rcases Int.le_total (gt l s.c3) s.c2 with q | q
        · rw [Int.max_eq_left q]; exact a
        · rw [Int.max_eq_right q]; exact this
      · rw [ht] at hz
        rcases List.mem_append.1 hz with hz | hz
        · have := b z hz; omega
        · simp at hz; omega)
    (fun s _ hs => by simp [Zgi, hs])
  have hn' : s1.c3 = l.length := hn
  exact ⟨s1, e, hn', h1, fun z hz => h3 z (by rw [hn']; simpa using hz)⟩
theorem Z4l {l : List Int} (h0 : 1 ≤ l.length) (hb : l.length ≤ 1000) : ∃ s1, itS (Zgj l) (Zik l) bound ⟨gt l 0, 1⟩ = some s1 ∧ s1.c3 = l.length ∧ s1.c2 ∈ l ∧ ∀ z, z ∈ l → s1.c2 ≤ z := by
  obtain ⟨s1, e, ⟨h1, h2, h3⟩, hn⟩ := Zxl (sel := Zgj l) (nx := Zik l) (s0 := ⟨gt l 0, 1⟩) (l.length : Int) (fun s => s.c3) (fun s => s.c2 ∈ l ∧ 1 ≤ s.c3 ∧ ∀ z, z ∈ l.take s.c3.toNat → s.c2 ≤ z) (by omega)
    ⟨gt_mem (by omega) (by omega), by simp, fun z hz => by
      have : l.take 1 = [gt l 0] := by
        have := Zok (l := l) (k := 0) (by omega)
        simpa using this
      have hz' : z ∈ l.take 1 := hz
      rw [this] at hz'
      simp at hz'; simp [hz']⟩ (by simp) (by simp; omega)
    (fun s ⟨a, a2, b⟩ h1 h2 => by
      have hin := inb_of h1 h2
      have hw : wi (s.c3 + 1) = s.c3 + 1 := wi_eq (by omega) (by omega)
      have ht : l.take (s.c3 + 1).toNat = l.take s.c3.toNat ++ [gt l s.c3] := by
        rw [show (s.c3 + 1).toNat = s.c3.toNat + 1 by omega, List.take_succ_eq_append_getElem (by omega), Zmh h1 (by omega)]
      refine ⟨by simp [Zgj, h2, hin], ?_⟩
      simp only [Zik, hw, mnI_eq]
      refine ⟨⟨?_, by omega, fun z hz => ?_⟩, trivial⟩
      · have := gt_mem (l := l) h1 (by omega)
        rcases Int.le_total s.c2 (gt l s.c3) with q | q
        · rw [Int.min_eq_left q]; exact a
        · rw [Int.min_eq_right q]; exact this
      · rw [ht] at hz
        rcases List.mem_append.1 hz with hz | hz
        · have := b z hz; omega
        · simp at hz; omega)
    (fun s _ hs => by simp [Zgj, hs])
  have hn' : s1.c3 = l.length := hn
  exact ⟨s1, e, hn', h1, fun z hz => h3 z (by rw [hn']; simpa using hz)⟩
def Zpf (l : List Int) : Int := if l.length = 0 then 0 else gt (isort l) ((l.length : Int) - 1) - gt (isort l) 0
theorem Z40 {l : List Int} (hl : l.length < 1152921504606846976) : Zjq l = true ∧ Zjv l = if lst16 l then Zpf l else 0 := by
  obtain ⟨a1, a2⟩ := Z6c l hl
  cases h : lst16 l with
  | false => simp [Zjq, Zjv, a1, a2, h]
  | true =>
    have h16 : l.length ≤ 16 := by simp only [lst16, Bool.and_eq_true, decide_eq_true_eq] at h; exact h.1
    by_cases h0 : l.length = 0
    · have : ((l.length : Int) == 0) = true := by simp; simpa using h0
      simp [Zjq, Zjv, a1, a2, h, this, Zpf, h0]
    · have hne : ((l.length : Int) == 0) = false := by simp; simpa using h0
      obtain ⟨s1, e1, n1, p1, q1⟩ := Z5f (l := l) (by omega) (by omega)
      obtain ⟨s2, e2, n2, p2, q2⟩ := Z4l (l := l) (by omega) (by omega)
      have i0 : inb l.length 0 = true := inb_of (by omega) (by omega)
      have hlt : ¬ (l.length : Int) < 1 := by omega
      have k1 : Zki l = true := by
        simp [Zki, Zkj, Zlg, Zix, e1, i0, hlt, Zjp, n1]
      have k2 : Zkf l = true := by
        simp [Zkf, Zkh, Zlf, Ziw, e2, i0, hlt, Zjo, n2]
      have hmax : s1.c2 = gt (isort l) ((l.length : Int) - 1) := by
        apply Int.le_antisymm
        · have := Z4b (Zzj l) (by rw [Zk4]; omega) s1.c2 ((Znh l).mem_iff.2 p1)
          rwa [Zk4] at this
        · exact q1 _ ((Znh l).mem_iff.1 (gt_mem (by omega) (by rw [Zk4]; omega)))
      have hmin : s2.c2 = gt (isort l) 0 := by
        apply Int.le_antisymm
        · exact q2 _ ((Znh l).mem_iff.1 (gt_mem (by omega) (by rw [Zk4]; omega)))
        · exact Z3u (Zzj l) s2.c2 ((Znh l).mem_iff.2 p2)
      have m1 := Z02 h (i := (l.length : Int) - 1) (by omega) (by omega)
      have m2 := Z02 h (i := 0) (by omega) (by omega)
      refine ⟨by simp [Zjq, a1, a2, h, hne, k1, k2], ?_⟩
      simp only [Zjv, a2, h, hne, tb_eq, cond_true, cond_false, if_true, Zrd, Zkj, Zkh, Zix, Ziw, e1, e2, Option.getD_some, Zpf, h0, if_false, hmax, hmin]
      exact wi_eq (by omega) (by omega)
theorem Z3w {l : List Int} (hl : l.length < 1152921504606846976) : Zit l = true ∧ Zjb l = if lst16r l then Zpf l else 0 := by
  obtain ⟨a1, a2⟩ := Z5t l hl
  cases h : lst16r l with
  | false =>
    rw [h] at a2
    have a2 : Zby l = [] := by simpa using a2
    simp [Zit, Zjb, a1, a2]
  | true =>
    rw [h] at a2
    have a2 : Zby l = isort l := by simpa using a2
    have h16 : l.length ≤ 16 := by simp only [lst16r, Bool.and_eq_true, decide_eq_true_eq] at h; exact h.2
    by_cases h0 : l.length = 0
    · have : (((isort l).length : Int) == 0) = true := by rw [Zk4]; simp; simpa using h0
      simp only [Zit, Zjb, a1, a2, this, tb_eq, cond_true, Zpf, h0, if_true, and_self]
    · have hne : (((isort l).length : Int) == 0) = false := by rw [Zk4]; simp; simpa using h0
      have hw : wi (((isort l).length : Int) - 1) = (l.length : Int) - 1 := by rw [Zk4]; exact wi_eq (by omega) (by omega)
      have i0 : inb (isort l).length 0 = true := inb_of (by omega) (by rw [Zk4]; omega)
      have i1 : inb (isort l).length ((l.length : Int) - 1) = true := inb_of (by omega) (by rw [Zk4]; omega)
      have m1 := Zzb h (i := (l.length : Int) - 1) (by omega) (by omega)
      have m2 := Zzb h (i := 0) (by omega) (by omega)
      simp only [Zit, Zjb, Zo0, a1, a2, hne, hw, i0, i1, tb_eq, cond_true, cond_false, Zpf, h0, if_false, true_and, if_true]
      exact wi_eq (by omega) (by omega)
end Go.Proofs.Ytdlhhoejnhjbhaa.Den

namespace Go.Proofs.Ytdlhhoejnhjbhaa.Den
open Go
set_option linter.unusedVariables false
set_option linter.unusedSimpArgs false
set_option maxRecDepth 100000
def Room9 (w : Int) (vote : Nat → Int) (i : Nat) (ring : List Int) (at_ n : Int) : Prop :=
  at_ = (i : Int) % (w - 1) ∧ n = min (i : Int) (w - 1) ∧ ∀ j : Nat, (i : Int) - n ≤ j → j < i → gt ring ((j : Int) % (w - 1)) = vote j
def held (w : Int) (vote : Nat → Int) (i : Nat) : List Int := (List.range (min i (w - 1).toNat)).map fun j => vote (i - min i (w - 1).toNat + j)
theorem Z42 {i room : Int} (hr : 0 < room) (z : Int) : (i % room + z + room) % room = (i + z) % room := by
  have e : i = room * (i / room) + i % room := (Int.mul_ediv_add_emod i room).symm
  have : i % room + z + room = (i + z) + room * (1 - i / room) := by
    rw [Int.mul_sub, Int.mul_one]; omega
  rw [this, Int.add_mul_emod_self_left]
def vSt (w : Int) (vote : Nat → Int) (i : Nat) (j : Nat) : Z9 := ⟨(j : Int), decide (j = 0), (List.range j).map fun q => vote (i - min i (w - 1).toNat + q)⟩
theorem Z3g {w : Int} (hw : 2 ≤ w ∧ w ≤ 16) {vote : Nat → Int} {i : Nat} (hi : i ≤ 1000) {ring : List Int} {at_ n : Int} (h : Room9 w vote i ring at_ n) :
    itS (Zb5 ring at_ n (w - 1) n) (Zdw ring at_ n (w - 1) n) bound ⟨0, true, []⟩ = some (vSt w vote i (min i (w - 1).toNat)) := by
  obtain ⟨h1, h2, h3⟩ := h
  have hn : n = ((min i (w - 1).toNat : Nat) : Int) := by omega
  have a0 : 0 ≤ at_ := by rw [h1]; exact Int.emod_nonneg _ (by omega)
  have a1 : at_ < w - 1 := by rw [h1]; exact Int.emod_lt_of_pos _ (by omega)
  refine Zun (sel := Zb5 ring at_ n (w - 1) n) (nx := Zdw ring at_ n (w - 1) n) (vSt w vote i) (min i (w - 1).toNat) (by omega) (fun j hj => ?_) ?_
  · have w1 : wi (at_ - n) = at_ - n := wi_eq (by omega) (by omega)
    have w2 : wi (at_ - n + (j : Int)) = at_ - n + j := wi_eq (by omega) (by omega)
    have w3 : wi (at_ - n + (j : Int) + (w - 1)) = at_ - n + j + (w - 1) := wi_eq (by omega) (by omega)
    have w4 : wi ((j : Int) + 1) = (j : Int) + 1 := wi_eq (by omega) (by omega)
    have hlt : decide ((j : Int) < n) = true := decide_eq_true (by omega)
    have hz : ((w - 1) == 0) = false := by rw [beq_eq_false_iff_ne]; omega
    have hr : remI .i64 (at_ - n + j + (w - 1)) (w - 1) = (at_ - n + j + (w - 1)) % (w - 1) := Z10 (by omega)
    have hm : (at_ - n + j + (w - 1)) % (w - 1) = ((i : Int) - n + j) % (w - 1) := by
      have := Z42 (i := (i : Int)) (room := w - 1) (by omega) (-n + j)
      rw [← h1] at this
      rw [show at_ - n + (j : Int) + (w - 1) = at_ + (-n + j) + (w - 1) by omega, this]
      congr 1; omega
    have m0 : 0 ≤ ((i : Int) - n + j) % (w - 1) := Int.emod_nonneg _ (by omega)
    have m1 : ((i : Int) - n + j) % (w - 1) < w - 1 := Int.emod_lt_of_pos _ (by omega)
    have hin : inb 16 (((i : Int) - n + j) % (w - 1)) = true := inb_of m0 (by omega)
    have hv : gt ring (((i : Int) - n + j) % (w - 1)) = vote (i - min i (w - 1).toNat + j) := by
      have := h3 (i - min i (w - 1).toNat + j) (by omega) (by omega)
      rw [← this]; congr 1; congr 1; omega
    have hs : decide ((((List.range j).map fun q => vote (i - min i (w - 1).toNat + q)).length + [vote (i - min i (w - 1).toNat + j)].length) * 8 ≤ 140737488355328) = true := decide_eq_true (by simp; omega)
    have e1 : Zd2 ring at_ n (w - 1) (vSt w vote i j) = vote (i - min i (w - 1).toNat + j) := by
      simp only [Zd2, Zj6, vSt, w1, w2, w3, hr, hm, hv]
    refine ⟨?_, ?_⟩
    · simp only [Zb5, e1]
      simp only [vSt, hz, w1, w2, w3, hr, hm, hin, Zhl, tb_eq, cond_true, cond_false]
      have p1 : (j : Int) < n := by omega
      have p2 := of_decide_eq_true hs
      simp only [p1, p2, decide_true, cond_true]
    · simp only [Zdw, e1]
      simp only [vSt, w4, List.range_succ, List.map_append, List.map_cons, List.map_nil]
      simp
  · have : ¬ ((min i (w - 1).toNat : Nat) : Int) < n := by omega
    simp only [Zb5, vSt, this, decide_false, tb_eq, cond_false]
theorem Z18 {w : Int} (hw : 2 ≤ w ∧ w ≤ 16) {vote : Nat → Int} {i : Nat} (hi : i ≤ 1000) {ring : List Int} {at_ n : Int} (h : Room9 w vote i ring at_ n) :
    Zt w ring at_ n = true ∧ Zi1 w ring at_ n = held w vote i ∧ Zmc w ring at_ n = decide (i = 0) := by
  have e := Z3g hw hi h
  have w0 : wi (w - 1) = w - 1 := wi_eq (by omega) (by omega)
  have hn : n = ((min i (w - 1).toNat : Nat) : Int) := by have := h.2.1; omega
  have e0 : Za [] w ring at_ n true = vSt w vote i (min i (w - 1).toNat) := by
    simp only [Za, w0, Zdr, e]; rfl
  have ok : Zgs ring at_ n (w - 1) n ⟨0, true, []⟩ = true := by simp only [Zgs, e]; rfl
  have hf : ¬ ((min i (w - 1).toNat : Nat) : Int) < n := by omega
  refine ⟨?_, ?_, ?_⟩
  · simp only [Zt, Zg7, w0, ok, e0, Zfv, vSt, hf, decide_false, tb_eq, cond_true, cond_false]
  · simp only [Zi1, e0, vSt, held]
  · simp only [Zmc, e0, vSt]
    rw [decide_eq_decide]; omega
theorem Zxv (w : Int) (vote : Nat → Int) (i : Nat) : (held w vote i).length = min i (w - 1).toNat := by simp [held]
theorem Z6q {w b : Int} (hw : 2 ≤ w ∧ w ≤ 16) {vote : Nat → Int} (hv : ∀ j, sm (vote j) = true) {i : Nat} (hi : i ≤ 1000) {ring : List Int} {at_ n : Int} (h : Room9 w vote i ring at_ n) :
    Zp w ring at_ n = true ∧ Zo w b ring at_ n = (decide (w - 1 ≤ (i : Int)) && decide (b < Zpf (held w vote i))) := by
  obtain ⟨v1, v2, v3⟩ := Z18 hw hi h
  have w0 : wi (w - 1) = w - 1 := wi_eq (by omega) (by omega)
  have hl := Zxv w vote i
  obtain ⟨s1, s2⟩ := Z40 (l := held w vote i) (by omega)
  have h16 : lst16 (held w vote i) = true := by
    simp only [lst16, Bool.and_eq_true, decide_eq_true_eq, List.all_eq_true]
    refine ⟨by omega, fun z hz => ?_⟩
    obtain ⟨j, _, rfl⟩ := List.mem_map.1 hz
    exact hv _
  rw [if_pos h16] at s2
  have hn := h.2.1
  by_cases hk : w - 1 ≤ (i : Int)
  · have : (n == w - 1) = true := by rw [beq_iff_eq]; omega
    simp only [Zp, Zo, w0, this, v1, v2, s1, s2, hk, decide_true, Bool.true_and, tb_eq, cond_true, and_self]
  · have : (n == w - 1) = false := by rw [beq_eq_false_iff_ne]; omega
    simp only [Zp, Zo, w0, this, hk, decide_false, Bool.false_and, tb_eq, cond_false, and_self]
theorem Z5x {w : Int} (hw : 2 ≤ w ∧ w ≤ 16) {vote : Nat → Int} {i : Nat} (hi : i ≤ 1000) {ring : List Int} {at_ n : Int} (h : Room9 w vote i ring at_ n) (hv : -2147483648 ≤ vote i ∧ vote i ≤ 2147483647) :
    Zbb w at_ (vote i) = true ∧ Zi (vote i) = 0 ∧
    Room9 w vote (i + 1) (Zbs ring at_ (vote i)) (Zc w at_ (vote i)) (Zb w n (vote i)) := by
  obtain ⟨h1, h2, h3⟩ := h
  have hr : Zc7 (vote i) = true := by
    have g1 : decide (-2147483648 ≤ vote i) = true := decide_eq_true hv.1
    have g2 : decide (vote i ≤ 2147483647) = true := decide_eq_true hv.2
    simp only [Zc7, g1, g2, tb_eq, cond_true]
  have a0 : 0 ≤ at_ := by rw [h1]; exact Int.emod_nonneg _ (by omega)
  have a1 : at_ < w - 1 := by rw [h1]; exact Int.emod_lt_of_pos _ (by omega)
  have w0 : wi (w - 1) = w - 1 := wi_eq (by omega) (by omega)
  have w1 : wi (at_ + 1) = at_ + 1 := wi_eq (by omega) (by omega)
  have w2 : wi (n + 1) = n + 1 := wi_eq (by omega) (by omega)
  have hin : inb 16 at_ = true := inb_of a0 (by omega)
  have hz : ((w - 1) == 0) = false := by rw [beq_eq_false_iff_ne]; omega
  have r1 : remI .i64 (at_ + 1) (w - 1) = (at_ + 1) % (w - 1) := Z10 (by omega)
  have hmn : mnI (n + 1) (w - 1) = min (n + 1) (w - 1) := by unfold mnI; split <;> omega
  refine ⟨by simp only [Zbb, hr, hin, w0, hz, tb_eq, cond_true, cond_false], by simp only [Zi, hr, tb_eq, cond_true], ?_⟩
  simp only [Zbs, Zc, Zb, hr, w0, w1, w2, r1, hmn, tb_eq, cond_true]
  have ei : ((i + 1 : Nat) : Int) = (i : Int) + 1 := by omega
  refine ⟨?_, by omega, fun j g1 g2 => ?_⟩
  · rw [h1, ei, Int.emod_add_emod]
  · have m0 : 0 ≤ (j : Int) % (w - 1) := Int.emod_nonneg _ (by omega)
    have m1 : (j : Int) % (w - 1) < w - 1 := Int.emod_lt_of_pos _ (by omega)
    rw [gt_sta m0 (by omega) a0]
    by_cases hj : j = i
    · subst hj; rw [if_pos h1.symm]
    · rw [if_neg ?_]
      · exact h3 j (by omega) (by omega)
      · intro he
        rw [h1] at he
        have d : ((i : Int) - j) % (w - 1) = 0 := by rw [Int.sub_emod, he]; simp
        have d1 : 0 < (i : Int) - j := by omega
        have d2 : (i : Int) - j < w - 1 := by omega
        rw [Int.emod_eq_of_lt (by omega) d2] at d
        omega
end Go.Proofs.Ytdlhhoejnhjbhaa.Den

namespace Go.Proofs.Ytdlhhoejnhjbhaa.Den
open Go
set_option linter.unusedVariables false
set_option linter.unusedSimpArgs false
set_option maxRecDepth 100000
def vf (V : List Int) (j : Nat) : Int := gt V (j : Int)
def R32 (z : Int) : Prop := -2147483648 ≤ z ∧ z ≤ 2147483647
instance (z : Int) : Decidable (R32 z) := by unfold R32; infer_instance
structure W9 (w : Int) (T : List Int) (a n : Int) (V : List Int) : Prop where
  room : Room9 w (vf V) V.length T a n
  right : ∀ z ∈ V, R32 z
  len : V.length ≤ 300
structure C9 (w last run : Int) (came : List Int) : Prop where
  run : run = mnI ((came.length : Nat) : Int) w
  last : came ≠ [] → gt came 0 = last
  len : came.length ≤ 300
def dr (w : Int) (V : List Int) : List Int := V.drop (V.length - (w - 1).toNat)
def mv (w b : Int) (V : List Int) : Bool := decide (w - 1 ≤ (V.length : Int)) && decide (b < Zpf (dr w V))
theorem dr_len (w : Int) (V : List Int) : (dr w V).length = min V.length (w - 1).toNat := by simp [dr]; omega
theorem dr_nil (w : Int) : dr w [] = [] := by simp [dr]
theorem Z5p (w : Int) (V : List Int) : held w (vf V) V.length = dr w V := by
  apply List.ext_getElem
  · rw [Zxv, dr_len]
  · intro j h1 h2
    rw [Zxv] at h1
    simp only [held, dr, List.getElem_map, List.getElem_range, List.getElem_drop, vf]
    rw [gt_nat (by omega)]
    congr 1; omega
theorem vf_sm {V : List Int} (h : ∀ z ∈ V, R32 z) (j : Nat) : sm (vf V j) = true := by
  unfold vf
  by_cases hj : j < V.length
  · have := h _ (gt_mem (l := V) (i := (j : Int)) (by omega) (by omega))
    unfold R32 at this
    simp only [sm, Bool.and_eq_true, decide_eq_true_eq]; omega
  · have : gt V (j : Int) = 0 := by simp [gt, List.getD, Nat.not_lt.1 hj]
    rw [this]; rfl
theorem Zov {w b : Int} (hw : 2 ≤ w ∧ w ≤ 16) {T V : List Int} {a n : Int} (h : W9 w T a n V) :
    Zt w T a n = true ∧ (Za ([] : List Int) w T a n true).c6 = dr w V ∧
    Zp w T a n = true ∧ Zo w b T a n = mv w b V := by
  have hl := h.len
  obtain ⟨v1, v2, _⟩ := Z18 hw (by omega) h.room
  obtain ⟨m1, m2⟩ := Z6q (b := b) hw (vf_sm h.right) (by omega) h.room
  rw [Z5p] at v2 m2
  exact ⟨v1, v2, m1, m2⟩
theorem ref_n {w b : Int} (hw : 2 ≤ w ∧ w ≤ 16) : Zb7 w = true ∧ Zbh w = true ∧ Zb3 w b = mv w b [] := by
  have w0 : wi (w - 1) = w - 1 := wi_eq (by omega) (by omega)
  have w1 : wi (0 - (w - 1)) = 0 - (w - 1) := wi_eq (by omega) (by omega)
  have hm : mxI 0 (0 - (w - 1)) = 0 := by unfold mxI; split <;> omega
  have h0 : ((0 : Int) == w - 1) = false := by rw [beq_eq_false_iff_ne]; omega
  have h1 : decide (w - 1 ≤ ((([] : List Int).length : Nat) : Int)) = false := decide_eq_false (by simp; omega)
  have c0 : Zb7 w = true := by simp only [Zb7, w0, w1, hm]; rfl
  refine ⟨c0, ?_, ?_⟩
  · simp only [Zbh, c0, w0, h0, tb_eq, cond_true, cond_false]
  · simp only [Zb3, w0, h0, tb_eq, cond_false, mv, h1, Bool.false_and]
theorem ref_f {w b : Int} (hw : 2 ≤ w ∧ w ≤ 16) {V : List Int} (hne : V ≠ []) (hr : ∀ z ∈ V, R32 z) (hl : V.length ≤ 300) :
    Zr V w = true ∧ ins V.length (mxI 0 (wi (((V.length : Nat) : Int) - (wi (w - 1))))) ((V.length : Nat) : Int) = true ∧
    sub V (mxI 0 (wi (((V.length : Nat) : Int) - (wi (w - 1))))) ((V.length : Nat) : Int) = dr w V ∧
    Z1 V w false = true ∧ Zba V w b = mv w b V := by
  have hp : 0 < V.length := List.length_pos_iff.2 hne
  have w0 : wi (w - 1) = w - 1 := wi_eq (by omega) (by omega)
  have w1 : wi (((V.length : Nat) : Int) - (w - 1)) = ((V.length : Nat) : Int) - (w - 1) := wi_eq (by omega) (by omega)
  have hm : mxI 0 (((V.length : Nat) : Int) - (w - 1)) = ((V.length - (w - 1).toNat : Nat) : Int) := by unfold mxI; split <;> omega
  have c1 : ins V.length (mxI 0 (wi (((V.length : Nat) : Int) - (wi (w - 1))))) ((V.length : Nat) : Int) = true := by
    rw [w0, w1, hm]; simp only [ins, Bool.and_eq_true, decide_eq_true_eq]; omega
  have c2 : sub V (mxI 0 (wi (((V.length : Nat) : Int) - (wi (w - 1))))) ((V.length : Nat) : Int) = dr w V := by
    rw [w0, w1, hm, Z57]; unfold dr
    rw [List.take_of_length_le (by simp)]
  have c3 : decide ((mxI 0 (wi (((V.length : Nat) : Int) - (wi (w - 1))))) < ((V.length : Nat) : Int)) = true := by
    rw [w0, w1, hm]; exact decide_eq_true (by omega)
  have c0 : Zr V w = true := by simp only [Zr, c1, c3, tb_eq, cond_true]
  have e0 : Zji V w = dr w V := c2
  obtain ⟨s1, s2⟩ := Z3w (l := dr w V) (by rw [dr_len]; omega)
  have h16 : lst16r (dr w V) = true := by
    simp only [lst16r, Bool.and_eq_true, decide_eq_true_eq, List.all_eq_true]
    refine ⟨fun z hz => ?_, by rw [dr_len]; omega⟩
    have := hr z (List.mem_of_mem_drop hz)
    unfold R32 at this
    simp only [sm, Bool.and_eq_true, decide_eq_true_eq]; omega
  rw [if_pos h16] at s2
  refine ⟨c0, c1, c2, ?_, ?_⟩
  · simp only [Z1, c0, c1, e0, s1, tb_eq, cond_true, Bool.cond_self]
  · by_cases hk : w - 1 ≤ (V.length : Int)
    · have q : (((((((V.length : Nat) : Int) : Int).toNat - ((mxI 0 (wi (((V.length : Nat) : Int) - (wi (w - 1))))) : Int).toNat : Nat) : Int) : Int) == (wi (w - 1))) = true := by
        rw [beq_iff_eq, w0, w1, hm]; omega
      simp only [Zba, c0, e0, s2, q, mv, hk, decide_true, Bool.true_and, tb_eq, cond_true]
    · have q : (((((((V.length : Nat) : Int) : Int).toNat - ((mxI 0 (wi (((V.length : Nat) : Int) - (wi (w - 1))))) : Int).toNat : Nat) : Int) : Int) == (wi (w - 1))) = false := by
        rw [beq_eq_false_iff_ne, w0, w1, hm]; omega
      simp only [Zba, c0, q, mv, hk, decide_false, Bool.false_and, tb_eq, cond_true, cond_false]
theorem Zpn (w : Int) {V : List Int} (hl : V.length ≤ 300) : Zbq (dr w V) (dr w V) = true ∧ Zb4 (dr w V) (dr w V) = true := by
  obtain ⟨i1, i2⟩ := Z5u (l := dr w V) (k := dr w V) (by rw [dr_len]; omega)
  exact ⟨i1, by rw [i2]; simp⟩
theorem Zpk (v : Int) : Zc7 v = decide (R32 v) ∧ Zbu v = decide (R32 v) := by
  have : decide (R32 v) = (decide (-2147483648 ≤ v) && decide (v ≤ 2147483647)) := by unfold R32; exact Bool.decide_and _ _
  simp only [Zc7, Zbu, this, tb_eq]
  cases decide (-2147483648 ≤ v) <;> simp
theorem Z06 {w : Int} {f g : Nat → Int} {i : Nat} {T : List Int} {a n : Int} (h : Room9 w f i T a n) (hfg : ∀ j, j < i → f j = g j) : Room9 w g i T a n :=
  ⟨h.1, h.2.1, fun j h1 h2 => by rw [h.2.2 j h1 h2]; exact hfg j h2⟩
theorem Zwu {w v : Int} (hw : 2 ≤ w ∧ w ≤ 16) {T V : List Int} {a n : Int} (h : W9 w T a n V) (hl : V.length < 300) (hv : R32 v) :
    Zbb w a v = true ∧ Zi v = 0 ∧ Zbl v = true ∧ Zbi V v = true ∧
    W9 w (Zbs T a v) (Zc w a v) (Zb w n v) (V ++ [v]) := by
  have hvi : vf (V ++ [v]) V.length = v := by
    show gt (V ++ [v]) (V.length : Int) = v
    rw [gt_nat (by simp)]; simp
  have hR := Z06 (g := vf (V ++ [v])) h.room (fun j hj => by
    show gt V (j : Int) = gt (V ++ [v]) (j : Int)
    rw [Ztz (by omega) (by omega)])
  obtain ⟨q1, q2, q3⟩ := Z5x hw (by omega) hR (by rw [hvi]; exact hv)
  rw [hvi] at q1 q2 q3
  have hr := (Zpk v).2
  rw [decide_eq_true hv] at hr
  have d1 : decide ((([] : List Int).length + V.length) * 8 ≤ 140737488355328) = true := decide_eq_true (by simp; omega)
  have d2 : decide ((V.length + [v].length) * 8 ≤ 140737488355328) = true := decide_eq_true (by simp; omega)
  refine ⟨q1, q2, ?_, ?_, ⟨by simpa using q3, fun z hz => ?_, by simp; omega⟩⟩
  · simp only [Zbl, hr, tb_eq, cond_true]
  · simp only [Zbi, hr, d1, d2, tb_eq, cond_true]
  · rcases List.mem_append.1 hz with hz | hz
    · exact h.right z hz
    · simp at hz; subst hz; exact hv
theorem Zwt {w v : Int} (T V : List Int) (a n : Int) (hv : ¬ R32 v) :
    Zbb w a v = true ∧ Zi v = 1 ∧ Zbl v = false ∧ Zbi V v = false ∧ Zdq v = true ∧
    Zbs T a v = T ∧ Zc w a v = a ∧ Zb w n v = n := by
  obtain ⟨h1, h2⟩ := Zpk v
  rw [decide_eq_false hv] at h1 h2
  simp only [Zbb, Zi, Zbl, Zbi, Zdq, Zbs, Zc, Zb, h1, h2, tb_eq, cond_false, and_self]
def nxc (came : List Int) (v : Int) : List Int := if came ≠ [] ∧ gt came 0 = v then came ++ [v] else [v]
theorem Zuh (came : List Int) (v : Int) : 1 ≤ (nxc came v).length ∧ (nxc came v).length ≤ came.length + 1 := by
  unfold nxc; split
  · simp
  · simp
theorem nxc_0 (came : List Int) (v : Int) : gt (nxc came v) 0 = v := by
  unfold nxc; split
  · rename_i h
    have hp : 0 < came.length := List.length_pos_iff.2 h.1
    rw [Ztz (by omega) (by omega)]; exact h.2
  · rfl
theorem come_p {w b v : Int} (hw : 2 ≤ w ∧ w ≤ 16) {T V came : List Int} {a n last run : Int} (h : W9 w T a n V) (hc : C9 w last run came) (hv : R32 v) :
    Z6 w T a n last run v = true ∧
    Zg w b T a n last run v = (decide (w ≤ ((nxc came v).length : Int)) && mv w b V) ∧
    Zf v = 0 ∧ Z7 last v = v ∧
    Z8 w last run v = mnI (((nxc came v).length : Nat) : Int) w := by
  obtain ⟨_, _, m1, m2⟩ := Zov (b := b) hw h
  have hr := (Zpk v).1
  rw [decide_eq_true hv] at hr
  have hl := hc.len
  have k1 : ∀ x : Int, 0 ≤ x → ((mnI x w : Int) == w) = decide (w ≤ x) := fun x hx => by
    by_cases hh : w ≤ x
    · rw [decide_eq_true hh, beq_iff_eq]; unfold mnI; split <;> omega
    · rw [decide_eq_false hh, beq_eq_false_iff_ne]; unfold mnI; split <;> omega
  have run0 : run = 0 ↔ came = [] := by
    rw [hc.run]
    constructor
    · intro hh
      have : came.length = 0 := by unfold mnI at hh; split at hh <;> omega
      exact List.length_eq_zero_iff.1 this
    · rintro rfl; unfold mnI; split
      · simp at *; omega
      · rfl
  simp only [Z6, Zg, Zf, Z7, Z8, hr, m1, m2, tb_eq, cond_true, true_and]
  by_cases hz : came = []
  · have e : (run == 0) = true := by rw [beq_iff_eq]; exact run0.2 hz
    have en : nxc came v = [v] := by unfold nxc; simp [hz]
    simp only [e, en, k1 1 (by omega), cond_true]
    refine ⟨?_, ?_, rfl⟩
    · exact Bool.cond_self _ _
    · cases hd : decide (w ≤ 1) <;> simp [hd]
  · have e : (run == 0) = false := by rw [beq_eq_false_iff_ne]; exact fun hh => hz (run0.1 hh)
    have hlast := hc.last hz
    by_cases hq : v = last
    · have e2 : (v != last) = false := by simp [hq]
      have en : nxc came v = came ++ [v] := by unfold nxc; rw [if_pos ⟨hz, by rw [hlast]; exact hq.symm⟩]
      have hp : 0 < came.length := List.length_pos_iff.2 hz
      have hw1 : wi (run + 1) = run + 1 := wi_eq (by rw [hc.run]; unfold mnI; split <;> omega) (by rw [hc.run]; unfold mnI; split <;> omega)
      have hm : mnI (run + 1) w = mnI (((came ++ [v]).length : Nat) : Int) w := by
        rw [hc.run]; simp only [List.length_append, List.length_cons, List.length_nil]
        unfold mnI
        repeat' split
        all_goals omega
      simp only [e, e2, en, hw1, hm, k1 _ (Int.natCast_nonneg _), cond_false]
      refine ⟨?_, ?_, trivial⟩
      · exact Bool.cond_self _ _
      · cases hd : decide (w ≤ (((came ++ [v]).length : Nat) : Int)) <;> simp [hd]
    · have e2 : (v != last) = true := by simp [hq]
      have en : nxc came v = [v] := by unfold nxc; rw [if_neg (fun hh => hq (by rw [← hlast]; exact hh.2.symm))]
      simp only [e, e2, en, k1 1 (by omega), cond_true, cond_false]
      refine ⟨?_, ?_, rfl⟩
      · exact Bool.cond_self _ _
      · cases hd : decide (w ≤ 1) <;> simp [hd]
theorem nxc_c9 {w last run v : Int} {came : List Int} (hc : C9 w last run came) (hl : came.length < 300) : C9 w v (mnI (((nxc came v).length : Nat) : Int) w) (nxc came v) :=
  ⟨rfl, fun _ => nxc_0 came v, by have := (Zuh came v).2; omega⟩
theorem come_f {w b v : Int} (hw : 2 ≤ w ∧ w ≤ 16) {V came : List Int} (hne : V ≠ []) (hr : ∀ z ∈ V, R32 z) (hl : V.length ≤ 300) (hcl : came.length ≤ 300) (hv : R32 v) :
    Zbv V came w false v = true ∧ Zcb V came w b v = (decide (w ≤ ((nxc came v).length : Int)) && mv w b V) ∧ Zbn came v = nxc came v := by
  obtain ⟨_, _, _, r1, r2⟩ := ref_f (b := b) hw hne hr hl
  have h8 := (Zpk v).2
  rw [decide_eq_true hv] at h8
  have hS : Zga true = true := rfl
  have d1 : decide ((([] : List Int).length + came.length) * 8 ≤ 140737488355328) = true := decide_eq_true (by simp; omega)
  have d2 : decide ((came.length + [v].length) * 8 ≤ 140737488355328) = true := decide_eq_true (by simp; omega)
  simp only [Zbv, Zcb, Zbn, h8, hS, r1, r2, d1, d2, tb_eq, cond_true]
  by_cases hz : came = []
  · subst hz
    have en : nxc [] v = [v] := by unfold nxc; simp
    rw [en]
    have e0 : decide ((0 : Int) < ((([] : List Int).length : Nat) : Int)) = false := rfl
    simp only [e0, cond_false, true_and]
    refine ⟨?_, trivial⟩
    cases hd : decide (w ≤ 1) <;> simp [hd]
  · have hp : 0 < came.length := List.length_pos_iff.2 hz
    have e0 : decide ((0 : Int) < ((came.length : Nat) : Int)) = true := decide_eq_true (by omega)
    have i0 : inb came.length 0 = true := inb_of (by omega) (by omega)
    simp only [e0, i0, cond_true]
    by_cases hq : gt came 0 = v
    · have e1 : (gt came 0 == v) = true := by simpa using hq
      have en : nxc came v = came ++ [v] := by unfold nxc; rw [if_pos ⟨hz, hq⟩]
      simp only [e1, en, cond_true, true_and]
      refine ⟨?_, trivial⟩
      cases hd : decide (w ≤ (((came ++ [v]).length : Nat) : Int)) <;> simp [hd]
    · have e1 : (gt came 0 == v) = false := by simpa using hq
      have en : nxc came v = [v] := by unfold nxc; rw [if_neg (fun hh => hq hh.2)]
      simp only [e1, en, cond_false, true_and]
      refine ⟨?_, trivial⟩
      cases hd : decide (w ≤ 1) <;> simp [hd]
theorem come_n {w b v : Int} (hw : 2 ≤ w ∧ w ≤ 16) {came : List Int} (hcl : came.length ≤ 300) (hv : R32 v) :
    Zbr came w v = true ∧ Zb6 came w b v = (decide (w ≤ ((nxc came v).length : Int)) && mv w b []) ∧ Zbk came v = nxc came v := by
  obtain ⟨_, r1, r2⟩ := ref_n (b := b) hw
  have h8 := (Zpk v).2
  rw [decide_eq_true hv] at h8
  have hS : Zgf true = true := rfl
  have d1 : decide ((([] : List Int).length + came.length) * 8 ≤ 140737488355328) = true := decide_eq_true (by simp; omega)
  have d2 : decide ((came.length + [v].length) * 8 ≤ 140737488355328) = true := decide_eq_true (by simp; omega)
  simp only [Zbr, Zb6, Zbk, h8, hS, r1, r2, d1, d2, tb_eq, cond_true]
  by_cases hz : came = []
  · subst hz
    have en : nxc [] v = [v] := by unfold nxc; simp
    rw [en]
    have e0 : decide ((0 : Int) < ((([] : List Int).length : Nat) : Int)) = false := rfl
    simp only [e0, cond_false, true_and]
    refine ⟨?_, trivial⟩
    cases hd : decide (w ≤ 1) <;> simp [hd]
  · have hp : 0 < came.length := List.length_pos_iff.2 hz
    have e0 : decide ((0 : Int) < ((came.length : Nat) : Int)) = true := decide_eq_true (by omega)
    have i0 : inb came.length 0 = true := inb_of (by omega) (by omega)
    simp only [e0, i0, cond_true]
    by_cases hq : gt came 0 = v
    · have e1 : (gt came 0 == v) = true := by simpa using hq
      have en : nxc came v = came ++ [v] := by unfold nxc; rw [if_pos ⟨hz, hq⟩]
      simp only [e1, en, cond_true, true_and]
      refine ⟨?_, trivial⟩
      cases hd : decide (w ≤ (((came ++ [v]).length : Nat) : Int)) <;> simp [hd]
    · have e1 : (gt came 0 == v) = false := by simpa using hq
      have en : nxc came v = [v] := by unfold nxc; rw [if_neg (fun hh => hq hh.2)]
      simp only [e1, en, cond_false, true_and]
      refine ⟨?_, trivial⟩
      cases hd : decide (w ≤ 1) <;> simp [hd]
theorem Zwq {w b v : Int} (T V came : List Int) (a n last run : Int) (hv : ¬ R32 v) :
    Z6 w T a n last run v = true ∧ Zg w b T a n last run v = false ∧ Zf v = 1 ∧
    Z7 last v = last ∧ Z8 w last run v = run ∧
    Zbr came w v = false ∧ Zdx v = true ∧ Zbv V came w false v = false ∧ Zec v = true := by
  obtain ⟨h1, h2⟩ := Zpk v
  rw [decide_eq_false hv] at h1 h2
  have hS : Zga false = false := rfl
  have hS2 : Zgf false = false := rfl
  simp only [Z6, Zg, Zf, Z7, Z8, Zbr, Zdx, Zbv, Zec, h1, h2, hS, hS2, tb_eq, cond_false, and_self]
end Go.Proofs.Ytdlhhoejnhjbhaa.Den

namespace Go.Proofs.Ytdlhhoejnhjbhaa.Den
open Go
set_option linter.unusedVariables false
set_option linter.unusedSimpArgs false
set_option maxRecDepth 100000
set_option maxHeartbeats 4000000
structure Q9 (w : Int) (i : Int) (T : List Int) (a n last run : Int) (V came : List Int) : Prop where
  v : W9 w T a n V
  c : C9 w last run came
  vl : (V.length : Int) ≤ i
  cl : (came.length : Int) ≤ i
def J9 (w : Int) : Zs → Prop
  | .h0 s => Q9 w s.c4 s.c7 s.c8 s.c9 s.c11 s.c12 [] []
  | .h1 s => Q9 w s.c4 s.c7 s.c8 s.c9 s.c11 s.c12 s.c20 [] ∧ s.c20 ≠ []
  | .h2 s => Q9 w s.c4 s.c7 s.c8 s.c9 s.c11 s.c12 [] s.c19
  | .h3 s => Q9 w s.c4 s.c7 s.c8 s.c9 s.c11 s.c12 s.c20 s.c22 ∧ s.c20 ≠ []
def ix9 : Zs → Int
  | .h0 s => s.c4
  | .h1 s => s.c4
  | .h2 s => s.c4
  | .h3 s => s.c4
theorem run_0 {w : Int} (hw : 2 ≤ w ∧ w ≤ 16) : mnI 0 w = 0 := by unfold mnI; split <;> omega
theorem Zt4 {w last : Int} (hw : 2 ≤ w ∧ w ≤ 16) : C9 w last 0 [] := ⟨(run_0 hw).symm, fun h => absurd rfl h, by simp⟩
theorem same_b (b : Bool) : (true != (b == b)) = false := by cases b <;> rfl
theorem same_n (x : Int) : (x != x) = false := by simp
theorem Z31 {w b i a n last run : Int} {T : List Int} {L : List Zh} (hw : 2 ≤ w ∧ w ≤ 16) (hL : L.length ≤ 200) (h0 : 0 ≤ i) (hi : i < L.length) (h : Q9 w i T a n last run ([] : List Int) ([] : List Int)) :
    Zc2 w b [] w b w L (⟨i, T, a, n, last, run⟩ : Zbo) = true ∧ J9 w (Zdu w b [] w b w L (⟨i, T, a, n, last, run⟩ : Zbo)) ∧ ix9 (Zdu w b [] w b w L (⟨i, T, a, n, last, run⟩ : Zbo)) = i + 1 := by
  have i1 : decide (i < ((L.length : Nat) : Int)) = true := decide_eq_true hi
  have i2 : inb L.length i = true := inb_of h0 hi
  have hwi : wi (i + 1) = i + 1 := wi_eq (by omega) (by omega)
  have hvl := h.vl
  have hcl := h.cl
  have hrun := h.c.run
  obtain ⟨z, hz⟩ : ∃ z, gt L i = z := ⟨_, rfl⟩
  obtain ⟨f1, f2, f3, f4⟩ := Zov (b := b) hw h.v
  obtain ⟨k1, k2⟩ := Zpn w h.v.len
  obtain ⟨d1, d2, d3⟩ := ref_n (b := b) hw
  have m0 := run_0 hw
  rw [dr_nil] at f2 k1 k2
  by_cases hk : ((remI .u8 z.c0 2 : Int) == 1) = true
  · by_cases hv : R32 z.c2
    · obtain ⟨p1, p2, p3, p4, p5⟩ := Zwu hw h.v (by omega) hv
      have p5 : W9 w (Zbs T a z.c2) (Zc w a z.c2) (Zb w n z.c2) [z.c2] := p5
      obtain ⟨F1, F2, F3, F4⟩ := Zov (b := b) hw p5
      have hne2 : [z.c2] ≠ [] := by simp
      obtain ⟨G1, G2, G3, G4, G5⟩ := ref_f (b := b) hw hne2 p5.right p5.len
      obtain ⟨K1, K2⟩ := Zpn w p5.len
      refine ⟨?_, ?_, ?_⟩
      · simp only [Zc2, Zcu, Zfx, Zk, Zfw, Zcr, Zfo, Zcf, Zcg, Zck, Zct, Ze0, Ze4, Zcq, Zev, Ze6, Zez, Zco, Zew, Zy, Zcm, Zgd, Zgu, Zgv, Zh4, Zf0, Zh0, i1, i2, hz, f1, f2, f3, f4, k1, k2, d1, d2, d3, m0, same_b, same_n, tb_eq, cond_true, cond_false, hk, p1, p2, p3, p4, F1, F2, F3, F4, G1, G2, G3, G4, G5, K1, K2]
        rw [hrun]; simp
      · simp only [Zdu, Zk, Zb2, Zy, hz, hk, hwi, p1, p2, p3, p4, tb_eq, cond_true, cond_false]
        exact ⟨⟨p5, h.c, by simp; omega, by dsimp only; omega⟩, by simp⟩
      · simp only [Zdu, Zk, Zb2, Zy, hz, hk, hwi, p1, p2, p3, p4, tb_eq, cond_true, cond_false, ix9]
    · obtain ⟨p1, p2, p3, p4, p5, p6, p7, p8⟩ := Zwt (w := w) T ([] : List Int) a n hv
      refine ⟨?_, ?_, ?_⟩
      · simp only [Zc2, Zcu, Zfx, Zk, Zfw, Zcr, Zfo, Zcf, Zcg, Zck, Zct, Ze0, Ze4, Zcq, Zev, Ze6, Zez, Zco, Zew, Zy, Zcm, Zgd, Zgu, Zgv, Zh4, Zf0, Zh0, i1, i2, hz, f1, f2, f3, f4, k1, k2, d1, d2, d3, m0, same_b, same_n, tb_eq, cond_true, cond_false, hk, p1, p2, p3, p4, p5, p6, p7, p8]
        rw [hrun]; simp
      · simp only [Zdu, Zk, Zb2, Zy, hz, hk, hwi, p1, p2, p3, p4, p5, p6, p7, p8, tb_eq, cond_true, cond_false]
        exact ⟨h.v, h.c, by dsimp only; omega, by dsimp only; omega⟩
      · simp only [Zdu, Zk, Zb2, Zy, hz, hk, hwi, p1, p2, p3, p4, p5, p6, p7, p8, tb_eq, cond_true, cond_false, ix9]
  · have hk : ((remI .u8 z.c0 2 : Int) == 1) = false := by simpa using hk
    cases hm : z.c1 with
    | true =>
      refine ⟨?_, ?_, ?_⟩
      · simp only [Zc2, Zcu, Zfx, Zk, Zfw, Zcr, Zfo, Zcf, Zcg, Zck, Zct, Ze0, Ze4, Zcq, Zev, Ze6, Zez, Zco, Zew, Zy, Zcm, Zgd, Zgu, Zgv, Zh4, Zf0, Zh0, i1, i2, hz, f1, f2, f3, f4, k1, k2, d1, d2, d3, m0, same_b, same_n, tb_eq, cond_true, cond_false, hk, hm]
      · simp only [Zdu, Zk, Zb2, Zy, hz, hk, hm, hwi, tb_eq, cond_true, cond_false]
        exact ⟨h.v, Zt4 hw, by dsimp only; omega, by show ((([] : List Int).length : Nat) : Int) ≤ i + 1; simp; omega⟩
      · simp only [Zdu, Zk, Zb2, Zy, hz, hk, hm, hwi, tb_eq, cond_true, cond_false, ix9]
    | false =>
      by_cases hv : R32 z.c2
      · obtain ⟨p1, p2, p3, p4, p5⟩ := come_p (b := b) hw h.v h.c hv
        obtain ⟨q1, q2, q3⟩ := come_n (b := b) (came := ([] : List Int)) hw h.c.len hv
        have hC := nxc_c9 (v := z.c2) h.c (by have := h.cl; omega)
        have hn := (Zuh ([] : List Int) z.c2).2
        refine ⟨?_, ?_, ?_⟩
        · simp only [Zc2, Zcu, Zfx, Zk, Zfw, Zcr, Zfo, Zcf, Zcg, Zck, Zct, Ze0, Ze4, Zcq, Zev, Ze6, Zez, Zco, Zew, Zy, Zcm, Zgd, Zgu, Zgv, Zh4, Zf0, Zh0, i1, i2, hz, f1, f2, f3, f4, k1, k2, d1, d2, d3, m0, same_b, same_n, tb_eq, cond_true, cond_false, hk, hm, p1, p2, p3, p4, p5, q1, q2, q3]
          try simp
        · simp only [Zdu, Zk, Zb2, Zy, hz, hk, hm, hwi, p1, p2, p3, p4, p5, q1, q2, q3, tb_eq, cond_true, cond_false]
          exact ⟨h.v, hC, by dsimp only; omega, by dsimp only; omega⟩
        · simp only [Zdu, Zk, Zb2, Zy, hz, hk, hm, hwi, q1, tb_eq, cond_true, cond_false, ix9]
      · obtain ⟨p1, p2, p3, p4, p5, p6, p7, p8, p9⟩ := Zwq (w := w) (b := b) T ([] : List Int) ([] : List Int) a n last run hv
        refine ⟨?_, ?_, ?_⟩
        · simp only [Zc2, Zcu, Zfx, Zk, Zfw, Zcr, Zfo, Zcf, Zcg, Zck, Zct, Ze0, Ze4, Zcq, Zev, Ze6, Zez, Zco, Zew, Zy, Zcm, Zgd, Zgu, Zgv, Zh4, Zf0, Zh0, i1, i2, hz, f1, f2, f3, f4, k1, k2, d1, d2, d3, m0, same_b, same_n, tb_eq, cond_true, cond_false, hk, hm, p1, p2, p3, p4, p5, p6, p7, p8, p9]
          rw [hrun]; simp
        · simp only [Zdu, Zk, Zb2, Zy, hz, hk, hm, hwi, p1, p2, p3, p4, p5, p6, p7, p8, p9, tb_eq, cond_true, cond_false]
          exact ⟨h.v, h.c, by dsimp only; omega, by dsimp only; omega⟩
        · simp only [Zdu, Zk, Zb2, Zy, hz, hk, hm, hwi, p6, p7, p8, p9, tb_eq, cond_true, cond_false, ix9]
theorem Z3i {w b i a n last run : Int} {T V : List Int} {L : List Zh} (hw : 2 ≤ w ∧ w ≤ 16) (hL : L.length ≤ 200) (h0 : 0 ≤ i) (hi : i < L.length) (h : Q9 w i T a n last run V ([] : List Int)) (hne : V ≠ []) :
    Zdz w b [] w b w L (⟨i, T, a, n, last, run, V⟩ : Zbw) = true ∧ J9 w (Zdt w b [] w b w L (⟨i, T, a, n, last, run, V⟩ : Zbw)) ∧ ix9 (Zdt w b [] w b w L (⟨i, T, a, n, last, run, V⟩ : Zbw)) = i + 1 := by
  have i1 : decide (i < ((L.length : Nat) : Int)) = true := decide_eq_true hi
  have i2 : inb L.length i = true := inb_of h0 hi
  have hwi : wi (i + 1) = i + 1 := wi_eq (by omega) (by omega)
  have hvl := h.vl
  have hcl := h.cl
  have hrun := h.c.run
  obtain ⟨z, hz⟩ : ∃ z, gt L i = z := ⟨_, rfl⟩
  obtain ⟨f1, f2, f3, f4⟩ := Zov (b := b) hw h.v
  obtain ⟨k1, k2⟩ := Zpn w h.v.len
  obtain ⟨d1, d2, d3⟩ := ref_n (b := b) hw
  have m0 := run_0 hw
  obtain ⟨g1, g2, g3, g4, g5⟩ := ref_f (b := b) hw hne h.v.right h.v.len
  by_cases hk : ((remI .u8 z.c0 2 : Int) == 1) = true
  · by_cases hv : R32 z.c2
    · obtain ⟨p1, p2, p3, p4, p5⟩ := Zwu hw h.v (by omega) hv
      obtain ⟨F1, F2, F3, F4⟩ := Zov (b := b) hw p5
      have hne2 : V ++ [z.c2] ≠ [] := by simp
      obtain ⟨G1, G2, G3, G4, G5⟩ := ref_f (b := b) hw hne2 p5.right p5.len
      obtain ⟨K1, K2⟩ := Zpn w p5.len
      refine ⟨?_, ?_, ?_⟩
      · simp only [Zdz, Zcx, Zfu, Zm, Zfq, Zda, Zft, Zc5, Zc6, Zde, Zdl, Zfl, Zfn, Zdb, Zfm, Zfs, Zfr, Zdc, Zfp, Z4, Zdf, Zgw, Ze5, Zhe, Zhq, Zey, Zhg, Zhm, Ze8, Zhd, Zhr, Ze3, Zhi, i1, i2, hz, f1, f2, f3, f4, k1, k2, d1, d2, d3, m0, g1, g2, g3, g4, g5, same_b, same_n, tb_eq, cond_true, cond_false, hk, p1, p2, p3, p4, F1, F2, F3, F4, G1, G2, G3, G4, G5, K1, K2]
        rw [hrun]; simp
      · simp only [Zdt, Zm, Zbz, Z4, hz, hk, hwi, p1, p2, p3, p4, tb_eq, cond_true, cond_false]
        exact ⟨⟨p5, h.c, by simp; omega, by dsimp only; omega⟩, by simp⟩
      · simp only [Zdt, Zm, Zbz, Z4, hz, hk, hwi, p1, p2, p3, p4, tb_eq, cond_true, cond_false, ix9]
    · obtain ⟨p1, p2, p3, p4, p5, p6, p7, p8⟩ := Zwt (w := w) T V a n hv
      refine ⟨?_, ?_, ?_⟩
      · simp only [Zdz, Zcx, Zfu, Zm, Zfq, Zda, Zft, Zc5, Zc6, Zde, Zdl, Zfl, Zfn, Zdb, Zfm, Zfs, Zfr, Zdc, Zfp, Z4, Zdf, Zgw, Ze5, Zhe, Zhq, Zey, Zhg, Zhm, Ze8, Zhd, Zhr, Ze3, Zhi, i1, i2, hz, f1, f2, f3, f4, k1, k2, d1, d2, d3, m0, g1, g2, g3, g4, g5, same_b, same_n, tb_eq, cond_true, cond_false, hk, p1, p2, p3, p4, p5, p6, p7, p8]
        rw [hrun]; simp
      · simp only [Zdt, Zm, Zbz, Z4, hz, hk, hwi, p1, p2, p3, p4, p5, p6, p7, p8, tb_eq, cond_true, cond_false]
        exact ⟨⟨h.v, h.c, by dsimp only; omega, by dsimp only; omega⟩, hne⟩
      · simp only [Zdt, Zm, Zbz, Z4, hz, hk, hwi, p1, p2, p3, p4, p5, p6, p7, p8, tb_eq, cond_true, cond_false, ix9]
  · have hk : ((remI .u8 z.c0 2 : Int) == 1) = false := by simpa using hk
    cases hm : z.c1 with
    | true =>
      refine ⟨?_, ?_, ?_⟩
      · simp only [Zdz, Zcx, Zfu, Zm, Zfq, Zda, Zft, Zc5, Zc6, Zde, Zdl, Zfl, Zfn, Zdb, Zfm, Zfs, Zfr, Zdc, Zfp, Z4, Zdf, Zgw, Ze5, Zhe, Zhq, Zey, Zhg, Zhm, Ze8, Zhd, Zhr, Ze3, Zhi, i1, i2, hz, f1, f2, f3, f4, k1, k2, d1, d2, d3, m0, g1, g2, g3, g4, g5, same_b, same_n, tb_eq, cond_true, cond_false, hk, hm]
      · simp only [Zdt, Zm, Zbz, Z4, hz, hk, hm, hwi, tb_eq, cond_true, cond_false]
        exact ⟨⟨h.v, Zt4 hw, by dsimp only; omega, by show ((([] : List Int).length : Nat) : Int) ≤ i + 1; simp; omega⟩, hne⟩
      · simp only [Zdt, Zm, Zbz, Z4, hz, hk, hm, hwi, tb_eq, cond_true, cond_false, ix9]
    | false =>
      by_cases hv : R32 z.c2
      · obtain ⟨p1, p2, p3, p4, p5⟩ := come_p (b := b) hw h.v h.c hv
        obtain ⟨q1, q2, q3⟩ := come_f (b := b) (came := ([] : List Int)) hw hne h.v.right h.v.len h.c.len hv
        have hC := nxc_c9 (v := z.c2) h.c (by have := h.cl; omega)
        have hn := (Zuh ([] : List Int) z.c2).2
        refine ⟨?_, ?_, ?_⟩
        · simp only [Zdz, Zcx, Zfu, Zm, Zfq, Zda, Zft, Zc5, Zc6, Zde, Zdl, Zfl, Zfn, Zdb, Zfm, Zfs, Zfr, Zdc, Zfp, Z4, Zdf, Zgw, Ze5, Zhe, Zhq, Zey, Zhg, Zhm, Ze8, Zhd, Zhr, Ze3, Zhi, i1, i2, hz, f1, f2, f3, f4, k1, k2, d1, d2, d3, m0, g1, g2, g3, g4, g5, same_b, same_n, tb_eq, cond_true, cond_false, hk, hm, p1, p2, p3, p4, p5, q1, q2, q3]
          try simp
        · simp only [Zdt, Zm, Zbz, Z4, hz, hk, hm, hwi, p1, p2, p3, p4, p5, q1, q2, q3, tb_eq, cond_true, cond_false]
          exact ⟨⟨h.v, hC, by dsimp only; omega, by dsimp only; omega⟩, hne⟩
        · simp only [Zdt, Zm, Zbz, Z4, hz, hk, hm, hwi, q1, tb_eq, cond_true, cond_false, ix9]
      · obtain ⟨p1, p2, p3, p4, p5, p6, p7, p8, p9⟩ := Zwq (w := w) (b := b) T V ([] : List Int) a n last run hv
        refine ⟨?_, ?_, ?_⟩
        · simp only [Zdz, Zcx, Zfu, Zm, Zfq, Zda, Zft, Zc5, Zc6, Zde, Zdl, Zfl, Zfn, Zdb, Zfm, Zfs, Zfr, Zdc, Zfp, Z4, Zdf, Zgw, Ze5, Zhe, Zhq, Zey, Zhg, Zhm, Ze8, Zhd, Zhr, Ze3, Zhi, i1, i2, hz, f1, f2, f3, f4, k1, k2, d1, d2, d3, m0, g1, g2, g3, g4, g5, same_b, same_n, tb_eq, cond_true, cond_false, hk, hm, p1, p2, p3, p4, p5, p6, p7, p8, p9]
          rw [hrun]; simp
        · simp only [Zdt, Zm, Zbz, Z4, hz, hk, hm, hwi, p1, p2, p3, p4, p5, p6, p7, p8, p9, tb_eq, cond_true, cond_false]
          exact ⟨⟨h.v, h.c, by dsimp only; omega, by dsimp only; omega⟩, hne⟩
        · simp only [Zdt, Zm, Zbz, Z4, hz, hk, hm, hwi, p6, p7, p8, p9, tb_eq, cond_true, cond_false, ix9]
theorem Z3k {w b i a n last run : Int} {T C : List Int} {bb : Bool} {L : List Zh} (hw : 2 ≤ w ∧ w ≤ 16) (hL : L.length ≤ 200) (h0 : 0 ≤ i) (hi : i < L.length) (h : Q9 w i T a n last run ([] : List Int) C) :
    Zc3 w b [] w b w L (⟨bb, i, T, a, n, last, run, C⟩ : Zbp) = true ∧ J9 w (Zdv w b [] w b w L (⟨bb, i, T, a, n, last, run, C⟩ : Zbp)) ∧ ix9 (Zdv w b [] w b w L (⟨bb, i, T, a, n, last, run, C⟩ : Zbp)) = i + 1 := by
  have i1 : decide (i < ((L.length : Nat) : Int)) = true := decide_eq_true hi
  have i2 : inb L.length i = true := inb_of h0 hi
  have hwi : wi (i + 1) = i + 1 := wi_eq (by omega) (by omega)
  have hvl := h.vl
  have hcl := h.cl
  have hrun := h.c.run
  obtain ⟨z, hz⟩ : ∃ z, gt L i = z := ⟨_, rfl⟩
  obtain ⟨f1, f2, f3, f4⟩ := Zov (b := b) hw h.v
  obtain ⟨k1, k2⟩ := Zpn w h.v.len
  obtain ⟨d1, d2, d3⟩ := ref_n (b := b) hw
  have m0 := run_0 hw
  rw [dr_nil] at f2 k1 k2
  by_cases hk : ((remI .u8 z.c0 2 : Int) == 1) = true
  · by_cases hv : R32 z.c2
    · obtain ⟨p1, p2, p3, p4, p5⟩ := Zwu hw h.v (by omega) hv
      have p5 : W9 w (Zbs T a z.c2) (Zc w a z.c2) (Zb w n z.c2) [z.c2] := p5
      obtain ⟨F1, F2, F3, F4⟩ := Zov (b := b) hw p5
      have hne2 : [z.c2] ≠ [] := by simp
      obtain ⟨G1, G2, G3, G4, G5⟩ := ref_f (b := b) hw hne2 p5.right p5.len
      obtain ⟨K1, K2⟩ := Zpn w p5.len
      refine ⟨?_, ?_, ?_⟩
      · simp only [Zc3, Zb9, Ze2, Zj, Ze7, Zcl, Zex, Zce, Zch, Zcj, Zcs, Zek, Zep, Zcn, Zeg, Zej, Zeo, Zci, Zee, Zz, Zcp, Zgc, Zgl, Zgk, Zhp, Ze1, Zhf, i1, i2, hz, f1, f2, f3, f4, k1, k2, d1, d2, d3, m0, same_b, same_n, tb_eq, cond_true, cond_false, hk, p1, p2, p3, p4, F1, F2, F3, F4, G1, G2, G3, G4, G5, K1, K2]
        rw [hrun]; simp
      · simp only [Zdv, Zj, Zb0, Zz, hz, hk, hwi, p1, p2, p3, p4, tb_eq, cond_true, cond_false]
        exact ⟨⟨p5, h.c, by simp; omega, by dsimp only; omega⟩, by simp⟩
      · simp only [Zdv, Zj, Zb0, Zz, hz, hk, hwi, p1, p2, p3, p4, tb_eq, cond_true, cond_false, ix9]
    · obtain ⟨p1, p2, p3, p4, p5, p6, p7, p8⟩ := Zwt (w := w) T ([] : List Int) a n hv
      refine ⟨?_, ?_, ?_⟩
      · simp only [Zc3, Zb9, Ze2, Zj, Ze7, Zcl, Zex, Zce, Zch, Zcj, Zcs, Zek, Zep, Zcn, Zeg, Zej, Zeo, Zci, Zee, Zz, Zcp, Zgc, Zgl, Zgk, Zhp, Ze1, Zhf, i1, i2, hz, f1, f2, f3, f4, k1, k2, d1, d2, d3, m0, same_b, same_n, tb_eq, cond_true, cond_false, hk, p1, p2, p3, p4, p5, p6, p7, p8]
        rw [hrun]; simp
      · simp only [Zdv, Zj, Zb0, Zz, hz, hk, hwi, p1, p2, p3, p4, p5, p6, p7, p8, tb_eq, cond_true, cond_false]
        exact ⟨h.v, h.c, by dsimp only; omega, by dsimp only; omega⟩
      · simp only [Zdv, Zj, Zb0, Zz, hz, hk, hwi, p1, p2, p3, p4, p5, p6, p7, p8, tb_eq, cond_true, cond_false, ix9]
  · have hk : ((remI .u8 z.c0 2 : Int) == 1) = false := by simpa using hk
    cases hm : z.c1 with
    | true =>
      refine ⟨?_, ?_, ?_⟩
      · simp only [Zc3, Zb9, Ze2, Zj, Ze7, Zcl, Zex, Zce, Zch, Zcj, Zcs, Zek, Zep, Zcn, Zeg, Zej, Zeo, Zci, Zee, Zz, Zcp, Zgc, Zgl, Zgk, Zhp, Ze1, Zhf, i1, i2, hz, f1, f2, f3, f4, k1, k2, d1, d2, d3, m0, same_b, same_n, tb_eq, cond_true, cond_false, hk, hm]
      · simp only [Zdv, Zj, Zb0, Zz, hz, hk, hm, hwi, tb_eq, cond_true, cond_false]
        exact ⟨h.v, Zt4 hw, by dsimp only; omega, by show ((([] : List Int).length : Nat) : Int) ≤ i + 1; simp; omega⟩
      · simp only [Zdv, Zj, Zb0, Zz, hz, hk, hm, hwi, tb_eq, cond_true, cond_false, ix9]
    | false =>
      by_cases hv : R32 z.c2
      · obtain ⟨p1, p2, p3, p4, p5⟩ := come_p (b := b) hw h.v h.c hv
        obtain ⟨q1, q2, q3⟩ := come_n (b := b) (came := C) hw h.c.len hv
        have hC := nxc_c9 (v := z.c2) h.c (by have := h.cl; omega)
        have hn := (Zuh C z.c2).2
        refine ⟨?_, ?_, ?_⟩
        · simp only [Zc3, Zb9, Ze2, Zj, Ze7, Zcl, Zex, Zce, Zch, Zcj, Zcs, Zek, Zep, Zcn, Zeg, Zej, Zeo, Zci, Zee, Zz, Zcp, Zgc, Zgl, Zgk, Zhp, Ze1, Zhf, i1, i2, hz, f1, f2, f3, f4, k1, k2, d1, d2, d3, m0, same_b, same_n, tb_eq, cond_true, cond_false, hk, hm, p1, p2, p3, p4, p5, q1, q2, q3]
          try simp
        · simp only [Zdv, Zj, Zb0, Zz, hz, hk, hm, hwi, p1, p2, p3, p4, p5, q1, q2, q3, tb_eq, cond_true, cond_false]
          exact ⟨h.v, hC, by dsimp only; omega, by dsimp only; omega⟩
        · simp only [Zdv, Zj, Zb0, Zz, hz, hk, hm, hwi, q1, tb_eq, cond_true, cond_false, ix9]
      · obtain ⟨p1, p2, p3, p4, p5, p6, p7, p8, p9⟩ := Zwq (w := w) (b := b) T ([] : List Int) C a n last run hv
        refine ⟨?_, ?_, ?_⟩
        · simp only [Zc3, Zb9, Ze2, Zj, Ze7, Zcl, Zex, Zce, Zch, Zcj, Zcs, Zek, Zep, Zcn, Zeg, Zej, Zeo, Zci, Zee, Zz, Zcp, Zgc, Zgl, Zgk, Zhp, Ze1, Zhf, i1, i2, hz, f1, f2, f3, f4, k1, k2, d1, d2, d3, m0, same_b, same_n, tb_eq, cond_true, cond_false, hk, hm, p1, p2, p3, p4, p5, p6, p7, p8, p9]
          rw [hrun]; simp
        · simp only [Zdv, Zj, Zb0, Zz, hz, hk, hm, hwi, p1, p2, p3, p4, p5, p6, p7, p8, p9, tb_eq, cond_true, cond_false]
          exact ⟨h.v, h.c, by dsimp only; omega, by dsimp only; omega⟩
        · simp only [Zdv, Zj, Zb0, Zz, hz, hk, hm, hwi, p6, p7, p8, p9, tb_eq, cond_true, cond_false, ix9]
theorem Z3h {w b i a n last run : Int} {T V C : List Int} {bb : Bool} {L : List Zh} (hw : 2 ≤ w ∧ w ≤ 16) (hL : L.length ≤ 200) (h0 : 0 ≤ i) (hi : i < L.length) (h : Q9 w i T a n last run V C) (hne : V ≠ []) :
    Zd0 w b [] w b w L (⟨bb, i, T, a, n, last, run, V, C⟩ : Zbx) = true ∧ J9 w (Zds w b [] w b w L (⟨bb, i, T, a, n, last, run, V, C⟩ : Zbx)) ∧ ix9 (Zds w b [] w b w L (⟨bb, i, T, a, n, last, run, V, C⟩ : Zbx)) = i + 1 := by
  have i1 : decide (i < ((L.length : Nat) : Int)) = true := decide_eq_true hi
  have i2 : inb L.length i = true := inb_of h0 hi
  have hwi : wi (i + 1) = i + 1 := wi_eq (by omega) (by omega)
  have hvl := h.vl
  have hcl := h.cl
  have hrun := h.c.run
  obtain ⟨z, hz⟩ : ∃ z, gt L i = z := ⟨_, rfl⟩
  obtain ⟨f1, f2, f3, f4⟩ := Zov (b := b) hw h.v
  obtain ⟨k1, k2⟩ := Zpn w h.v.len
  obtain ⟨d1, d2, d3⟩ := ref_n (b := b) hw
  have m0 := run_0 hw
  obtain ⟨g1, g2, g3, g4, g5⟩ := ref_f (b := b) hw hne h.v.right h.v.len
  by_cases hk : ((remI .u8 z.c0 2 : Int) == 1) = true
  · by_cases hv : R32 z.c2
    · obtain ⟨p1, p2, p3, p4, p5⟩ := Zwu hw h.v (by omega) hv
      obtain ⟨F1, F2, F3, F4⟩ := Zov (b := b) hw p5
      have hne2 : V ++ [z.c2] ≠ [] := by simp
      obtain ⟨G1, G2, G3, G4, G5⟩ := ref_f (b := b) hw hne2 p5.right p5.len
      obtain ⟨K1, K2⟩ := Zpn w p5.len
      refine ⟨?_, ?_, ?_⟩
      · simp only [Zd0, Zcy, Zfa, Zl, Zff, Zdh, Zfi, Zc0, Zc1, Zdd, Zc4, Zfb, Zfc, Zdi, Zfg, Zfd, Zfe, Zdg, Zfh, Z5, Zc9, Zgp, Zei, Zg5, Zg9, Zem, Zg3, Zg8, Zen, Zg6, Zha, Zeq, Zg4, i1, i2, hz, f1, f2, f3, f4, k1, k2, d1, d2, d3, m0, g1, g2, g3, g4, g5, same_b, same_n, tb_eq, cond_true, cond_false, hk, p1, p2, p3, p4, F1, F2, F3, F4, G1, G2, G3, G4, G5, K1, K2]
        rw [hrun]; simp
      · simp only [Zds, Zl, Zb1, Z5, hz, hk, hwi, p1, p2, p3, p4, tb_eq, cond_true, cond_false]
        exact ⟨⟨p5, h.c, by simp; omega, by dsimp only; omega⟩, by simp⟩
      · simp only [Zds, Zl, Zb1, Z5, hz, hk, hwi, p1, p2, p3, p4, tb_eq, cond_true, cond_false, ix9]
    · obtain ⟨p1, p2, p3, p4, p5, p6, p7, p8⟩ := Zwt (w := w) T V a n hv
      refine ⟨?_, ?_, ?_⟩
      · simp only [Zd0, Zcy, Zfa, Zl, Zff, Zdh, Zfi, Zc0, Zc1, Zdd, Zc4, Zfb, Zfc, Zdi, Zfg, Zfd, Zfe, Zdg, Zfh, Z5, Zc9, Zgp, Zei, Zg5, Zg9, Zem, Zg3, Zg8, Zen, Zg6, Zha, Zeq, Zg4, i1, i2, hz, f1, f2, f3, f4, k1, k2, d1, d2, d3, m0, g1, g2, g3, g4, g5, same_b, same_n, tb_eq, cond_true, cond_false, hk, p1, p2, p3, p4, p5, p6, p7, p8]
        rw [hrun]; simp
      · simp only [Zds, Zl, Zb1, Z5, hz, hk, hwi, p1, p2, p3, p4, p5, p6, p7, p8, tb_eq, cond_true, cond_false]
        exact ⟨⟨h.v, h.c, by dsimp only; omega, by dsimp only; omega⟩, hne⟩
      · simp only [Zds, Zl, Zb1, Z5, hz, hk, hwi, p1, p2, p3, p4, p5, p6, p7, p8, tb_eq, cond_true, cond_false, ix9]
  · have hk : ((remI .u8 z.c0 2 : Int) == 1) = false := by simpa using hk
    cases hm : z.c1 with
    | true =>
      refine ⟨?_, ?_, ?_⟩
      · simp only [Zd0, Zcy, Zfa, Zl, Zff, Zdh, Zfi, Zc0, Zc1, Zdd, Zc4, Zfb, Zfc, Zdi, Zfg, Zfd, Zfe, Zdg, Zfh, Z5, Zc9, Zgp, Zei, Zg5, Zg9, Zem, Zg3, Zg8, Zen, Zg6, Zha, Zeq, Zg4, i1, i2, hz, f1, f2, f3, f4, k1, k2, d1, d2, d3, m0, g1, g2, g3, g4, g5, same_b, same_n, tb_eq, cond_true, cond_false, hk, hm]
      · simp only [Zds, Zl, Zb1, Z5, hz, hk, hm, hwi, tb_eq, cond_true, cond_false]
        exact ⟨⟨h.v, Zt4 hw, by dsimp only; omega, by show ((([] : List Int).length : Nat) : Int) ≤ i + 1; simp; omega⟩, hne⟩
      · simp only [Zds, Zl, Zb1, Z5, hz, hk, hm, hwi, tb_eq, cond_true, cond_false, ix9]
    | false =>
      by_cases hv : R32 z.c2
      · obtain ⟨p1, p2, p3, p4, p5⟩ := come_p (b := b) hw h.v h.c hv
        obtain ⟨q1, q2, q3⟩ := come_f (b := b) (came := C) hw hne h.v.right h.v.len h.c.len hv
        have hC := nxc_c9 (v := z.c2) h.c (by have := h.cl; omega)
        have hn := (Zuh C z.c2).2
        refine ⟨?_, ?_, ?_⟩
        · simp only [Zd0, Zcy, Zfa, Zl, Zff, Zdh, Zfi, Zc0, Zc1, Zdd, Zc4, Zfb, Zfc, Zdi, Zfg, Zfd, Zfe, Zdg, Zfh, Z5, Zc9, Zgp, Zei, Zg5, Zg9, Zem, Zg3, Zg8, Zen, Zg6, Zha, Zeq, Zg4, i1, i2, hz, f1, f2, f3, f4, k1, k2, d1, d2, d3, m0, g1, g2, g3, g4, g5, same_b, same_n, tb_eq, cond_true, cond_false, hk, hm, p1, p2, p3, p4, p5, q1, q2, q3]
          try simp
        · simp only [Zds, Zl, Zb1, Z5, hz, hk, hm, hwi, p1, p2, p3, p4, p5, q1, q2, q3, tb_eq, cond_true, cond_false]
          exact ⟨⟨h.v, hC, by dsimp only; omega, by dsimp only; omega⟩, hne⟩
        · simp only [Zds, Zl, Zb1, Z5, hz, hk, hm, hwi, q1, tb_eq, cond_true, cond_false, ix9]
      · obtain ⟨p1, p2, p3, p4, p5, p6, p7, p8, p9⟩ := Zwq (w := w) (b := b) T V C a n last run hv
        refine ⟨?_, ?_, ?_⟩
        · simp only [Zd0, Zcy, Zfa, Zl, Zff, Zdh, Zfi, Zc0, Zc1, Zdd, Zc4, Zfb, Zfc, Zdi, Zfg, Zfd, Zfe, Zdg, Zfh, Z5, Zc9, Zgp, Zei, Zg5, Zg9, Zem, Zg3, Zg8, Zen, Zg6, Zha, Zeq, Zg4, i1, i2, hz, f1, f2, f3, f4, k1, k2, d1, d2, d3, m0, g1, g2, g3, g4, g5, same_b, same_n, tb_eq, cond_true, cond_false, hk, hm, p1, p2, p3, p4, p5, p6, p7, p8, p9]
          rw [hrun]; simp
        · simp only [Zds, Zl, Zb1, Z5, hz, hk, hm, hwi, p1, p2, p3, p4, p5, p6, p7, p8, p9, tb_eq, cond_true, cond_false]
          exact ⟨⟨h.v, h.c, by dsimp only; omega, by dsimp only; omega⟩, hne⟩
        · simp only [Zds, Zl, Zb1, Z5, hz, hk, hm, hwi, p6, p7, p8, p9, tb_eq, cond_true, cond_false, ix9]
theorem new_9 (w b : Int) : Zim w b = !(Zhj w b) := by
  have hr : Zc7 b = (decide (-2147483648 ≤ b) && decide (b ≤ 2147483647)) := by
    simp only [Zc7, tb_eq]; cases decide (-2147483648 ≤ b) <;> rfl
  simp only [Zim, Zhj, hr, tb_eq]
  by_cases h1 : w < 2
  · have : ¬ 2 ≤ w := by omega
    simp [h1, this]
  · have h1' : 2 ≤ w := by omega
    by_cases h2 : 16 < w
    · have : ¬ w ≤ 16 := by omega
      simp [h1, h1', h2, this]
    · have h2' : w ≤ 16 := by omega
      by_cases h3 : b < 0
      · have : ¬ 0 ≤ b := by omega
        simp [h1, h1', h2, h2', h3, this]
      · have h3' : 0 ≤ b := by omega
        have h4 : -2147483648 ≤ b := by omega
        by_cases h5 : b ≤ 2147483647 <;> simp [h1, h1', h2, h2', h3, h3', h4, h5]
theorem round9 {w b : Int} {L : List Zh} (hw : 2 ≤ w ∧ w ≤ 16) (hL : L.length ≤ 200) : ∀ s : Zs, J9 w s → 0 ≤ ix9 s → ix9 s < L.length →
    Zcw w b [] w b w L s = true ∧ J9 w (Zd7 w b [] w b w L s) ∧ ix9 (Zd7 w b [] w b w L s) = ix9 s + 1 := fun s hJ h0 hi => by
  cases s with
  | h0 s => obtain ⟨i, T, a, n, last, run⟩ := s; exact Z31 hw hL h0 hi hJ
  | h1 s => obtain ⟨i, T, a, n, last, run, V⟩ := s; exact Z3i hw hL h0 hi hJ.1 hJ.2
  | h2 s => obtain ⟨bb, i, T, a, n, last, run, C⟩ := s; exact Z3k hw hL h0 hi hJ
  | h3 s => obtain ⟨bb, i, T, a, n, last, run, V, C⟩ := s; exact Z3h hw hL h0 hi hJ.1 hJ.2
theorem Zya (x0 : Int) (x1 : Int) (x2 : Bool) (x3 : List Zh) (wx0 : WfI .i64 x0) (wx1 : WfI .i64 x1) (wx3 : (x3.length ≤ maxLen ∧ x3.length * 24 ≤ 140737488351232 ∧ ∀ z ∈ x3, WfI .u8 z.c0 ∧ WfI .i64 z.c2 ∧ True)) : Zkg x0 x1 x3 = true ∧ (Zjz x0 x1 x3) = true := by
  by_cases hL : 200 < x3.length
  · have h1 : decide ((200 : Int) < ((x3.length : Nat) : Int)) = true := decide_eq_true (by omega)
    simp [Zkg, Zjz, Zgt, h1]
  · have h1 : decide ((200 : Int) < ((x3.length : Nat) : Int)) = false := decide_eq_false (by omega)
    have hn := new_9 x0 x1
    cases hm : Zhj x0 x1 with
    | false =>
      rw [hm] at hn
      simp [Zkg, Zjz, Zgt, Zhc, Zk1, h1, hn, hm]
    | true =>
      rw [hm] at hn
      have hw : 2 ≤ x0 ∧ x0 ≤ 16 := by
        simp only [Zhj, tb_eq] at hm
        by_cases g1 : 2 ≤ x0
        · by_cases g2 : x0 ≤ 16
          · exact ⟨g1, g2⟩
          · simp [g1, g2] at hm
        · simp [g1] at hm
      obtain ⟨s1, e, hJ, hi⟩ := Zxl (sel := Zcw x0 x1 [] x0 x1 x0 x3) (nx := Zd7 x0 x1 [] x0 x1 x0 x3) (s0 := .h0 ⟨0, [0, 0, 0, 0, 0, 0, 0, 0, 0, 0, 0, 0, 0, 0, 0, 0], 0, 0, 0, 0⟩)
        (x3.length : Int) ix9 (J9 x0) (by omega)
        ⟨⟨⟨by simp, by simp; omega, fun j h1 h2 => by simp at h2⟩, (fun z hz => absurd hz (by simp)), by simp⟩, Zt4 hw, by simp, by simp⟩ (by simp [ix9]) (by simp [ix9])
        (fun s hJ a1 a2 => round9 hw (by omega) s hJ a1 a2)
        (fun s hJ he => by
          cases s with
          | h0 s => simp only [ix9] at he; simp [Zcw, Zc2, Zcu, he]
          | h1 s => simp only [ix9] at he; simp [Zcw, Zdz, Zcx, he]
          | h2 s => simp only [ix9] at he; simp [Zcw, Zc3, Zb9, he]
          | h3 s => simp only [ix9] at he; simp [Zcw, Zd0, Zcy, he])
      have e0 : Zq x0 x1 x3 = s1 := by simp only [Zq, Ze, e, Option.getD_some]
      have ok : Zd6 x0 x1 [] x0 x1 x0 x3 (.h0 ⟨0, [0, 0, 0, 0, 0, 0, 0, 0, 0, 0, 0, 0, 0, 0, 0, 0], 0, 0, 0, 0⟩) = true := by simp only [Zd6, e, Option.isSome_some]
      have hn' : Zim x0 x1 = false := hn
      have c0 : Zhc x0 x1 x3 = false ∧ Zjn x0 x1 x3 = true := by
        simp only [Zhc, Zjn, hn', hm, ok, e0, tb_eq, cond_true, cond_false]
        cases s1 with
        | h0 s =>
          simp only [ix9] at hi
          have q : Zcu x3 s.c4 = false := by simp [Zcu, hi]
          simp only [Zcv, Zx, Zd4, Zf6, Zie, q, tb_eq, cond_true, cond_false, and_self]
        | h1 s =>
          simp only [ix9] at hi
          have q : Zcx x3 s.c4 = false := by simp [Zcx, hi]
          simp only [Zcv, Zeb, Zbg, Zf8, Zif, q, tb_eq, cond_true, cond_false, and_self]
        | h2 s =>
          simp only [ix9] at hi
          have q : Zb9 x3 s.c4 = false := by simp [Zb9, hi]
          simp only [Zcv, Zeb, Zf9, Zw, Zd3, Zf4, Zig, q, tb_eq, cond_true, cond_false, and_self]
        | h3 s =>
          simp only [ix9] at hi
          have q : Zcy x3 s.c4 = false := by simp [Zcy, hi]
          simp only [Zcv, Zeb, Zf9, Zbe, Zf7, Zih, q, tb_eq, cond_true, cond_false, and_self]
      have s0 : Zgt x3 = false := by simp only [Zgt, h1, tb_eq, cond_false]
      have s8 : Zk2 = true := rfl
      simp only [Zkg, Zjz, s0, c0.1, c0.2, s8, tb_eq, cond_true, cond_false, and_self]
end Go.Proofs.Ytdlhhoejnhjbhaa.Den

namespace Go.Proofs.Ytdlhhoejnhjbhaa.Den
open Go Go.Proofs
set_option maxRecDepth 100000
theorem own : ownKnob Try.prog.godebug = none := by kernel_rfl
theorem Z6r : laidOutB Try.prog = true := by kernel_rfl
theorem mixed : Try.prog.follows .mixedOrders = true := by kernel_rfl
theorem envOK : EnvOK Try.prog E0 := ⟨e0_cf, ext_ok rfl e0_x, e0_del⟩
theorem glOK (w : World) : GlOK E0 (cx0 w) := fun g cs h => by simp [E0] at h
end Go.Proofs.Ytdlhhoejnhjbhaa.Den

namespace Go.Proofs.Ytdlhhoejnhjbhaa.Den
open Go Go.Proofs Go.ChangeShapes Go.WideShapes Go.ChangeAt Go.RowKit
open Go.Proofs.Ytdlhhoejnhjbhaa (Rows.stuckPlaysSpec Rows.stuckPlaysRow Rows.StuckPlaysSaid)
set_option maxRecDepth 100000
set_option linter.unusedSimpArgs false
set_option linter.unusedVariables false
theorem row10 (rs : List (List D)) (h : TyAll Try.prog 20 Try.f10.params.toList rs) : ∃ k m', callD E0 k 10 (argsV Try.prog Try.f10.params.toList rs) [] = some ([.d (.bool true)], m') := by
  rw [Try.params10] at h ⊢
  simp only [TyAll] at h
  obtain ⟨_, _, rfl, q0, _, _, rfl, q1, _, _, rfl, q2, rfl⟩ := h
  have k0 := Zqa 20 _ _ _ (show flatK Try.prog 20 3 = some [.i .i64] by kernel_rfl) q0
  simp only [CellsK, CellK] at k0
  obtain ⟨_, _, rfl, ⟨a0_0, rfl, w0_0⟩, rfl⟩ := k0
  have k1 := Zqa 20 _ _ _ (show flatK Try.prog 20 3 = some [.i .i64] by kernel_rfl) q1
  simp only [CellsK, CellK] at k1
  obtain ⟨_, _, rfl, ⟨a1_0, rfl, w1_0⟩, rfl⟩ := k1
  have k2 := Zqa 20 _ _ _ (show flatK Try.prog 20 43 = some [.l 55] by kernel_rfl) q2
  simp only [CellsK, CellK] at k2
  obtain ⟨d2_0, _, rfl, y2_0, rfl⟩ := k2
  obtain ⟨n2_0, a2_0, rfl, v2_0⟩ : ∃ n l, d2_0 = slD Zd true 3 n l ∧ (l.length ≤ maxLen ∧ l.length * 24 ≤ 140737488351232 ∧ ∀ z ∈ l, WfI .u8 z.c0 ∧ WfI .i64 z.c2 ∧ True) := by
    rcases y2_0 with rfl | ⟨rows1, rfl, hl1, hb1, m1, hr1⟩
    · exact ⟨true, [], rfl, by simp [maxLen], by simp, fun z hz => by simp at hz⟩
    · obtain ⟨l2, rfl, hw2⟩ : ∃ l : List Zh, rows1 = l.map Zd ∧ ∀ z ∈ l, WfI .u8 z.c0 ∧ WfI .i64 z.c2 ∧ True := Z19 (T := Ty Try.prog m1 55) (fun r hr => by
          have q := Z26 (show flatK Try.prog 20 55 = some [.i .u8, .b, .i .i64] by kernel_rfl) hr
          simp only [CellsK, CellK] at q
          obtain ⟨_, _, rfl, ⟨b0, rfl, w0⟩, _, _, rfl, ⟨b1, rfl⟩, _, _, rfl, ⟨b2, rfl, w2⟩, rfl⟩ := q
          exact ⟨⟨b0, b1, b2⟩, rfl, ⟨w0, w2, trivial⟩⟩) rows1 hr1
      rw [List.length_map, show Try.prog.bytesOf 55 = 24 by kernel_rfl] at hb1
      rw [show isFlat Try.prog 55 = true by kernel_rfl, show Try.prog.cellsOf 55 = 3 by kernel_rfl]
      exact ⟨false, l2, slD_rs _ _ _ _, by simpa using hl1, hb1, hw2⟩
  simp only [argsV, argV, Try.underlying3, Try.underlying43, List.map_cons, List.map_nil]
  obtain ⟨g1, g2⟩ := Zya a0_0 a1_0 n2_0 a2_0 w0_0 w1_0 v2_0
  have hc := Zvq a0_0 a1_0 n2_0 a2_0 g1
  rw [g2] at hc
  obtain ⟨k, hk⟩ := of_cl hc
  exact ⟨k, _, hk⟩
theorem Zw1 (os : Os) (started : os.Started) (H : Type) (enc : TypeId × Value → H) :
    ReturnsInHanded {} Try.checked os 10 .any (Rows.stuckPlaysSpec.pre6 enc Try.prog Try.f10 Rows.stuckPlaysRow.domain false) (Rows.stuckPlaysSpec.post enc Try.prog Try.f10 false true false false) :=
  Z2o (C := Try.checked) (fn := Try.f10) mixed envOK glOK own started (by kernel_rfl) Try.func10 Z6r
    (ChangeSpec.witness6 (enc := enc) (C := Try.checked) false ⟨#[], #[.int .i64 0, .int .i64 0, .slice none 0 0], []⟩ 8 (by kernel_rfl) (by kernel_rfl) (by kernel_rfl) (by kernel_rfl))
    (by kernel_rfl) (rt := 4) rfl Try.underlying4 rfl
    (fun ds h => by
      match ds, h with
      | [_, _, _], _ => rfl)
    row10
theorem stuckPlays_holds : Rows.StuckPlaysSaid :=
  OpenClaim.holds_of_wide 10 Try.f10 rfl rfl rfl rfl rfl rfl rfl ⟨rfl, rfl, rfl, rfl, rfl⟩ rfl rfl rfl rfl rfl (by kernel_rfl) Try.func10 (by kernel_rfl)
    (of_decide_eq_true (by kernel_rfl)) (by unfold Func.isWrapper; first | (rw [if_pos (by decide +kernel)]; kernel_rfl) | (rw [if_neg (by decide +kernel)]; exact ⟨rfl, rfl⟩))
    (fun os started H enc _ => Zw1 os started H enc)
end Go.Proofs.Ytdlhhoejnhjbhaa.Den
