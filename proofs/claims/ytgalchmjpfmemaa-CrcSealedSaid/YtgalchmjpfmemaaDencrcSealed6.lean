/- CrcSealed: part 6 of what its proof rests on: an evaluator of the program's code, proved sound; plain functions printed from the code by a program of this session, with proofs; plain laws. No condition. -/
import Derived.Test.YtgalchmjpfmemaaDencrcSealed5

namespace Go.Proofs.Ytgalchmjpfmemaa.Den
open Go Go.Proofs
set_option maxRecDepth 100000
set_option maxHeartbeats 4000000
set_option linter.unusedVariables false
set_option linter.unusedSimpArgs false

def law03_CrcSealed_e0 (x1 : List Int) : List Int := [(IntKind.u8.wrap (shrI .i64 (crc_More_io_r0_0 65535 x1) 8)), (IntKind.u8.wrap ((crc_More_io_r0_0 65535 x1)))]

def law03_CrcSealed_e1 (x1 : List Int) (x2 : Int) (x3 : Int) : Int := IntKind.u8.wrap ((gt (law03_CrcSealed_e0 x1) (remI .i64 (wi (x2)) 1)) + x3)

def law03_CrcSealed_e2 (x1 : List Int) (x2 : Int) (x3 : Int) : List Int := st (law03_CrcSealed_e0 x1) (remI .i64 (wi (x2)) 1) (law03_CrcSealed_e1 x1 x2 x3)

def law03_CrcSealed_e3 (x1 : List Int) (x2 : Int) (x3 : Int) : Int := gt (law03_CrcSealed_e2 x1 x2 x3) (wi ((remI .i64 (wi (x2)) 1) + 1))

def law03_CrcSealed_e4 (x1 : List Int) (x2 : Int) (x3 : Int) (x4 : Int) : List Int := st (law03_CrcSealed_e2 x1 x2 x3) (wi ((remI .i64 (wi (x2)) 1) + 1)) (IntKind.u8.wrap ((law03_CrcSealed_e3 x1 x2 x3) + x4))

def law03_CrcSealed_e5 (x1 : List Int) : List Int := (sub (law03_CrcSealed_e0 x1) 0 (wi ((((law03_CrcSealed_e0 x1).length : Nat) : Int) - 2)))

def law03_CrcSealed_e6 (x1 : List Int) : Int := wi ((((x1.length + [(IntKind.u8.wrap (shrI .i64 (crc_More_io_r0_0 65535 x1) 8)), (IntKind.u8.wrap ((crc_More_io_r0_0 65535 x1)))].length) : Nat) : Int) - 1)

def law03_CrcSealed_e7 (x1 : List Int) (x2 : Int) : Int := gt (crc_Seal_o_e0 x1) (remI .i64 (wi (x2)) (law03_CrcSealed_e6 x1))

def law03_CrcSealed_e8 (x1 : List Int) (x2 : Int) (x3 : Int) : List Int := st (crc_Seal_o_e0 x1) (remI .i64 (wi (x2)) (law03_CrcSealed_e6 x1)) (IntKind.u8.wrap ((law03_CrcSealed_e7 x1 x2) + x3))

def law03_CrcSealed_e9 (x1 : List Int) (x2 : Int) (x3 : Int) : Int := gt (law03_CrcSealed_e8 x1 x2 x3) (wi ((remI .i64 (wi (x2)) (law03_CrcSealed_e6 x1)) + 1))

def law03_CrcSealed_e10 (x1 : List Int) (x2 : Int) (x3 : Int) (x4 : Int) : List Int := st (law03_CrcSealed_e8 x1 x2 x3) (wi ((remI .i64 (wi (x2)) (law03_CrcSealed_e6 x1)) + 1)) (IntKind.u8.wrap ((law03_CrcSealed_e9 x1 x2 x3) + x4))

def law03_CrcSealed_e11 (x1 : List Int) : List Int := (sub (crc_Seal_o_e0 x1) 0 (wi ((((crc_Seal_o_e0 x1).length : Nat) : Int) - 2)))

def law03_CrcSealed_c0 (x0 : Bool) (x1 : List Int) (x2 : Int) (x3 : Int) (x4 : Int) : Bool := (bif tb (decide (300 < ((x1.length : Nat) : Int))) then true else (bif tb (crc_Seal_o_c0 x0 x1) then (bif tb (crc_Open_o_c0 false (law03_CrcSealed_e0 x1)) then (bif tb (ref03_Same_oo_c0 [] x1) then (bif tb (crc_Open_o_r0_0 false (law03_CrcSealed_e0 x1)) then (bif tb (ref03_Same_oo_r0_0 [] x1) then (bif tb ((2 : Int) != (wi (((x1.length : Nat) : Int) + 2))) then true else (bif tb (crc_Sum_o_c0 (law03_CrcSealed_e0 x1)) then (bif tb (((crc_More_io_r0_0 65535 (law03_CrcSealed_e0 x1)) : Int) != 0) then true else (bif tb ((x3 : Int) == 0) then (bif tb ((x4 : Int) == 0) then true else (bif tb (inb 2 (remI .i64 (wi (x2)) 1)) then (bif tb (inb 2 (wi ((remI .i64 (wi (x2)) 1) + 1))) then (bif tb (crc_Open_o_c0 false (law03_CrcSealed_e4 x1 x2 x3 x4)) then true else (bif tb (crc_Open_o_c1 false (law03_CrcSealed_e4 x1 x2 x3 x4)) then true else false)) else false) else false)) else (bif tb (inb 2 (remI .i64 (wi (x2)) 1)) then (bif tb (inb 2 (wi ((remI .i64 (wi (x2)) 1) + 1))) then (bif tb (crc_Open_o_c0 false (law03_CrcSealed_e4 x1 x2 x3 x4)) then true else (bif tb (crc_Open_o_c1 false (law03_CrcSealed_e4 x1 x2 x3 x4)) then true else false)) else false) else false))) else false)) else true) else true) else false) else (bif tb (crc_Open_o_c1 false (law03_CrcSealed_e0 x1)) then (bif tb (ref03_Same_oo_c0 (law03_CrcSealed_e5 x1) x1) then (bif tb (ref03_Same_oo_r0_0 (law03_CrcSealed_e5 x1) x1) then (bif tb ((2 : Int) != (wi (((x1.length : Nat) : Int) + 2))) then true else (bif tb (crc_Sum_o_c0 (law03_CrcSealed_e0 x1)) then (bif tb (((crc_More_io_r0_0 65535 (law03_CrcSealed_e0 x1)) : Int) != 0) then true else (bif tb ((x3 : Int) == 0) then (bif tb ((x4 : Int) == 0) then true else (bif tb (inb 2 (remI .i64 (wi (x2)) 1)) then (bif tb (inb 2 (wi ((remI .i64 (wi (x2)) 1) + 1))) then (bif tb (crc_Open_o_c0 false (law03_CrcSealed_e4 x1 x2 x3 x4)) then true else (bif tb (crc_Open_o_c1 false (law03_CrcSealed_e4 x1 x2 x3 x4)) then true else false)) else false) else false)) else (bif tb (inb 2 (remI .i64 (wi (x2)) 1)) then (bif tb (inb 2 (wi ((remI .i64 (wi (x2)) 1) + 1))) then (bif tb (crc_Open_o_c0 false (law03_CrcSealed_e4 x1 x2 x3 x4)) then true else (bif tb (crc_Open_o_c1 false (law03_CrcSealed_e4 x1 x2 x3 x4)) then true else false)) else false) else false))) else false)) else true) else false) else false)) else (bif tb (crc_Seal_o_c1 x0 x1) then (bif tb (crc_Open_o_c0 false (crc_Seal_o_e0 x1)) then (bif tb (ref03_Same_oo_c0 [] x1) then (bif tb (crc_Open_o_r0_0 false (crc_Seal_o_e0 x1)) then (bif tb (ref03_Same_oo_r0_0 [] x1) then (bif tb (((((x1.length + [(IntKind.u8.wrap (shrI .i64 (crc_More_io_r0_0 65535 x1) 8)), (IntKind.u8.wrap ((crc_More_io_r0_0 65535 x1)))].length) : Nat) : Int) : Int) != (wi (((x1.length : Nat) : Int) + 2))) then true else (bif tb (crc_Sum_o_c0 (crc_Seal_o_e0 x1)) then (bif tb (((crc_More_io_r0_0 65535 (crc_Seal_o_e0 x1)) : Int) != 0) then true else (bif tb (((law03_CrcSealed_e6 x1) : Int) == 0) then false else (bif tb ((x3 : Int) == 0) then (bif tb ((x4 : Int) == 0) then true else (bif tb (decide ((crc_Seal_o_e0 x1).length * 1 ≤ 140737488355328)) then (bif tb (inb ((crc_Seal_o_e0 x1).length) (remI .i64 (wi (x2)) (law03_CrcSealed_e6 x1))) then (bif tb (inb ((crc_Seal_o_e0 x1).length) (wi ((remI .i64 (wi (x2)) (law03_CrcSealed_e6 x1)) + 1))) then (bif tb (crc_Open_o_c0 false (law03_CrcSealed_e10 x1 x2 x3 x4)) then true else (bif tb (crc_Open_o_c1 false (law03_CrcSealed_e10 x1 x2 x3 x4)) then true else false)) else false) else false) else false)) else (bif tb (decide ((crc_Seal_o_e0 x1).length * 1 ≤ 140737488355328)) then (bif tb (inb ((crc_Seal_o_e0 x1).length) (remI .i64 (wi (x2)) (law03_CrcSealed_e6 x1))) then (bif tb (inb ((crc_Seal_o_e0 x1).length) (wi ((remI .i64 (wi (x2)) (law03_CrcSealed_e6 x1)) + 1))) then (bif tb (crc_Open_o_c0 false (law03_CrcSealed_e10 x1 x2 x3 x4)) then true else (bif tb (crc_Open_o_c1 false (law03_CrcSealed_e10 x1 x2 x3 x4)) then true else false)) else false) else false) else false)))) else false)) else true) else true) else false) else (bif tb (crc_Open_o_c1 false (crc_Seal_o_e0 x1)) then (bif tb (ref03_Same_oo_c0 (law03_CrcSealed_e11 x1) x1) then (bif tb (ref03_Same_oo_r0_0 (law03_CrcSealed_e11 x1) x1) then (bif tb (((((x1.length + [(IntKind.u8.wrap (shrI .i64 (crc_More_io_r0_0 65535 x1) 8)), (IntKind.u8.wrap ((crc_More_io_r0_0 65535 x1)))].length) : Nat) : Int) : Int) != (wi (((x1.length : Nat) : Int) + 2))) then true else (bif tb (crc_Sum_o_c0 (crc_Seal_o_e0 x1)) then (bif tb (((crc_More_io_r0_0 65535 (crc_Seal_o_e0 x1)) : Int) != 0) then true else (bif tb (((law03_CrcSealed_e6 x1) : Int) == 0) then false else (bif tb ((x3 : Int) == 0) then (bif tb ((x4 : Int) == 0) then true else (bif tb (decide ((crc_Seal_o_e0 x1).length * 1 ≤ 140737488355328)) then (bif tb (inb ((crc_Seal_o_e0 x1).length) (remI .i64 (wi (x2)) (law03_CrcSealed_e6 x1))) then (bif tb (inb ((crc_Seal_o_e0 x1).length) (wi ((remI .i64 (wi (x2)) (law03_CrcSealed_e6 x1)) + 1))) then (bif tb (crc_Open_o_c0 false (law03_CrcSealed_e10 x1 x2 x3 x4)) then true else (bif tb (crc_Open_o_c1 false (law03_CrcSealed_e10 x1 x2 x3 x4)) then true else false)) else false) else false) else false)) else (bif tb (decide ((crc_Seal_o_e0 x1).length * 1 ≤ 140737488355328)) then (bif tb (inb ((crc_Seal_o_e0 x1).length) (remI .i64 (wi (x2)) (law03_CrcSealed_e6 x1))) then (bif tb (inb ((crc_Seal_o_e0 x1).length) (wi ((remI .i64 (wi (x2)) (law03_CrcSealed_e6 x1)) + 1))) then (bif tb (crc_Open_o_c0 false (law03_CrcSealed_e10 x1 x2 x3 x4)) then true else (bif tb (crc_Open_o_c1 false (law03_CrcSealed_e10 x1 x2 x3 x4)) then true else false)) else false) else false) else false)))) else false)) else true) else false) else false)) else false)))

def law03_CrcSealed_r0_0 (x0 : Bool) (x1 : List Int) (x2 : Int) (x3 : Int) (x4 : Int) : Bool := (bif tb (decide (300 < ((x1.length : Nat) : Int))) then true else (bif tb (crc_Seal_o_c0 x0 x1) then (bif tb (crc_Open_o_c0 false (law03_CrcSealed_e0 x1)) then (bif tb (crc_Open_o_r0_0 false (law03_CrcSealed_e0 x1)) then (bif tb (ref03_Same_oo_r0_0 [] x1) then (bif tb ((2 : Int) != (wi (((x1.length : Nat) : Int) + 2))) then false else (bif tb (((crc_More_io_r0_0 65535 (law03_CrcSealed_e0 x1)) : Int) != 0) then false else (bif tb ((x3 : Int) == 0) then (bif tb ((x4 : Int) == 0) then true else (bif tb (crc_Open_o_c0 false (law03_CrcSealed_e4 x1 x2 x3 x4)) then (!(crc_Open_o_r0_0 false (law03_CrcSealed_e4 x1 x2 x3 x4))) else false)) else (bif tb (crc_Open_o_c0 false (law03_CrcSealed_e4 x1 x2 x3 x4)) then (!(crc_Open_o_r0_0 false (law03_CrcSealed_e4 x1 x2 x3 x4))) else false)))) else false) else false) else (bif tb (ref03_Same_oo_r0_0 (law03_CrcSealed_e5 x1) x1) then (bif tb ((2 : Int) != (wi (((x1.length : Nat) : Int) + 2))) then false else (bif tb (((crc_More_io_r0_0 65535 (law03_CrcSealed_e0 x1)) : Int) != 0) then false else (bif tb ((x3 : Int) == 0) then (bif tb ((x4 : Int) == 0) then true else (bif tb (crc_Open_o_c0 false (law03_CrcSealed_e4 x1 x2 x3 x4)) then (!(crc_Open_o_r0_0 false (law03_CrcSealed_e4 x1 x2 x3 x4))) else false)) else (bif tb (crc_Open_o_c0 false (law03_CrcSealed_e4 x1 x2 x3 x4)) then (!(crc_Open_o_r0_0 false (law03_CrcSealed_e4 x1 x2 x3 x4))) else false)))) else false)) else (bif tb (crc_Open_o_c0 false (crc_Seal_o_e0 x1)) then (bif tb (crc_Open_o_r0_0 false (crc_Seal_o_e0 x1)) then (bif tb (ref03_Same_oo_r0_0 [] x1) then (bif tb (((((x1.length + [(IntKind.u8.wrap (shrI .i64 (crc_More_io_r0_0 65535 x1) 8)), (IntKind.u8.wrap ((crc_More_io_r0_0 65535 x1)))].length) : Nat) : Int) : Int) != (wi (((x1.length : Nat) : Int) + 2))) then false else (bif tb (((crc_More_io_r0_0 65535 (crc_Seal_o_e0 x1)) : Int) != 0) then false else (bif tb ((x3 : Int) == 0) then (bif tb ((x4 : Int) == 0) then true else (bif tb (crc_Open_o_c0 false (law03_CrcSealed_e10 x1 x2 x3 x4)) then (!(crc_Open_o_r0_0 false (law03_CrcSealed_e10 x1 x2 x3 x4))) else false)) else (bif tb (crc_Open_o_c0 false (law03_CrcSealed_e10 x1 x2 x3 x4)) then (!(crc_Open_o_r0_0 false (law03_CrcSealed_e10 x1 x2 x3 x4))) else false)))) else false) else false) else (bif tb (ref03_Same_oo_r0_0 (law03_CrcSealed_e11 x1) x1) then (bif tb (((((x1.length + [(IntKind.u8.wrap (shrI .i64 (crc_More_io_r0_0 65535 x1) 8)), (IntKind.u8.wrap ((crc_More_io_r0_0 65535 x1)))].length) : Nat) : Int) : Int) != (wi (((x1.length : Nat) : Int) + 2))) then false else (bif tb (((crc_More_io_r0_0 65535 (crc_Seal_o_e0 x1)) : Int) != 0) then false else (bif tb ((x3 : Int) == 0) then (bif tb ((x4 : Int) == 0) then true else (bif tb (crc_Open_o_c0 false (law03_CrcSealed_e10 x1 x2 x3 x4)) then (!(crc_Open_o_r0_0 false (law03_CrcSealed_e10 x1 x2 x3 x4))) else false)) else (bif tb (crc_Open_o_c0 false (law03_CrcSealed_e10 x1 x2 x3 x4)) then (!(crc_Open_o_r0_0 false (law03_CrcSealed_e10 x1 x2 x3 x4))) else false)))) else false))))

theorem law03_CrcSealed_t0 (x0 : Bool) (x1 : List Int) (x2 : Int) (x3 : Int) (x4 : Int) : law03_CrcSealed_c0 x0 x1 x2 x3 x4 = true → cl E0 9 [(V.d (slD (encI .u8) true 1 x0 x1)), (V.d (.int .u16 x2)), (V.agg [(V.d (.int .u8 x3)), (V.d (.int .u8 x4))])] [] = some ([(V.d (.bool (law03_CrcSealed_r0_0 x0 x1 x2 x3 x4)))], []) := by
  unfold law03_CrcSealed_c0 law03_CrcSealed_r0_0
  cases h1 : tb (decide (300 < ((x1.length : Nat) : Int)))
  · cases h2 : tb (crc_Seal_o_c0 x0 x1)
    · cases h3 : tb (crc_Seal_o_c1 x0 x1)
      · intro g0
        exact absurd g0 ft
      · cases h4 : tb (crc_Open_o_c0 false (crc_Seal_o_e0 x1))
        · cases h5 : tb (crc_Open_o_c1 false (crc_Seal_o_e0 x1))
          · intro g0
            exact absurd g0 ft
          · cases h6 : tb (ref03_Same_oo_c0 (law03_CrcSealed_e11 x1) x1)
            · intro g0
              exact absurd g0 ft
            · cases h7 : tb (ref03_Same_oo_r0_0 (law03_CrcSealed_e11 x1) x1)
              · intro g0
                exact w9 [.o 16 (fun _ => o_len_os (enc := (encI .u8)) (l := x1) (fl := true) (n := x0) (s := 1)), .b (tbE h1), .c (crc_Seal_o_t1 x0 x1 (tbE h2) (tbE h3)), .y (mm := [(Blk.flat 65 2 [[(.int .u8 x3), (.int .u8 x4)]] false), (Blk.flat 5 1 (List.map (encI .u8) (crc_Seal_o_e0 x1)) false)]) (args := [(V.sl 1 (x1.length + [(IntKind.u8.wrap (shrI .i64 (crc_More_io_r0_0 65535 x1) 8)), (IntKind.u8.wrap ((crc_More_io_r0_0 65535 x1)))].length) 0 (x1.length + [(IntKind.u8.wrap (shrI .i64 (crc_More_io_r0_0 65535 x1) 8)), (IntKind.u8.wrap ((crc_More_io_r0_0 65535 x1)))].length))]) (args1 := [(V.d (.rs true 1 (List.map (encI .u8) (crc_Seal_o_e0 x1)) false))]) (byvals_cons (byval_sl (enc := (encI .u8)) (l := (crc_Seal_o_e0 x1)) (e := 5) (s := 1) (p := false) (n := (x1.length + [(IntKind.u8.wrap (shrI .i64 (crc_More_io_r0_0 65535 x1) 8)), (IntKind.u8.wrap ((crc_More_io_r0_0 65535 x1)))].length)) (crc_Seal_o_t1_len0 x1) (by kernel_rfl)) (by kernel_rfl)), .c (crc_Open_o_t1 false (crc_Seal_o_e0 x1) (tbE h4) (tbE h5)), .y (mm := [(Blk.flat 65 2 [[(.int .u8 x3), (.int .u8 x4)]] false), (Blk.flat 5 1 (List.map (encI .u8) (crc_Seal_o_e0 x1)) false), (Blk.flat 5 1 (List.map (encI .u8) (sub (crc_Seal_o_e0 x1) 0 (wi ((((crc_Seal_o_e0 x1).length : Nat) : Int) - 2)))) false)]) (args := [(V.sl 2 ((sub (crc_Seal_o_e0 x1) 0 (wi ((((crc_Seal_o_e0 x1).length : Nat) : Int) - 2))).length) 0 ((sub (crc_Seal_o_e0 x1) 0 (wi ((((crc_Seal_o_e0 x1).length : Nat) : Int) - 2))).length)), (V.d (slD (encI .u8) true 1 x0 x1))]) (args1 := [(V.d (.rs true 1 (List.map (encI .u8) (sub (crc_Seal_o_e0 x1) 0 (wi ((((crc_Seal_o_e0 x1).length : Nat) : Int) - 2)))) false)), (V.d (slD (encI .u8) true 1 x0 x1))]) (byvals_cons (byval_sl (enc := (encI .u8)) (l := (sub (crc_Seal_o_e0 x1) 0 (wi ((((crc_Seal_o_e0 x1).length : Nat) : Int) - 2)))) (e := 5) (s := 1) (p := false) (n := ((sub (crc_Seal_o_e0 x1) 0 (wi ((((crc_Seal_o_e0 x1).length : Nat) : Int) - 2))).length)) (Nat.beq_refl _) (by kernel_rfl)) (by kernel_rfl)), .c (ref03_Same_oo_t0 false (law03_CrcSealed_e11 x1) x0 x1 (tbE h6)), .k false, .b (notF (tbE h7))] (by kernel_rfl)
              · cases h8 : tb (((((x1.length + [(IntKind.u8.wrap (shrI .i64 (crc_More_io_r0_0 65535 x1) 8)), (IntKind.u8.wrap ((crc_More_io_r0_0 65535 x1)))].length) : Nat) : Int) : Int) != (wi (((x1.length : Nat) : Int) + 2)))
                · cases h9 : tb (crc_Sum_o_c0 (crc_Seal_o_e0 x1))
                  · intro g0
                    exact absurd g0 ft
                  · cases h10 : tb (((crc_More_io_r0_0 65535 (crc_Seal_o_e0 x1)) : Int) != 0)
                    · cases h11 : tb (((law03_CrcSealed_e6 x1) : Int) == 0)
                      · cases h12 : tb ((x3 : Int) == 0)
                        · cases h13 : tb (decide ((crc_Seal_o_e0 x1).length * 1 ≤ 140737488355328))
                          · intro g0
                            exact absurd g0 ft
                          · cases h14 : tb (inb ((crc_Seal_o_e0 x1).length) (remI .i64 (wi (x2)) (law03_CrcSealed_e6 x1)))
                            · intro g0
                              exact absurd g0 ft
                            · cases h15 : tb (inb ((crc_Seal_o_e0 x1).length) (wi ((remI .i64 (wi (x2)) (law03_CrcSealed_e6 x1)) + 1)))
                              · intro g0
                                exact absurd g0 ft
                              · cases h16 : tb (crc_Open_o_c0 false (law03_CrcSealed_e10 x1 x2 x3 x4))
                                · cases h17 : tb (crc_Open_o_c1 false (law03_CrcSealed_e10 x1 x2 x3 x4))
                                  · intro g0
                                    exact absurd g0 ft
                                  · intro g0
                                    exact w9 [.o 16 (fun _ => o_len_os (enc := (encI .u8)) (l := x1) (fl := true) (n := x0) (s := 1)), .b (tbE h1), .c (crc_Seal_o_t1 x0 x1 (tbE h2) (tbE h3)), .y (mm := [(Blk.flat 65 2 [[(.int .u8 x3), (.int .u8 x4)]] false), (Blk.flat 5 1 (List.map (encI .u8) (crc_Seal_o_e0 x1)) false)]) (args := [(V.sl 1 (x1.length + [(IntKind.u8.wrap (shrI .i64 (crc_More_io_r0_0 65535 x1) 8)), (IntKind.u8.wrap ((crc_More_io_r0_0 65535 x1)))].length) 0 (x1.length + [(IntKind.u8.wrap (shrI .i64 (crc_More_io_r0_0 65535 x1) 8)), (IntKind.u8.wrap ((crc_More_io_r0_0 65535 x1)))].length))]) (args1 := [(V.d (.rs true 1 (List.map (encI .u8) (crc_Seal_o_e0 x1)) false))]) (byvals_cons (byval_sl (enc := (encI .u8)) (l := (crc_Seal_o_e0 x1)) (e := 5) (s := 1) (p := false) (n := (x1.length + [(IntKind.u8.wrap (shrI .i64 (crc_More_io_r0_0 65535 x1) 8)), (IntKind.u8.wrap ((crc_More_io_r0_0 65535 x1)))].length)) (crc_Seal_o_t1_len0 x1) (by kernel_rfl)) (by kernel_rfl)), .c (crc_Open_o_t1 false (crc_Seal_o_e0 x1) (tbE h4) (tbE h5)), .y (mm := [(Blk.flat 65 2 [[(.int .u8 x3), (.int .u8 x4)]] false), (Blk.flat 5 1 (List.map (encI .u8) (crc_Seal_o_e0 x1)) false), (Blk.flat 5 1 (List.map (encI .u8) (sub (crc_Seal_o_e0 x1) 0 (wi ((((crc_Seal_o_e0 x1).length : Nat) : Int) - 2)))) false)]) (args := [(V.sl 2 ((sub (crc_Seal_o_e0 x1) 0 (wi ((((crc_Seal_o_e0 x1).length : Nat) : Int) - 2))).length) 0 ((sub (crc_Seal_o_e0 x1) 0 (wi ((((crc_Seal_o_e0 x1).length : Nat) : Int) - 2))).length)), (V.d (slD (encI .u8) true 1 x0 x1))]) (args1 := [(V.d (.rs true 1 (List.map (encI .u8) (sub (crc_Seal_o_e0 x1) 0 (wi ((((crc_Seal_o_e0 x1).length : Nat) : Int) - 2)))) false)), (V.d (slD (encI .u8) true 1 x0 x1))]) (byvals_cons (byval_sl (enc := (encI .u8)) (l := (sub (crc_Seal_o_e0 x1) 0 (wi ((((crc_Seal_o_e0 x1).length : Nat) : Int) - 2)))) (e := 5) (s := 1) (p := false) (n := ((sub (crc_Seal_o_e0 x1) 0 (wi ((((crc_Seal_o_e0 x1).length : Nat) : Int) - 2))).length)) (Nat.beq_refl _) (by kernel_rfl)) (by kernel_rfl)), .c (ref03_Same_oo_t0 false (law03_CrcSealed_e11 x1) x0 x1 (tbE h6)), .k false, .b (notT (tbE h7)), .o 39 (fun _ => o_len_os (enc := (encI .u8)) (l := x1) (fl := true) (n := x0) (s := 1)), .b (tbE h8), .y (mm := [(Blk.flat 65 2 [[(.int .u8 x3), (.int .u8 x4)]] false), (Blk.flat 5 1 (List.map (encI .u8) (crc_Seal_o_e0 x1)) false), (Blk.flat 5 1 (List.map (encI .u8) (sub (crc_Seal_o_e0 x1) 0 (wi ((((crc_Seal_o_e0 x1).length : Nat) : Int) - 2)))) false)]) (args := [(V.sl 1 (x1.length + [(IntKind.u8.wrap (shrI .i64 (crc_More_io_r0_0 65535 x1) 8)), (IntKind.u8.wrap ((crc_More_io_r0_0 65535 x1)))].length) 0 (x1.length + [(IntKind.u8.wrap (shrI .i64 (crc_More_io_r0_0 65535 x1) 8)), (IntKind.u8.wrap ((crc_More_io_r0_0 65535 x1)))].length))]) (args1 := [(V.d (.rs true 1 (List.map (encI .u8) (crc_Seal_o_e0 x1)) false))]) (byvals_cons (byval_sl (enc := (encI .u8)) (l := (crc_Seal_o_e0 x1)) (e := 5) (s := 1) (p := false) (n := (x1.length + [(IntKind.u8.wrap (shrI .i64 (crc_More_io_r0_0 65535 x1) 8)), (IntKind.u8.wrap ((crc_More_io_r0_0 65535 x1)))].length)) (crc_Seal_o_t1_len0 x1) (by kernel_rfl)) (by kernel_rfl)), .c (crc_Sum_o_t0 false (crc_Seal_o_e0 x1) (tbE h9)), .b (tbE h10), .o 53 (fun _ => o_rem (k := .i64) (x := (wi (x2))) (y := (law03_CrcSealed_e6 x1)) (tbE h11)), .b (tbE h12), .m 65 (o_app0 (m := [(Blk.flat 65 2 [[(.int .u8 x3), (.int .u8 x4)]] false), (Blk.flat 5 1 (List.map (encI .u8) (crc_Seal_o_e0 x1)) false), (Blk.flat 5 1 (List.map (encI .u8) (sub (crc_Seal_o_e0 x1) 0 (wi ((((crc_Seal_o_e0 x1).length : Nat) : Int) - 2)))) false), (Blk.flat 5 1 [] false)]) (enc := (encI .u8)) (l1 := (crc_Seal_o_e0 x1)) (id := 3) (e := 5) (s := 1) (bytes := 1) (x := (V.sl 1 (x1.length + [(IntKind.u8.wrap (shrI .i64 (crc_More_io_r0_0 65535 x1) 8)), (IntKind.u8.wrap ((crc_More_io_r0_0 65535 x1)))].length) 0 (x1.length + [(IntKind.u8.wrap (shrI .i64 (crc_More_io_r0_0 65535 x1) 8)), (IntKind.u8.wrap ((crc_More_io_r0_0 65535 x1)))].length))) (by kernel_rfl) (flatRowsOf_sl (e := 5) (s := 1) (p := false) (crc_Seal_o_t1_len0 x1) (by kernel_rfl)) (by kernel_rfl) (tbE h13)), .m 70 (o_idx_sl (m := [(Blk.flat 65 2 [[(.int .u8 x3), (.int .u8 x4)]] true), (Blk.flat 5 1 (List.map (encI .u8) (crc_Seal_o_e0 x1)) true), (Blk.flat 5 1 (List.map (encI .u8) (sub (crc_Seal_o_e0 x1) 0 (wi ((((crc_Seal_o_e0 x1).length : Nat) : Int) - 2)))) true), (Blk.flat 5 1 (List.map (encI .u8) (crc_Seal_o_e0 x1)) true)]) (id := 3) (n := ((crc_Seal_o_e0 x1).length)) (s := 1) (k := .i64) (by kernel_rfl) (tbE h14)), .m 71 (o_load_L (m := [(Blk.flat 65 2 [[(.int .u8 x3), (.int .u8 x4)]] true), (Blk.flat 5 1 (List.map (encI .u8) (crc_Seal_o_e0 x1)) true), (Blk.flat 5 1 (List.map (encI .u8) (sub (crc_Seal_o_e0 x1) 0 (wi ((((crc_Seal_o_e0 x1).length : Nat) : Int) - 2)))) true), (Blk.flat 5 1 (List.map (encI .u8) (crc_Seal_o_e0 x1)) true)]) (enc := (encI .u8)) (l := (crc_Seal_o_e0 x1)) (id := 3) (e := 5) (s := 1) (off := 0) (size := 1) (p := true) (agg := false) (i := (remI .i64 (wi (x2)) (law03_CrcSealed_e6 x1))) (v := (V.d (.int .u8 (law03_CrcSealed_e7 x1 x2)))) (n := ((crc_Seal_o_e0 x1).length)) (Nat.beq_refl _) (by kernel_rfl) (tbE h14) (by kernel_rfl)), .m 75 (o_idx_sl (m := [(Blk.flat 65 2 [[(.int .u8 x3), (.int .u8 x4)]] false), (Blk.flat 5 1 (List.map (encI .u8) (crc_Seal_o_e0 x1)) false), (Blk.flat 5 1 (List.map (encI .u8) (sub (crc_Seal_o_e0 x1) 0 (wi ((((crc_Seal_o_e0 x1).length : Nat) : Int) - 2)))) false), (Blk.flat 5 1 (List.map (encI .u8) (crc_Seal_o_e0 x1)) false)]) (id := 3) (n := ((crc_Seal_o_e0 x1).length)) (s := 1) (k := .i64) (by kernel_rfl) (tbE h14)), .m 100075 (o_store_L (m := [(Blk.flat 65 2 [[(.int .u8 x3), (.int .u8 x4)]] false), (Blk.flat 5 1 (List.map (encI .u8) (crc_Seal_o_e0 x1)) false), (Blk.flat 5 1 (List.map (encI .u8) (sub (crc_Seal_o_e0 x1) 0 (wi ((((crc_Seal_o_e0 x1).length : Nat) : Int) - 2)))) false), (Blk.flat 5 1 (List.map (encI .u8) (crc_Seal_o_e0 x1)) false)]) (enc := (encI .u8)) (l := (crc_Seal_o_e0 x1)) (id := 3) (e := 5) (s := 1) (size := 1) (off := 0) (i := (remI .i64 (wi (x2)) (law03_CrcSealed_e6 x1))) (v := (V.d (.int .u8 (IntKind.u8.wrap ((law03_CrcSealed_e7 x1 x2) + x3))))) (x := (IntKind.u8.wrap ((law03_CrcSealed_e7 x1 x2) + x3))) (ys := [(.int .u8 (IntKind.u8.wrap ((law03_CrcSealed_e7 x1 x2) + x3)))]) (n := ((crc_Seal_o_e0 x1).length)) (Nat.beq_refl _) (by kernel_rfl) (tbE h14) ⟨by kernel_rfl, by kernel_rfl⟩ (by kernel_rfl) (by kernel_rfl)), .m 82 (o_idx_sl (m := [(Blk.flat 65 2 [[(.int .u8 x3), (.int .u8 x4)]] true), (Blk.flat 5 1 (List.map (encI .u8) (crc_Seal_o_e0 x1)) true), (Blk.flat 5 1 (List.map (encI .u8) (sub (crc_Seal_o_e0 x1) 0 (wi ((((crc_Seal_o_e0 x1).length : Nat) : Int) - 2)))) true), (Blk.flat 5 1 (List.map (encI .u8) (law03_CrcSealed_e8 x1 x2 x3)) true)]) (id := 3) (n := ((crc_Seal_o_e0 x1).length)) (s := 1) (k := .i64) (by kernel_rfl) (tbE h15)), .m 83 (o_load_L (m := [(Blk.flat 65 2 [[(.int .u8 x3), (.int .u8 x4)]] true), (Blk.flat 5 1 (List.map (encI .u8) (crc_Seal_o_e0 x1)) true), (Blk.flat 5 1 (List.map (encI .u8) (sub (crc_Seal_o_e0 x1) 0 (wi ((((crc_Seal_o_e0 x1).length : Nat) : Int) - 2)))) true), (Blk.flat 5 1 (List.map (encI .u8) (law03_CrcSealed_e8 x1 x2 x3)) true)]) (enc := (encI .u8)) (l := (law03_CrcSealed_e8 x1 x2 x3)) (id := 3) (e := 5) (s := 1) (off := 0) (size := 1) (p := true) (agg := false) (i := (wi ((remI .i64 (wi (x2)) (law03_CrcSealed_e6 x1)) + 1))) (v := (V.d (.int .u8 (law03_CrcSealed_e9 x1 x2 x3)))) (n := ((crc_Seal_o_e0 x1).length)) (st_len (Nat.beq_refl _)) (by kernel_rfl) (tbE h15) (by kernel_rfl)), .m 87 (o_idx_sl (m := [(Blk.flat 65 2 [[(.int .u8 x3), (.int .u8 x4)]] false), (Blk.flat 5 1 (List.map (encI .u8) (crc_Seal_o_e0 x1)) false), (Blk.flat 5 1 (List.map (encI .u8) (sub (crc_Seal_o_e0 x1) 0 (wi ((((crc_Seal_o_e0 x1).length : Nat) : Int) - 2)))) false), (Blk.flat 5 1 (List.map (encI .u8) (law03_CrcSealed_e8 x1 x2 x3)) false)]) (id := 3) (n := ((crc_Seal_o_e0 x1).length)) (s := 1) (k := .i64) (by kernel_rfl) (tbE h15)), .m 100087 (o_store_L (m := [(Blk.flat 65 2 [[(.int .u8 x3), (.int .u8 x4)]] false), (Blk.flat 5 1 (List.map (encI .u8) (crc_Seal_o_e0 x1)) false), (Blk.flat 5 1 (List.map (encI .u8) (sub (crc_Seal_o_e0 x1) 0 (wi ((((crc_Seal_o_e0 x1).length : Nat) : Int) - 2)))) false), (Blk.flat 5 1 (List.map (encI .u8) (law03_CrcSealed_e8 x1 x2 x3)) false)]) (enc := (encI .u8)) (l := (law03_CrcSealed_e8 x1 x2 x3)) (id := 3) (e := 5) (s := 1) (size := 1) (off := 0) (i := (wi ((remI .i64 (wi (x2)) (law03_CrcSealed_e6 x1)) + 1))) (v := (V.d (.int .u8 (IntKind.u8.wrap ((law03_CrcSealed_e9 x1 x2 x3) + x4))))) (x := (IntKind.u8.wrap ((law03_CrcSealed_e9 x1 x2 x3) + x4))) (ys := [(.int .u8 (IntKind.u8.wrap ((law03_CrcSealed_e9 x1 x2 x3) + x4)))]) (n := ((crc_Seal_o_e0 x1).length)) (st_len (Nat.beq_refl _)) (by kernel_rfl) (tbE h15) ⟨by kernel_rfl, by kernel_rfl⟩ (by kernel_rfl) (by kernel_rfl)), .y (mm := [(Blk.flat 65 2 [[(.int .u8 x3), (.int .u8 x4)]] false), (Blk.flat 5 1 (List.map (encI .u8) (crc_Seal_o_e0 x1)) false), (Blk.flat 5 1 (List.map (encI .u8) (sub (crc_Seal_o_e0 x1) 0 (wi ((((crc_Seal_o_e0 x1).length : Nat) : Int) - 2)))) false), (Blk.flat 5 1 (List.map (encI .u8) (law03_CrcSealed_e10 x1 x2 x3 x4)) false)]) (args := [(V.sl 3 ((crc_Seal_o_e0 x1).length) 0 ((crc_Seal_o_e0 x1).length))]) (args1 := [(V.d (.rs true 1 (List.map (encI .u8) (law03_CrcSealed_e10 x1 x2 x3 x4)) false))]) (byvals_cons (byval_sl (enc := (encI .u8)) (l := (law03_CrcSealed_e10 x1 x2 x3 x4)) (e := 5) (s := 1) (p := false) (n := ((crc_Seal_o_e0 x1).length)) (st_len (st_len (Nat.beq_refl _))) (by kernel_rfl)) (by kernel_rfl)), .c (crc_Open_o_t1 false (law03_CrcSealed_e10 x1 x2 x3 x4) (tbE h16) (tbE h17)), .c (law03_alive_t0), .k true] (by kernel_rfl)
                                · intro g0
                                  exact w9 [.o 16 (fun _ => o_len_os (enc := (encI .u8)) (l := x1) (fl := true) (n := x0) (s := 1)), .b (tbE h1), .c (crc_Seal_o_t1 x0 x1 (tbE h2) (tbE h3)), .y (mm := [(Blk.flat 65 2 [[(.int .u8 x3), (.int .u8 x4)]] false), (Blk.flat 5 1 (List.map (encI .u8) (crc_Seal_o_e0 x1)) false)]) (args := [(V.sl 1 (x1.length + [(IntKind.u8.wrap (shrI .i64 (crc_More_io_r0_0 65535 x1) 8)), (IntKind.u8.wrap ((crc_More_io_r0_0 65535 x1)))].length) 0 (x1.length + [(IntKind.u8.wrap (shrI .i64 (crc_More_io_r0_0 65535 x1) 8)), (IntKind.u8.wrap ((crc_More_io_r0_0 65535 x1)))].length))]) (args1 := [(V.d (.rs true 1 (List.map (encI .u8) (crc_Seal_o_e0 x1)) false))]) (byvals_cons (byval_sl (enc := (encI .u8)) (l := (crc_Seal_o_e0 x1)) (e := 5) (s := 1) (p := false) (n := (x1.length + [(IntKind.u8.wrap (shrI .i64 (crc_More_io_r0_0 65535 x1) 8)), (IntKind.u8.wrap ((crc_More_io_r0_0 65535 x1)))].length)) (crc_Seal_o_t1_len0 x1) (by kernel_rfl)) (by kernel_rfl)), .c (crc_Open_o_t1 false (crc_Seal_o_e0 x1) (tbE h4) (tbE h5)), .y (mm := [(Blk.flat 65 2 [[(.int .u8 x3), (.int .u8 x4)]] false), (Blk.flat 5 1 (List.map (encI .u8) (crc_Seal_o_e0 x1)) false), (Blk.flat 5 1 (List.map (encI .u8) (sub (crc_Seal_o_e0 x1) 0 (wi ((((crc_Seal_o_e0 x1).length : Nat) : Int) - 2)))) false)]) (args := [(V.sl 2 ((sub (crc_Seal_o_e0 x1) 0 (wi ((((crc_Seal_o_e0 x1).length : Nat) : Int) - 2))).length) 0 ((sub (crc_Seal_o_e0 x1) 0 (wi ((((crc_Seal_o_e0 x1).length : Nat) : Int) - 2))).length)), (V.d (slD (encI .u8) true 1 x0 x1))]) (args1 := [(V.d (.rs true 1 (List.map (encI .u8) (sub (crc_Seal_o_e0 x1) 0 (wi ((((crc_Seal_o_e0 x1).length : Nat) : Int) - 2)))) false)), (V.d (slD (encI .u8) true 1 x0 x1))]) (byvals_cons (byval_sl (enc := (encI .u8)) (l := (sub (crc_Seal_o_e0 x1) 0 (wi ((((crc_Seal_o_e0 x1).length : Nat) : Int) - 2)))) (e := 5) (s := 1) (p := false) (n := ((sub (crc_Seal_o_e0 x1) 0 (wi ((((crc_Seal_o_e0 x1).length : Nat) : Int) - 2))).length)) (Nat.beq_refl _) (by kernel_rfl)) (by kernel_rfl)), .c (ref03_Same_oo_t0 false (law03_CrcSealed_e11 x1) x0 x1 (tbE h6)), .k false, .b (notT (tbE h7)), .o 39 (fun _ => o_len_os (enc := (encI .u8)) (l := x1) (fl := true) (n := x0) (s := 1)), .b (tbE h8), .y (mm := [(Blk.flat 65 2 [[(.int .u8 x3), (.int .u8 x4)]] false), (Blk.flat 5 1 (List.map (encI .u8) (crc_Seal_o_e0 x1)) false), (Blk.flat 5 1 (List.map (encI .u8) (sub (crc_Seal_o_e0 x1) 0 (wi ((((crc_Seal_o_e0 x1).length : Nat) : Int) - 2)))) false)]) (args := [(V.sl 1 (x1.length + [(IntKind.u8.wrap (shrI .i64 (crc_More_io_r0_0 65535 x1) 8)), (IntKind.u8.wrap ((crc_More_io_r0_0 65535 x1)))].length) 0 (x1.length + [(IntKind.u8.wrap (shrI .i64 (crc_More_io_r0_0 65535 x1) 8)), (IntKind.u8.wrap ((crc_More_io_r0_0 65535 x1)))].length))]) (args1 := [(V.d (.rs true 1 (List.map (encI .u8) (crc_Seal_o_e0 x1)) false))]) (byvals_cons (byval_sl (enc := (encI .u8)) (l := (crc_Seal_o_e0 x1)) (e := 5) (s := 1) (p := false) (n := (x1.length + [(IntKind.u8.wrap (shrI .i64 (crc_More_io_r0_0 65535 x1) 8)), (IntKind.u8.wrap ((crc_More_io_r0_0 65535 x1)))].length)) (crc_Seal_o_t1_len0 x1) (by kernel_rfl)) (by kernel_rfl)), .c (crc_Sum_o_t0 false (crc_Seal_o_e0 x1) (tbE h9)), .b (tbE h10), .o 53 (fun _ => o_rem (k := .i64) (x := (wi (x2))) (y := (law03_CrcSealed_e6 x1)) (tbE h11)), .b (tbE h12), .m 65 (o_app0 (m := [(Blk.flat 65 2 [[(.int .u8 x3), (.int .u8 x4)]] false), (Blk.flat 5 1 (List.map (encI .u8) (crc_Seal_o_e0 x1)) false), (Blk.flat 5 1 (List.map (encI .u8) (sub (crc_Seal_o_e0 x1) 0 (wi ((((crc_Seal_o_e0 x1).length : Nat) : Int) - 2)))) false), (Blk.flat 5 1 [] false)]) (enc := (encI .u8)) (l1 := (crc_Seal_o_e0 x1)) (id := 3) (e := 5) (s := 1) (bytes := 1) (x := (V.sl 1 (x1.length + [(IntKind.u8.wrap (shrI .i64 (crc_More_io_r0_0 65535 x1) 8)), (IntKind.u8.wrap ((crc_More_io_r0_0 65535 x1)))].length) 0 (x1.length + [(IntKind.u8.wrap (shrI .i64 (crc_More_io_r0_0 65535 x1) 8)), (IntKind.u8.wrap ((crc_More_io_r0_0 65535 x1)))].length))) (by kernel_rfl) (flatRowsOf_sl (e := 5) (s := 1) (p := false) (crc_Seal_o_t1_len0 x1) (by kernel_rfl)) (by kernel_rfl) (tbE h13)), .m 70 (o_idx_sl (m := [(Blk.flat 65 2 [[(.int .u8 x3), (.int .u8 x4)]] true), (Blk.flat 5 1 (List.map (encI .u8) (crc_Seal_o_e0 x1)) true), (Blk.flat 5 1 (List.map (encI .u8) (sub (crc_Seal_o_e0 x1) 0 (wi ((((crc_Seal_o_e0 x1).length : Nat) : Int) - 2)))) true), (Blk.flat 5 1 (List.map (encI .u8) (crc_Seal_o_e0 x1)) true)]) (id := 3) (n := ((crc_Seal_o_e0 x1).length)) (s := 1) (k := .i64) (by kernel_rfl) (tbE h14)), .m 71 (o_load_L (m := [(Blk.flat 65 2 [[(.int .u8 x3), (.int .u8 x4)]] true), (Blk.flat 5 1 (List.map (encI .u8) (crc_Seal_o_e0 x1)) true), (Blk.flat 5 1 (List.map (encI .u8) (sub (crc_Seal_o_e0 x1) 0 (wi ((((crc_Seal_o_e0 x1).length : Nat) : Int) - 2)))) true), (Blk.flat 5 1 (List.map (encI .u8) (crc_Seal_o_e0 x1)) true)]) (enc := (encI .u8)) (l := (crc_Seal_o_e0 x1)) (id := 3) (e := 5) (s := 1) (off := 0) (size := 1) (p := true) (agg := false) (i := (remI .i64 (wi (x2)) (law03_CrcSealed_e6 x1))) (v := (V.d (.int .u8 (law03_CrcSealed_e7 x1 x2)))) (n := ((crc_Seal_o_e0 x1).length)) (Nat.beq_refl _) (by kernel_rfl) (tbE h14) (by kernel_rfl)), .m 75 (o_idx_sl (m := [(Blk.flat 65 2 [[(.int .u8 x3), (.int .u8 x4)]] false), (Blk.flat 5 1 (List.map (encI .u8) (crc_Seal_o_e0 x1)) false), (Blk.flat 5 1 (List.map (encI .u8) (sub (crc_Seal_o_e0 x1) 0 (wi ((((crc_Seal_o_e0 x1).length : Nat) : Int) - 2)))) false), (Blk.flat 5 1 (List.map (encI .u8) (crc_Seal_o_e0 x1)) false)]) (id := 3) (n := ((crc_Seal_o_e0 x1).length)) (s := 1) (k := .i64) (by kernel_rfl) (tbE h14)), .m 100075 (o_store_L (m := [(Blk.flat 65 2 [[(.int .u8 x3), (.int .u8 x4)]] false), (Blk.flat 5 1 (List.map (encI .u8) (crc_Seal_o_e0 x1)) false), (Blk.flat 5 1 (List.map (encI .u8) (sub (crc_Seal_o_e0 x1) 0 (wi ((((crc_Seal_o_e0 x1).length : Nat) : Int) - 2)))) false), (Blk.flat 5 1 (List.map (encI .u8) (crc_Seal_o_e0 x1)) false)]) (enc := (encI .u8)) (l := (crc_Seal_o_e0 x1)) (id := 3) (e := 5) (s := 1) (size := 1) (off := 0) (i := (remI .i64 (wi (x2)) (law03_CrcSealed_e6 x1))) (v := (V.d (.int .u8 (IntKind.u8.wrap ((law03_CrcSealed_e7 x1 x2) + x3))))) (x := (IntKind.u8.wrap ((law03_CrcSealed_e7 x1 x2) + x3))) (ys := [(.int .u8 (IntKind.u8.wrap ((law03_CrcSealed_e7 x1 x2) + x3)))]) (n := ((crc_Seal_o_e0 x1).length)) (Nat.beq_refl _) (by kernel_rfl) (tbE h14) ⟨by kernel_rfl, by kernel_rfl⟩ (by kernel_rfl) (by kernel_rfl)), .m 82 (o_idx_sl (m := [(Blk.flat 65 2 [[(.int .u8 x3), (.int .u8 x4)]] true), (Blk.flat 5 1 (List.map (encI .u8) (crc_Seal_o_e0 x1)) true), (Blk.flat 5 1 (List.map (encI .u8) (sub (crc_Seal_o_e0 x1) 0 (wi ((((crc_Seal_o_e0 x1).length : Nat) : Int) - 2)))) true), (Blk.flat 5 1 (List.map (encI .u8) (law03_CrcSealed_e8 x1 x2 x3)) true)]) (id := 3) (n := ((crc_Seal_o_e0 x1).length)) (s := 1) (k := .i64) (by kernel_rfl) (tbE h15)), .m 83 (o_load_L (m := [(Blk.flat 65 2 [[(.int .u8 x3), (.int .u8 x4)]] true), (Blk.flat 5 1 (List.map (encI .u8) (crc_Seal_o_e0 x1)) true), (Blk.flat 5 1 (List.map (encI .u8) (sub (crc_Seal_o_e0 x1) 0 (wi ((((crc_Seal_o_e0 x1).length : Nat) : Int) - 2)))) true), (Blk.flat 5 1 (List.map (encI .u8) (law03_CrcSealed_e8 x1 x2 x3)) true)]) (enc := (encI .u8)) (l := (law03_CrcSealed_e8 x1 x2 x3)) (id := 3) (e := 5) (s := 1) (off := 0) (size := 1) (p := true) (agg := false) (i := (wi ((remI .i64 (wi (x2)) (law03_CrcSealed_e6 x1)) + 1))) (v := (V.d (.int .u8 (law03_CrcSealed_e9 x1 x2 x3)))) (n := ((crc_Seal_o_e0 x1).length)) (st_len (Nat.beq_refl _)) (by kernel_rfl) (tbE h15) (by kernel_rfl)), .m 87 (o_idx_sl (m := [(Blk.flat 65 2 [[(.int .u8 x3), (.int .u8 x4)]] false), (Blk.flat 5 1 (List.map (encI .u8) (crc_Seal_o_e0 x1)) false), (Blk.flat 5 1 (List.map (encI .u8) (sub (crc_Seal_o_e0 x1) 0 (wi ((((crc_Seal_o_e0 x1).length : Nat) : Int) - 2)))) false), (Blk.flat 5 1 (List.map (encI .u8) (law03_CrcSealed_e8 x1 x2 x3)) false)]) (id := 3) (n := ((crc_Seal_o_e0 x1).length)) (s := 1) (k := .i64) (by kernel_rfl) (tbE h15)), .m 100087 (o_store_L (m := [(Blk.flat 65 2 [[(.int .u8 x3), (.int .u8 x4)]] false), (Blk.flat 5 1 (List.map (encI .u8) (crc_Seal_o_e0 x1)) false), (Blk.flat 5 1 (List.map (encI .u8) (sub (crc_Seal_o_e0 x1) 0 (wi ((((crc_Seal_o_e0 x1).length : Nat) : Int) - 2)))) false), (Blk.flat 5 1 (List.map (encI .u8) (law03_CrcSealed_e8 x1 x2 x3)) false)]) (enc := (encI .u8)) (l := (law03_CrcSealed_e8 x1 x2 x3)) (id := 3) (e := 5) (s := 1) (size := 1) (off := 0) (i := (wi ((remI .i64 (wi (x2)) (law03_CrcSealed_e6 x1)) + 1))) (v := (V.d (.int .u8 (IntKind.u8.wrap ((law03_CrcSealed_e9 x1 x2 x3) + x4))))) (x := (IntKind.u8.wrap ((law03_CrcSealed_e9 x1 x2 x3) + x4))) (ys := [(.int .u8 (IntKind.u8.wrap ((law03_CrcSealed_e9 x1 x2 x3) + x4)))]) (n := ((crc_Seal_o_e0 x1).length)) (st_len (Nat.beq_refl _)) (by kernel_rfl) (tbE h15) ⟨by kernel_rfl, by kernel_rfl⟩ (by kernel_rfl) (by kernel_rfl)), .y (mm := [(Blk.flat 65 2 [[(.int .u8 x3), (.int .u8 x4)]] false), (Blk.flat 5 1 (List.map (encI .u8) (crc_Seal_o_e0 x1)) false), (Blk.flat 5 1 (List.map (encI .u8) (sub (crc_Seal_o_e0 x1) 0 (wi ((((crc_Seal_o_e0 x1).length : Nat) : Int) - 2)))) false), (Blk.flat 5 1 (List.map (encI .u8) (law03_CrcSealed_e10 x1 x2 x3 x4)) false)]) (args := [(V.sl 3 ((crc_Seal_o_e0 x1).length) 0 ((crc_Seal_o_e0 x1).length))]) (args1 := [(V.d (.rs true 1 (List.map (encI .u8) (law03_CrcSealed_e10 x1 x2 x3 x4)) false))]) (byvals_cons (byval_sl (enc := (encI .u8)) (l := (law03_CrcSealed_e10 x1 x2 x3 x4)) (e := 5) (s := 1) (p := false) (n := ((crc_Seal_o_e0 x1).length)) (st_len (st_len (Nat.beq_refl _))) (by kernel_rfl)) (by kernel_rfl)), .c (crc_Open_o_t0 false (law03_CrcSealed_e10 x1 x2 x3 x4) (tbE h16)), .c (law03_alive_t0), .k true] (by kernel_rfl)
                        · cases h13 : tb ((x4 : Int) == 0)
                          · cases h14 : tb (decide ((crc_Seal_o_e0 x1).length * 1 ≤ 140737488355328))
                            · intro g0
                              exact absurd g0 ft
                            · cases h15 : tb (inb ((crc_Seal_o_e0 x1).length) (remI .i64 (wi (x2)) (law03_CrcSealed_e6 x1)))
                              · intro g0
                                exact absurd g0 ft
                              · cases h16 : tb (inb ((crc_Seal_o_e0 x1).length) (wi ((remI .i64 (wi (x2)) (law03_CrcSealed_e6 x1)) + 1)))
                                · intro g0
                                  exact absurd g0 ft
                                · cases h17 : tb (crc_Open_o_c0 false (law03_CrcSealed_e10 x1 x2 x3 x4))
                                  · cases h18 : tb (crc_Open_o_c1 false (law03_CrcSealed_e10 x1 x2 x3 x4))
                                    · intro g0
                                      exact absurd g0 ft
                                    · intro g0
                                      exact w9 [.o 16 (fun _ => o_len_os (enc := (encI .u8)) (l := x1) (fl := true) (n := x0) (s := 1)), .b (tbE h1), .c (crc_Seal_o_t1 x0 x1 (tbE h2) (tbE h3)), .y (mm := [(Blk.flat 65 2 [[(.int .u8 x3), (.int .u8 x4)]] false), (Blk.flat 5 1 (List.map (encI .u8) (crc_Seal_o_e0 x1)) false)]) (args := [(V.sl 1 (x1.length + [(IntKind.u8.wrap (shrI .i64 (crc_More_io_r0_0 65535 x1) 8)), (IntKind.u8.wrap ((crc_More_io_r0_0 65535 x1)))].length) 0 (x1.length + [(IntKind.u8.wrap (shrI .i64 (crc_More_io_r0_0 65535 x1) 8)), (IntKind.u8.wrap ((crc_More_io_r0_0 65535 x1)))].length))]) (args1 := [(V.d (.rs true 1 (List.map (encI .u8) (crc_Seal_o_e0 x1)) false))]) (byvals_cons (byval_sl (enc := (encI .u8)) (l := (crc_Seal_o_e0 x1)) (e := 5) (s := 1) (p := false) (n := (x1.length + [(IntKind.u8.wrap (shrI .i64 (crc_More_io_r0_0 65535 x1) 8)), (IntKind.u8.wrap ((crc_More_io_r0_0 65535 x1)))].length)) (crc_Seal_o_t1_len0 x1) (by kernel_rfl)) (by kernel_rfl)), .c (crc_Open_o_t1 false (crc_Seal_o_e0 x1) (tbE h4) (tbE h5)), .y (mm := [(Blk.flat 65 2 [[(.int .u8 x3), (.int .u8 x4)]] false), (Blk.flat 5 1 (List.map (encI .u8) (crc_Seal_o_e0 x1)) false), (Blk.flat 5 1 (List.map (encI .u8) (sub (crc_Seal_o_e0 x1) 0 (wi ((((crc_Seal_o_e0 x1).length : Nat) : Int) - 2)))) false)]) (args := [(V.sl 2 ((sub (crc_Seal_o_e0 x1) 0 (wi ((((crc_Seal_o_e0 x1).length : Nat) : Int) - 2))).length) 0 ((sub (crc_Seal_o_e0 x1) 0 (wi ((((crc_Seal_o_e0 x1).length : Nat) : Int) - 2))).length)), (V.d (slD (encI .u8) true 1 x0 x1))]) (args1 := [(V.d (.rs true 1 (List.map (encI .u8) (sub (crc_Seal_o_e0 x1) 0 (wi ((((crc_Seal_o_e0 x1).length : Nat) : Int) - 2)))) false)), (V.d (slD (encI .u8) true 1 x0 x1))]) (byvals_cons (byval_sl (enc := (encI .u8)) (l := (sub (crc_Seal_o_e0 x1) 0 (wi ((((crc_Seal_o_e0 x1).length : Nat) : Int) - 2)))) (e := 5) (s := 1) (p := false) (n := ((sub (crc_Seal_o_e0 x1) 0 (wi ((((crc_Seal_o_e0 x1).length : Nat) : Int) - 2))).length)) (Nat.beq_refl _) (by kernel_rfl)) (by kernel_rfl)), .c (ref03_Same_oo_t0 false (law03_CrcSealed_e11 x1) x0 x1 (tbE h6)), .k false, .b (notT (tbE h7)), .o 39 (fun _ => o_len_os (enc := (encI .u8)) (l := x1) (fl := true) (n := x0) (s := 1)), .b (tbE h8), .y (mm := [(Blk.flat 65 2 [[(.int .u8 x3), (.int .u8 x4)]] false), (Blk.flat 5 1 (List.map (encI .u8) (crc_Seal_o_e0 x1)) false), (Blk.flat 5 1 (List.map (encI .u8) (sub (crc_Seal_o_e0 x1) 0 (wi ((((crc_Seal_o_e0 x1).length : Nat) : Int) - 2)))) false)]) (args := [(V.sl 1 (x1.length + [(IntKind.u8.wrap (shrI .i64 (crc_More_io_r0_0 65535 x1) 8)), (IntKind.u8.wrap ((crc_More_io_r0_0 65535 x1)))].length) 0 (x1.length + [(IntKind.u8.wrap (shrI .i64 (crc_More_io_r0_0 65535 x1) 8)), (IntKind.u8.wrap ((crc_More_io_r0_0 65535 x1)))].length))]) (args1 := [(V.d (.rs true 1 (List.map (encI .u8) (crc_Seal_o_e0 x1)) false))]) (byvals_cons (byval_sl (enc := (encI .u8)) (l := (crc_Seal_o_e0 x1)) (e := 5) (s := 1) (p := false) (n := (x1.length + [(IntKind.u8.wrap (shrI .i64 (crc_More_io_r0_0 65535 x1) 8)), (IntKind.u8.wrap ((crc_More_io_r0_0 65535 x1)))].length)) (crc_Seal_o_t1_len0 x1) (by kernel_rfl)) (by kernel_rfl)), .c (crc_Sum_o_t0 false (crc_Seal_o_e0 x1) (tbE h9)), .b (tbE h10), .o 53 (fun _ => o_rem (k := .i64) (x := (wi (x2))) (y := (law03_CrcSealed_e6 x1)) (tbE h11)), .b (tbE h12), .b (tbE h13), .m 65 (o_app0 (m := [(Blk.flat 65 2 [[(.int .u8 x3), (.int .u8 x4)]] false), (Blk.flat 5 1 (List.map (encI .u8) (crc_Seal_o_e0 x1)) false), (Blk.flat 5 1 (List.map (encI .u8) (sub (crc_Seal_o_e0 x1) 0 (wi ((((crc_Seal_o_e0 x1).length : Nat) : Int) - 2)))) false), (Blk.flat 5 1 [] false)]) (enc := (encI .u8)) (l1 := (crc_Seal_o_e0 x1)) (id := 3) (e := 5) (s := 1) (bytes := 1) (x := (V.sl 1 (x1.length + [(IntKind.u8.wrap (shrI .i64 (crc_More_io_r0_0 65535 x1) 8)), (IntKind.u8.wrap ((crc_More_io_r0_0 65535 x1)))].length) 0 (x1.length + [(IntKind.u8.wrap (shrI .i64 (crc_More_io_r0_0 65535 x1) 8)), (IntKind.u8.wrap ((crc_More_io_r0_0 65535 x1)))].length))) (by kernel_rfl) (flatRowsOf_sl (e := 5) (s := 1) (p := false) (crc_Seal_o_t1_len0 x1) (by kernel_rfl)) (by kernel_rfl) (tbE h14)), .m 70 (o_idx_sl (m := [(Blk.flat 65 2 [[(.int .u8 x3), (.int .u8 x4)]] true), (Blk.flat 5 1 (List.map (encI .u8) (crc_Seal_o_e0 x1)) true), (Blk.flat 5 1 (List.map (encI .u8) (sub (crc_Seal_o_e0 x1) 0 (wi ((((crc_Seal_o_e0 x1).length : Nat) : Int) - 2)))) true), (Blk.flat 5 1 (List.map (encI .u8) (crc_Seal_o_e0 x1)) true)]) (id := 3) (n := ((crc_Seal_o_e0 x1).length)) (s := 1) (k := .i64) (by kernel_rfl) (tbE h15)), .m 71 (o_load_L (m := [(Blk.flat 65 2 [[(.int .u8 x3), (.int .u8 x4)]] true), (Blk.flat 5 1 (List.map (encI .u8) (crc_Seal_o_e0 x1)) true), (Blk.flat 5 1 (List.map (encI .u8) (sub (crc_Seal_o_e0 x1) 0 (wi ((((crc_Seal_o_e0 x1).length : Nat) : Int) - 2)))) true), (Blk.flat 5 1 (List.map (encI .u8) (crc_Seal_o_e0 x1)) true)]) (enc := (encI .u8)) (l := (crc_Seal_o_e0 x1)) (id := 3) (e := 5) (s := 1) (off := 0) (size := 1) (p := true) (agg := false) (i := (remI .i64 (wi (x2)) (law03_CrcSealed_e6 x1))) (v := (V.d (.int .u8 (law03_CrcSealed_e7 x1 x2)))) (n := ((crc_Seal_o_e0 x1).length)) (Nat.beq_refl _) (by kernel_rfl) (tbE h15) (by kernel_rfl)), .m 75 (o_idx_sl (m := [(Blk.flat 65 2 [[(.int .u8 x3), (.int .u8 x4)]] false), (Blk.flat 5 1 (List.map (encI .u8) (crc_Seal_o_e0 x1)) false), (Blk.flat 5 1 (List.map (encI .u8) (sub (crc_Seal_o_e0 x1) 0 (wi ((((crc_Seal_o_e0 x1).length : Nat) : Int) - 2)))) false), (Blk.flat 5 1 (List.map (encI .u8) (crc_Seal_o_e0 x1)) false)]) (id := 3) (n := ((crc_Seal_o_e0 x1).length)) (s := 1) (k := .i64) (by kernel_rfl) (tbE h15)), .m 100075 (o_store_L (m := [(Blk.flat 65 2 [[(.int .u8 x3), (.int .u8 x4)]] false), (Blk.flat 5 1 (List.map (encI .u8) (crc_Seal_o_e0 x1)) false), (Blk.flat 5 1 (List.map (encI .u8) (sub (crc_Seal_o_e0 x1) 0 (wi ((((crc_Seal_o_e0 x1).length : Nat) : Int) - 2)))) false), (Blk.flat 5 1 (List.map (encI .u8) (crc_Seal_o_e0 x1)) false)]) (enc := (encI .u8)) (l := (crc_Seal_o_e0 x1)) (id := 3) (e := 5) (s := 1) (size := 1) (off := 0) (i := (remI .i64 (wi (x2)) (law03_CrcSealed_e6 x1))) (v := (V.d (.int .u8 (IntKind.u8.wrap ((law03_CrcSealed_e7 x1 x2) + x3))))) (x := (IntKind.u8.wrap ((law03_CrcSealed_e7 x1 x2) + x3))) (ys := [(.int .u8 (IntKind.u8.wrap ((law03_CrcSealed_e7 x1 x2) + x3)))]) (n := ((crc_Seal_o_e0 x1).length)) (Nat.beq_refl _) (by kernel_rfl) (tbE h15) ⟨by kernel_rfl, by kernel_rfl⟩ (by kernel_rfl) (by kernel_rfl)), .m 82 (o_idx_sl (m := [(Blk.flat 65 2 [[(.int .u8 x3), (.int .u8 x4)]] true), (Blk.flat 5 1 (List.map (encI .u8) (crc_Seal_o_e0 x1)) true), (Blk.flat 5 1 (List.map (encI .u8) (sub (crc_Seal_o_e0 x1) 0 (wi ((((crc_Seal_o_e0 x1).length : Nat) : Int) - 2)))) true), (Blk.flat 5 1 (List.map (encI .u8) (law03_CrcSealed_e8 x1 x2 x3)) true)]) (id := 3) (n := ((crc_Seal_o_e0 x1).length)) (s := 1) (k := .i64) (by kernel_rfl) (tbE h16)), .m 83 (o_load_L (m := [(Blk.flat 65 2 [[(.int .u8 x3), (.int .u8 x4)]] true), (Blk.flat 5 1 (List.map (encI .u8) (crc_Seal_o_e0 x1)) true), (Blk.flat 5 1 (List.map (encI .u8) (sub (crc_Seal_o_e0 x1) 0 (wi ((((crc_Seal_o_e0 x1).length : Nat) : Int) - 2)))) true), (Blk.flat 5 1 (List.map (encI .u8) (law03_CrcSealed_e8 x1 x2 x3)) true)]) (enc := (encI .u8)) (l := (law03_CrcSealed_e8 x1 x2 x3)) (id := 3) (e := 5) (s := 1) (off := 0) (size := 1) (p := true) (agg := false) (i := (wi ((remI .i64 (wi (x2)) (law03_CrcSealed_e6 x1)) + 1))) (v := (V.d (.int .u8 (law03_CrcSealed_e9 x1 x2 x3)))) (n := ((crc_Seal_o_e0 x1).length)) (st_len (Nat.beq_refl _)) (by kernel_rfl) (tbE h16) (by kernel_rfl)), .m 87 (o_idx_sl (m := [(Blk.flat 65 2 [[(.int .u8 x3), (.int .u8 x4)]] false), (Blk.flat 5 1 (List.map (encI .u8) (crc_Seal_o_e0 x1)) false), (Blk.flat 5 1 (List.map (encI .u8) (sub (crc_Seal_o_e0 x1) 0 (wi ((((crc_Seal_o_e0 x1).length : Nat) : Int) - 2)))) false), (Blk.flat 5 1 (List.map (encI .u8) (law03_CrcSealed_e8 x1 x2 x3)) false)]) (id := 3) (n := ((crc_Seal_o_e0 x1).length)) (s := 1) (k := .i64) (by kernel_rfl) (tbE h16)), .m 100087 (o_store_L (m := [(Blk.flat 65 2 [[(.int .u8 x3), (.int .u8 x4)]] false), (Blk.flat 5 1 (List.map (encI .u8) (crc_Seal_o_e0 x1)) false), (Blk.flat 5 1 (List.map (encI .u8) (sub (crc_Seal_o_e0 x1) 0 (wi ((((crc_Seal_o_e0 x1).length : Nat) : Int) - 2)))) false), (Blk.flat 5 1 (List.map (encI .u8) (law03_CrcSealed_e8 x1 x2 x3)) false)]) (enc := (encI .u8)) (l := (law03_CrcSealed_e8 x1 x2 x3)) (id := 3) (e := 5) (s := 1) (size := 1) (off := 0) (i := (wi ((remI .i64 (wi (x2)) (law03_CrcSealed_e6 x1)) + 1))) (v := (V.d (.int .u8 (IntKind.u8.wrap ((law03_CrcSealed_e9 x1 x2 x3) + x4))))) (x := (IntKind.u8.wrap ((law03_CrcSealed_e9 x1 x2 x3) + x4))) (ys := [(.int .u8 (IntKind.u8.wrap ((law03_CrcSealed_e9 x1 x2 x3) + x4)))]) (n := ((crc_Seal_o_e0 x1).length)) (st_len (Nat.beq_refl _)) (by kernel_rfl) (tbE h16) ⟨by kernel_rfl, by kernel_rfl⟩ (by kernel_rfl) (by kernel_rfl)), .y (mm := [(Blk.flat 65 2 [[(.int .u8 x3), (.int .u8 x4)]] false), (Blk.flat 5 1 (List.map (encI .u8) (crc_Seal_o_e0 x1)) false), (Blk.flat 5 1 (List.map (encI .u8) (sub (crc_Seal_o_e0 x1) 0 (wi ((((crc_Seal_o_e0 x1).length : Nat) : Int) - 2)))) false), (Blk.flat 5 1 (List.map (encI .u8) (law03_CrcSealed_e10 x1 x2 x3 x4)) false)]) (args := [(V.sl 3 ((crc_Seal_o_e0 x1).length) 0 ((crc_Seal_o_e0 x1).length))]) (args1 := [(V.d (.rs true 1 (List.map (encI .u8) (law03_CrcSealed_e10 x1 x2 x3 x4)) false))]) (byvals_cons (byval_sl (enc := (encI .u8)) (l := (law03_CrcSealed_e10 x1 x2 x3 x4)) (e := 5) (s := 1) (p := false) (n := ((crc_Seal_o_e0 x1).length)) (st_len (st_len (Nat.beq_refl _))) (by kernel_rfl)) (by kernel_rfl)), .c (crc_Open_o_t1 false (law03_CrcSealed_e10 x1 x2 x3 x4) (tbE h17) (tbE h18)), .c (law03_alive_t0), .k true] (by kernel_rfl)
                                  · intro g0
                                    exact w9 [.o 16 (fun _ => o_len_os (enc := (encI .u8)) (l := x1) (fl := true) (n := x0) (s := 1)), .b (tbE h1), .c (crc_Seal_o_t1 x0 x1 (tbE h2) (tbE h3)), .y (mm := [(Blk.flat 65 2 [[(.int .u8 x3), (.int .u8 x4)]] false), (Blk.flat 5 1 (List.map (encI .u8) (crc_Seal_o_e0 x1)) false)]) (args := [(V.sl 1 (x1.length + [(IntKind.u8.wrap (shrI .i64 (crc_More_io_r0_0 65535 x1) 8)), (IntKind.u8.wrap ((crc_More_io_r0_0 65535 x1)))].length) 0 (x1.length + [(IntKind.u8.wrap (shrI .i64 (crc_More_io_r0_0 65535 x1) 8)), (IntKind.u8.wrap ((crc_More_io_r0_0 65535 x1)))].length))]) (args1 := [(V.d (.rs true 1 (List.map (encI .u8) (crc_Seal_o_e0 x1)) false))]) (byvals_cons (byval_sl (enc := (encI .u8)) (l := (crc_Seal_o_e0 x1)) (e := 5) (s := 1) (p := false) (n := (x1.length + [(IntKind.u8.wrap (shrI .i64 (crc_More_io_r0_0 65535 x1) 8)), (IntKind.u8.wrap ((crc_More_io_r0_0 65535 x1)))].length)) (crc_Seal_o_t1_len0 x1) (by kernel_rfl)) (by kernel_rfl)), .c (crc_Open_o_t1 false (crc_Seal_o_e0 x1) (tbE h4) (tbE h5)), .y (mm := [(Blk.flat 65 2 [[(.int .u8 x3), (.int .u8 x4)]] false), (Blk.flat 5 1 (List.map (encI .u8) (crc_Seal_o_e0 x1)) false), (Blk.flat 5 1 (List.map (encI .u8) (sub (crc_Seal_o_e0 x1) 0 (wi ((((crc_Seal_o_e0 x1).length : Nat) : Int) - 2)))) false)]) (args := [(V.sl 2 ((sub (crc_Seal_o_e0 x1) 0 (wi ((((crc_Seal_o_e0 x1).length : Nat) : Int) - 2))).length) 0 ((sub (crc_Seal_o_e0 x1) 0 (wi ((((crc_Seal_o_e0 x1).length : Nat) : Int) - 2))).length)), (V.d (slD (encI .u8) true 1 x0 x1))]) (args1 := [(V.d (.rs true 1 (List.map (encI .u8) (sub (crc_Seal_o_e0 x1) 0 (wi ((((crc_Seal_o_e0 x1).length : Nat) : Int) - 2)))) false)), (V.d (slD (encI .u8) true 1 x0 x1))]) (byvals_cons (byval_sl (enc := (encI .u8)) (l := (sub (crc_Seal_o_e0 x1) 0 (wi ((((crc_Seal_o_e0 x1).length : Nat) : Int) - 2)))) (e := 5) (s := 1) (p := false) (n := ((sub (crc_Seal_o_e0 x1) 0 (wi ((((crc_Seal_o_e0 x1).length : Nat) : Int) - 2))).length)) (Nat.beq_refl _) (by kernel_rfl)) (by kernel_rfl)), .c (ref03_Same_oo_t0 false (law03_CrcSealed_e11 x1) x0 x1 (tbE h6)), .k false, .b (notT (tbE h7)), .o 39 (fun _ => o_len_os (enc := (encI .u8)) (l := x1) (fl := true) (n := x0) (s := 1)), .b (tbE h8), .y (mm := [(Blk.flat 65 2 [[(.int .u8 x3), (.int .u8 x4)]] false), (Blk.flat 5 1 (List.map (encI .u8) (crc_Seal_o_e0 x1)) false), (Blk.flat 5 1 (List.map (encI .u8) (sub (crc_Seal_o_e0 x1) 0 (wi ((((crc_Seal_o_e0 x1).length : Nat) : Int) - 2)))) false)]) (args := [(V.sl 1 (x1.length + [(IntKind.u8.wrap (shrI .i64 (crc_More_io_r0_0 65535 x1) 8)), (IntKind.u8.wrap ((crc_More_io_r0_0 65535 x1)))].length) 0 (x1.length + [(IntKind.u8.wrap (shrI .i64 (crc_More_io_r0_0 65535 x1) 8)), (IntKind.u8.wrap ((crc_More_io_r0_0 65535 x1)))].length))]) (args1 := [(V.d (.rs true 1 (List.map (encI .u8) (crc_Seal_o_e0 x1)) false))]) (byvals_cons (byval_sl (enc := (encI .u8)) (l := (crc_Seal_o_e0 x1)) (e := 5) (s := 1) (p := false) (n := (x1.length + [(IntKind.u8.wrap (shrI .i64 (crc_More_io_r0_0 65535 x1) 8)), (IntKind.u8.wrap ((crc_More_io_r0_0 65535 x1)))].length)) (crc_Seal_o_t1_len0 x1) (by kernel_rfl)) (by kernel_rfl)), .c (crc_Sum_o_t0 false (crc_Seal_o_e0 x1) (tbE h9)), .b (tbE h10), .o 53 (fun _ => o_rem (k := .i64) (x := (wi (x2))) (y := (law03_CrcSealed_e6 x1)) (tbE h11)), .b (tbE h12), .b (tbE h13), .m 65 (o_app0 (m := [(Blk.flat 65 2 [[(.int .u8 x3), (.int .u8 x4)]] false), (Blk.flat 5 1 (List.map (encI .u8) (crc_Seal_o_e0 x1)) false), (Blk.flat 5 1 (List.map (encI .u8) (sub (crc_Seal_o_e0 x1) 0 (wi ((((crc_Seal_o_e0 x1).length : Nat) : Int) - 2)))) false), (Blk.flat 5 1 [] false)]) (enc := (encI .u8)) (l1 := (crc_Seal_o_e0 x1)) (id := 3) (e := 5) (s := 1) (bytes := 1) (x := (V.sl 1 (x1.length + [(IntKind.u8.wrap (shrI .i64 (crc_More_io_r0_0 65535 x1) 8)), (IntKind.u8.wrap ((crc_More_io_r0_0 65535 x1)))].length) 0 (x1.length + [(IntKind.u8.wrap (shrI .i64 (crc_More_io_r0_0 65535 x1) 8)), (IntKind.u8.wrap ((crc_More_io_r0_0 65535 x1)))].length))) (by kernel_rfl) (flatRowsOf_sl (e := 5) (s := 1) (p := false) (crc_Seal_o_t1_len0 x1) (by kernel_rfl)) (by kernel_rfl) (tbE h14)), .m 70 (o_idx_sl (m := [(Blk.flat 65 2 [[(.int .u8 x3), (.int .u8 x4)]] true), (Blk.flat 5 1 (List.map (encI .u8) (crc_Seal_o_e0 x1)) true), (Blk.flat 5 1 (List.map (encI .u8) (sub (crc_Seal_o_e0 x1) 0 (wi ((((crc_Seal_o_e0 x1).length : Nat) : Int) - 2)))) true), (Blk.flat 5 1 (List.map (encI .u8) (crc_Seal_o_e0 x1)) true)]) (id := 3) (n := ((crc_Seal_o_e0 x1).length)) (s := 1) (k := .i64) (by kernel_rfl) (tbE h15)), .m 71 (o_load_L (m := [(Blk.flat 65 2 [[(.int .u8 x3), (.int .u8 x4)]] true), (Blk.flat 5 1 (List.map (encI .u8) (crc_Seal_o_e0 x1)) true), (Blk.flat 5 1 (List.map (encI .u8) (sub (crc_Seal_o_e0 x1) 0 (wi ((((crc_Seal_o_e0 x1).length : Nat) : Int) - 2)))) true), (Blk.flat 5 1 (List.map (encI .u8) (crc_Seal_o_e0 x1)) true)]) (enc := (encI .u8)) (l := (crc_Seal_o_e0 x1)) (id := 3) (e := 5) (s := 1) (off := 0) (size := 1) (p := true) (agg := false) (i := (remI .i64 (wi (x2)) (law03_CrcSealed_e6 x1))) (v := (V.d (.int .u8 (law03_CrcSealed_e7 x1 x2)))) (n := ((crc_Seal_o_e0 x1).length)) (Nat.beq_refl _) (by kernel_rfl) (tbE h15) (by kernel_rfl)), .m 75 (o_idx_sl (m := [(Blk.flat 65 2 [[(.int .u8 x3), (.int .u8 x4)]] false), (Blk.flat 5 1 (List.map (encI .u8) (crc_Seal_o_e0 x1)) false), (Blk.flat 5 1 (List.map (encI .u8) (sub (crc_Seal_o_e0 x1) 0 (wi ((((crc_Seal_o_e0 x1).length : Nat) : Int) - 2)))) false), (Blk.flat 5 1 (List.map (encI .u8) (crc_Seal_o_e0 x1)) false)]) (id := 3) (n := ((crc_Seal_o_e0 x1).length)) (s := 1) (k := .i64) (by kernel_rfl) (tbE h15)), .m 100075 (o_store_L (m := [(Blk.flat 65 2 [[(.int .u8 x3), (.int .u8 x4)]] false), (Blk.flat 5 1 (List.map (encI .u8) (crc_Seal_o_e0 x1)) false), (Blk.flat 5 1 (List.map (encI .u8) (sub (crc_Seal_o_e0 x1) 0 (wi ((((crc_Seal_o_e0 x1).length : Nat) : Int) - 2)))) false), (Blk.flat 5 1 (List.map (encI .u8) (crc_Seal_o_e0 x1)) false)]) (enc := (encI .u8)) (l := (crc_Seal_o_e0 x1)) (id := 3) (e := 5) (s := 1) (size := 1) (off := 0) (i := (remI .i64 (wi (x2)) (law03_CrcSealed_e6 x1))) (v := (V.d (.int .u8 (IntKind.u8.wrap ((law03_CrcSealed_e7 x1 x2) + x3))))) (x := (IntKind.u8.wrap ((law03_CrcSealed_e7 x1 x2) + x3))) (ys := [(.int .u8 (IntKind.u8.wrap ((law03_CrcSealed_e7 x1 x2) + x3)))]) (n := ((crc_Seal_o_e0 x1).length)) (Nat.beq_refl _) (by kernel_rfl) (tbE h15) ⟨by kernel_rfl, by kernel_rfl⟩ (by kernel_rfl) (by kernel_rfl)), .m 82 (o_idx_sl (m := [(Blk.flat 65 2 [[(.int .u8 x3), (.int .u8 x4)]] true), (Blk.flat 5 1 (List.map (encI .u8) (crc_Seal_o_e0 x1)) true), (Blk.flat 5 1 (List.map (encI .u8) (sub (crc_Seal_o_e0 x1) 0 (wi ((((crc_Seal_o_e0 x1).length : Nat) : Int) - 2)))) true), (Blk.flat 5 1 (List.map (encI .u8) (law03_CrcSealed_e8 x1 x2 x3)) true)]) (id := 3) (n := ((crc_Seal_o_e0 x1).length)) (s := 1) (k := .i64) (by kernel_rfl) (tbE h16)), .m 83 (o_load_L (m := [(Blk.flat 65 2 [[(.int .u8 x3), (.int .u8 x4)]] true), (Blk.flat 5 1 (List.map (encI .u8) (crc_Seal_o_e0 x1)) true), (Blk.flat 5 1 (List.map (encI .u8) (sub (crc_Seal_o_e0 x1) 0 (wi ((((crc_Seal_o_e0 x1).length : Nat) : Int) - 2)))) true), (Blk.flat 5 1 (List.map (encI .u8) (law03_CrcSealed_e8 x1 x2 x3)) true)]) (enc := (encI .u8)) (l := (law03_CrcSealed_e8 x1 x2 x3)) (id := 3) (e := 5) (s := 1) (off := 0) (size := 1) (p := true) (agg := false) (i := (wi ((remI .i64 (wi (x2)) (law03_CrcSealed_e6 x1)) + 1))) (v := (V.d (.int .u8 (law03_CrcSealed_e9 x1 x2 x3)))) (n := ((crc_Seal_o_e0 x1).length)) (st_len (Nat.beq_refl _)) (by kernel_rfl) (tbE h16) (by kernel_rfl)), .m 87 (o_idx_sl (m := [(Blk.flat 65 2 [[(.int .u8 x3), (.int .u8 x4)]] false), (Blk.flat 5 1 (List.map (encI .u8) (crc_Seal_o_e0 x1)) false), (Blk.flat 5 1 (List.map (encI .u8) (sub (crc_Seal_o_e0 x1) 0 (wi ((((crc_Seal_o_e0 x1).length : Nat) : Int) - 2)))) false), (Blk.flat 5 1 (List.map (encI .u8) (law03_CrcSealed_e8 x1 x2 x3)) false)]) (id := 3) (n := ((crc_Seal_o_e0 x1).length)) (s := 1) (k := .i64) (by kernel_rfl) (tbE h16)), .m 100087 (o_store_L (m := [(Blk.flat 65 2 [[(.int .u8 x3), (.int .u8 x4)]] false), (Blk.flat 5 1 (List.map (encI .u8) (crc_Seal_o_e0 x1)) false), (Blk.flat 5 1 (List.map (encI .u8) (sub (crc_Seal_o_e0 x1) 0 (wi ((((crc_Seal_o_e0 x1).length : Nat) : Int) - 2)))) false), (Blk.flat 5 1 (List.map (encI .u8) (law03_CrcSealed_e8 x1 x2 x3)) false)]) (enc := (encI .u8)) (l := (law03_CrcSealed_e8 x1 x2 x3)) (id := 3) (e := 5) (s := 1) (size := 1) (off := 0) (i := (wi ((remI .i64 (wi (x2)) (law03_CrcSealed_e6 x1)) + 1))) (v := (V.d (.int .u8 (IntKind.u8.wrap ((law03_CrcSealed_e9 x1 x2 x3) + x4))))) (x := (IntKind.u8.wrap ((law03_CrcSealed_e9 x1 x2 x3) + x4))) (ys := [(.int .u8 (IntKind.u8.wrap ((law03_CrcSealed_e9 x1 x2 x3) + x4)))]) (n := ((crc_Seal_o_e0 x1).length)) (st_len (Nat.beq_refl _)) (by kernel_rfl) (tbE h16) ⟨by kernel_rfl, by kernel_rfl⟩ (by kernel_rfl) (by kernel_rfl)), .y (mm := [(Blk.flat 65 2 [[(.int .u8 x3), (.int .u8 x4)]] false), (Blk.flat 5 1 (List.map (encI .u8) (crc_Seal_o_e0 x1)) false), (Blk.flat 5 1 (List.map (encI .u8) (sub (crc_Seal_o_e0 x1) 0 (wi ((((crc_Seal_o_e0 x1).length : Nat) : Int) - 2)))) false), (Blk.flat 5 1 (List.map (encI .u8) (law03_CrcSealed_e10 x1 x2 x3 x4)) false)]) (args := [(V.sl 3 ((crc_Seal_o_e0 x1).length) 0 ((crc_Seal_o_e0 x1).length))]) (args1 := [(V.d (.rs true 1 (List.map (encI .u8) (law03_CrcSealed_e10 x1 x2 x3 x4)) false))]) (byvals_cons (byval_sl (enc := (encI .u8)) (l := (law03_CrcSealed_e10 x1 x2 x3 x4)) (e := 5) (s := 1) (p := false) (n := ((crc_Seal_o_e0 x1).length)) (st_len (st_len (Nat.beq_refl _))) (by kernel_rfl)) (by kernel_rfl)), .c (crc_Open_o_t0 false (law03_CrcSealed_e10 x1 x2 x3 x4) (tbE h17)), .c (law03_alive_t0), .k true] (by kernel_rfl)
                          · intro g0
                            exact w9 [.o 16 (fun _ => o_len_os (enc := (encI .u8)) (l := x1) (fl := true) (n := x0) (s := 1)), .b (tbE h1), .c (crc_Seal_o_t1 x0 x1 (tbE h2) (tbE h3)), .y (mm := [(Blk.flat 65 2 [[(.int .u8 x3), (.int .u8 x4)]] false), (Blk.flat 5 1 (List.map (encI .u8) (crc_Seal_o_e0 x1)) false)]) (args := [(V.sl 1 (x1.length + [(IntKind.u8.wrap (shrI .i64 (crc_More_io_r0_0 65535 x1) 8)), (IntKind.u8.wrap ((crc_More_io_r0_0 65535 x1)))].length) 0 (x1.length + [(IntKind.u8.wrap (shrI .i64 (crc_More_io_r0_0 65535 x1) 8)), (IntKind.u8.wrap ((crc_More_io_r0_0 65535 x1)))].length))]) (args1 := [(V.d (.rs true 1 (List.map (encI .u8) (crc_Seal_o_e0 x1)) false))]) (byvals_cons (byval_sl (enc := (encI .u8)) (l := (crc_Seal_o_e0 x1)) (e := 5) (s := 1) (p := false) (n := (x1.length + [(IntKind.u8.wrap (shrI .i64 (crc_More_io_r0_0 65535 x1) 8)), (IntKind.u8.wrap ((crc_More_io_r0_0 65535 x1)))].length)) (crc_Seal_o_t1_len0 x1) (by kernel_rfl)) (by kernel_rfl)), .c (crc_Open_o_t1 false (crc_Seal_o_e0 x1) (tbE h4) (tbE h5)), .y (mm := [(Blk.flat 65 2 [[(.int .u8 x3), (.int .u8 x4)]] false), (Blk.flat 5 1 (List.map (encI .u8) (crc_Seal_o_e0 x1)) false), (Blk.flat 5 1 (List.map (encI .u8) (sub (crc_Seal_o_e0 x1) 0 (wi ((((crc_Seal_o_e0 x1).length : Nat) : Int) - 2)))) false)]) (args := [(V.sl 2 ((sub (crc_Seal_o_e0 x1) 0 (wi ((((crc_Seal_o_e0 x1).length : Nat) : Int) - 2))).length) 0 ((sub (crc_Seal_o_e0 x1) 0 (wi ((((crc_Seal_o_e0 x1).length : Nat) : Int) - 2))).length)), (V.d (slD (encI .u8) true 1 x0 x1))]) (args1 := [(V.d (.rs true 1 (List.map (encI .u8) (sub (crc_Seal_o_e0 x1) 0 (wi ((((crc_Seal_o_e0 x1).length : Nat) : Int) - 2)))) false)), (V.d (slD (encI .u8) true 1 x0 x1))]) (byvals_cons (byval_sl (enc := (encI .u8)) (l := (sub (crc_Seal_o_e0 x1) 0 (wi ((((crc_Seal_o_e0 x1).length : Nat) : Int) - 2)))) (e := 5) (s := 1) (p := false) (n := ((sub (crc_Seal_o_e0 x1) 0 (wi ((((crc_Seal_o_e0 x1).length : Nat) : Int) - 2))).length)) (Nat.beq_refl _) (by kernel_rfl)) (by kernel_rfl)), .c (ref03_Same_oo_t0 false (law03_CrcSealed_e11 x1) x0 x1 (tbE h6)), .k false, .b (notT (tbE h7)), .o 39 (fun _ => o_len_os (enc := (encI .u8)) (l := x1) (fl := true) (n := x0) (s := 1)), .b (tbE h8), .y (mm := [(Blk.flat 65 2 [[(.int .u8 x3), (.int .u8 x4)]] false), (Blk.flat 5 1 (List.map (encI .u8) (crc_Seal_o_e0 x1)) false), (Blk.flat 5 1 (List.map (encI .u8) (sub (crc_Seal_o_e0 x1) 0 (wi ((((crc_Seal_o_e0 x1).length : Nat) : Int) - 2)))) false)]) (args := [(V.sl 1 (x1.length + [(IntKind.u8.wrap (shrI .i64 (crc_More_io_r0_0 65535 x1) 8)), (IntKind.u8.wrap ((crc_More_io_r0_0 65535 x1)))].length) 0 (x1.length + [(IntKind.u8.wrap (shrI .i64 (crc_More_io_r0_0 65535 x1) 8)), (IntKind.u8.wrap ((crc_More_io_r0_0 65535 x1)))].length))]) (args1 := [(V.d (.rs true 1 (List.map (encI .u8) (crc_Seal_o_e0 x1)) false))]) (byvals_cons (byval_sl (enc := (encI .u8)) (l := (crc_Seal_o_e0 x1)) (e := 5) (s := 1) (p := false) (n := (x1.length + [(IntKind.u8.wrap (shrI .i64 (crc_More_io_r0_0 65535 x1) 8)), (IntKind.u8.wrap ((crc_More_io_r0_0 65535 x1)))].length)) (crc_Seal_o_t1_len0 x1) (by kernel_rfl)) (by kernel_rfl)), .c (crc_Sum_o_t0 false (crc_Seal_o_e0 x1) (tbE h9)), .b (tbE h10), .o 53 (fun _ => o_rem (k := .i64) (x := (wi (x2))) (y := (law03_CrcSealed_e6 x1)) (tbE h11)), .b (tbE h12), .b (tbE h13), .c (law03_alive_t0)] (by kernel_rfl)
                      · intro g0
                        exact absurd g0 ft
                    · intro g0
                      exact w9 [.o 16 (fun _ => o_len_os (enc := (encI .u8)) (l := x1) (fl := true) (n := x0) (s := 1)), .b (tbE h1), .c (crc_Seal_o_t1 x0 x1 (tbE h2) (tbE h3)), .y (mm := [(Blk.flat 65 2 [[(.int .u8 x3), (.int .u8 x4)]] false), (Blk.flat 5 1 (List.map (encI .u8) (crc_Seal_o_e0 x1)) false)]) (args := [(V.sl 1 (x1.length + [(IntKind.u8.wrap (shrI .i64 (crc_More_io_r0_0 65535 x1) 8)), (IntKind.u8.wrap ((crc_More_io_r0_0 65535 x1)))].length) 0 (x1.length + [(IntKind.u8.wrap (shrI .i64 (crc_More_io_r0_0 65535 x1) 8)), (IntKind.u8.wrap ((crc_More_io_r0_0 65535 x1)))].length))]) (args1 := [(V.d (.rs true 1 (List.map (encI .u8) (crc_Seal_o_e0 x1)) false))]) (byvals_cons (byval_sl (enc := (encI .u8)) (l := (crc_Seal_o_e0 x1)) (e := 5) (s := 1) (p := false) (n := (x1.length + [(IntKind.u8.wrap (shrI .i64 (crc_More_io_r0_0 65535 x1) 8)), (IntKind.u8.wrap ((crc_More_io_r0_0 65535 x1)))].length)) (crc_Seal_o_t1_len0 x1) (by kernel_rfl)) (by kernel_rfl)), .c (crc_Open_o_t1 false (crc_Seal_o_e0 x1) (tbE h4) (tbE h5)), .y (mm := [(Blk.flat 65 2 [[(.int .u8 x3), (.int .u8 x4)]] false), (Blk.flat 5 1 (List.map (encI .u8) (crc_Seal_o_e0 x1)) false), (Blk.flat 5 1 (List.map (encI .u8) (sub (crc_Seal_o_e0 x1) 0 (wi ((((crc_Seal_o_e0 x1).length : Nat) : Int) - 2)))) false)]) (args := [(V.sl 2 ((sub (crc_Seal_o_e0 x1) 0 (wi ((((crc_Seal_o_e0 x1).length : Nat) : Int) - 2))).length) 0 ((sub (crc_Seal_o_e0 x1) 0 (wi ((((crc_Seal_o_e0 x1).length : Nat) : Int) - 2))).length)), (V.d (slD (encI .u8) true 1 x0 x1))]) (args1 := [(V.d (.rs true 1 (List.map (encI .u8) (sub (crc_Seal_o_e0 x1) 0 (wi ((((crc_Seal_o_e0 x1).length : Nat) : Int) - 2)))) false)), (V.d (slD (encI .u8) true 1 x0 x1))]) (byvals_cons (byval_sl (enc := (encI .u8)) (l := (sub (crc_Seal_o_e0 x1) 0 (wi ((((crc_Seal_o_e0 x1).length : Nat) : Int) - 2)))) (e := 5) (s := 1) (p := false) (n := ((sub (crc_Seal_o_e0 x1) 0 (wi ((((crc_Seal_o_e0 x1).length : Nat) : Int) - 2))).length)) (Nat.beq_refl _) (by kernel_rfl)) (by kernel_rfl)), .c (ref03_Same_oo_t0 false (law03_CrcSealed_e11 x1) x0 x1 (tbE h6)), .k false, .b (notT (tbE h7)), .o 39 (fun _ => o_len_os (enc := (encI .u8)) (l := x1) (fl := true) (n := x0) (s := 1)), .b (tbE h8), .y (mm := [(Blk.flat 65 2 [[(.int .u8 x3), (.int .u8 x4)]] false), (Blk.flat 5 1 (List.map (encI .u8) (crc_Seal_o_e0 x1)) false), (Blk.flat 5 1 (List.map (encI .u8) (sub (crc_Seal_o_e0 x1) 0 (wi ((((crc_Seal_o_e0 x1).length : Nat) : Int) - 2)))) false)]) (args := [(V.sl 1 (x1.length + [(IntKind.u8.wrap (shrI .i64 (crc_More_io_r0_0 65535 x1) 8)), (IntKind.u8.wrap ((crc_More_io_r0_0 65535 x1)))].length) 0 (x1.length + [(IntKind.u8.wrap (shrI .i64 (crc_More_io_r0_0 65535 x1) 8)), (IntKind.u8.wrap ((crc_More_io_r0_0 65535 x1)))].length))]) (args1 := [(V.d (.rs true 1 (List.map (encI .u8) (crc_Seal_o_e0 x1)) false))]) (byvals_cons (byval_sl (enc := (encI .u8)) (l := (crc_Seal_o_e0 x1)) (e := 5) (s := 1) (p := false) (n := (x1.length + [(IntKind.u8.wrap (shrI .i64 (crc_More_io_r0_0 65535 x1) 8)), (IntKind.u8.wrap ((crc_More_io_r0_0 65535 x1)))].length)) (crc_Seal_o_t1_len0 x1) (by kernel_rfl)) (by kernel_rfl)), .c (crc_Sum_o_t0 false (crc_Seal_o_e0 x1) (tbE h9)), .b (tbE h10)] (by kernel_rfl)
                · intro g0
                  exact w9 [.o 16 (fun _ => o_len_os (enc := (encI .u8)) (l := x1) (fl := true) (n := x0) (s := 1)), .b (tbE h1), .c (crc_Seal_o_t1 x0 x1 (tbE h2) (tbE h3)), .y (mm := [(Blk.flat 65 2 [[(.int .u8 x3), (.int .u8 x4)]] false), (Blk.flat 5 1 (List.map (encI .u8) (crc_Seal_o_e0 x1)) false)]) (args := [(V.sl 1 (x1.length + [(IntKind.u8.wrap (shrI .i64 (crc_More_io_r0_0 65535 x1) 8)), (IntKind.u8.wrap ((crc_More_io_r0_0 65535 x1)))].length) 0 (x1.length + [(IntKind.u8.wrap (shrI .i64 (crc_More_io_r0_0 65535 x1) 8)), (IntKind.u8.wrap ((crc_More_io_r0_0 65535 x1)))].length))]) (args1 := [(V.d (.rs true 1 (List.map (encI .u8) (crc_Seal_o_e0 x1)) false))]) (byvals_cons (byval_sl (enc := (encI .u8)) (l := (crc_Seal_o_e0 x1)) (e := 5) (s := 1) (p := false) (n := (x1.length + [(IntKind.u8.wrap (shrI .i64 (crc_More_io_r0_0 65535 x1) 8)), (IntKind.u8.wrap ((crc_More_io_r0_0 65535 x1)))].length)) (crc_Seal_o_t1_len0 x1) (by kernel_rfl)) (by kernel_rfl)), .c (crc_Open_o_t1 false (crc_Seal_o_e0 x1) (tbE h4) (tbE h5)), .y (mm := [(Blk.flat 65 2 [[(.int .u8 x3), (.int .u8 x4)]] false), (Blk.flat 5 1 (List.map (encI .u8) (crc_Seal_o_e0 x1)) false), (Blk.flat 5 1 (List.map (encI .u8) (sub (crc_Seal_o_e0 x1) 0 (wi ((((crc_Seal_o_e0 x1).length : Nat) : Int) - 2)))) false)]) (args := [(V.sl 2 ((sub (crc_Seal_o_e0 x1) 0 (wi ((((crc_Seal_o_e0 x1).length : Nat) : Int) - 2))).length) 0 ((sub (crc_Seal_o_e0 x1) 0 (wi ((((crc_Seal_o_e0 x1).length : Nat) : Int) - 2))).length)), (V.d (slD (encI .u8) true 1 x0 x1))]) (args1 := [(V.d (.rs true 1 (List.map (encI .u8) (sub (crc_Seal_o_e0 x1) 0 (wi ((((crc_Seal_o_e0 x1).length : Nat) : Int) - 2)))) false)), (V.d (slD (encI .u8) true 1 x0 x1))]) (byvals_cons (byval_sl (enc := (encI .u8)) (l := (sub (crc_Seal_o_e0 x1) 0 (wi ((((crc_Seal_o_e0 x1).length : Nat) : Int) - 2)))) (e := 5) (s := 1) (p := false) (n := ((sub (crc_Seal_o_e0 x1) 0 (wi ((((crc_Seal_o_e0 x1).length : Nat) : Int) - 2))).length)) (Nat.beq_refl _) (by kernel_rfl)) (by kernel_rfl)), .c (ref03_Same_oo_t0 false (law03_CrcSealed_e11 x1) x0 x1 (tbE h6)), .k false, .b (notT (tbE h7)), .o 39 (fun _ => o_len_os (enc := (encI .u8)) (l := x1) (fl := true) (n := x0) (s := 1)), .b (tbE h8)] (by kernel_rfl)
        · cases h5 : tb (ref03_Same_oo_c0 [] x1)
          · intro g0
            exact absurd g0 ft
          · cases h6 : tb (crc_Open_o_r0_0 false (crc_Seal_o_e0 x1))
            · intro g0
              exact w9 [.o 16 (fun _ => o_len_os (enc := (encI .u8)) (l := x1) (fl := true) (n := x0) (s := 1)), .b (tbE h1), .c (crc_Seal_o_t1 x0 x1 (tbE h2) (tbE h3)), .y (mm := [(Blk.flat 65 2 [[(.int .u8 x3), (.int .u8 x4)]] false), (Blk.flat 5 1 (List.map (encI .u8) (crc_Seal_o_e0 x1)) false)]) (args := [(V.sl 1 (x1.length + [(IntKind.u8.wrap (shrI .i64 (crc_More_io_r0_0 65535 x1) 8)), (IntKind.u8.wrap ((crc_More_io_r0_0 65535 x1)))].length) 0 (x1.length + [(IntKind.u8.wrap (shrI .i64 (crc_More_io_r0_0 65535 x1) 8)), (IntKind.u8.wrap ((crc_More_io_r0_0 65535 x1)))].length))]) (args1 := [(V.d (.rs true 1 (List.map (encI .u8) (crc_Seal_o_e0 x1)) false))]) (byvals_cons (byval_sl (enc := (encI .u8)) (l := (crc_Seal_o_e0 x1)) (e := 5) (s := 1) (p := false) (n := (x1.length + [(IntKind.u8.wrap (shrI .i64 (crc_More_io_r0_0 65535 x1) 8)), (IntKind.u8.wrap ((crc_More_io_r0_0 65535 x1)))].length)) (crc_Seal_o_t1_len0 x1) (by kernel_rfl)) (by kernel_rfl)), .c (crc_Open_o_t0 false (crc_Seal_o_e0 x1) (tbE h4)), .c (ref03_Same_oo_t0 true [] x0 x1 (tbE h5)), .b (notF (tbE h6))] (by kernel_rfl)
            · cases h7 : tb (ref03_Same_oo_r0_0 [] x1)
              · intro g0
                exact w9 [.o 16 (fun _ => o_len_os (enc := (encI .u8)) (l := x1) (fl := true) (n := x0) (s := 1)), .b (tbE h1), .c (crc_Seal_o_t1 x0 x1 (tbE h2) (tbE h3)), .y (mm := [(Blk.flat 65 2 [[(.int .u8 x3), (.int .u8 x4)]] false), (Blk.flat 5 1 (List.map (encI .u8) (crc_Seal_o_e0 x1)) false)]) (args := [(V.sl 1 (x1.length + [(IntKind.u8.wrap (shrI .i64 (crc_More_io_r0_0 65535 x1) 8)), (IntKind.u8.wrap ((crc_More_io_r0_0 65535 x1)))].length) 0 (x1.length + [(IntKind.u8.wrap (shrI .i64 (crc_More_io_r0_0 65535 x1) 8)), (IntKind.u8.wrap ((crc_More_io_r0_0 65535 x1)))].length))]) (args1 := [(V.d (.rs true 1 (List.map (encI .u8) (crc_Seal_o_e0 x1)) false))]) (byvals_cons (byval_sl (enc := (encI .u8)) (l := (crc_Seal_o_e0 x1)) (e := 5) (s := 1) (p := false) (n := (x1.length + [(IntKind.u8.wrap (shrI .i64 (crc_More_io_r0_0 65535 x1) 8)), (IntKind.u8.wrap ((crc_More_io_r0_0 65535 x1)))].length)) (crc_Seal_o_t1_len0 x1) (by kernel_rfl)) (by kernel_rfl)), .c (crc_Open_o_t0 false (crc_Seal_o_e0 x1) (tbE h4)), .c (ref03_Same_oo_t0 true [] x0 x1 (tbE h5)), .b (notT (tbE h6)), .b (notF (tbE h7))] (by kernel_rfl)
              · cases h8 : tb (((((x1.length + [(IntKind.u8.wrap (shrI .i64 (crc_More_io_r0_0 65535 x1) 8)), (IntKind.u8.wrap ((crc_More_io_r0_0 65535 x1)))].length) : Nat) : Int) : Int) != (wi (((x1.length : Nat) : Int) + 2)))
                · cases h9 : tb (crc_Sum_o_c0 (crc_Seal_o_e0 x1))
                  · intro g0
                    exact absurd g0 ft
                  · cases h10 : tb (((crc_More_io_r0_0 65535 (crc_Seal_o_e0 x1)) : Int) != 0)
                    · cases h11 : tb (((law03_CrcSealed_e6 x1) : Int) == 0)
                      · cases h12 : tb ((x3 : Int) == 0)
                        · cases h13 : tb (decide ((crc_Seal_o_e0 x1).length * 1 ≤ 140737488355328))
                          · intro g0
                            exact absurd g0 ft
                          · cases h14 : tb (inb ((crc_Seal_o_e0 x1).length) (remI .i64 (wi (x2)) (law03_CrcSealed_e6 x1)))
                            · intro g0
                              exact absurd g0 ft
                            · cases h15 : tb (inb ((crc_Seal_o_e0 x1).length) (wi ((remI .i64 (wi (x2)) (law03_CrcSealed_e6 x1)) + 1)))
                              · intro g0
                                exact absurd g0 ft
                              · cases h16 : tb (crc_Open_o_c0 false (law03_CrcSealed_e10 x1 x2 x3 x4))
                                · cases h17 : tb (crc_Open_o_c1 false (law03_CrcSealed_e10 x1 x2 x3 x4))
                                  · intro g0
                                    exact absurd g0 ft
                                  · intro g0
                                    exact w9 [.o 16 (fun _ => o_len_os (enc := (encI .u8)) (l := x1) (fl := true) (n := x0) (s := 1)), .b (tbE h1), .c (crc_Seal_o_t1 x0 x1 (tbE h2) (tbE h3)), .y (mm := [(Blk.flat 65 2 [[(.int .u8 x3), (.int .u8 x4)]] false), (Blk.flat 5 1 (List.map (encI .u8) (crc_Seal_o_e0 x1)) false)]) (args := [(V.sl 1 (x1.length + [(IntKind.u8.wrap (shrI .i64 (crc_More_io_r0_0 65535 x1) 8)), (IntKind.u8.wrap ((crc_More_io_r0_0 65535 x1)))].length) 0 (x1.length + [(IntKind.u8.wrap (shrI .i64 (crc_More_io_r0_0 65535 x1) 8)), (IntKind.u8.wrap ((crc_More_io_r0_0 65535 x1)))].length))]) (args1 := [(V.d (.rs true 1 (List.map (encI .u8) (crc_Seal_o_e0 x1)) false))]) (byvals_cons (byval_sl (enc := (encI .u8)) (l := (crc_Seal_o_e0 x1)) (e := 5) (s := 1) (p := false) (n := (x1.length + [(IntKind.u8.wrap (shrI .i64 (crc_More_io_r0_0 65535 x1) 8)), (IntKind.u8.wrap ((crc_More_io_r0_0 65535 x1)))].length)) (crc_Seal_o_t1_len0 x1) (by kernel_rfl)) (by kernel_rfl)), .c (crc_Open_o_t0 false (crc_Seal_o_e0 x1) (tbE h4)), .c (ref03_Same_oo_t0 true [] x0 x1 (tbE h5)), .b (notT (tbE h6)), .b (notT (tbE h7)), .o 39 (fun _ => o_len_os (enc := (encI .u8)) (l := x1) (fl := true) (n := x0) (s := 1)), .b (tbE h8), .y (mm := [(Blk.flat 65 2 [[(.int .u8 x3), (.int .u8 x4)]] false), (Blk.flat 5 1 (List.map (encI .u8) (crc_Seal_o_e0 x1)) false)]) (args := [(V.sl 1 (x1.length + [(IntKind.u8.wrap (shrI .i64 (crc_More_io_r0_0 65535 x1) 8)), (IntKind.u8.wrap ((crc_More_io_r0_0 65535 x1)))].length) 0 (x1.length + [(IntKind.u8.wrap (shrI .i64 (crc_More_io_r0_0 65535 x1) 8)), (IntKind.u8.wrap ((crc_More_io_r0_0 65535 x1)))].length))]) (args1 := [(V.d (.rs true 1 (List.map (encI .u8) (crc_Seal_o_e0 x1)) false))]) (byvals_cons (byval_sl (enc := (encI .u8)) (l := (crc_Seal_o_e0 x1)) (e := 5) (s := 1) (p := false) (n := (x1.length + [(IntKind.u8.wrap (shrI .i64 (crc_More_io_r0_0 65535 x1) 8)), (IntKind.u8.wrap ((crc_More_io_r0_0 65535 x1)))].length)) (crc_Seal_o_t1_len0 x1) (by kernel_rfl)) (by kernel_rfl)), .c (crc_Sum_o_t0 false (crc_Seal_o_e0 x1) (tbE h9)), .b (tbE h10), .o 53 (fun _ => o_rem (k := .i64) (x := (wi (x2))) (y := (law03_CrcSealed_e6 x1)) (tbE h11)), .b (tbE h12), .m 65 (o_app0 (m := [(Blk.flat 65 2 [[(.int .u8 x3), (.int .u8 x4)]] false), (Blk.flat 5 1 (List.map (encI .u8) (crc_Seal_o_e0 x1)) false), (Blk.flat 5 1 [] false)]) (enc := (encI .u8)) (l1 := (crc_Seal_o_e0 x1)) (id := 2) (e := 5) (s := 1) (bytes := 1) (x := (V.sl 1 (x1.length + [(IntKind.u8.wrap (shrI .i64 (crc_More_io_r0_0 65535 x1) 8)), (IntKind.u8.wrap ((crc_More_io_r0_0 65535 x1)))].length) 0 (x1.length + [(IntKind.u8.wrap (shrI .i64 (crc_More_io_r0_0 65535 x1) 8)), (IntKind.u8.wrap ((crc_More_io_r0_0 65535 x1)))].length))) (by kernel_rfl) (flatRowsOf_sl (e := 5) (s := 1) (p := false) (crc_Seal_o_t1_len0 x1) (by kernel_rfl)) (by kernel_rfl) (tbE h13)), .m 70 (o_idx_sl (m := [(Blk.flat 65 2 [[(.int .u8 x3), (.int .u8 x4)]] true), (Blk.flat 5 1 (List.map (encI .u8) (crc_Seal_o_e0 x1)) true), (Blk.flat 5 1 (List.map (encI .u8) (crc_Seal_o_e0 x1)) true)]) (id := 2) (n := ((crc_Seal_o_e0 x1).length)) (s := 1) (k := .i64) (by kernel_rfl) (tbE h14)), .m 71 (o_load_L (m := [(Blk.flat 65 2 [[(.int .u8 x3), (.int .u8 x4)]] true), (Blk.flat 5 1 (List.map (encI .u8) (crc_Seal_o_e0 x1)) true), (Blk.flat 5 1 (List.map (encI .u8) (crc_Seal_o_e0 x1)) true)]) (enc := (encI .u8)) (l := (crc_Seal_o_e0 x1)) (id := 2) (e := 5) (s := 1) (off := 0) (size := 1) (p := true) (agg := false) (i := (remI .i64 (wi (x2)) (law03_CrcSealed_e6 x1))) (v := (V.d (.int .u8 (law03_CrcSealed_e7 x1 x2)))) (n := ((crc_Seal_o_e0 x1).length)) (Nat.beq_refl _) (by kernel_rfl) (tbE h14) (by kernel_rfl)), .m 75 (o_idx_sl (m := [(Blk.flat 65 2 [[(.int .u8 x3), (.int .u8 x4)]] false), (Blk.flat 5 1 (List.map (encI .u8) (crc_Seal_o_e0 x1)) false), (Blk.flat 5 1 (List.map (encI .u8) (crc_Seal_o_e0 x1)) false)]) (id := 2) (n := ((crc_Seal_o_e0 x1).length)) (s := 1) (k := .i64) (by kernel_rfl) (tbE h14)), .m 100075 (o_store_L (m := [(Blk.flat 65 2 [[(.int .u8 x3), (.int .u8 x4)]] false), (Blk.flat 5 1 (List.map (encI .u8) (crc_Seal_o_e0 x1)) false), (Blk.flat 5 1 (List.map (encI .u8) (crc_Seal_o_e0 x1)) false)]) (enc := (encI .u8)) (l := (crc_Seal_o_e0 x1)) (id := 2) (e := 5) (s := 1) (size := 1) (off := 0) (i := (remI .i64 (wi (x2)) (law03_CrcSealed_e6 x1))) (v := (V.d (.int .u8 (IntKind.u8.wrap ((law03_CrcSealed_e7 x1 x2) + x3))))) (x := (IntKind.u8.wrap ((law03_CrcSealed_e7 x1 x2) + x3))) (ys := [(.int .u8 (IntKind.u8.wrap ((law03_CrcSealed_e7 x1 x2) + x3)))]) (n := ((crc_Seal_o_e0 x1).length)) (Nat.beq_refl _) (by kernel_rfl) (tbE h14) ⟨by kernel_rfl, by kernel_rfl⟩ (by kernel_rfl) (by kernel_rfl)), .m 82 (o_idx_sl (m := [(Blk.flat 65 2 [[(.int .u8 x3), (.int .u8 x4)]] true), (Blk.flat 5 1 (List.map (encI .u8) (crc_Seal_o_e0 x1)) true), (Blk.flat 5 1 (List.map (encI .u8) (law03_CrcSealed_e8 x1 x2 x3)) true)]) (id := 2) (n := ((crc_Seal_o_e0 x1).length)) (s := 1) (k := .i64) (by kernel_rfl) (tbE h15)), .m 83 (o_load_L (m := [(Blk.flat 65 2 [[(.int .u8 x3), (.int .u8 x4)]] true), (Blk.flat 5 1 (List.map (encI .u8) (crc_Seal_o_e0 x1)) true), (Blk.flat 5 1 (List.map (encI .u8) (law03_CrcSealed_e8 x1 x2 x3)) true)]) (enc := (encI .u8)) (l := (law03_CrcSealed_e8 x1 x2 x3)) (id := 2) (e := 5) (s := 1) (off := 0) (size := 1) (p := true) (agg := false) (i := (wi ((remI .i64 (wi (x2)) (law03_CrcSealed_e6 x1)) + 1))) (v := (V.d (.int .u8 (law03_CrcSealed_e9 x1 x2 x3)))) (n := ((crc_Seal_o_e0 x1).length)) (st_len (Nat.beq_refl _)) (by kernel_rfl) (tbE h15) (by kernel_rfl)), .m 87 (o_idx_sl (m := [(Blk.flat 65 2 [[(.int .u8 x3), (.int .u8 x4)]] false), (Blk.flat 5 1 (List.map (encI .u8) (crc_Seal_o_e0 x1)) false), (Blk.flat 5 1 (List.map (encI .u8) (law03_CrcSealed_e8 x1 x2 x3)) false)]) (id := 2) (n := ((crc_Seal_o_e0 x1).length)) (s := 1) (k := .i64) (by kernel_rfl) (tbE h15)), .m 100087 (o_store_L (m := [(Blk.flat 65 2 [[(.int .u8 x3), (.int .u8 x4)]] false), (Blk.flat 5 1 (List.map (encI .u8) (crc_Seal_o_e0 x1)) false), (Blk.flat 5 1 (List.map (encI .u8) (law03_CrcSealed_e8 x1 x2 x3)) false)]) (enc := (encI .u8)) (l := (law03_CrcSealed_e8 x1 x2 x3)) (id := 2) (e := 5) (s := 1) (size := 1) (off := 0) (i := (wi ((remI .i64 (wi (x2)) (law03_CrcSealed_e6 x1)) + 1))) (v := (V.d (.int .u8 (IntKind.u8.wrap ((law03_CrcSealed_e9 x1 x2 x3) + x4))))) (x := (IntKind.u8.wrap ((law03_CrcSealed_e9 x1 x2 x3) + x4))) (ys := [(.int .u8 (IntKind.u8.wrap ((law03_CrcSealed_e9 x1 x2 x3) + x4)))]) (n := ((crc_Seal_o_e0 x1).length)) (st_len (Nat.beq_refl _)) (by kernel_rfl) (tbE h15) ⟨by kernel_rfl, by kernel_rfl⟩ (by kernel_rfl) (by kernel_rfl)), .y (mm := [(Blk.flat 65 2 [[(.int .u8 x3), (.int .u8 x4)]] false), (Blk.flat 5 1 (List.map (encI .u8) (crc_Seal_o_e0 x1)) false), (Blk.flat 5 1 (List.map (encI .u8) (law03_CrcSealed_e10 x1 x2 x3 x4)) false)]) (args := [(V.sl 2 ((crc_Seal_o_e0 x1).length) 0 ((crc_Seal_o_e0 x1).length))]) (args1 := [(V.d (.rs true 1 (List.map (encI .u8) (law03_CrcSealed_e10 x1 x2 x3 x4)) false))]) (byvals_cons (byval_sl (enc := (encI .u8)) (l := (law03_CrcSealed_e10 x1 x2 x3 x4)) (e := 5) (s := 1) (p := false) (n := ((crc_Seal_o_e0 x1).length)) (st_len (st_len (Nat.beq_refl _))) (by kernel_rfl)) (by kernel_rfl)), .c (crc_Open_o_t1 false (law03_CrcSealed_e10 x1 x2 x3 x4) (tbE h16) (tbE h17)), .c (law03_alive_t0), .k true] (by kernel_rfl)
                                · intro g0
                                  exact w9 [.o 16 (fun _ => o_len_os (enc := (encI .u8)) (l := x1) (fl := true) (n := x0) (s := 1)), .b (tbE h1), .c (crc_Seal_o_t1 x0 x1 (tbE h2) (tbE h3)), .y (mm := [(Blk.flat 65 2 [[(.int .u8 x3), (.int .u8 x4)]] false), (Blk.flat 5 1 (List.map (encI .u8) (crc_Seal_o_e0 x1)) false)]) (args := [(V.sl 1 (x1.length + [(IntKind.u8.wrap (shrI .i64 (crc_More_io_r0_0 65535 x1) 8)), (IntKind.u8.wrap ((crc_More_io_r0_0 65535 x1)))].length) 0 (x1.length + [(IntKind.u8.wrap (shrI .i64 (crc_More_io_r0_0 65535 x1) 8)), (IntKind.u8.wrap ((crc_More_io_r0_0 65535 x1)))].length))]) (args1 := [(V.d (.rs true 1 (List.map (encI .u8) (crc_Seal_o_e0 x1)) false))]) (byvals_cons (byval_sl (enc := (encI .u8)) (l := (crc_Seal_o_e0 x1)) (e := 5) (s := 1) (p := false) (n := (x1.length + [(IntKind.u8.wrap (shrI .i64 (crc_More_io_r0_0 65535 x1) 8)), (IntKind.u8.wrap ((crc_More_io_r0_0 65535 x1)))].length)) (crc_Seal_o_t1_len0 x1) (by kernel_rfl)) (by kernel_rfl)), .c (crc_Open_o_t0 false (crc_Seal_o_e0 x1) (tbE h4)), .c (ref03_Same_oo_t0 true [] x0 x1 (tbE h5)), .b (notT (tbE h6)), .b (notT (tbE h7)), .o 39 (fun _ => o_len_os (enc := (encI .u8)) (l := x1) (fl := true) (n := x0) (s := 1)), .b (tbE h8), .y (mm := [(Blk.flat 65 2 [[(.int .u8 x3), (.int .u8 x4)]] false), (Blk.flat 5 1 (List.map (encI .u8) (crc_Seal_o_e0 x1)) false)]) (args := [(V.sl 1 (x1.length + [(IntKind.u8.wrap (shrI .i64 (crc_More_io_r0_0 65535 x1) 8)), (IntKind.u8.wrap ((crc_More_io_r0_0 65535 x1)))].length) 0 (x1.length + [(IntKind.u8.wrap (shrI .i64 (crc_More_io_r0_0 65535 x1) 8)), (IntKind.u8.wrap ((crc_More_io_r0_0 65535 x1)))].length))]) (args1 := [(V.d (.rs true 1 (List.map (encI .u8) (crc_Seal_o_e0 x1)) false))]) (byvals_cons (byval_sl (enc := (encI .u8)) (l := (crc_Seal_o_e0 x1)) (e := 5) (s := 1) (p := false) (n := (x1.length + [(IntKind.u8.wrap (shrI .i64 (crc_More_io_r0_0 65535 x1) 8)), (IntKind.u8.wrap ((crc_More_io_r0_0 65535 x1)))].length)) (crc_Seal_o_t1_len0 x1) (by kernel_rfl)) (by kernel_rfl)), .c (crc_Sum_o_t0 false (crc_Seal_o_e0 x1) (tbE h9)), .b (tbE h10), .o 53 (fun _ => o_rem (k := .i64) (x := (wi (x2))) (y := (law03_CrcSealed_e6 x1)) (tbE h11)), .b (tbE h12), .m 65 (o_app0 (m := [(Blk.flat 65 2 [[(.int .u8 x3), (.int .u8 x4)]] false), (Blk.flat 5 1 (List.map (encI .u8) (crc_Seal_o_e0 x1)) false), (Blk.flat 5 1 [] false)]) (enc := (encI .u8)) (l1 := (crc_Seal_o_e0 x1)) (id := 2) (e := 5) (s := 1) (bytes := 1) (x := (V.sl 1 (x1.length + [(IntKind.u8.wrap (shrI .i64 (crc_More_io_r0_0 65535 x1) 8)), (IntKind.u8.wrap ((crc_More_io_r0_0 65535 x1)))].length) 0 (x1.length + [(IntKind.u8.wrap (shrI .i64 (crc_More_io_r0_0 65535 x1) 8)), (IntKind.u8.wrap ((crc_More_io_r0_0 65535 x1)))].length))) (by kernel_rfl) (flatRowsOf_sl (e := 5) (s := 1) (p := false) (crc_Seal_o_t1_len0 x1) (by kernel_rfl)) (by kernel_rfl) (tbE h13)), .m 70 (o_idx_sl (m := [(Blk.flat 65 2 [[(.int .u8 x3), (.int .u8 x4)]] true), (Blk.flat 5 1 (List.map (encI .u8) (crc_Seal_o_e0 x1)) true), (Blk.flat 5 1 (List.map (encI .u8) (crc_Seal_o_e0 x1)) true)]) (id := 2) (n := ((crc_Seal_o_e0 x1).length)) (s := 1) (k := .i64) (by kernel_rfl) (tbE h14)), .m 71 (o_load_L (m := [(Blk.flat 65 2 [[(.int .u8 x3), (.int .u8 x4)]] true), (Blk.flat 5 1 (List.map (encI .u8) (crc_Seal_o_e0 x1)) true), (Blk.flat 5 1 (List.map (encI .u8) (crc_Seal_o_e0 x1)) true)]) (enc := (encI .u8)) (l := (crc_Seal_o_e0 x1)) (id := 2) (e := 5) (s := 1) (off := 0) (size := 1) (p := true) (agg := false) (i := (remI .i64 (wi (x2)) (law03_CrcSealed_e6 x1))) (v := (V.d (.int .u8 (law03_CrcSealed_e7 x1 x2)))) (n := ((crc_Seal_o_e0 x1).length)) (Nat.beq_refl _) (by kernel_rfl) (tbE h14) (by kernel_rfl)), .m 75 (o_idx_sl (m := [(Blk.flat 65 2 [[(.int .u8 x3), (.int .u8 x4)]] false), (Blk.flat 5 1 (List.map (encI .u8) (crc_Seal_o_e0 x1)) false), (Blk.flat 5 1 (List.map (encI .u8) (crc_Seal_o_e0 x1)) false)]) (id := 2) (n := ((crc_Seal_o_e0 x1).length)) (s := 1) (k := .i64) (by kernel_rfl) (tbE h14)), .m 100075 (o_store_L (m := [(Blk.flat 65 2 [[(.int .u8 x3), (.int .u8 x4)]] false), (Blk.flat 5 1 (List.map (encI .u8) (crc_Seal_o_e0 x1)) false), (Blk.flat 5 1 (List.map (encI .u8) (crc_Seal_o_e0 x1)) false)]) (enc := (encI .u8)) (l := (crc_Seal_o_e0 x1)) (id := 2) (e := 5) (s := 1) (size := 1) (off := 0) (i := (remI .i64 (wi (x2)) (law03_CrcSealed_e6 x1))) (v := (V.d (.int .u8 (IntKind.u8.wrap ((law03_CrcSealed_e7 x1 x2) + x3))))) (x := (IntKind.u8.wrap ((law03_CrcSealed_e7 x1 x2) + x3))) (ys := [(.int .u8 (IntKind.u8.wrap ((law03_CrcSealed_e7 x1 x2) + x3)))]) (n := ((crc_Seal_o_e0 x1).length)) (Nat.beq_refl _) (by kernel_rfl) (tbE h14) ⟨by kernel_rfl, by kernel_rfl⟩ (by kernel_rfl) (by kernel_rfl)), .m 82 (o_idx_sl (m := [(Blk.flat 65 2 [[(.int .u8 x3), (.int .u8 x4)]] true), (Blk.flat 5 1 (List.map (encI .u8) (crc_Seal_o_e0 x1)) true), (Blk.flat 5 1 (List.map (encI .u8) (law03_CrcSealed_e8 x1 x2 x3)) true)]) (id := 2) (n := ((crc_Seal_o_e0 x1).length)) (s := 1) (k := .i64) (by kernel_rfl) (tbE h15)), .m 83 (o_load_L (m := [(Blk.flat 65 2 [[(.int .u8 x3), (.int .u8 x4)]] true), (Blk.flat 5 1 (List.map (encI .u8) (crc_Seal_o_e0 x1)) true), (Blk.flat 5 1 (List.map (encI .u8) (law03_CrcSealed_e8 x1 x2 x3)) true)]) (enc := (encI .u8)) (l := (law03_CrcSealed_e8 x1 x2 x3)) (id := 2) (e := 5) (s := 1) (off := 0) (size := 1) (p := true) (agg := false) (i := (wi ((remI .i64 (wi (x2)) (law03_CrcSealed_e6 x1)) + 1))) (v := (V.d (.int .u8 (law03_CrcSealed_e9 x1 x2 x3)))) (n := ((crc_Seal_o_e0 x1).length)) (st_len (Nat.beq_refl _)) (by kernel_rfl) (tbE h15) (by kernel_rfl)), .m 87 (o_idx_sl (m := [(Blk.flat 65 2 [[(.int .u8 x3), (.int .u8 x4)]] false), (Blk.flat 5 1 (List.map (encI .u8) (crc_Seal_o_e0 x1)) false), (Blk.flat 5 1 (List.map (encI .u8) (law03_CrcSealed_e8 x1 x2 x3)) false)]) (id := 2) (n := ((crc_Seal_o_e0 x1).length)) (s := 1) (k := .i64) (by kernel_rfl) (tbE h15)), .m 100087 (o_store_L (m := [(Blk.flat 65 2 [[(.int .u8 x3), (.int .u8 x4)]] false), (Blk.flat 5 1 (List.map (encI .u8) (crc_Seal_o_e0 x1)) false), (Blk.flat 5 1 (List.map (encI .u8) (law03_CrcSealed_e8 x1 x2 x3)) false)]) (enc := (encI .u8)) (l := (law03_CrcSealed_e8 x1 x2 x3)) (id := 2) (e := 5) (s := 1) (size := 1) (off := 0) (i := (wi ((remI .i64 (wi (x2)) (law03_CrcSealed_e6 x1)) + 1))) (v := (V.d (.int .u8 (IntKind.u8.wrap ((law03_CrcSealed_e9 x1 x2 x3) + x4))))) (x := (IntKind.u8.wrap ((law03_CrcSealed_e9 x1 x2 x3) + x4))) (ys := [(.int .u8 (IntKind.u8.wrap ((law03_CrcSealed_e9 x1 x2 x3) + x4)))]) (n := ((crc_Seal_o_e0 x1).length)) (st_len (Nat.beq_refl _)) (by kernel_rfl) (tbE h15) ⟨by kernel_rfl, by kernel_rfl⟩ (by kernel_rfl) (by kernel_rfl)), .y (mm := [(Blk.flat 65 2 [[(.int .u8 x3), (.int .u8 x4)]] false), (Blk.flat 5 1 (List.map (encI .u8) (crc_Seal_o_e0 x1)) false), (Blk.flat 5 1 (List.map (encI .u8) (law03_CrcSealed_e10 x1 x2 x3 x4)) false)]) (args := [(V.sl 2 ((crc_Seal_o_e0 x1).length) 0 ((crc_Seal_o_e0 x1).length))]) (args1 := [(V.d (.rs true 1 (List.map (encI .u8) (law03_CrcSealed_e10 x1 x2 x3 x4)) false))]) (byvals_cons (byval_sl (enc := (encI .u8)) (l := (law03_CrcSealed_e10 x1 x2 x3 x4)) (e := 5) (s := 1) (p := false) (n := ((crc_Seal_o_e0 x1).length)) (st_len (st_len (Nat.beq_refl _))) (by kernel_rfl)) (by kernel_rfl)), .c (crc_Open_o_t0 false (law03_CrcSealed_e10 x1 x2 x3 x4) (tbE h16)), .c (law03_alive_t0), .k true] (by kernel_rfl)
                        · cases h13 : tb ((x4 : Int) == 0)
                          · cases h14 : tb (decide ((crc_Seal_o_e0 x1).length * 1 ≤ 140737488355328))
                            · intro g0
                              exact absurd g0 ft
                            · cases h15 : tb (inb ((crc_Seal_o_e0 x1).length) (remI .i64 (wi (x2)) (law03_CrcSealed_e6 x1)))
                              · intro g0
                                exact absurd g0 ft
                              · cases h16 : tb (inb ((crc_Seal_o_e0 x1).length) (wi ((remI .i64 (wi (x2)) (law03_CrcSealed_e6 x1)) + 1)))
                                · intro g0
                                  exact absurd g0 ft
                                · cases h17 : tb (crc_Open_o_c0 false (law03_CrcSealed_e10 x1 x2 x3 x4))
                                  · cases h18 : tb (crc_Open_o_c1 false (law03_CrcSealed_e10 x1 x2 x3 x4))
                                    · intro g0
                                      exact absurd g0 ft
                                    · intro g0
                                      exact w9 [.o 16 (fun _ => o_len_os (enc := (encI .u8)) (l := x1) (fl := true) (n := x0) (s := 1)), .b (tbE h1), .c (crc_Seal_o_t1 x0 x1 (tbE h2) (tbE h3)), .y (mm := [(Blk.flat 65 2 [[(.int .u8 x3), (.int .u8 x4)]] false), (Blk.flat 5 1 (List.map (encI .u8) (crc_Seal_o_e0 x1)) false)]) (args := [(V.sl 1 (x1.length + [(IntKind.u8.wrap (shrI .i64 (crc_More_io_r0_0 65535 x1) 8)), (IntKind.u8.wrap ((crc_More_io_r0_0 65535 x1)))].length) 0 (x1.length + [(IntKind.u8.wrap (shrI .i64 (crc_More_io_r0_0 65535 x1) 8)), (IntKind.u8.wrap ((crc_More_io_r0_0 65535 x1)))].length))]) (args1 := [(V.d (.rs true 1 (List.map (encI .u8) (crc_Seal_o_e0 x1)) false))]) (byvals_cons (byval_sl (enc := (encI .u8)) (l := (crc_Seal_o_e0 x1)) (e := 5) (s := 1) (p := false) (n := (x1.length + [(IntKind.u8.wrap (shrI .i64 (crc_More_io_r0_0 65535 x1) 8)), (IntKind.u8.wrap ((crc_More_io_r0_0 65535 x1)))].length)) (crc_Seal_o_t1_len0 x1) (by kernel_rfl)) (by kernel_rfl)), .c (crc_Open_o_t0 false (crc_Seal_o_e0 x1) (tbE h4)), .c (ref03_Same_oo_t0 true [] x0 x1 (tbE h5)), .b (notT (tbE h6)), .b (notT (tbE h7)), .o 39 (fun _ => o_len_os (enc := (encI .u8)) (l := x1) (fl := true) (n := x0) (s := 1)), .b (tbE h8), .y (mm := [(Blk.flat 65 2 [[(.int .u8 x3), (.int .u8 x4)]] false), (Blk.flat 5 1 (List.map (encI .u8) (crc_Seal_o_e0 x1)) false)]) (args := [(V.sl 1 (x1.length + [(IntKind.u8.wrap (shrI .i64 (crc_More_io_r0_0 65535 x1) 8)), (IntKind.u8.wrap ((crc_More_io_r0_0 65535 x1)))].length) 0 (x1.length + [(IntKind.u8.wrap (shrI .i64 (crc_More_io_r0_0 65535 x1) 8)), (IntKind.u8.wrap ((crc_More_io_r0_0 65535 x1)))].length))]) (args1 := [(V.d (.rs true 1 (List.map (encI .u8) (crc_Seal_o_e0 x1)) false))]) (byvals_cons (byval_sl (enc := (encI .u8)) (l := (crc_Seal_o_e0 x1)) (e := 5) (s := 1) (p := false) (n := (x1.length + [(IntKind.u8.wrap (shrI .i64 (crc_More_io_r0_0 65535 x1) 8)), (IntKind.u8.wrap ((crc_More_io_r0_0 65535 x1)))].length)) (crc_Seal_o_t1_len0 x1) (by kernel_rfl)) (by kernel_rfl)), .c (crc_Sum_o_t0 false (crc_Seal_o_e0 x1) (tbE h9)), .b (tbE h10), .o 53 (fun _ => o_rem (k := .i64) (x := (wi (x2))) (y := (law03_CrcSealed_e6 x1)) (tbE h11)), .b (tbE h12), .b (tbE h13), .m 65 (o_app0 (m := [(Blk.flat 65 2 [[(.int .u8 x3), (.int .u8 x4)]] false), (Blk.flat 5 1 (List.map (encI .u8) (crc_Seal_o_e0 x1)) false), (Blk.flat 5 1 [] false)]) (enc := (encI .u8)) (l1 := (crc_Seal_o_e0 x1)) (id := 2) (e := 5) (s := 1) (bytes := 1) (x := (V.sl 1 (x1.length + [(IntKind.u8.wrap (shrI .i64 (crc_More_io_r0_0 65535 x1) 8)), (IntKind.u8.wrap ((crc_More_io_r0_0 65535 x1)))].length) 0 (x1.length + [(IntKind.u8.wrap (shrI .i64 (crc_More_io_r0_0 65535 x1) 8)), (IntKind.u8.wrap ((crc_More_io_r0_0 65535 x1)))].length))) (by kernel_rfl) (flatRowsOf_sl (e := 5) (s := 1) (p := false) (crc_Seal_o_t1_len0 x1) (by kernel_rfl)) (by kernel_rfl) (tbE h14)), .m 70 (o_idx_sl (m := [(Blk.flat 65 2 [[(.int .u8 x3), (.int .u8 x4)]] true), (Blk.flat 5 1 (List.map (encI .u8) (crc_Seal_o_e0 x1)) true), (Blk.flat 5 1 (List.map (encI .u8) (crc_Seal_o_e0 x1)) true)]) (id := 2) (n := ((crc_Seal_o_e0 x1).length)) (s := 1) (k := .i64) (by kernel_rfl) (tbE h15)), .m 71 (o_load_L (m := [(Blk.flat 65 2 [[(.int .u8 x3), (.int .u8 x4)]] true), (Blk.flat 5 1 (List.map (encI .u8) (crc_Seal_o_e0 x1)) true), (Blk.flat 5 1 (List.map (encI .u8) (crc_Seal_o_e0 x1)) true)]) (enc := (encI .u8)) (l := (crc_Seal_o_e0 x1)) (id := 2) (e := 5) (s := 1) (off := 0) (size := 1) (p := true) (agg := false) (i := (remI .i64 (wi (x2)) (law03_CrcSealed_e6 x1))) (v := (V.d (.int .u8 (law03_CrcSealed_e7 x1 x2)))) (n := ((crc_Seal_o_e0 x1).length)) (Nat.beq_refl _) (by kernel_rfl) (tbE h15) (by kernel_rfl)), .m 75 (o_idx_sl (m := [(Blk.flat 65 2 [[(.int .u8 x3), (.int .u8 x4)]] false), (Blk.flat 5 1 (List.map (encI .u8) (crc_Seal_o_e0 x1)) false), (Blk.flat 5 1 (List.map (encI .u8) (crc_Seal_o_e0 x1)) false)]) (id := 2) (n := ((crc_Seal_o_e0 x1).length)) (s := 1) (k := .i64) (by kernel_rfl) (tbE h15)), .m 100075 (o_store_L (m := [(Blk.flat 65 2 [[(.int .u8 x3), (.int .u8 x4)]] false), (Blk.flat 5 1 (List.map (encI .u8) (crc_Seal_o_e0 x1)) false), (Blk.flat 5 1 (List.map (encI .u8) (crc_Seal_o_e0 x1)) false)]) (enc := (encI .u8)) (l := (crc_Seal_o_e0 x1)) (id := 2) (e := 5) (s := 1) (size := 1) (off := 0) (i := (remI .i64 (wi (x2)) (law03_CrcSealed_e6 x1))) (v := (V.d (.int .u8 (IntKind.u8.wrap ((law03_CrcSealed_e7 x1 x2) + x3))))) (x := (IntKind.u8.wrap ((law03_CrcSealed_e7 x1 x2) + x3))) (ys := [(.int .u8 (IntKind.u8.wrap ((law03_CrcSealed_e7 x1 x2) + x3)))]) (n := ((crc_Seal_o_e0 x1).length)) (Nat.beq_refl _) (by kernel_rfl) (tbE h15) ⟨by kernel_rfl, by kernel_rfl⟩ (by kernel_rfl) (by kernel_rfl)), .m 82 (o_idx_sl (m := [(Blk.flat 65 2 [[(.int .u8 x3), (.int .u8 x4)]] true), (Blk.flat 5 1 (List.map (encI .u8) (crc_Seal_o_e0 x1)) true), (Blk.flat 5 1 (List.map (encI .u8) (law03_CrcSealed_e8 x1 x2 x3)) true)]) (id := 2) (n := ((crc_Seal_o_e0 x1).length)) (s := 1) (k := .i64) (by kernel_rfl) (tbE h16)), .m 83 (o_load_L (m := [(Blk.flat 65 2 [[(.int .u8 x3), (.int .u8 x4)]] true), (Blk.flat 5 1 (List.map (encI .u8) (crc_Seal_o_e0 x1)) true), (Blk.flat 5 1 (List.map (encI .u8) (law03_CrcSealed_e8 x1 x2 x3)) true)]) (enc := (encI .u8)) (l := (law03_CrcSealed_e8 x1 x2 x3)) (id := 2) (e := 5) (s := 1) (off := 0) (size := 1) (p := true) (agg := false) (i := (wi ((remI .i64 (wi (x2)) (law03_CrcSealed_e6 x1)) + 1))) (v := (V.d (.int .u8 (law03_CrcSealed_e9 x1 x2 x3)))) (n := ((crc_Seal_o_e0 x1).length)) (st_len (Nat.beq_refl _)) (by kernel_rfl) (tbE h16) (by kernel_rfl)), .m 87 (o_idx_sl (m := [(Blk.flat 65 2 [[(.int .u8 x3), (.int .u8 x4)]] false), (Blk.flat 5 1 (List.map (encI .u8) (crc_Seal_o_e0 x1)) false), (Blk.flat 5 1 (List.map (encI .u8) (law03_CrcSealed_e8 x1 x2 x3)) false)]) (id := 2) (n := ((crc_Seal_o_e0 x1).length)) (s := 1) (k := .i64) (by kernel_rfl) (tbE h16)), .m 100087 (o_store_L (m := [(Blk.flat 65 2 [[(.int .u8 x3), (.int .u8 x4)]] false), (Blk.flat 5 1 (List.map (encI .u8) (crc_Seal_o_e0 x1)) false), (Blk.flat 5 1 (List.map (encI .u8) (law03_CrcSealed_e8 x1 x2 x3)) false)]) (enc := (encI .u8)) (l := (law03_CrcSealed_e8 x1 x2 x3)) (id := 2) (e := 5) (s := 1) (size := 1) (off := 0) (i := (wi ((remI .i64 (wi (x2)) (law03_CrcSealed_e6 x1)) + 1))) (v := (V.d (.int .u8 (IntKind.u8.wrap ((law03_CrcSealed_e9 x1 x2 x3) + x4))))) (x := (IntKind.u8.wrap ((law03_CrcSealed_e9 x1 x2 x3) + x4))) (ys := [(.int .u8 (IntKind.u8.wrap ((law03_CrcSealed_e9 x1 x2 x3) + x4)))]) (n := ((crc_Seal_o_e0 x1).length)) (st_len (Nat.beq_refl _)) (by kernel_rfl) (tbE h16) ⟨by kernel_rfl, by kernel_rfl⟩ (by kernel_rfl) (by kernel_rfl)), .y (mm := [(Blk.flat 65 2 [[(.int .u8 x3), (.int .u8 x4)]] false), (Blk.flat 5 1 (List.map (encI .u8) (crc_Seal_o_e0 x1)) false), (Blk.flat 5 1 (List.map (encI .u8) (law03_CrcSealed_e10 x1 x2 x3 x4)) false)]) (args := [(V.sl 2 ((crc_Seal_o_e0 x1).length) 0 ((crc_Seal_o_e0 x1).length))]) (args1 := [(V.d (.rs true 1 (List.map (encI .u8) (law03_CrcSealed_e10 x1 x2 x3 x4)) false))]) (byvals_cons (byval_sl (enc := (encI .u8)) (l := (law03_CrcSealed_e10 x1 x2 x3 x4)) (e := 5) (s := 1) (p := false) (n := ((crc_Seal_o_e0 x1).length)) (st_len (st_len (Nat.beq_refl _))) (by kernel_rfl)) (by kernel_rfl)), .c (crc_Open_o_t1 false (law03_CrcSealed_e10 x1 x2 x3 x4) (tbE h17) (tbE h18)), .c (law03_alive_t0), .k true] (by kernel_rfl)
                                  · intro g0
                                    exact w9 [.o 16 (fun _ => o_len_os (enc := (encI .u8)) (l := x1) (fl := true) (n := x0) (s := 1)), .b (tbE h1), .c (crc_Seal_o_t1 x0 x1 (tbE h2) (tbE h3)), .y (mm := [(Blk.flat 65 2 [[(.int .u8 x3), (.int .u8 x4)]] false), (Blk.flat 5 1 (List.map (encI .u8) (crc_Seal_o_e0 x1)) false)]) (args := [(V.sl 1 (x1.length + [(IntKind.u8.wrap (shrI .i64 (crc_More_io_r0_0 65535 x1) 8)), (IntKind.u8.wrap ((crc_More_io_r0_0 65535 x1)))].length) 0 (x1.length + [(IntKind.u8.wrap (shrI .i64 (crc_More_io_r0_0 65535 x1) 8)), (IntKind.u8.wrap ((crc_More_io_r0_0 65535 x1)))].length))]) (args1 := [(V.d (.rs true 1 (List.map (encI .u8) (crc_Seal_o_e0 x1)) false))]) (byvals_cons (byval_sl (enc := (encI .u8)) (l := (crc_Seal_o_e0 x1)) (e := 5) (s := 1) (p := false) (n := (x1.length + [(IntKind.u8.wrap (shrI .i64 (crc_More_io_r0_0 65535 x1) 8)), (IntKind.u8.wrap ((crc_More_io_r0_0 65535 x1)))].length)) (crc_Seal_o_t1_len0 x1) (by kernel_rfl)) (by kernel_rfl)), .c (crc_Open_o_t0 false (crc_Seal_o_e0 x1) (tbE h4)), .c (ref03_Same_oo_t0 true [] x0 x1 (tbE h5)), .b (notT (tbE h6)), .b (notT (tbE h7)), .o 39 (fun _ => o_len_os (enc := (encI .u8)) (l := x1) (fl := true) (n := x0) (s := 1)), .b (tbE h8), .y (mm := [(Blk.flat 65 2 [[(.int .u8 x3), (.int .u8 x4)]] false), (Blk.flat 5 1 (List.map (encI .u8) (crc_Seal_o_e0 x1)) false)]) (args := [(V.sl 1 (x1.length + [(IntKind.u8.wrap (shrI .i64 (crc_More_io_r0_0 65535 x1) 8)), (IntKind.u8.wrap ((crc_More_io_r0_0 65535 x1)))].length) 0 (x1.length + [(IntKind.u8.wrap (shrI .i64 (crc_More_io_r0_0 65535 x1) 8)), (IntKind.u8.wrap ((crc_More_io_r0_0 65535 x1)))].length))]) (args1 := [(V.d (.rs true 1 (List.map (encI .u8) (crc_Seal_o_e0 x1)) false))]) (byvals_cons (byval_sl (enc := (encI .u8)) (l := (crc_Seal_o_e0 x1)) (e := 5) (s := 1) (p := false) (n := (x1.length + [(IntKind.u8.wrap (shrI .i64 (crc_More_io_r0_0 65535 x1) 8)), (IntKind.u8.wrap ((crc_More_io_r0_0 65535 x1)))].length)) (crc_Seal_o_t1_len0 x1) (by kernel_rfl)) (by kernel_rfl)), .c (crc_Sum_o_t0 false (crc_Seal_o_e0 x1) (tbE h9)), .b (tbE h10), .o 53 (fun _ => o_rem (k := .i64) (x := (wi (x2))) (y := (law03_CrcSealed_e6 x1)) (tbE h11)), .b (tbE h12), .b (tbE h13), .m 65 (o_app0 (m := [(Blk.flat 65 2 [[(.int .u8 x3), (.int .u8 x4)]] false), (Blk.flat 5 1 (List.map (encI .u8) (crc_Seal_o_e0 x1)) false), (Blk.flat 5 1 [] false)]) (enc := (encI .u8)) (l1 := (crc_Seal_o_e0 x1)) (id := 2) (e := 5) (s := 1) (bytes := 1) (x := (V.sl 1 (x1.length + [(IntKind.u8.wrap (shrI .i64 (crc_More_io_r0_0 65535 x1) 8)), (IntKind.u8.wrap ((crc_More_io_r0_0 65535 x1)))].length) 0 (x1.length + [(IntKind.u8.wrap (shrI .i64 (crc_More_io_r0_0 65535 x1) 8)), (IntKind.u8.wrap ((crc_More_io_r0_0 65535 x1)))].length))) (by kernel_rfl) (flatRowsOf_sl (e := 5) (s := 1) (p := false) (crc_Seal_o_t1_len0 x1) (by kernel_rfl)) (by kernel_rfl) (tbE h14)), .m 70 (o_idx_sl (m := [(Blk.flat 65 2 [[(.int .u8 x3), (.int .u8 x4)]] true), (Blk.flat 5 1 (List.map (encI .u8) (crc_Seal_o_e0 x1)) true), (Blk.flat 5 1 (List.map (encI .u8) (crc_Seal_o_e0 x1)) true)]) (id := 2) (n := ((crc_Seal_o_e0 x1).length)) (s := 1) (k := .i64) (by kernel_rfl) (tbE h15)), .m 71 (o_load_L (m := [(Blk.flat 65 2 [[(.int .u8 x3), (.int .u8 x4)]] true), (Blk.flat 5 1 (List.map (encI .u8) (crc_Seal_o_e0 x1)) true), (Blk.flat 5 1 (List.map (encI .u8) (crc_Seal_o_e0 x1)) true)]) (enc := (encI .u8)) (l := (crc_Seal_o_e0 x1)) (id := 2) (e := 5) (s := 1) (off := 0) (size := 1) (p := true) (agg := false) (i := (remI .i64 (wi (x2)) (law03_CrcSealed_e6 x1))) (v := (V.d (.int .u8 (law03_CrcSealed_e7 x1 x2)))) (n := ((crc_Seal_o_e0 x1).length)) (Nat.beq_refl _) (by kernel_rfl) (tbE h15) (by kernel_rfl)), .m 75 (o_idx_sl (m := [(Blk.flat 65 2 [[(.int .u8 x3), (.int .u8 x4)]] false), (Blk.flat 5 1 (List.map (encI .u8) (crc_Seal_o_e0 x1)) false), (Blk.flat 5 1 (List.map (encI .u8) (crc_Seal_o_e0 x1)) false)]) (id := 2) (n := ((crc_Seal_o_e0 x1).length)) (s := 1) (k := .i64) (by kernel_rfl) (tbE h15)), .m 100075 (o_store_L (m := [(Blk.flat 65 2 [[(.int .u8 x3), (.int .u8 x4)]] false), (Blk.flat 5 1 (List.map (encI .u8) (crc_Seal_o_e0 x1)) false), (Blk.flat 5 1 (List.map (encI .u8) (crc_Seal_o_e0 x1)) false)]) (enc := (encI .u8)) (l := (crc_Seal_o_e0 x1)) (id := 2) (e := 5) (s := 1) (size := 1) (off := 0) (i := (remI .i64 (wi (x2)) (law03_CrcSealed_e6 x1))) (v := (V.d (.int .u8 (IntKind.u8.wrap ((law03_CrcSealed_e7 x1 x2) + x3))))) (x := (IntKind.u8.wrap ((law03_CrcSealed_e7 x1 x2) + x3))) (ys := [(.int .u8 (IntKind.u8.wrap ((law03_CrcSealed_e7 x1 x2) + x3)))]) (n := ((crc_Seal_o_e0 x1).length)) (Nat.beq_refl _) (by kernel_rfl) (tbE h15) ⟨by kernel_rfl, by kernel_rfl⟩ (by kernel_rfl) (by kernel_rfl)), .m 82 (o_idx_sl (m := [(Blk.flat 65 2 [[(.int .u8 x3), (.int .u8 x4)]] true), (Blk.flat 5 1 (List.map (encI .u8) (crc_Seal_o_e0 x1)) true), (Blk.flat 5 1 (List.map (encI .u8) (law03_CrcSealed_e8 x1 x2 x3)) true)]) (id := 2) (n := ((crc_Seal_o_e0 x1).length)) (s := 1) (k := .i64) (by kernel_rfl) (tbE h16)), .m 83 (o_load_L (m := [(Blk.flat 65 2 [[(.int .u8 x3), (.int .u8 x4)]] true), (Blk.flat 5 1 (List.map (encI .u8) (crc_Seal_o_e0 x1)) true), (Blk.flat 5 1 (List.map (encI .u8) (law03_CrcSealed_e8 x1 x2 x3)) true)]) (enc := (encI .u8)) (l := (law03_CrcSealed_e8 x1 x2 x3)) (id := 2) (e := 5) (s := 1) (off := 0) (size := 1) (p := true) (agg := false) (i := (wi ((remI .i64 (wi (x2)) (law03_CrcSealed_e6 x1)) + 1))) (v := (V.d (.int .u8 (law03_CrcSealed_e9 x1 x2 x3)))) (n := ((crc_Seal_o_e0 x1).length)) (st_len (Nat.beq_refl _)) (by kernel_rfl) (tbE h16) (by kernel_rfl)), .m 87 (o_idx_sl (m := [(Blk.flat 65 2 [[(.int .u8 x3), (.int .u8 x4)]] false), (Blk.flat 5 1 (List.map (encI .u8) (crc_Seal_o_e0 x1)) false), (Blk.flat 5 1 (List.map (encI .u8) (law03_CrcSealed_e8 x1 x2 x3)) false)]) (id := 2) (n := ((crc_Seal_o_e0 x1).length)) (s := 1) (k := .i64) (by kernel_rfl) (tbE h16)), .m 100087 (o_store_L (m := [(Blk.flat 65 2 [[(.int .u8 x3), (.int .u8 x4)]] false), (Blk.flat 5 1 (List.map (encI .u8) (crc_Seal_o_e0 x1)) false), (Blk.flat 5 1 (List.map (encI .u8) (law03_CrcSealed_e8 x1 x2 x3)) false)]) (enc := (encI .u8)) (l := (law03_CrcSealed_e8 x1 x2 x3)) (id := 2) (e := 5) (s := 1) (size := 1) (off := 0) (i := (wi ((remI .i64 (wi (x2)) (law03_CrcSealed_e6 x1)) + 1))) (v := (V.d (.int .u8 (IntKind.u8.wrap ((law03_CrcSealed_e9 x1 x2 x3) + x4))))) (x := (IntKind.u8.wrap ((law03_CrcSealed_e9 x1 x2 x3) + x4))) (ys := [(.int .u8 (IntKind.u8.wrap ((law03_CrcSealed_e9 x1 x2 x3) + x4)))]) (n := ((crc_Seal_o_e0 x1).length)) (st_len (Nat.beq_refl _)) (by kernel_rfl) (tbE h16) ⟨by kernel_rfl, by kernel_rfl⟩ (by kernel_rfl) (by kernel_rfl)), .y (mm := [(Blk.flat 65 2 [[(.int .u8 x3), (.int .u8 x4)]] false), (Blk.flat 5 1 (List.map (encI .u8) (crc_Seal_o_e0 x1)) false), (Blk.flat 5 1 (List.map (encI .u8) (law03_CrcSealed_e10 x1 x2 x3 x4)) false)]) (args := [(V.sl 2 ((crc_Seal_o_e0 x1).length) 0 ((crc_Seal_o_e0 x1).length))]) (args1 := [(V.d (.rs true 1 (List.map (encI .u8) (law03_CrcSealed_e10 x1 x2 x3 x4)) false))]) (byvals_cons (byval_sl (enc := (encI .u8)) (l := (law03_CrcSealed_e10 x1 x2 x3 x4)) (e := 5) (s := 1) (p := false) (n := ((crc_Seal_o_e0 x1).length)) (st_len (st_len (Nat.beq_refl _))) (by kernel_rfl)) (by kernel_rfl)), .c (crc_Open_o_t0 false (law03_CrcSealed_e10 x1 x2 x3 x4) (tbE h17)), .c (law03_alive_t0), .k true] (by kernel_rfl)
                          · intro g0
                            exact w9 [.o 16 (fun _ => o_len_os (enc := (encI .u8)) (l := x1) (fl := true) (n := x0) (s := 1)), .b (tbE h1), .c (crc_Seal_o_t1 x0 x1 (tbE h2) (tbE h3)), .y (mm := [(Blk.flat 65 2 [[(.int .u8 x3), (.int .u8 x4)]] false), (Blk.flat 5 1 (List.map (encI .u8) (crc_Seal_o_e0 x1)) false)]) (args := [(V.sl 1 (x1.length + [(IntKind.u8.wrap (shrI .i64 (crc_More_io_r0_0 65535 x1) 8)), (IntKind.u8.wrap ((crc_More_io_r0_0 65535 x1)))].length) 0 (x1.length + [(IntKind.u8.wrap (shrI .i64 (crc_More_io_r0_0 65535 x1) 8)), (IntKind.u8.wrap ((crc_More_io_r0_0 65535 x1)))].length))]) (args1 := [(V.d (.rs true 1 (List.map (encI .u8) (crc_Seal_o_e0 x1)) false))]) (byvals_cons (byval_sl (enc := (encI .u8)) (l := (crc_Seal_o_e0 x1)) (e := 5) (s := 1) (p := false) (n := (x1.length + [(IntKind.u8.wrap (shrI .i64 (crc_More_io_r0_0 65535 x1) 8)), (IntKind.u8.wrap ((crc_More_io_r0_0 65535 x1)))].length)) (crc_Seal_o_t1_len0 x1) (by kernel_rfl)) (by kernel_rfl)), .c (crc_Open_o_t0 false (crc_Seal_o_e0 x1) (tbE h4)), .c (ref03_Same_oo_t0 true [] x0 x1 (tbE h5)), .b (notT (tbE h6)), .b (notT (tbE h7)), .o 39 (fun _ => o_len_os (enc := (encI .u8)) (l := x1) (fl := true) (n := x0) (s := 1)), .b (tbE h8), .y (mm := [(Blk.flat 65 2 [[(.int .u8 x3), (.int .u8 x4)]] false), (Blk.flat 5 1 (List.map (encI .u8) (crc_Seal_o_e0 x1)) false)]) (args := [(V.sl 1 (x1.length + [(IntKind.u8.wrap (shrI .i64 (crc_More_io_r0_0 65535 x1) 8)), (IntKind.u8.wrap ((crc_More_io_r0_0 65535 x1)))].length) 0 (x1.length + [(IntKind.u8.wrap (shrI .i64 (crc_More_io_r0_0 65535 x1) 8)), (IntKind.u8.wrap ((crc_More_io_r0_0 65535 x1)))].length))]) (args1 := [(V.d (.rs true 1 (List.map (encI .u8) (crc_Seal_o_e0 x1)) false))]) (byvals_cons (byval_sl (enc := (encI .u8)) (l := (crc_Seal_o_e0 x1)) (e := 5) (s := 1) (p := false) (n := (x1.length + [(IntKind.u8.wrap (shrI .i64 (crc_More_io_r0_0 65535 x1) 8)), (IntKind.u8.wrap ((crc_More_io_r0_0 65535 x1)))].length)) (crc_Seal_o_t1_len0 x1) (by kernel_rfl)) (by kernel_rfl)), .c (crc_Sum_o_t0 false (crc_Seal_o_e0 x1) (tbE h9)), .b (tbE h10), .o 53 (fun _ => o_rem (k := .i64) (x := (wi (x2))) (y := (law03_CrcSealed_e6 x1)) (tbE h11)), .b (tbE h12), .b (tbE h13), .c (law03_alive_t0)] (by kernel_rfl)
                      · intro g0
                        exact absurd g0 ft
                    · intro g0
                      exact w9 [.o 16 (fun _ => o_len_os (enc := (encI .u8)) (l := x1) (fl := true) (n := x0) (s := 1)), .b (tbE h1), .c (crc_Seal_o_t1 x0 x1 (tbE h2) (tbE h3)), .y (mm := [(Blk.flat 65 2 [[(.int .u8 x3), (.int .u8 x4)]] false), (Blk.flat 5 1 (List.map (encI .u8) (crc_Seal_o_e0 x1)) false)]) (args := [(V.sl 1 (x1.length + [(IntKind.u8.wrap (shrI .i64 (crc_More_io_r0_0 65535 x1) 8)), (IntKind.u8.wrap ((crc_More_io_r0_0 65535 x1)))].length) 0 (x1.length + [(IntKind.u8.wrap (shrI .i64 (crc_More_io_r0_0 65535 x1) 8)), (IntKind.u8.wrap ((crc_More_io_r0_0 65535 x1)))].length))]) (args1 := [(V.d (.rs true 1 (List.map (encI .u8) (crc_Seal_o_e0 x1)) false))]) (byvals_cons (byval_sl (enc := (encI .u8)) (l := (crc_Seal_o_e0 x1)) (e := 5) (s := 1) (p := false) (n := (x1.length + [(IntKind.u8.wrap (shrI .i64 (crc_More_io_r0_0 65535 x1) 8)), (IntKind.u8.wrap ((crc_More_io_r0_0 65535 x1)))].length)) (crc_Seal_o_t1_len0 x1) (by kernel_rfl)) (by kernel_rfl)), .c (crc_Open_o_t0 false (crc_Seal_o_e0 x1) (tbE h4)), .c (ref03_Same_oo_t0 true [] x0 x1 (tbE h5)), .b (notT (tbE h6)), .b (notT (tbE h7)), .o 39 (fun _ => o_len_os (enc := (encI .u8)) (l := x1) (fl := true) (n := x0) (s := 1)), .b (tbE h8), .y (mm := [(Blk.flat 65 2 [[(.int .u8 x3), (.int .u8 x4)]] false), (Blk.flat 5 1 (List.map (encI .u8) (crc_Seal_o_e0 x1)) false)]) (args := [(V.sl 1 (x1.length + [(IntKind.u8.wrap (shrI .i64 (crc_More_io_r0_0 65535 x1) 8)), (IntKind.u8.wrap ((crc_More_io_r0_0 65535 x1)))].length) 0 (x1.length + [(IntKind.u8.wrap (shrI .i64 (crc_More_io_r0_0 65535 x1) 8)), (IntKind.u8.wrap ((crc_More_io_r0_0 65535 x1)))].length))]) (args1 := [(V.d (.rs true 1 (List.map (encI .u8) (crc_Seal_o_e0 x1)) false))]) (byvals_cons (byval_sl (enc := (encI .u8)) (l := (crc_Seal_o_e0 x1)) (e := 5) (s := 1) (p := false) (n := (x1.length + [(IntKind.u8.wrap (shrI .i64 (crc_More_io_r0_0 65535 x1) 8)), (IntKind.u8.wrap ((crc_More_io_r0_0 65535 x1)))].length)) (crc_Seal_o_t1_len0 x1) (by kernel_rfl)) (by kernel_rfl)), .c (crc_Sum_o_t0 false (crc_Seal_o_e0 x1) (tbE h9)), .b (tbE h10)] (by kernel_rfl)
                · intro g0
                  exact w9 [.o 16 (fun _ => o_len_os (enc := (encI .u8)) (l := x1) (fl := true) (n := x0) (s := 1)), .b (tbE h1), .c (crc_Seal_o_t1 x0 x1 (tbE h2) (tbE h3)), .y (mm := [(Blk.flat 65 2 [[(.int .u8 x3), (.int .u8 x4)]] false), (Blk.flat 5 1 (List.map (encI .u8) (crc_Seal_o_e0 x1)) false)]) (args := [(V.sl 1 (x1.length + [(IntKind.u8.wrap (shrI .i64 (crc_More_io_r0_0 65535 x1) 8)), (IntKind.u8.wrap ((crc_More_io_r0_0 65535 x1)))].length) 0 (x1.length + [(IntKind.u8.wrap (shrI .i64 (crc_More_io_r0_0 65535 x1) 8)), (IntKind.u8.wrap ((crc_More_io_r0_0 65535 x1)))].length))]) (args1 := [(V.d (.rs true 1 (List.map (encI .u8) (crc_Seal_o_e0 x1)) false))]) (byvals_cons (byval_sl (enc := (encI .u8)) (l := (crc_Seal_o_e0 x1)) (e := 5) (s := 1) (p := false) (n := (x1.length + [(IntKind.u8.wrap (shrI .i64 (crc_More_io_r0_0 65535 x1) 8)), (IntKind.u8.wrap ((crc_More_io_r0_0 65535 x1)))].length)) (crc_Seal_o_t1_len0 x1) (by kernel_rfl)) (by kernel_rfl)), .c (crc_Open_o_t0 false (crc_Seal_o_e0 x1) (tbE h4)), .c (ref03_Same_oo_t0 true [] x0 x1 (tbE h5)), .b (notT (tbE h6)), .b (notT (tbE h7)), .o 39 (fun _ => o_len_os (enc := (encI .u8)) (l := x1) (fl := true) (n := x0) (s := 1)), .b (tbE h8)] (by kernel_rfl)
    · cases h3 : tb (crc_Open_o_c0 false (law03_CrcSealed_e0 x1))
      · cases h4 : tb (crc_Open_o_c1 false (law03_CrcSealed_e0 x1))
        · intro g0
          exact absurd g0 ft
        · cases h5 : tb (ref03_Same_oo_c0 (law03_CrcSealed_e5 x1) x1)
          · intro g0
            exact absurd g0 ft
          · cases h6 : tb (ref03_Same_oo_r0_0 (law03_CrcSealed_e5 x1) x1)
            · intro g0
              exact w9 [.o 16 (fun _ => o_len_os (enc := (encI .u8)) (l := x1) (fl := true) (n := x0) (s := 1)), .b (tbE h1), .c (crc_Seal_o_t0 x0 x1 (tbE h2)), .c (crc_Open_o_t1 false (law03_CrcSealed_e0 x1) (tbE h3) (tbE h4)), .y (mm := [(Blk.flat 65 2 [[(.int .u8 x3), (.int .u8 x4)]] false), (Blk.flat 5 1 [[(.int .u8 (IntKind.u8.wrap (shrI .i64 (crc_More_io_r0_0 65535 x1) 8)))], [(.int .u8 (IntKind.u8.wrap ((crc_More_io_r0_0 65535 x1))))]] false), (Blk.flat 5 1 (List.map (encI .u8) (sub (law03_CrcSealed_e0 x1) 0 (wi ((((law03_CrcSealed_e0 x1).length : Nat) : Int) - 2)))) false)]) (args := [(V.sl 2 ((sub (law03_CrcSealed_e0 x1) 0 (wi ((((law03_CrcSealed_e0 x1).length : Nat) : Int) - 2))).length) 0 ((sub (law03_CrcSealed_e0 x1) 0 (wi ((((law03_CrcSealed_e0 x1).length : Nat) : Int) - 2))).length)), (V.d (slD (encI .u8) true 1 x0 x1))]) (args1 := [(V.d (.rs true 1 (List.map (encI .u8) (sub (law03_CrcSealed_e0 x1) 0 (wi ((((law03_CrcSealed_e0 x1).length : Nat) : Int) - 2)))) false)), (V.d (slD (encI .u8) true 1 x0 x1))]) (byvals_cons (byval_sl (enc := (encI .u8)) (l := (sub (law03_CrcSealed_e0 x1) 0 (wi ((((law03_CrcSealed_e0 x1).length : Nat) : Int) - 2)))) (e := 5) (s := 1) (p := false) (n := ((sub (law03_CrcSealed_e0 x1) 0 (wi ((((law03_CrcSealed_e0 x1).length : Nat) : Int) - 2))).length)) (Nat.beq_refl _) (by kernel_rfl)) (by kernel_rfl)), .c (ref03_Same_oo_t0 false (law03_CrcSealed_e5 x1) x0 x1 (tbE h5)), .k false, .b (notF (tbE h6))] (by kernel_rfl)
            · cases h7 : tb ((2 : Int) != (wi (((x1.length : Nat) : Int) + 2)))
              · cases h8 : tb (crc_Sum_o_c0 (law03_CrcSealed_e0 x1))
                · intro g0
                  exact absurd g0 ft
                · cases h9 : tb (((crc_More_io_r0_0 65535 (law03_CrcSealed_e0 x1)) : Int) != 0)
                  · cases h10 : tb ((x3 : Int) == 0)
                    · cases h11 : tb (inb 2 (remI .i64 (wi (x2)) 1))
                      · intro g0
                        exact absurd g0 ft
                      · cases h12 : tb (inb 2 (wi ((remI .i64 (wi (x2)) 1) + 1)))
                        · intro g0
                          exact absurd g0 ft
                        · cases h13 : tb (crc_Open_o_c0 false (law03_CrcSealed_e4 x1 x2 x3 x4))
                          · cases h14 : tb (crc_Open_o_c1 false (law03_CrcSealed_e4 x1 x2 x3 x4))
                            · intro g0
                              exact absurd g0 ft
                            · intro g0
                              exact w9 [.o 16 (fun _ => o_len_os (enc := (encI .u8)) (l := x1) (fl := true) (n := x0) (s := 1)), .b (tbE h1), .c (crc_Seal_o_t0 x0 x1 (tbE h2)), .c (crc_Open_o_t1 false (law03_CrcSealed_e0 x1) (tbE h3) (tbE h4)), .y (mm := [(Blk.flat 65 2 [[(.int .u8 x3), (.int .u8 x4)]] false), (Blk.flat 5 1 [[(.int .u8 (IntKind.u8.wrap (shrI .i64 (crc_More_io_r0_0 65535 x1) 8)))], [(.int .u8 (IntKind.u8.wrap ((crc_More_io_r0_0 65535 x1))))]] false), (Blk.flat 5 1 (List.map (encI .u8) (sub (law03_CrcSealed_e0 x1) 0 (wi ((((law03_CrcSealed_e0 x1).length : Nat) : Int) - 2)))) false)]) (args := [(V.sl 2 ((sub (law03_CrcSealed_e0 x1) 0 (wi ((((law03_CrcSealed_e0 x1).length : Nat) : Int) - 2))).length) 0 ((sub (law03_CrcSealed_e0 x1) 0 (wi ((((law03_CrcSealed_e0 x1).length : Nat) : Int) - 2))).length)), (V.d (slD (encI .u8) true 1 x0 x1))]) (args1 := [(V.d (.rs true 1 (List.map (encI .u8) (sub (law03_CrcSealed_e0 x1) 0 (wi ((((law03_CrcSealed_e0 x1).length : Nat) : Int) - 2)))) false)), (V.d (slD (encI .u8) true 1 x0 x1))]) (byvals_cons (byval_sl (enc := (encI .u8)) (l := (sub (law03_CrcSealed_e0 x1) 0 (wi ((((law03_CrcSealed_e0 x1).length : Nat) : Int) - 2)))) (e := 5) (s := 1) (p := false) (n := ((sub (law03_CrcSealed_e0 x1) 0 (wi ((((law03_CrcSealed_e0 x1).length : Nat) : Int) - 2))).length)) (Nat.beq_refl _) (by kernel_rfl)) (by kernel_rfl)), .c (ref03_Same_oo_t0 false (law03_CrcSealed_e5 x1) x0 x1 (tbE h5)), .k false, .b (notT (tbE h6)), .o 39 (fun _ => o_len_os (enc := (encI .u8)) (l := x1) (fl := true) (n := x0) (s := 1)), .b (tbE h7), .c (crc_Sum_o_t0 false (law03_CrcSealed_e0 x1) (tbE h8)), .b (tbE h9), .b (tbE h10), .m 70 (o_idx_sl (m := [(Blk.flat 65 2 [[(.int .u8 x3), (.int .u8 x4)]] true), (Blk.flat 5 1 [[(.int .u8 (IntKind.u8.wrap (shrI .i64 (crc_More_io_r0_0 65535 x1) 8)))], [(.int .u8 (IntKind.u8.wrap ((crc_More_io_r0_0 65535 x1))))]] true), (Blk.flat 5 1 (List.map (encI .u8) (sub (law03_CrcSealed_e0 x1) 0 (wi ((((law03_CrcSealed_e0 x1).length : Nat) : Int) - 2)))) true), (Blk.flat 5 1 [[(.int .u8 (IntKind.u8.wrap (shrI .i64 (crc_More_io_r0_0 65535 x1) 8)))], [(.int .u8 (IntKind.u8.wrap ((crc_More_io_r0_0 65535 x1))))]] true)]) (id := 3) (n := 2) (s := 1) (k := .i64) (by kernel_rfl) (tbE h11)), .m 71 (o_load_L (m := [(Blk.flat 65 2 [[(.int .u8 x3), (.int .u8 x4)]] true), (Blk.flat 5 1 [[(.int .u8 (IntKind.u8.wrap (shrI .i64 (crc_More_io_r0_0 65535 x1) 8)))], [(.int .u8 (IntKind.u8.wrap ((crc_More_io_r0_0 65535 x1))))]] true), (Blk.flat 5 1 (List.map (encI .u8) (sub (law03_CrcSealed_e0 x1) 0 (wi ((((law03_CrcSealed_e0 x1).length : Nat) : Int) - 2)))) true), (Blk.flat 5 1 [[(.int .u8 (IntKind.u8.wrap (shrI .i64 (crc_More_io_r0_0 65535 x1) 8)))], [(.int .u8 (IntKind.u8.wrap ((crc_More_io_r0_0 65535 x1))))]] true)]) (enc := (encI .u8)) (l := (law03_CrcSealed_e0 x1)) (id := 3) (e := 5) (s := 1) (off := 0) (size := 1) (p := true) (agg := false) (i := (remI .i64 (wi (x2)) 1)) (v := (V.d (.int .u8 (gt (law03_CrcSealed_e0 x1) (remI .i64 (wi (x2)) 1))))) (n := 2) (by kernel_rfl) (by kernel_rfl) (tbE h11) (by kernel_rfl)), .m 75 (o_idx_sl (m := [(Blk.flat 65 2 [[(.int .u8 x3), (.int .u8 x4)]] false), (Blk.flat 5 1 [[(.int .u8 (IntKind.u8.wrap (shrI .i64 (crc_More_io_r0_0 65535 x1) 8)))], [(.int .u8 (IntKind.u8.wrap ((crc_More_io_r0_0 65535 x1))))]] false), (Blk.flat 5 1 (List.map (encI .u8) (sub (law03_CrcSealed_e0 x1) 0 (wi ((((law03_CrcSealed_e0 x1).length : Nat) : Int) - 2)))) false), (Blk.flat 5 1 [[(.int .u8 (IntKind.u8.wrap (shrI .i64 (crc_More_io_r0_0 65535 x1) 8)))], [(.int .u8 (IntKind.u8.wrap ((crc_More_io_r0_0 65535 x1))))]] false)]) (id := 3) (n := 2) (s := 1) (k := .i64) (by kernel_rfl) (tbE h11)), .m 100075 (o_store_L (m := [(Blk.flat 65 2 [[(.int .u8 x3), (.int .u8 x4)]] false), (Blk.flat 5 1 [[(.int .u8 (IntKind.u8.wrap (shrI .i64 (crc_More_io_r0_0 65535 x1) 8)))], [(.int .u8 (IntKind.u8.wrap ((crc_More_io_r0_0 65535 x1))))]] false), (Blk.flat 5 1 (List.map (encI .u8) (sub (law03_CrcSealed_e0 x1) 0 (wi ((((law03_CrcSealed_e0 x1).length : Nat) : Int) - 2)))) false), (Blk.flat 5 1 [[(.int .u8 (IntKind.u8.wrap (shrI .i64 (crc_More_io_r0_0 65535 x1) 8)))], [(.int .u8 (IntKind.u8.wrap ((crc_More_io_r0_0 65535 x1))))]] false)]) (enc := (encI .u8)) (l := (law03_CrcSealed_e0 x1)) (id := 3) (e := 5) (s := 1) (size := 1) (off := 0) (i := (remI .i64 (wi (x2)) 1)) (v := (V.d (.int .u8 (law03_CrcSealed_e1 x1 x2 x3)))) (x := (law03_CrcSealed_e1 x1 x2 x3)) (ys := [(.int .u8 (law03_CrcSealed_e1 x1 x2 x3))]) (n := 2) (by kernel_rfl) (by kernel_rfl) (tbE h11) ⟨by kernel_rfl, by kernel_rfl⟩ (by kernel_rfl) (by kernel_rfl)), .m 82 (o_idx_sl (m := [(Blk.flat 65 2 [[(.int .u8 x3), (.int .u8 x4)]] true), (Blk.flat 5 1 [[(.int .u8 (IntKind.u8.wrap (shrI .i64 (crc_More_io_r0_0 65535 x1) 8)))], [(.int .u8 (IntKind.u8.wrap ((crc_More_io_r0_0 65535 x1))))]] true), (Blk.flat 5 1 (List.map (encI .u8) (sub (law03_CrcSealed_e0 x1) 0 (wi ((((law03_CrcSealed_e0 x1).length : Nat) : Int) - 2)))) true), (Blk.flat 5 1 (List.map (encI .u8) (law03_CrcSealed_e2 x1 x2 x3)) true)]) (id := 3) (n := 2) (s := 1) (k := .i64) (by kernel_rfl) (tbE h12)), .m 83 (o_load_L (m := [(Blk.flat 65 2 [[(.int .u8 x3), (.int .u8 x4)]] true), (Blk.flat 5 1 [[(.int .u8 (IntKind.u8.wrap (shrI .i64 (crc_More_io_r0_0 65535 x1) 8)))], [(.int .u8 (IntKind.u8.wrap ((crc_More_io_r0_0 65535 x1))))]] true), (Blk.flat 5 1 (List.map (encI .u8) (sub (law03_CrcSealed_e0 x1) 0 (wi ((((law03_CrcSealed_e0 x1).length : Nat) : Int) - 2)))) true), (Blk.flat 5 1 (List.map (encI .u8) (law03_CrcSealed_e2 x1 x2 x3)) true)]) (enc := (encI .u8)) (l := (law03_CrcSealed_e2 x1 x2 x3)) (id := 3) (e := 5) (s := 1) (off := 0) (size := 1) (p := true) (agg := false) (i := (wi ((remI .i64 (wi (x2)) 1) + 1))) (v := (V.d (.int .u8 (law03_CrcSealed_e3 x1 x2 x3)))) (n := 2) (st_len (by kernel_rfl)) (by kernel_rfl) (tbE h12) (by kernel_rfl)), .m 87 (o_idx_sl (m := [(Blk.flat 65 2 [[(.int .u8 x3), (.int .u8 x4)]] false), (Blk.flat 5 1 [[(.int .u8 (IntKind.u8.wrap (shrI .i64 (crc_More_io_r0_0 65535 x1) 8)))], [(.int .u8 (IntKind.u8.wrap ((crc_More_io_r0_0 65535 x1))))]] false), (Blk.flat 5 1 (List.map (encI .u8) (sub (law03_CrcSealed_e0 x1) 0 (wi ((((law03_CrcSealed_e0 x1).length : Nat) : Int) - 2)))) false), (Blk.flat 5 1 (List.map (encI .u8) (law03_CrcSealed_e2 x1 x2 x3)) false)]) (id := 3) (n := 2) (s := 1) (k := .i64) (by kernel_rfl) (tbE h12)), .m 100087 (o_store_L (m := [(Blk.flat 65 2 [[(.int .u8 x3), (.int .u8 x4)]] false), (Blk.flat 5 1 [[(.int .u8 (IntKind.u8.wrap (shrI .i64 (crc_More_io_r0_0 65535 x1) 8)))], [(.int .u8 (IntKind.u8.wrap ((crc_More_io_r0_0 65535 x1))))]] false), (Blk.flat 5 1 (List.map (encI .u8) (sub (law03_CrcSealed_e0 x1) 0 (wi ((((law03_CrcSealed_e0 x1).length : Nat) : Int) - 2)))) false), (Blk.flat 5 1 (List.map (encI .u8) (law03_CrcSealed_e2 x1 x2 x3)) false)]) (enc := (encI .u8)) (l := (law03_CrcSealed_e2 x1 x2 x3)) (id := 3) (e := 5) (s := 1) (size := 1) (off := 0) (i := (wi ((remI .i64 (wi (x2)) 1) + 1))) (v := (V.d (.int .u8 (IntKind.u8.wrap ((law03_CrcSealed_e3 x1 x2 x3) + x4))))) (x := (IntKind.u8.wrap ((law03_CrcSealed_e3 x1 x2 x3) + x4))) (ys := [(.int .u8 (IntKind.u8.wrap ((law03_CrcSealed_e3 x1 x2 x3) + x4)))]) (n := 2) (st_len (by kernel_rfl)) (by kernel_rfl) (tbE h12) ⟨by kernel_rfl, by kernel_rfl⟩ (by kernel_rfl) (by kernel_rfl)), .y (mm := [(Blk.flat 65 2 [[(.int .u8 x3), (.int .u8 x4)]] false), (Blk.flat 5 1 [[(.int .u8 (IntKind.u8.wrap (shrI .i64 (crc_More_io_r0_0 65535 x1) 8)))], [(.int .u8 (IntKind.u8.wrap ((crc_More_io_r0_0 65535 x1))))]] false), (Blk.flat 5 1 (List.map (encI .u8) (sub (law03_CrcSealed_e0 x1) 0 (wi ((((law03_CrcSealed_e0 x1).length : Nat) : Int) - 2)))) false), (Blk.flat 5 1 (List.map (encI .u8) (law03_CrcSealed_e4 x1 x2 x3 x4)) false)]) (args := [(V.sl 3 2 0 2)]) (args1 := [(V.d (.rs true 1 (List.map (encI .u8) (law03_CrcSealed_e4 x1 x2 x3 x4)) false))]) (byvals_cons (byval_sl (enc := (encI .u8)) (l := (law03_CrcSealed_e4 x1 x2 x3 x4)) (e := 5) (s := 1) (p := false) (n := 2) (st_len (st_len (by kernel_rfl))) (by kernel_rfl)) (by kernel_rfl)), .c (crc_Open_o_t1 false (law03_CrcSealed_e4 x1 x2 x3 x4) (tbE h13) (tbE h14)), .c (law03_alive_t0), .k true] (by kernel_rfl)
                          · intro g0
                            exact w9 [.o 16 (fun _ => o_len_os (enc := (encI .u8)) (l := x1) (fl := true) (n := x0) (s := 1)), .b (tbE h1), .c (crc_Seal_o_t0 x0 x1 (tbE h2)), .c (crc_Open_o_t1 false (law03_CrcSealed_e0 x1) (tbE h3) (tbE h4)), .y (mm := [(Blk.flat 65 2 [[(.int .u8 x3), (.int .u8 x4)]] false), (Blk.flat 5 1 [[(.int .u8 (IntKind.u8.wrap (shrI .i64 (crc_More_io_r0_0 65535 x1) 8)))], [(.int .u8 (IntKind.u8.wrap ((crc_More_io_r0_0 65535 x1))))]] false), (Blk.flat 5 1 (List.map (encI .u8) (sub (law03_CrcSealed_e0 x1) 0 (wi ((((law03_CrcSealed_e0 x1).length : Nat) : Int) - 2)))) false)]) (args := [(V.sl 2 ((sub (law03_CrcSealed_e0 x1) 0 (wi ((((law03_CrcSealed_e0 x1).length : Nat) : Int) - 2))).length) 0 ((sub (law03_CrcSealed_e0 x1) 0 (wi ((((law03_CrcSealed_e0 x1).length : Nat) : Int) - 2))).length)), (V.d (slD (encI .u8) true 1 x0 x1))]) (args1 := [(V.d (.rs true 1 (List.map (encI .u8) (sub (law03_CrcSealed_e0 x1) 0 (wi ((((law03_CrcSealed_e0 x1).length : Nat) : Int) - 2)))) false)), (V.d (slD (encI .u8) true 1 x0 x1))]) (byvals_cons (byval_sl (enc := (encI .u8)) (l := (sub (law03_CrcSealed_e0 x1) 0 (wi ((((law03_CrcSealed_e0 x1).length : Nat) : Int) - 2)))) (e := 5) (s := 1) (p := false) (n := ((sub (law03_CrcSealed_e0 x1) 0 (wi ((((law03_CrcSealed_e0 x1).length : Nat) : Int) - 2))).length)) (Nat.beq_refl _) (by kernel_rfl)) (by kernel_rfl)), .c (ref03_Same_oo_t0 false (law03_CrcSealed_e5 x1) x0 x1 (tbE h5)), .k false, .b (notT (tbE h6)), .o 39 (fun _ => o_len_os (enc := (encI .u8)) (l := x1) (fl := true) (n := x0) (s := 1)), .b (tbE h7), .c (crc_Sum_o_t0 false (law03_CrcSealed_e0 x1) (tbE h8)), .b (tbE h9), .b (tbE h10), .m 70 (o_idx_sl (m := [(Blk.flat 65 2 [[(.int .u8 x3), (.int .u8 x4)]] true), (Blk.flat 5 1 [[(.int .u8 (IntKind.u8.wrap (shrI .i64 (crc_More_io_r0_0 65535 x1) 8)))], [(.int .u8 (IntKind.u8.wrap ((crc_More_io_r0_0 65535 x1))))]] true), (Blk.flat 5 1 (List.map (encI .u8) (sub (law03_CrcSealed_e0 x1) 0 (wi ((((law03_CrcSealed_e0 x1).length : Nat) : Int) - 2)))) true), (Blk.flat 5 1 [[(.int .u8 (IntKind.u8.wrap (shrI .i64 (crc_More_io_r0_0 65535 x1) 8)))], [(.int .u8 (IntKind.u8.wrap ((crc_More_io_r0_0 65535 x1))))]] true)]) (id := 3) (n := 2) (s := 1) (k := .i64) (by kernel_rfl) (tbE h11)), .m 71 (o_load_L (m := [(Blk.flat 65 2 [[(.int .u8 x3), (.int .u8 x4)]] true), (Blk.flat 5 1 [[(.int .u8 (IntKind.u8.wrap (shrI .i64 (crc_More_io_r0_0 65535 x1) 8)))], [(.int .u8 (IntKind.u8.wrap ((crc_More_io_r0_0 65535 x1))))]] true), (Blk.flat 5 1 (List.map (encI .u8) (sub (law03_CrcSealed_e0 x1) 0 (wi ((((law03_CrcSealed_e0 x1).length : Nat) : Int) - 2)))) true), (Blk.flat 5 1 [[(.int .u8 (IntKind.u8.wrap (shrI .i64 (crc_More_io_r0_0 65535 x1) 8)))], [(.int .u8 (IntKind.u8.wrap ((crc_More_io_r0_0 65535 x1))))]] true)]) (enc := (encI .u8)) (l := (law03_CrcSealed_e0 x1)) (id := 3) (e := 5) (s := 1) (off := 0) (size := 1) (p := true) (agg := false) (i := (remI .i64 (wi (x2)) 1)) (v := (V.d (.int .u8 (gt (law03_CrcSealed_e0 x1) (remI .i64 (wi (x2)) 1))))) (n := 2) (by kernel_rfl) (by kernel_rfl) (tbE h11) (by kernel_rfl)), .m 75 (o_idx_sl (m := [(Blk.flat 65 2 [[(.int .u8 x3), (.int .u8 x4)]] false), (Blk.flat 5 1 [[(.int .u8 (IntKind.u8.wrap (shrI .i64 (crc_More_io_r0_0 65535 x1) 8)))], [(.int .u8 (IntKind.u8.wrap ((crc_More_io_r0_0 65535 x1))))]] false), (Blk.flat 5 1 (List.map (encI .u8) (sub (law03_CrcSealed_e0 x1) 0 (wi ((((law03_CrcSealed_e0 x1).length : Nat) : Int) - 2)))) false), (Blk.flat 5 1 [[(.int .u8 (IntKind.u8.wrap (shrI .i64 (crc_More_io_r0_0 65535 x1) 8)))], [(.int .u8 (IntKind.u8.wrap ((crc_More_io_r0_0 65535 x1))))]] false)]) (id := 3) (n := 2) (s := 1) (k := .i64) (by kernel_rfl) (tbE h11)), .m 100075 (o_store_L (m := [(Blk.flat 65 2 [[(.int .u8 x3), (.int .u8 x4)]] false), (Blk.flat 5 1 [[(.int .u8 (IntKind.u8.wrap (shrI .i64 (crc_More_io_r0_0 65535 x1) 8)))], [(.int .u8 (IntKind.u8.wrap ((crc_More_io_r0_0 65535 x1))))]] false), (Blk.flat 5 1 (List.map (encI .u8) (sub (law03_CrcSealed_e0 x1) 0 (wi ((((law03_CrcSealed_e0 x1).length : Nat) : Int) - 2)))) false), (Blk.flat 5 1 [[(.int .u8 (IntKind.u8.wrap (shrI .i64 (crc_More_io_r0_0 65535 x1) 8)))], [(.int .u8 (IntKind.u8.wrap ((crc_More_io_r0_0 65535 x1))))]] false)]) (enc := (encI .u8)) (l := (law03_CrcSealed_e0 x1)) (id := 3) (e := 5) (s := 1) (size := 1) (off := 0) (i := (remI .i64 (wi (x2)) 1)) (v := (V.d (.int .u8 (law03_CrcSealed_e1 x1 x2 x3)))) (x := (law03_CrcSealed_e1 x1 x2 x3)) (ys := [(.int .u8 (law03_CrcSealed_e1 x1 x2 x3))]) (n := 2) (by kernel_rfl) (by kernel_rfl) (tbE h11) ⟨by kernel_rfl, by kernel_rfl⟩ (by kernel_rfl) (by kernel_rfl)), .m 82 (o_idx_sl (m := [(Blk.flat 65 2 [[(.int .u8 x3), (.int .u8 x4)]] true), (Blk.flat 5 1 [[(.int .u8 (IntKind.u8.wrap (shrI .i64 (crc_More_io_r0_0 65535 x1) 8)))], [(.int .u8 (IntKind.u8.wrap ((crc_More_io_r0_0 65535 x1))))]] true), (Blk.flat 5 1 (List.map (encI .u8) (sub (law03_CrcSealed_e0 x1) 0 (wi ((((law03_CrcSealed_e0 x1).length : Nat) : Int) - 2)))) true), (Blk.flat 5 1 (List.map (encI .u8) (law03_CrcSealed_e2 x1 x2 x3)) true)]) (id := 3) (n := 2) (s := 1) (k := .i64) (by kernel_rfl) (tbE h12)), .m 83 (o_load_L (m := [(Blk.flat 65 2 [[(.int .u8 x3), (.int .u8 x4)]] true), (Blk.flat 5 1 [[(.int .u8 (IntKind.u8.wrap (shrI .i64 (crc_More_io_r0_0 65535 x1) 8)))], [(.int .u8 (IntKind.u8.wrap ((crc_More_io_r0_0 65535 x1))))]] true), (Blk.flat 5 1 (List.map (encI .u8) (sub (law03_CrcSealed_e0 x1) 0 (wi ((((law03_CrcSealed_e0 x1).length : Nat) : Int) - 2)))) true), (Blk.flat 5 1 (List.map (encI .u8) (law03_CrcSealed_e2 x1 x2 x3)) true)]) (enc := (encI .u8)) (l := (law03_CrcSealed_e2 x1 x2 x3)) (id := 3) (e := 5) (s := 1) (off := 0) (size := 1) (p := true) (agg := false) (i := (wi ((remI .i64 (wi (x2)) 1) + 1))) (v := (V.d (.int .u8 (law03_CrcSealed_e3 x1 x2 x3)))) (n := 2) (st_len (by kernel_rfl)) (by kernel_rfl) (tbE h12) (by kernel_rfl)), .m 87 (o_idx_sl (m := [(Blk.flat 65 2 [[(.int .u8 x3), (.int .u8 x4)]] false), (Blk.flat 5 1 [[(.int .u8 (IntKind.u8.wrap (shrI .i64 (crc_More_io_r0_0 65535 x1) 8)))], [(.int .u8 (IntKind.u8.wrap ((crc_More_io_r0_0 65535 x1))))]] false), (Blk.flat 5 1 (List.map (encI .u8) (sub (law03_CrcSealed_e0 x1) 0 (wi ((((law03_CrcSealed_e0 x1).length : Nat) : Int) - 2)))) false), (Blk.flat 5 1 (List.map (encI .u8) (law03_CrcSealed_e2 x1 x2 x3)) false)]) (id := 3) (n := 2) (s := 1) (k := .i64) (by kernel_rfl) (tbE h12)), .m 100087 (o_store_L (m := [(Blk.flat 65 2 [[(.int .u8 x3), (.int .u8 x4)]] false), (Blk.flat 5 1 [[(.int .u8 (IntKind.u8.wrap (shrI .i64 (crc_More_io_r0_0 65535 x1) 8)))], [(.int .u8 (IntKind.u8.wrap ((crc_More_io_r0_0 65535 x1))))]] false), (Blk.flat 5 1 (List.map (encI .u8) (sub (law03_CrcSealed_e0 x1) 0 (wi ((((law03_CrcSealed_e0 x1).length : Nat) : Int) - 2)))) false), (Blk.flat 5 1 (List.map (encI .u8) (law03_CrcSealed_e2 x1 x2 x3)) false)]) (enc := (encI .u8)) (l := (law03_CrcSealed_e2 x1 x2 x3)) (id := 3) (e := 5) (s := 1) (size := 1) (off := 0) (i := (wi ((remI .i64 (wi (x2)) 1) + 1))) (v := (V.d (.int .u8 (IntKind.u8.wrap ((law03_CrcSealed_e3 x1 x2 x3) + x4))))) (x := (IntKind.u8.wrap ((law03_CrcSealed_e3 x1 x2 x3) + x4))) (ys := [(.int .u8 (IntKind.u8.wrap ((law03_CrcSealed_e3 x1 x2 x3) + x4)))]) (n := 2) (st_len (by kernel_rfl)) (by kernel_rfl) (tbE h12) ⟨by kernel_rfl, by kernel_rfl⟩ (by kernel_rfl) (by kernel_rfl)), .y (mm := [(Blk.flat 65 2 [[(.int .u8 x3), (.int .u8 x4)]] false), (Blk.flat 5 1 [[(.int .u8 (IntKind.u8.wrap (shrI .i64 (crc_More_io_r0_0 65535 x1) 8)))], [(.int .u8 (IntKind.u8.wrap ((crc_More_io_r0_0 65535 x1))))]] false), (Blk.flat 5 1 (List.map (encI .u8) (sub (law03_CrcSealed_e0 x1) 0 (wi ((((law03_CrcSealed_e0 x1).length : Nat) : Int) - 2)))) false), (Blk.flat 5 1 (List.map (encI .u8) (law03_CrcSealed_e4 x1 x2 x3 x4)) false)]) (args := [(V.sl 3 2 0 2)]) (args1 := [(V.d (.rs true 1 (List.map (encI .u8) (law03_CrcSealed_e4 x1 x2 x3 x4)) false))]) (byvals_cons (byval_sl (enc := (encI .u8)) (l := (law03_CrcSealed_e4 x1 x2 x3 x4)) (e := 5) (s := 1) (p := false) (n := 2) (st_len (st_len (by kernel_rfl))) (by kernel_rfl)) (by kernel_rfl)), .c (crc_Open_o_t0 false (law03_CrcSealed_e4 x1 x2 x3 x4) (tbE h13)), .c (law03_alive_t0), .k true] (by kernel_rfl)
                    · cases h11 : tb ((x4 : Int) == 0)
                      · cases h12 : tb (inb 2 (remI .i64 (wi (x2)) 1))
                        · intro g0
                          exact absurd g0 ft
                        · cases h13 : tb (inb 2 (wi ((remI .i64 (wi (x2)) 1) + 1)))
                          · intro g0
                            exact absurd g0 ft
                          · cases h14 : tb (crc_Open_o_c0 false (law03_CrcSealed_e4 x1 x2 x3 x4))
                            · cases h15 : tb (crc_Open_o_c1 false (law03_CrcSealed_e4 x1 x2 x3 x4))
                              · intro g0
                                exact absurd g0 ft
                              · intro g0
                                exact w9 [.o 16 (fun _ => o_len_os (enc := (encI .u8)) (l := x1) (fl := true) (n := x0) (s := 1)), .b (tbE h1), .c (crc_Seal_o_t0 x0 x1 (tbE h2)), .c (crc_Open_o_t1 false (law03_CrcSealed_e0 x1) (tbE h3) (tbE h4)), .y (mm := [(Blk.flat 65 2 [[(.int .u8 x3), (.int .u8 x4)]] false), (Blk.flat 5 1 [[(.int .u8 (IntKind.u8.wrap (shrI .i64 (crc_More_io_r0_0 65535 x1) 8)))], [(.int .u8 (IntKind.u8.wrap ((crc_More_io_r0_0 65535 x1))))]] false), (Blk.flat 5 1 (List.map (encI .u8) (sub (law03_CrcSealed_e0 x1) 0 (wi ((((law03_CrcSealed_e0 x1).length : Nat) : Int) - 2)))) false)]) (args := [(V.sl 2 ((sub (law03_CrcSealed_e0 x1) 0 (wi ((((law03_CrcSealed_e0 x1).length : Nat) : Int) - 2))).length) 0 ((sub (law03_CrcSealed_e0 x1) 0 (wi ((((law03_CrcSealed_e0 x1).length : Nat) : Int) - 2))).length)), (V.d (slD (encI .u8) true 1 x0 x1))]) (args1 := [(V.d (.rs true 1 (List.map (encI .u8) (sub (law03_CrcSealed_e0 x1) 0 (wi ((((law03_CrcSealed_e0 x1).length : Nat) : Int) - 2)))) false)), (V.d (slD (encI .u8) true 1 x0 x1))]) (byvals_cons (byval_sl (enc := (encI .u8)) (l := (sub (law03_CrcSealed_e0 x1) 0 (wi ((((law03_CrcSealed_e0 x1).length : Nat) : Int) - 2)))) (e := 5) (s := 1) (p := false) (n := ((sub (law03_CrcSealed_e0 x1) 0 (wi ((((law03_CrcSealed_e0 x1).length : Nat) : Int) - 2))).length)) (Nat.beq_refl _) (by kernel_rfl)) (by kernel_rfl)), .c (ref03_Same_oo_t0 false (law03_CrcSealed_e5 x1) x0 x1 (tbE h5)), .k false, .b (notT (tbE h6)), .o 39 (fun _ => o_len_os (enc := (encI .u8)) (l := x1) (fl := true) (n := x0) (s := 1)), .b (tbE h7), .c (crc_Sum_o_t0 false (law03_CrcSealed_e0 x1) (tbE h8)), .b (tbE h9), .b (tbE h10), .b (tbE h11), .m 70 (o_idx_sl (m := [(Blk.flat 65 2 [[(.int .u8 x3), (.int .u8 x4)]] true), (Blk.flat 5 1 [[(.int .u8 (IntKind.u8.wrap (shrI .i64 (crc_More_io_r0_0 65535 x1) 8)))], [(.int .u8 (IntKind.u8.wrap ((crc_More_io_r0_0 65535 x1))))]] true), (Blk.flat 5 1 (List.map (encI .u8) (sub (law03_CrcSealed_e0 x1) 0 (wi ((((law03_CrcSealed_e0 x1).length : Nat) : Int) - 2)))) true), (Blk.flat 5 1 [[(.int .u8 (IntKind.u8.wrap (shrI .i64 (crc_More_io_r0_0 65535 x1) 8)))], [(.int .u8 (IntKind.u8.wrap ((crc_More_io_r0_0 65535 x1))))]] true)]) (id := 3) (n := 2) (s := 1) (k := .i64) (by kernel_rfl) (tbE h12)), .m 71 (o_load_L (m := [(Blk.flat 65 2 [[(.int .u8 x3), (.int .u8 x4)]] true), (Blk.flat 5 1 [[(.int .u8 (IntKind.u8.wrap (shrI .i64 (crc_More_io_r0_0 65535 x1) 8)))], [(.int .u8 (IntKind.u8.wrap ((crc_More_io_r0_0 65535 x1))))]] true), (Blk.flat 5 1 (List.map (encI .u8) (sub (law03_CrcSealed_e0 x1) 0 (wi ((((law03_CrcSealed_e0 x1).length : Nat) : Int) - 2)))) true), (Blk.flat 5 1 [[(.int .u8 (IntKind.u8.wrap (shrI .i64 (crc_More_io_r0_0 65535 x1) 8)))], [(.int .u8 (IntKind.u8.wrap ((crc_More_io_r0_0 65535 x1))))]] true)]) (enc := (encI .u8)) (l := (law03_CrcSealed_e0 x1)) (id := 3) (e := 5) (s := 1) (off := 0) (size := 1) (p := true) (agg := false) (i := (remI .i64 (wi (x2)) 1)) (v := (V.d (.int .u8 (gt (law03_CrcSealed_e0 x1) (remI .i64 (wi (x2)) 1))))) (n := 2) (by kernel_rfl) (by kernel_rfl) (tbE h12) (by kernel_rfl)), .m 75 (o_idx_sl (m := [(Blk.flat 65 2 [[(.int .u8 x3), (.int .u8 x4)]] false), (Blk.flat 5 1 [[(.int .u8 (IntKind.u8.wrap (shrI .i64 (crc_More_io_r0_0 65535 x1) 8)))], [(.int .u8 (IntKind.u8.wrap ((crc_More_io_r0_0 65535 x1))))]] false), (Blk.flat 5 1 (List.map (encI .u8) (sub (law03_CrcSealed_e0 x1) 0 (wi ((((law03_CrcSealed_e0 x1).length : Nat) : Int) - 2)))) false), (Blk.flat 5 1 [[(.int .u8 (IntKind.u8.wrap (shrI .i64 (crc_More_io_r0_0 65535 x1) 8)))], [(.int .u8 (IntKind.u8.wrap ((crc_More_io_r0_0 65535 x1))))]] false)]) (id := 3) (n := 2) (s := 1) (k := .i64) (by kernel_rfl) (tbE h12)), .m 100075 (o_store_L (m := [(Blk.flat 65 2 [[(.int .u8 x3), (.int .u8 x4)]] false), (Blk.flat 5 1 [[(.int .u8 (IntKind.u8.wrap (shrI .i64 (crc_More_io_r0_0 65535 x1) 8)))], [(.int .u8 (IntKind.u8.wrap ((crc_More_io_r0_0 65535 x1))))]] false), (Blk.flat 5 1 (List.map (encI .u8) (sub (law03_CrcSealed_e0 x1) 0 (wi ((((law03_CrcSealed_e0 x1).length : Nat) : Int) - 2)))) false), (Blk.flat 5 1 [[(.int .u8 (IntKind.u8.wrap (shrI .i64 (crc_More_io_r0_0 65535 x1) 8)))], [(.int .u8 (IntKind.u8.wrap ((crc_More_io_r0_0 65535 x1))))]] false)]) (enc := (encI .u8)) (l := (law03_CrcSealed_e0 x1)) (id := 3) (e := 5) (s := 1) (size := 1) (off := 0) (i := (remI .i64 (wi (x2)) 1)) (v := (V.d (.int .u8 (law03_CrcSealed_e1 x1 x2 x3)))) (x := (law03_CrcSealed_e1 x1 x2 x3)) (ys := [(.int .u8 (law03_CrcSealed_e1 x1 x2 x3))]) (n := 2) (by kernel_rfl) (by kernel_rfl) (tbE h12) ⟨by kernel_rfl, by kernel_rfl⟩ (by kernel_rfl) (by kernel_rfl)), .m 82 (o_idx_sl (m := [(Blk.flat 65 2 [[(.int .u8 x3), (.int .u8 x4)]] true), (Blk.flat 5 1 [[(.int .u8 (IntKind.u8.wrap (shrI .i64 (crc_More_io_r0_0 65535 x1) 8)))], [(.int .u8 (IntKind.u8.wrap ((crc_More_io_r0_0 65535 x1))))]] true), (Blk.flat 5 1 (List.map (encI .u8) (sub (law03_CrcSealed_e0 x1) 0 (wi ((((law03_CrcSealed_e0 x1).length : Nat) : Int) - 2)))) true), (Blk.flat 5 1 (List.map (encI .u8) (law03_CrcSealed_e2 x1 x2 x3)) true)]) (id := 3) (n := 2) (s := 1) (k := .i64) (by kernel_rfl) (tbE h13)), .m 83 (o_load_L (m := [(Blk.flat 65 2 [[(.int .u8 x3), (.int .u8 x4)]] true), (Blk.flat 5 1 [[(.int .u8 (IntKind.u8.wrap (shrI .i64 (crc_More_io_r0_0 65535 x1) 8)))], [(.int .u8 (IntKind.u8.wrap ((crc_More_io_r0_0 65535 x1))))]] true), (Blk.flat 5 1 (List.map (encI .u8) (sub (law03_CrcSealed_e0 x1) 0 (wi ((((law03_CrcSealed_e0 x1).length : Nat) : Int) - 2)))) true), (Blk.flat 5 1 (List.map (encI .u8) (law03_CrcSealed_e2 x1 x2 x3)) true)]) (enc := (encI .u8)) (l := (law03_CrcSealed_e2 x1 x2 x3)) (id := 3) (e := 5) (s := 1) (off := 0) (size := 1) (p := true) (agg := false) (i := (wi ((remI .i64 (wi (x2)) 1) + 1))) (v := (V.d (.int .u8 (law03_CrcSealed_e3 x1 x2 x3)))) (n := 2) (st_len (by kernel_rfl)) (by kernel_rfl) (tbE h13) (by kernel_rfl)), .m 87 (o_idx_sl (m := [(Blk.flat 65 2 [[(.int .u8 x3), (.int .u8 x4)]] false), (Blk.flat 5 1 [[(.int .u8 (IntKind.u8.wrap (shrI .i64 (crc_More_io_r0_0 65535 x1) 8)))], [(.int .u8 (IntKind.u8.wrap ((crc_More_io_r0_0 65535 x1))))]] false), (Blk.flat 5 1 (List.map (encI .u8) (sub (law03_CrcSealed_e0 x1) 0 (wi ((((law03_CrcSealed_e0 x1).length : Nat) : Int) - 2)))) false), (Blk.flat 5 1 (List.map (encI .u8) (law03_CrcSealed_e2 x1 x2 x3)) false)]) (id := 3) (n := 2) (s := 1) (k := .i64) (by kernel_rfl) (tbE h13)), .m 100087 (o_store_L (m := [(Blk.flat 65 2 [[(.int .u8 x3), (.int .u8 x4)]] false), (Blk.flat 5 1 [[(.int .u8 (IntKind.u8.wrap (shrI .i64 (crc_More_io_r0_0 65535 x1) 8)))], [(.int .u8 (IntKind.u8.wrap ((crc_More_io_r0_0 65535 x1))))]] false), (Blk.flat 5 1 (List.map (encI .u8) (sub (law03_CrcSealed_e0 x1) 0 (wi ((((law03_CrcSealed_e0 x1).length : Nat) : Int) - 2)))) false), (Blk.flat 5 1 (List.map (encI .u8) (law03_CrcSealed_e2 x1 x2 x3)) false)]) (enc := (encI .u8)) (l := (law03_CrcSealed_e2 x1 x2 x3)) (id := 3) (e := 5) (s := 1) (size := 1) (off := 0) (i := (wi ((remI .i64 (wi (x2)) 1) + 1))) (v := (V.d (.int .u8 (IntKind.u8.wrap ((law03_CrcSealed_e3 x1 x2 x3) + x4))))) (x := (IntKind.u8.wrap ((law03_CrcSealed_e3 x1 x2 x3) + x4))) (ys := [(.int .u8 (IntKind.u8.wrap ((law03_CrcSealed_e3 x1 x2 x3) + x4)))]) (n := 2) (st_len (by kernel_rfl)) (by kernel_rfl) (tbE h13) ⟨by kernel_rfl, by kernel_rfl⟩ (by kernel_rfl) (by kernel_rfl)), .y (mm := [(Blk.flat 65 2 [[(.int .u8 x3), (.int .u8 x4)]] false), (Blk.flat 5 1 [[(.int .u8 (IntKind.u8.wrap (shrI .i64 (crc_More_io_r0_0 65535 x1) 8)))], [(.int .u8 (IntKind.u8.wrap ((crc_More_io_r0_0 65535 x1))))]] false), (Blk.flat 5 1 (List.map (encI .u8) (sub (law03_CrcSealed_e0 x1) 0 (wi ((((law03_CrcSealed_e0 x1).length : Nat) : Int) - 2)))) false), (Blk.flat 5 1 (List.map (encI .u8) (law03_CrcSealed_e4 x1 x2 x3 x4)) false)]) (args := [(V.sl 3 2 0 2)]) (args1 := [(V.d (.rs true 1 (List.map (encI .u8) (law03_CrcSealed_e4 x1 x2 x3 x4)) false))]) (byvals_cons (byval_sl (enc := (encI .u8)) (l := (law03_CrcSealed_e4 x1 x2 x3 x4)) (e := 5) (s := 1) (p := false) (n := 2) (st_len (st_len (by kernel_rfl))) (by kernel_rfl)) (by kernel_rfl)), .c (crc_Open_o_t1 false (law03_CrcSealed_e4 x1 x2 x3 x4) (tbE h14) (tbE h15)), .c (law03_alive_t0), .k true] (by kernel_rfl)
                            · intro g0
                              exact w9 [.o 16 (fun _ => o_len_os (enc := (encI .u8)) (l := x1) (fl := true) (n := x0) (s := 1)), .b (tbE h1), .c (crc_Seal_o_t0 x0 x1 (tbE h2)), .c (crc_Open_o_t1 false (law03_CrcSealed_e0 x1) (tbE h3) (tbE h4)), .y (mm := [(Blk.flat 65 2 [[(.int .u8 x3), (.int .u8 x4)]] false), (Blk.flat 5 1 [[(.int .u8 (IntKind.u8.wrap (shrI .i64 (crc_More_io_r0_0 65535 x1) 8)))], [(.int .u8 (IntKind.u8.wrap ((crc_More_io_r0_0 65535 x1))))]] false), (Blk.flat 5 1 (List.map (encI .u8) (sub (law03_CrcSealed_e0 x1) 0 (wi ((((law03_CrcSealed_e0 x1).length : Nat) : Int) - 2)))) false)]) (args := [(V.sl 2 ((sub (law03_CrcSealed_e0 x1) 0 (wi ((((law03_CrcSealed_e0 x1).length : Nat) : Int) - 2))).length) 0 ((sub (law03_CrcSealed_e0 x1) 0 (wi ((((law03_CrcSealed_e0 x1).length : Nat) : Int) - 2))).length)), (V.d (slD (encI .u8) true 1 x0 x1))]) (args1 := [(V.d (.rs true 1 (List.map (encI .u8) (sub (law03_CrcSealed_e0 x1) 0 (wi ((((law03_CrcSealed_e0 x1).length : Nat) : Int) - 2)))) false)), (V.d (slD (encI .u8) true 1 x0 x1))]) (byvals_cons (byval_sl (enc := (encI .u8)) (l := (sub (law03_CrcSealed_e0 x1) 0 (wi ((((law03_CrcSealed_e0 x1).length : Nat) : Int) - 2)))) (e := 5) (s := 1) (p := false) (n := ((sub (law03_CrcSealed_e0 x1) 0 (wi ((((law03_CrcSealed_e0 x1).length : Nat) : Int) - 2))).length)) (Nat.beq_refl _) (by kernel_rfl)) (by kernel_rfl)), .c (ref03_Same_oo_t0 false (law03_CrcSealed_e5 x1) x0 x1 (tbE h5)), .k false, .b (notT (tbE h6)), .o 39 (fun _ => o_len_os (enc := (encI .u8)) (l := x1) (fl := true) (n := x0) (s := 1)), .b (tbE h7), .c (crc_Sum_o_t0 false (law03_CrcSealed_e0 x1) (tbE h8)), .b (tbE h9), .b (tbE h10), .b (tbE h11), .m 70 (o_idx_sl (m := [(Blk.flat 65 2 [[(.int .u8 x3), (.int .u8 x4)]] true), (Blk.flat 5 1 [[(.int .u8 (IntKind.u8.wrap (shrI .i64 (crc_More_io_r0_0 65535 x1) 8)))], [(.int .u8 (IntKind.u8.wrap ((crc_More_io_r0_0 65535 x1))))]] true), (Blk.flat 5 1 (List.map (encI .u8) (sub (law03_CrcSealed_e0 x1) 0 (wi ((((law03_CrcSealed_e0 x1).length : Nat) : Int) - 2)))) true), (Blk.flat 5 1 [[(.int .u8 (IntKind.u8.wrap (shrI .i64 (crc_More_io_r0_0 65535 x1) 8)))], [(.int .u8 (IntKind.u8.wrap ((crc_More_io_r0_0 65535 x1))))]] true)]) (id := 3) (n := 2) (s := 1) (k := .i64) (by kernel_rfl) (tbE h12)), .m 71 (o_load_L (m := [(Blk.flat 65 2 [[(.int .u8 x3), (.int .u8 x4)]] true), (Blk.flat 5 1 [[(.int .u8 (IntKind.u8.wrap (shrI .i64 (crc_More_io_r0_0 65535 x1) 8)))], [(.int .u8 (IntKind.u8.wrap ((crc_More_io_r0_0 65535 x1))))]] true), (Blk.flat 5 1 (List.map (encI .u8) (sub (law03_CrcSealed_e0 x1) 0 (wi ((((law03_CrcSealed_e0 x1).length : Nat) : Int) - 2)))) true), (Blk.flat 5 1 [[(.int .u8 (IntKind.u8.wrap (shrI .i64 (crc_More_io_r0_0 65535 x1) 8)))], [(.int .u8 (IntKind.u8.wrap ((crc_More_io_r0_0 65535 x1))))]] true)]) (enc := (encI .u8)) (l := (law03_CrcSealed_e0 x1)) (id := 3) (e := 5) (s := 1) (off := 0) (size := 1) (p := true) (agg := false) (i := (remI .i64 (wi (x2)) 1)) (v := (V.d (.int .u8 (gt (law03_CrcSealed_e0 x1) (remI .i64 (wi (x2)) 1))))) (n := 2) (by kernel_rfl) (by kernel_rfl) (tbE h12) (by kernel_rfl)), .m 75 (o_idx_sl (m := [(Blk.flat 65 2 [[(.int .u8 x3), (.int .u8 x4)]] false), (Blk.flat 5 1 [[(.int .u8 (IntKind.u8.wrap (shrI .i64 (crc_More_io_r0_0 65535 x1) 8)))], [(.int .u8 (IntKind.u8.wrap ((crc_More_io_r0_0 65535 x1))))]] false), (Blk.flat 5 1 (List.map (encI .u8) (sub (law03_CrcSealed_e0 x1) 0 (wi ((((law03_CrcSealed_e0 x1).length : Nat) : Int) - 2)))) false), (Blk.flat 5 1 [[(.int .u8 (IntKind.u8.wrap (shrI .i64 (crc_More_io_r0_0 65535 x1) 8)))], [(.int .u8 (IntKind.u8.wrap ((crc_More_io_r0_0 65535 x1))))]] false)]) (id := 3) (n := 2) (s := 1) (k := .i64) (by kernel_rfl) (tbE h12)), .m 100075 (o_store_L (m := [(Blk.flat 65 2 [[(.int .u8 x3), (.int .u8 x4)]] false), (Blk.flat 5 1 [[(.int .u8 (IntKind.u8.wrap (shrI .i64 (crc_More_io_r0_0 65535 x1) 8)))], [(.int .u8 (IntKind.u8.wrap ((crc_More_io_r0_0 65535 x1))))]] false), (Blk.flat 5 1 (List.map (encI .u8) (sub (law03_CrcSealed_e0 x1) 0 (wi ((((law03_CrcSealed_e0 x1).length : Nat) : Int) - 2)))) false), (Blk.flat 5 1 [[(.int .u8 (IntKind.u8.wrap (shrI .i64 (crc_More_io_r0_0 65535 x1) 8)))], [(.int .u8 (IntKind.u8.wrap ((crc_More_io_r0_0 65535 x1))))]] false)]) (enc := (encI .u8)) (l := (law03_CrcSealed_e0 x1)) (id := 3) (e := 5) (s := 1) (size := 1) (off := 0) (i := (remI .i64 (wi (x2)) 1)) (v := (V.d (.int .u8 (law03_CrcSealed_e1 x1 x2 x3)))) (x := (law03_CrcSealed_e1 x1 x2 x3)) (ys := [(.int .u8 (law03_CrcSealed_e1 x1 x2 x3))]) (n := 2) (by kernel_rfl) (by kernel_rfl) (tbE h12) ⟨by kernel_rfl, by kernel_rfl⟩ (by kernel_rfl) (by kernel_rfl)), .m 82 (o_idx_sl (m := [(Blk.flat 65 2 [[(.int .u8 x3), (.int .u8 x4)]] true), (Blk.flat 5 1 [[(.int .u8 (IntKind.u8.wrap (shrI .i64 (crc_More_io_r0_0 65535 x1) 8)))], [(.int .u8 (IntKind.u8.wrap ((crc_More_io_r0_0 65535 x1))))]] true), (Blk.flat 5 1 (List.map (encI .u8) (sub (law03_CrcSealed_e0 x1) 0 (wi ((((law03_CrcSealed_e0 x1).length : Nat) : Int) - 2)))) true), (Blk.flat 5 1 (List.map (encI .u8) (law03_CrcSealed_e2 x1 x2 x3)) true)]) (id := 3) (n := 2) (s := 1) (k := .i64) (by kernel_rfl) (tbE h13)), .m 83 (o_load_L (m := [(Blk.flat 65 2 [[(.int .u8 x3), (.int .u8 x4)]] true), (Blk.flat 5 1 [[(.int .u8 (IntKind.u8.wrap (shrI .i64 (crc_More_io_r0_0 65535 x1) 8)))], [(.int .u8 (IntKind.u8.wrap ((crc_More_io_r0_0 65535 x1))))]] true), (Blk.flat 5 1 (List.map (encI .u8) (sub (law03_CrcSealed_e0 x1) 0 (wi ((((law03_CrcSealed_e0 x1).length : Nat) : Int) - 2)))) true), (Blk.flat 5 1 (List.map (encI .u8) (law03_CrcSealed_e2 x1 x2 x3)) true)]) (enc := (encI .u8)) (l := (law03_CrcSealed_e2 x1 x2 x3)) (id := 3) (e := 5) (s := 1) (off := 0) (size := 1) (p := true) (agg := false) (i := (wi ((remI .i64 (wi (x2)) 1) + 1))) (v := (V.d (.int .u8 (law03_CrcSealed_e3 x1 x2 x3)))) (n := 2) (st_len (by kernel_rfl)) (by kernel_rfl) (tbE h13) (by kernel_rfl)), .m 87 (o_idx_sl (m := [(Blk.flat 65 2 [[(.int .u8 x3), (.int .u8 x4)]] false), (Blk.flat 5 1 [[(.int .u8 (IntKind.u8.wrap (shrI .i64 (crc_More_io_r0_0 65535 x1) 8)))], [(.int .u8 (IntKind.u8.wrap ((crc_More_io_r0_0 65535 x1))))]] false), (Blk.flat 5 1 (List.map (encI .u8) (sub (law03_CrcSealed_e0 x1) 0 (wi ((((law03_CrcSealed_e0 x1).length : Nat) : Int) - 2)))) false), (Blk.flat 5 1 (List.map (encI .u8) (law03_CrcSealed_e2 x1 x2 x3)) false)]) (id := 3) (n := 2) (s := 1) (k := .i64) (by kernel_rfl) (tbE h13)), .m 100087 (o_store_L (m := [(Blk.flat 65 2 [[(.int .u8 x3), (.int .u8 x4)]] false), (Blk.flat 5 1 [[(.int .u8 (IntKind.u8.wrap (shrI .i64 (crc_More_io_r0_0 65535 x1) 8)))], [(.int .u8 (IntKind.u8.wrap ((crc_More_io_r0_0 65535 x1))))]] false), (Blk.flat 5 1 (List.map (encI .u8) (sub (law03_CrcSealed_e0 x1) 0 (wi ((((law03_CrcSealed_e0 x1).length : Nat) : Int) - 2)))) false), (Blk.flat 5 1 (List.map (encI .u8) (law03_CrcSealed_e2 x1 x2 x3)) false)]) (enc := (encI .u8)) (l := (law03_CrcSealed_e2 x1 x2 x3)) (id := 3) (e := 5) (s := 1) (size := 1) (off := 0) (i := (wi ((remI .i64 (wi (x2)) 1) + 1))) (v := (V.d (.int .u8 (IntKind.u8.wrap ((law03_CrcSealed_e3 x1 x2 x3) + x4))))) (x := (IntKind.u8.wrap ((law03_CrcSealed_e3 x1 x2 x3) + x4))) (ys := [(.int .u8 (IntKind.u8.wrap ((law03_CrcSealed_e3 x1 x2 x3) + x4)))]) (n := 2) (st_len (by kernel_rfl)) (by kernel_rfl) (tbE h13) ⟨by kernel_rfl, by kernel_rfl⟩ (by kernel_rfl) (by kernel_rfl)), .y (mm := [(Blk.flat 65 2 [[(.int .u8 x3), (.int .u8 x4)]] false), (Blk.flat 5 1 [[(.int .u8 (IntKind.u8.wrap (shrI .i64 (crc_More_io_r0_0 65535 x1) 8)))], [(.int .u8 (IntKind.u8.wrap ((crc_More_io_r0_0 65535 x1))))]] false), (Blk.flat 5 1 (List.map (encI .u8) (sub (law03_CrcSealed_e0 x1) 0 (wi ((((law03_CrcSealed_e0 x1).length : Nat) : Int) - 2)))) false), (Blk.flat 5 1 (List.map (encI .u8) (law03_CrcSealed_e4 x1 x2 x3 x4)) false)]) (args := [(V.sl 3 2 0 2)]) (args1 := [(V.d (.rs true 1 (List.map (encI .u8) (law03_CrcSealed_e4 x1 x2 x3 x4)) false))]) (byvals_cons (byval_sl (enc := (encI .u8)) (l := (law03_CrcSealed_e4 x1 x2 x3 x4)) (e := 5) (s := 1) (p := false) (n := 2) (st_len (st_len (by kernel_rfl))) (by kernel_rfl)) (by kernel_rfl)), .c (crc_Open_o_t0 false (law03_CrcSealed_e4 x1 x2 x3 x4) (tbE h14)), .c (law03_alive_t0), .k true] (by kernel_rfl)
                      · intro g0
                        exact w9 [.o 16 (fun _ => o_len_os (enc := (encI .u8)) (l := x1) (fl := true) (n := x0) (s := 1)), .b (tbE h1), .c (crc_Seal_o_t0 x0 x1 (tbE h2)), .c (crc_Open_o_t1 false (law03_CrcSealed_e0 x1) (tbE h3) (tbE h4)), .y (mm := [(Blk.flat 65 2 [[(.int .u8 x3), (.int .u8 x4)]] false), (Blk.flat 5 1 [[(.int .u8 (IntKind.u8.wrap (shrI .i64 (crc_More_io_r0_0 65535 x1) 8)))], [(.int .u8 (IntKind.u8.wrap ((crc_More_io_r0_0 65535 x1))))]] false), (Blk.flat 5 1 (List.map (encI .u8) (sub (law03_CrcSealed_e0 x1) 0 (wi ((((law03_CrcSealed_e0 x1).length : Nat) : Int) - 2)))) false)]) (args := [(V.sl 2 ((sub (law03_CrcSealed_e0 x1) 0 (wi ((((law03_CrcSealed_e0 x1).length : Nat) : Int) - 2))).length) 0 ((sub (law03_CrcSealed_e0 x1) 0 (wi ((((law03_CrcSealed_e0 x1).length : Nat) : Int) - 2))).length)), (V.d (slD (encI .u8) true 1 x0 x1))]) (args1 := [(V.d (.rs true 1 (List.map (encI .u8) (sub (law03_CrcSealed_e0 x1) 0 (wi ((((law03_CrcSealed_e0 x1).length : Nat) : Int) - 2)))) false)), (V.d (slD (encI .u8) true 1 x0 x1))]) (byvals_cons (byval_sl (enc := (encI .u8)) (l := (sub (law03_CrcSealed_e0 x1) 0 (wi ((((law03_CrcSealed_e0 x1).length : Nat) : Int) - 2)))) (e := 5) (s := 1) (p := false) (n := ((sub (law03_CrcSealed_e0 x1) 0 (wi ((((law03_CrcSealed_e0 x1).length : Nat) : Int) - 2))).length)) (Nat.beq_refl _) (by kernel_rfl)) (by kernel_rfl)), .c (ref03_Same_oo_t0 false (law03_CrcSealed_e5 x1) x0 x1 (tbE h5)), .k false, .b (notT (tbE h6)), .o 39 (fun _ => o_len_os (enc := (encI .u8)) (l := x1) (fl := true) (n := x0) (s := 1)), .b (tbE h7), .c (crc_Sum_o_t0 false (law03_CrcSealed_e0 x1) (tbE h8)), .b (tbE h9), .b (tbE h10), .b (tbE h11), .c (law03_alive_t0)] (by kernel_rfl)
                  · intro g0
                    exact w9 [.o 16 (fun _ => o_len_os (enc := (encI .u8)) (l := x1) (fl := true) (n := x0) (s := 1)), .b (tbE h1), .c (crc_Seal_o_t0 x0 x1 (tbE h2)), .c (crc_Open_o_t1 false (law03_CrcSealed_e0 x1) (tbE h3) (tbE h4)), .y (mm := [(Blk.flat 65 2 [[(.int .u8 x3), (.int .u8 x4)]] false), (Blk.flat 5 1 [[(.int .u8 (IntKind.u8.wrap (shrI .i64 (crc_More_io_r0_0 65535 x1) 8)))], [(.int .u8 (IntKind.u8.wrap ((crc_More_io_r0_0 65535 x1))))]] false), (Blk.flat 5 1 (List.map (encI .u8) (sub (law03_CrcSealed_e0 x1) 0 (wi ((((law03_CrcSealed_e0 x1).length : Nat) : Int) - 2)))) false)]) (args := [(V.sl 2 ((sub (law03_CrcSealed_e0 x1) 0 (wi ((((law03_CrcSealed_e0 x1).length : Nat) : Int) - 2))).length) 0 ((sub (law03_CrcSealed_e0 x1) 0 (wi ((((law03_CrcSealed_e0 x1).length : Nat) : Int) - 2))).length)), (V.d (slD (encI .u8) true 1 x0 x1))]) (args1 := [(V.d (.rs true 1 (List.map (encI .u8) (sub (law03_CrcSealed_e0 x1) 0 (wi ((((law03_CrcSealed_e0 x1).length : Nat) : Int) - 2)))) false)), (V.d (slD (encI .u8) true 1 x0 x1))]) (byvals_cons (byval_sl (enc := (encI .u8)) (l := (sub (law03_CrcSealed_e0 x1) 0 (wi ((((law03_CrcSealed_e0 x1).length : Nat) : Int) - 2)))) (e := 5) (s := 1) (p := false) (n := ((sub (law03_CrcSealed_e0 x1) 0 (wi ((((law03_CrcSealed_e0 x1).length : Nat) : Int) - 2))).length)) (Nat.beq_refl _) (by kernel_rfl)) (by kernel_rfl)), .c (ref03_Same_oo_t0 false (law03_CrcSealed_e5 x1) x0 x1 (tbE h5)), .k false, .b (notT (tbE h6)), .o 39 (fun _ => o_len_os (enc := (encI .u8)) (l := x1) (fl := true) (n := x0) (s := 1)), .b (tbE h7), .c (crc_Sum_o_t0 false (law03_CrcSealed_e0 x1) (tbE h8)), .b (tbE h9)] (by kernel_rfl)
              · intro g0
                exact w9 [.o 16 (fun _ => o_len_os (enc := (encI .u8)) (l := x1) (fl := true) (n := x0) (s := 1)), .b (tbE h1), .c (crc_Seal_o_t0 x0 x1 (tbE h2)), .c (crc_Open_o_t1 false (law03_CrcSealed_e0 x1) (tbE h3) (tbE h4)), .y (mm := [(Blk.flat 65 2 [[(.int .u8 x3), (.int .u8 x4)]] false), (Blk.flat 5 1 [[(.int .u8 (IntKind.u8.wrap (shrI .i64 (crc_More_io_r0_0 65535 x1) 8)))], [(.int .u8 (IntKind.u8.wrap ((crc_More_io_r0_0 65535 x1))))]] false), (Blk.flat 5 1 (List.map (encI .u8) (sub (law03_CrcSealed_e0 x1) 0 (wi ((((law03_CrcSealed_e0 x1).length : Nat) : Int) - 2)))) false)]) (args := [(V.sl 2 ((sub (law03_CrcSealed_e0 x1) 0 (wi ((((law03_CrcSealed_e0 x1).length : Nat) : Int) - 2))).length) 0 ((sub (law03_CrcSealed_e0 x1) 0 (wi ((((law03_CrcSealed_e0 x1).length : Nat) : Int) - 2))).length)), (V.d (slD (encI .u8) true 1 x0 x1))]) (args1 := [(V.d (.rs true 1 (List.map (encI .u8) (sub (law03_CrcSealed_e0 x1) 0 (wi ((((law03_CrcSealed_e0 x1).length : Nat) : Int) - 2)))) false)), (V.d (slD (encI .u8) true 1 x0 x1))]) (byvals_cons (byval_sl (enc := (encI .u8)) (l := (sub (law03_CrcSealed_e0 x1) 0 (wi ((((law03_CrcSealed_e0 x1).length : Nat) : Int) - 2)))) (e := 5) (s := 1) (p := false) (n := ((sub (law03_CrcSealed_e0 x1) 0 (wi ((((law03_CrcSealed_e0 x1).length : Nat) : Int) - 2))).length)) (Nat.beq_refl _) (by kernel_rfl)) (by kernel_rfl)), .c (ref03_Same_oo_t0 false (law03_CrcSealed_e5 x1) x0 x1 (tbE h5)), .k false, .b (notT (tbE h6)), .o 39 (fun _ => o_len_os (enc := (encI .u8)) (l := x1) (fl := true) (n := x0) (s := 1)), .b (tbE h7)] (by kernel_rfl)
      · cases h4 : tb (ref03_Same_oo_c0 [] x1)
        · intro g0
          exact absurd g0 ft
        · cases h5 : tb (crc_Open_o_r0_0 false (law03_CrcSealed_e0 x1))
          · intro g0
            exact w9 [.o 16 (fun _ => o_len_os (enc := (encI .u8)) (l := x1) (fl := true) (n := x0) (s := 1)), .b (tbE h1), .c (crc_Seal_o_t0 x0 x1 (tbE h2)), .c (crc_Open_o_t0 false (law03_CrcSealed_e0 x1) (tbE h3)), .c (ref03_Same_oo_t0 true [] x0 x1 (tbE h4)), .b (notF (tbE h5))] (by kernel_rfl)
          · cases h6 : tb (ref03_Same_oo_r0_0 [] x1)
            · intro g0
              exact w9 [.o 16 (fun _ => o_len_os (enc := (encI .u8)) (l := x1) (fl := true) (n := x0) (s := 1)), .b (tbE h1), .c (crc_Seal_o_t0 x0 x1 (tbE h2)), .c (crc_Open_o_t0 false (law03_CrcSealed_e0 x1) (tbE h3)), .c (ref03_Same_oo_t0 true [] x0 x1 (tbE h4)), .b (notT (tbE h5)), .b (notF (tbE h6))] (by kernel_rfl)
            · cases h7 : tb ((2 : Int) != (wi (((x1.length : Nat) : Int) + 2)))
              · cases h8 : tb (crc_Sum_o_c0 (law03_CrcSealed_e0 x1))
                · intro g0
                  exact absurd g0 ft
                · cases h9 : tb (((crc_More_io_r0_0 65535 (law03_CrcSealed_e0 x1)) : Int) != 0)
                  · cases h10 : tb ((x3 : Int) == 0)
                    · cases h11 : tb (inb 2 (remI .i64 (wi (x2)) 1))
                      · intro g0
                        exact absurd g0 ft
                      · cases h12 : tb (inb 2 (wi ((remI .i64 (wi (x2)) 1) + 1)))
                        · intro g0
                          exact absurd g0 ft
                        · cases h13 : tb (crc_Open_o_c0 false (law03_CrcSealed_e4 x1 x2 x3 x4))
                          · cases h14 : tb (crc_Open_o_c1 false (law03_CrcSealed_e4 x1 x2 x3 x4))
                            · intro g0
                              exact absurd g0 ft
                            · intro g0
                              exact w9 [.o 16 (fun _ => o_len_os (enc := (encI .u8)) (l := x1) (fl := true) (n := x0) (s := 1)), .b (tbE h1), .c (crc_Seal_o_t0 x0 x1 (tbE h2)), .c (crc_Open_o_t0 false (law03_CrcSealed_e0 x1) (tbE h3)), .c (ref03_Same_oo_t0 true [] x0 x1 (tbE h4)), .b (notT (tbE h5)), .b (notT (tbE h6)), .o 39 (fun _ => o_len_os (enc := (encI .u8)) (l := x1) (fl := true) (n := x0) (s := 1)), .b (tbE h7), .c (crc_Sum_o_t0 false (law03_CrcSealed_e0 x1) (tbE h8)), .b (tbE h9), .b (tbE h10), .m 70 (o_idx_sl (m := [(Blk.flat 65 2 [[(.int .u8 x3), (.int .u8 x4)]] true), (Blk.flat 5 1 [[(.int .u8 (IntKind.u8.wrap (shrI .i64 (crc_More_io_r0_0 65535 x1) 8)))], [(.int .u8 (IntKind.u8.wrap ((crc_More_io_r0_0 65535 x1))))]] true), (Blk.flat 5 1 [[(.int .u8 (IntKind.u8.wrap (shrI .i64 (crc_More_io_r0_0 65535 x1) 8)))], [(.int .u8 (IntKind.u8.wrap ((crc_More_io_r0_0 65535 x1))))]] true)]) (id := 2) (n := 2) (s := 1) (k := .i64) (by kernel_rfl) (tbE h11)), .m 71 (o_load_L (m := [(Blk.flat 65 2 [[(.int .u8 x3), (.int .u8 x4)]] true), (Blk.flat 5 1 [[(.int .u8 (IntKind.u8.wrap (shrI .i64 (crc_More_io_r0_0 65535 x1) 8)))], [(.int .u8 (IntKind.u8.wrap ((crc_More_io_r0_0 65535 x1))))]] true), (Blk.flat 5 1 [[(.int .u8 (IntKind.u8.wrap (shrI .i64 (crc_More_io_r0_0 65535 x1) 8)))], [(.int .u8 (IntKind.u8.wrap ((crc_More_io_r0_0 65535 x1))))]] true)]) (enc := (encI .u8)) (l := (law03_CrcSealed_e0 x1)) (id := 2) (e := 5) (s := 1) (off := 0) (size := 1) (p := true) (agg := false) (i := (remI .i64 (wi (x2)) 1)) (v := (V.d (.int .u8 (gt (law03_CrcSealed_e0 x1) (remI .i64 (wi (x2)) 1))))) (n := 2) (by kernel_rfl) (by kernel_rfl) (tbE h11) (by kernel_rfl)), .m 75 (o_idx_sl (m := [(Blk.flat 65 2 [[(.int .u8 x3), (.int .u8 x4)]] false), (Blk.flat 5 1 [[(.int .u8 (IntKind.u8.wrap (shrI .i64 (crc_More_io_r0_0 65535 x1) 8)))], [(.int .u8 (IntKind.u8.wrap ((crc_More_io_r0_0 65535 x1))))]] false), (Blk.flat 5 1 [[(.int .u8 (IntKind.u8.wrap (shrI .i64 (crc_More_io_r0_0 65535 x1) 8)))], [(.int .u8 (IntKind.u8.wrap ((crc_More_io_r0_0 65535 x1))))]] false)]) (id := 2) (n := 2) (s := 1) (k := .i64) (by kernel_rfl) (tbE h11)), .m 100075 (o_store_L (m := [(Blk.flat 65 2 [[(.int .u8 x3), (.int .u8 x4)]] false), (Blk.flat 5 1 [[(.int .u8 (IntKind.u8.wrap (shrI .i64 (crc_More_io_r0_0 65535 x1) 8)))], [(.int .u8 (IntKind.u8.wrap ((crc_More_io_r0_0 65535 x1))))]] false), (Blk.flat 5 1 [[(.int .u8 (IntKind.u8.wrap (shrI .i64 (crc_More_io_r0_0 65535 x1) 8)))], [(.int .u8 (IntKind.u8.wrap ((crc_More_io_r0_0 65535 x1))))]] false)]) (enc := (encI .u8)) (l := (law03_CrcSealed_e0 x1)) (id := 2) (e := 5) (s := 1) (size := 1) (off := 0) (i := (remI .i64 (wi (x2)) 1)) (v := (V.d (.int .u8 (law03_CrcSealed_e1 x1 x2 x3)))) (x := (law03_CrcSealed_e1 x1 x2 x3)) (ys := [(.int .u8 (law03_CrcSealed_e1 x1 x2 x3))]) (n := 2) (by kernel_rfl) (by kernel_rfl) (tbE h11) ⟨by kernel_rfl, by kernel_rfl⟩ (by kernel_rfl) (by kernel_rfl)), .m 82 (o_idx_sl (m := [(Blk.flat 65 2 [[(.int .u8 x3), (.int .u8 x4)]] true), (Blk.flat 5 1 [[(.int .u8 (IntKind.u8.wrap (shrI .i64 (crc_More_io_r0_0 65535 x1) 8)))], [(.int .u8 (IntKind.u8.wrap ((crc_More_io_r0_0 65535 x1))))]] true), (Blk.flat 5 1 (List.map (encI .u8) (law03_CrcSealed_e2 x1 x2 x3)) true)]) (id := 2) (n := 2) (s := 1) (k := .i64) (by kernel_rfl) (tbE h12)), .m 83 (o_load_L (m := [(Blk.flat 65 2 [[(.int .u8 x3), (.int .u8 x4)]] true), (Blk.flat 5 1 [[(.int .u8 (IntKind.u8.wrap (shrI .i64 (crc_More_io_r0_0 65535 x1) 8)))], [(.int .u8 (IntKind.u8.wrap ((crc_More_io_r0_0 65535 x1))))]] true), (Blk.flat 5 1 (List.map (encI .u8) (law03_CrcSealed_e2 x1 x2 x3)) true)]) (enc := (encI .u8)) (l := (law03_CrcSealed_e2 x1 x2 x3)) (id := 2) (e := 5) (s := 1) (off := 0) (size := 1) (p := true) (agg := false) (i := (wi ((remI .i64 (wi (x2)) 1) + 1))) (v := (V.d (.int .u8 (law03_CrcSealed_e3 x1 x2 x3)))) (n := 2) (st_len (by kernel_rfl)) (by kernel_rfl) (tbE h12) (by kernel_rfl)), .m 87 (o_idx_sl (m := [(Blk.flat 65 2 [[(.int .u8 x3), (.int .u8 x4)]] false), (Blk.flat 5 1 [[(.int .u8 (IntKind.u8.wrap (shrI .i64 (crc_More_io_r0_0 65535 x1) 8)))], [(.int .u8 (IntKind.u8.wrap ((crc_More_io_r0_0 65535 x1))))]] false), (Blk.flat 5 1 (List.map (encI .u8) (law03_CrcSealed_e2 x1 x2 x3)) false)]) (id := 2) (n := 2) (s := 1) (k := .i64) (by kernel_rfl) (tbE h12)), .m 100087 (o_store_L (m := [(Blk.flat 65 2 [[(.int .u8 x3), (.int .u8 x4)]] false), (Blk.flat 5 1 [[(.int .u8 (IntKind.u8.wrap (shrI .i64 (crc_More_io_r0_0 65535 x1) 8)))], [(.int .u8 (IntKind.u8.wrap ((crc_More_io_r0_0 65535 x1))))]] false), (Blk.flat 5 1 (List.map (encI .u8) (law03_CrcSealed_e2 x1 x2 x3)) false)]) (enc := (encI .u8)) (l := (law03_CrcSealed_e2 x1 x2 x3)) (id := 2) (e := 5) (s := 1) (size := 1) (off := 0) (i := (wi ((remI .i64 (wi (x2)) 1) + 1))) (v := (V.d (.int .u8 (IntKind.u8.wrap ((law03_CrcSealed_e3 x1 x2 x3) + x4))))) (x := (IntKind.u8.wrap ((law03_CrcSealed_e3 x1 x2 x3) + x4))) (ys := [(.int .u8 (IntKind.u8.wrap ((law03_CrcSealed_e3 x1 x2 x3) + x4)))]) (n := 2) (st_len (by kernel_rfl)) (by kernel_rfl) (tbE h12) ⟨by kernel_rfl, by kernel_rfl⟩ (by kernel_rfl) (by kernel_rfl)), .y (mm := [(Blk.flat 65 2 [[(.int .u8 x3), (.int .u8 x4)]] false), (Blk.flat 5 1 [[(.int .u8 (IntKind.u8.wrap (shrI .i64 (crc_More_io_r0_0 65535 x1) 8)))], [(.int .u8 (IntKind.u8.wrap ((crc_More_io_r0_0 65535 x1))))]] false), (Blk.flat 5 1 (List.map (encI .u8) (law03_CrcSealed_e4 x1 x2 x3 x4)) false)]) (args := [(V.sl 2 2 0 2)]) (args1 := [(V.d (.rs true 1 (List.map (encI .u8) (law03_CrcSealed_e4 x1 x2 x3 x4)) false))]) (byvals_cons (byval_sl (enc := (encI .u8)) (l := (law03_CrcSealed_e4 x1 x2 x3 x4)) (e := 5) (s := 1) (p := false) (n := 2) (st_len (st_len (by kernel_rfl))) (by kernel_rfl)) (by kernel_rfl)), .c (crc_Open_o_t1 false (law03_CrcSealed_e4 x1 x2 x3 x4) (tbE h13) (tbE h14)), .c (law03_alive_t0), .k true] (by kernel_rfl)
                          · intro g0
                            exact w9 [.o 16 (fun _ => o_len_os (enc := (encI .u8)) (l := x1) (fl := true) (n := x0) (s := 1)), .b (tbE h1), .c (crc_Seal_o_t0 x0 x1 (tbE h2)), .c (crc_Open_o_t0 false (law03_CrcSealed_e0 x1) (tbE h3)), .c (ref03_Same_oo_t0 true [] x0 x1 (tbE h4)), .b (notT (tbE h5)), .b (notT (tbE h6)), .o 39 (fun _ => o_len_os (enc := (encI .u8)) (l := x1) (fl := true) (n := x0) (s := 1)), .b (tbE h7), .c (crc_Sum_o_t0 false (law03_CrcSealed_e0 x1) (tbE h8)), .b (tbE h9), .b (tbE h10), .m 70 (o_idx_sl (m := [(Blk.flat 65 2 [[(.int .u8 x3), (.int .u8 x4)]] true), (Blk.flat 5 1 [[(.int .u8 (IntKind.u8.wrap (shrI .i64 (crc_More_io_r0_0 65535 x1) 8)))], [(.int .u8 (IntKind.u8.wrap ((crc_More_io_r0_0 65535 x1))))]] true), (Blk.flat 5 1 [[(.int .u8 (IntKind.u8.wrap (shrI .i64 (crc_More_io_r0_0 65535 x1) 8)))], [(.int .u8 (IntKind.u8.wrap ((crc_More_io_r0_0 65535 x1))))]] true)]) (id := 2) (n := 2) (s := 1) (k := .i64) (by kernel_rfl) (tbE h11)), .m 71 (o_load_L (m := [(Blk.flat 65 2 [[(.int .u8 x3), (.int .u8 x4)]] true), (Blk.flat 5 1 [[(.int .u8 (IntKind.u8.wrap (shrI .i64 (crc_More_io_r0_0 65535 x1) 8)))], [(.int .u8 (IntKind.u8.wrap ((crc_More_io_r0_0 65535 x1))))]] true), (Blk.flat 5 1 [[(.int .u8 (IntKind.u8.wrap (shrI .i64 (crc_More_io_r0_0 65535 x1) 8)))], [(.int .u8 (IntKind.u8.wrap ((crc_More_io_r0_0 65535 x1))))]] true)]) (enc := (encI .u8)) (l := (law03_CrcSealed_e0 x1)) (id := 2) (e := 5) (s := 1) (off := 0) (size := 1) (p := true) (agg := false) (i := (remI .i64 (wi (x2)) 1)) (v := (V.d (.int .u8 (gt (law03_CrcSealed_e0 x1) (remI .i64 (wi (x2)) 1))))) (n := 2) (by kernel_rfl) (by kernel_rfl) (tbE h11) (by kernel_rfl)), .m 75 (o_idx_sl (m := [(Blk.flat 65 2 [[(.int .u8 x3), (.int .u8 x4)]] false), (Blk.flat 5 1 [[(.int .u8 (IntKind.u8.wrap (shrI .i64 (crc_More_io_r0_0 65535 x1) 8)))], [(.int .u8 (IntKind.u8.wrap ((crc_More_io_r0_0 65535 x1))))]] false), (Blk.flat 5 1 [[(.int .u8 (IntKind.u8.wrap (shrI .i64 (crc_More_io_r0_0 65535 x1) 8)))], [(.int .u8 (IntKind.u8.wrap ((crc_More_io_r0_0 65535 x1))))]] false)]) (id := 2) (n := 2) (s := 1) (k := .i64) (by kernel_rfl) (tbE h11)), .m 100075 (o_store_L (m := [(Blk.flat 65 2 [[(.int .u8 x3), (.int .u8 x4)]] false), (Blk.flat 5 1 [[(.int .u8 (IntKind.u8.wrap (shrI .i64 (crc_More_io_r0_0 65535 x1) 8)))], [(.int .u8 (IntKind.u8.wrap ((crc_More_io_r0_0 65535 x1))))]] false), (Blk.flat 5 1 [[(.int .u8 (IntKind.u8.wrap (shrI .i64 (crc_More_io_r0_0 65535 x1) 8)))], [(.int .u8 (IntKind.u8.wrap ((crc_More_io_r0_0 65535 x1))))]] false)]) (enc := (encI .u8)) (l := (law03_CrcSealed_e0 x1)) (id := 2) (e := 5) (s := 1) (size := 1) (off := 0) (i := (remI .i64 (wi (x2)) 1)) (v := (V.d (.int .u8 (law03_CrcSealed_e1 x1 x2 x3)))) (x := (law03_CrcSealed_e1 x1 x2 x3)) (ys := [(.int .u8 (law03_CrcSealed_e1 x1 x2 x3))]) (n := 2) (by kernel_rfl) (by kernel_rfl) (tbE h11) ⟨by kernel_rfl, by kernel_rfl⟩ (by kernel_rfl) (by kernel_rfl)), .m 82 (o_idx_sl (m := [(Blk.flat 65 2 [[(.int .u8 x3), (.int .u8 x4)]] true), (Blk.flat 5 1 [[(.int .u8 (IntKind.u8.wrap (shrI .i64 (crc_More_io_r0_0 65535 x1) 8)))], [(.int .u8 (IntKind.u8.wrap ((crc_More_io_r0_0 65535 x1))))]] true), (Blk.flat 5 1 (List.map (encI .u8) (law03_CrcSealed_e2 x1 x2 x3)) true)]) (id := 2) (n := 2) (s := 1) (k := .i64) (by kernel_rfl) (tbE h12)), .m 83 (o_load_L (m := [(Blk.flat 65 2 [[(.int .u8 x3), (.int .u8 x4)]] true), (Blk.flat 5 1 [[(.int .u8 (IntKind.u8.wrap (shrI .i64 (crc_More_io_r0_0 65535 x1) 8)))], [(.int .u8 (IntKind.u8.wrap ((crc_More_io_r0_0 65535 x1))))]] true), (Blk.flat 5 1 (List.map (encI .u8) (law03_CrcSealed_e2 x1 x2 x3)) true)]) (enc := (encI .u8)) (l := (law03_CrcSealed_e2 x1 x2 x3)) (id := 2) (e := 5) (s := 1) (off := 0) (size := 1) (p := true) (agg := false) (i := (wi ((remI .i64 (wi (x2)) 1) + 1))) (v := (V.d (.int .u8 (law03_CrcSealed_e3 x1 x2 x3)))) (n := 2) (st_len (by kernel_rfl)) (by kernel_rfl) (tbE h12) (by kernel_rfl)), .m 87 (o_idx_sl (m := [(Blk.flat 65 2 [[(.int .u8 x3), (.int .u8 x4)]] false), (Blk.flat 5 1 [[(.int .u8 (IntKind.u8.wrap (shrI .i64 (crc_More_io_r0_0 65535 x1) 8)))], [(.int .u8 (IntKind.u8.wrap ((crc_More_io_r0_0 65535 x1))))]] false), (Blk.flat 5 1 (List.map (encI .u8) (law03_CrcSealed_e2 x1 x2 x3)) false)]) (id := 2) (n := 2) (s := 1) (k := .i64) (by kernel_rfl) (tbE h12)), .m 100087 (o_store_L (m := [(Blk.flat 65 2 [[(.int .u8 x3), (.int .u8 x4)]] false), (Blk.flat 5 1 [[(.int .u8 (IntKind.u8.wrap (shrI .i64 (crc_More_io_r0_0 65535 x1) 8)))], [(.int .u8 (IntKind.u8.wrap ((crc_More_io_r0_0 65535 x1))))]] false), (Blk.flat 5 1 (List.map (encI .u8) (law03_CrcSealed_e2 x1 x2 x3)) false)]) (enc := (encI .u8)) (l := (law03_CrcSealed_e2 x1 x2 x3)) (id := 2) (e := 5) (s := 1) (size := 1) (off := 0) (i := (wi ((remI .i64 (wi (x2)) 1) + 1))) (v := (V.d (.int .u8 (IntKind.u8.wrap ((law03_CrcSealed_e3 x1 x2 x3) + x4))))) (x := (IntKind.u8.wrap ((law03_CrcSealed_e3 x1 x2 x3) + x4))) (ys := [(.int .u8 (IntKind.u8.wrap ((law03_CrcSealed_e3 x1 x2 x3) + x4)))]) (n := 2) (st_len (by kernel_rfl)) (by kernel_rfl) (tbE h12) ⟨by kernel_rfl, by kernel_rfl⟩ (by kernel_rfl) (by kernel_rfl)), .y (mm := [(Blk.flat 65 2 [[(.int .u8 x3), (.int .u8 x4)]] false), (Blk.flat 5 1 [[(.int .u8 (IntKind.u8.wrap (shrI .i64 (crc_More_io_r0_0 65535 x1) 8)))], [(.int .u8 (IntKind.u8.wrap ((crc_More_io_r0_0 65535 x1))))]] false), (Blk.flat 5 1 (List.map (encI .u8) (law03_CrcSealed_e4 x1 x2 x3 x4)) false)]) (args := [(V.sl 2 2 0 2)]) (args1 := [(V.d (.rs true 1 (List.map (encI .u8) (law03_CrcSealed_e4 x1 x2 x3 x4)) false))]) (byvals_cons (byval_sl (enc := (encI .u8)) (l := (law03_CrcSealed_e4 x1 x2 x3 x4)) (e := 5) (s := 1) (p := false) (n := 2) (st_len (st_len (by kernel_rfl))) (by kernel_rfl)) (by kernel_rfl)), .c (crc_Open_o_t0 false (law03_CrcSealed_e4 x1 x2 x3 x4) (tbE h13)), .c (law03_alive_t0), .k true] (by kernel_rfl)
                    · cases h11 : tb ((x4 : Int) == 0)
                      · cases h12 : tb (inb 2 (remI .i64 (wi (x2)) 1))
                        · intro g0
                          exact absurd g0 ft
                        · cases h13 : tb (inb 2 (wi ((remI .i64 (wi (x2)) 1) + 1)))
                          · intro g0
                            exact absurd g0 ft
                          · cases h14 : tb (crc_Open_o_c0 false (law03_CrcSealed_e4 x1 x2 x3 x4))
                            · cases h15 : tb (crc_Open_o_c1 false (law03_CrcSealed_e4 x1 x2 x3 x4))
                              · intro g0
                                exact absurd g0 ft
                              · intro g0
                                exact w9 [.o 16 (fun _ => o_len_os (enc := (encI .u8)) (l := x1) (fl := true) (n := x0) (s := 1)), .b (tbE h1), .c (crc_Seal_o_t0 x0 x1 (tbE h2)), .c (crc_Open_o_t0 false (law03_CrcSealed_e0 x1) (tbE h3)), .c (ref03_Same_oo_t0 true [] x0 x1 (tbE h4)), .b (notT (tbE h5)), .b (notT (tbE h6)), .o 39 (fun _ => o_len_os (enc := (encI .u8)) (l := x1) (fl := true) (n := x0) (s := 1)), .b (tbE h7), .c (crc_Sum_o_t0 false (law03_CrcSealed_e0 x1) (tbE h8)), .b (tbE h9), .b (tbE h10), .b (tbE h11), .m 70 (o_idx_sl (m := [(Blk.flat 65 2 [[(.int .u8 x3), (.int .u8 x4)]] true), (Blk.flat 5 1 [[(.int .u8 (IntKind.u8.wrap (shrI .i64 (crc_More_io_r0_0 65535 x1) 8)))], [(.int .u8 (IntKind.u8.wrap ((crc_More_io_r0_0 65535 x1))))]] true), (Blk.flat 5 1 [[(.int .u8 (IntKind.u8.wrap (shrI .i64 (crc_More_io_r0_0 65535 x1) 8)))], [(.int .u8 (IntKind.u8.wrap ((crc_More_io_r0_0 65535 x1))))]] true)]) (id := 2) (n := 2) (s := 1) (k := .i64) (by kernel_rfl) (tbE h12)), .m 71 (o_load_L (m := [(Blk.flat 65 2 [[(.int .u8 x3), (.int .u8 x4)]] true), (Blk.flat 5 1 [[(.int .u8 (IntKind.u8.wrap (shrI .i64 (crc_More_io_r0_0 65535 x1) 8)))], [(.int .u8 (IntKind.u8.wrap ((crc_More_io_r0_0 65535 x1))))]] true), (Blk.flat 5 1 [[(.int .u8 (IntKind.u8.wrap (shrI .i64 (crc_More_io_r0_0 65535 x1) 8)))], [(.int .u8 (IntKind.u8.wrap ((crc_More_io_r0_0 65535 x1))))]] true)]) (enc := (encI .u8)) (l := (law03_CrcSealed_e0 x1)) (id := 2) (e := 5) (s := 1) (off := 0) (size := 1) (p := true) (agg := false) (i := (remI .i64 (wi (x2)) 1)) (v := (V.d (.int .u8 (gt (law03_CrcSealed_e0 x1) (remI .i64 (wi (x2)) 1))))) (n := 2) (by kernel_rfl) (by kernel_rfl) (tbE h12) (by kernel_rfl)), .m 75 (o_idx_sl (m := [(Blk.flat 65 2 [[(.int .u8 x3), (.int .u8 x4)]] false), (Blk.flat 5 1 [[(.int .u8 (IntKind.u8.wrap (shrI .i64 (crc_More_io_r0_0 65535 x1) 8)))], [(.int .u8 (IntKind.u8.wrap ((crc_More_io_r0_0 65535 x1))))]] false), (Blk.flat 5 1 [[(.int .u8 (IntKind.u8.wrap (shrI .i64 (crc_More_io_r0_0 65535 x1) 8)))], [(.int .u8 (IntKind.u8.wrap ((crc_More_io_r0_0 65535 x1))))]] false)]) (id := 2) (n := 2) (s := 1) (k := .i64) (by kernel_rfl) (tbE h12)), .m 100075 (o_store_L (m := [(Blk.flat 65 2 [[(.int .u8 x3), (.int .u8 x4)]] false), (Blk.flat 5 1 [[(.int .u8 (IntKind.u8.wrap (shrI .i64 (crc_More_io_r0_0 65535 x1) 8)))], [(.int .u8 (IntKind.u8.wrap ((crc_More_io_r0_0 65535 x1))))]] false), (Blk.flat 5 1 [[(.int .u8 (IntKind.u8.wrap (shrI .i64 (crc_More_io_r0_0 65535 x1) 8)))], [(.int .u8 (IntKind.u8.wrap ((crc_More_io_r0_0 65535 x1))))]] false)]) (enc := (encI .u8)) (l := (law03_CrcSealed_e0 x1)) (id := 2) (e := 5) (s := 1) (size := 1) (off := 0) (i := (remI .i64 (wi (x2)) 1)) (v := (V.d (.int .u8 (law03_CrcSealed_e1 x1 x2 x3)))) (x := (law03_CrcSealed_e1 x1 x2 x3)) (ys := [(.int .u8 (law03_CrcSealed_e1 x1 x2 x3))]) (n := 2) (by kernel_rfl) (by kernel_rfl) (tbE h12) ⟨by kernel_rfl, by kernel_rfl⟩ (by kernel_rfl) (by kernel_rfl)), .m 82 (o_idx_sl (m := [(Blk.flat 65 2 [[(.int .u8 x3), (.int .u8 x4)]] true), (Blk.flat 5 1 [[(.int .u8 (IntKind.u8.wrap (shrI .i64 (crc_More_io_r0_0 65535 x1) 8)))], [(.int .u8 (IntKind.u8.wrap ((crc_More_io_r0_0 65535 x1))))]] true), (Blk.flat 5 1 (List.map (encI .u8) (law03_CrcSealed_e2 x1 x2 x3)) true)]) (id := 2) (n := 2) (s := 1) (k := .i64) (by kernel_rfl) (tbE h13)), .m 83 (o_load_L (m := [(Blk.flat 65 2 [[(.int .u8 x3), (.int .u8 x4)]] true), (Blk.flat 5 1 [[(.int .u8 (IntKind.u8.wrap (shrI .i64 (crc_More_io_r0_0 65535 x1) 8)))], [(.int .u8 (IntKind.u8.wrap ((crc_More_io_r0_0 65535 x1))))]] true), (Blk.flat 5 1 (List.map (encI .u8) (law03_CrcSealed_e2 x1 x2 x3)) true)]) (enc := (encI .u8)) (l := (law03_CrcSealed_e2 x1 x2 x3)) (id := 2) (e := 5) (s := 1) (off := 0) (size := 1) (p := true) (agg := false) (i := (wi ((remI .i64 (wi (x2)) 1) + 1))) (v := (V.d (.int .u8 (law03_CrcSealed_e3 x1 x2 x3)))) (n := 2) (st_len (by kernel_rfl)) (by kernel_rfl) (tbE h13) (by kernel_rfl)), .m 87 (o_idx_sl (m := [(Blk.flat 65 2 [[(.int .u8 x3), (.int .u8 x4)]] false), (Blk.flat 5 1 [[(.int .u8 (IntKind.u8.wrap (shrI .i64 (crc_More_io_r0_0 65535 x1) 8)))], [(.int .u8 (IntKind.u8.wrap ((crc_More_io_r0_0 65535 x1))))]] false), (Blk.flat 5 1 (List.map (encI .u8) (law03_CrcSealed_e2 x1 x2 x3)) false)]) (id := 2) (n := 2) (s := 1) (k := .i64) (by kernel_rfl) (tbE h13)), .m 100087 (o_store_L (m := [(Blk.flat 65 2 [[(.int .u8 x3), (.int .u8 x4)]] false), (Blk.flat 5 1 [[(.int .u8 (IntKind.u8.wrap (shrI .i64 (crc_More_io_r0_0 65535 x1) 8)))], [(.int .u8 (IntKind.u8.wrap ((crc_More_io_r0_0 65535 x1))))]] false), (Blk.flat 5 1 (List.map (encI .u8) (law03_CrcSealed_e2 x1 x2 x3)) false)]) (enc := (encI .u8)) (l := (law03_CrcSealed_e2 x1 x2 x3)) (id := 2) (e := 5) (s := 1) (size := 1) (off := 0) (i := (wi ((remI .i64 (wi (x2)) 1) + 1))) (v := (V.d (.int .u8 (IntKind.u8.wrap ((law03_CrcSealed_e3 x1 x2 x3) + x4))))) (x := (IntKind.u8.wrap ((law03_CrcSealed_e3 x1 x2 x3) + x4))) (ys := [(.int .u8 (IntKind.u8.wrap ((law03_CrcSealed_e3 x1 x2 x3) + x4)))]) (n := 2) (st_len (by kernel_rfl)) (by kernel_rfl) (tbE h13) ⟨by kernel_rfl, by kernel_rfl⟩ (by kernel_rfl) (by kernel_rfl)), .y (mm := [(Blk.flat 65 2 [[(.int .u8 x3), (.int .u8 x4)]] false), (Blk.flat 5 1 [[(.int .u8 (IntKind.u8.wrap (shrI .i64 (crc_More_io_r0_0 65535 x1) 8)))], [(.int .u8 (IntKind.u8.wrap ((crc_More_io_r0_0 65535 x1))))]] false), (Blk.flat 5 1 (List.map (encI .u8) (law03_CrcSealed_e4 x1 x2 x3 x4)) false)]) (args := [(V.sl 2 2 0 2)]) (args1 := [(V.d (.rs true 1 (List.map (encI .u8) (law03_CrcSealed_e4 x1 x2 x3 x4)) false))]) (byvals_cons (byval_sl (enc := (encI .u8)) (l := (law03_CrcSealed_e4 x1 x2 x3 x4)) (e := 5) (s := 1) (p := false) (n := 2) (st_len (st_len (by kernel_rfl))) (by kernel_rfl)) (by kernel_rfl)), .c (crc_Open_o_t1 false (law03_CrcSealed_e4 x1 x2 x3 x4) (tbE h14) (tbE h15)), .c (law03_alive_t0), .k true] (by kernel_rfl)
                            · intro g0
                              exact w9 [.o 16 (fun _ => o_len_os (enc := (encI .u8)) (l := x1) (fl := true) (n := x0) (s := 1)), .b (tbE h1), .c (crc_Seal_o_t0 x0 x1 (tbE h2)), .c (crc_Open_o_t0 false (law03_CrcSealed_e0 x1) (tbE h3)), .c (ref03_Same_oo_t0 true [] x0 x1 (tbE h4)), .b (notT (tbE h5)), .b (notT (tbE h6)), .o 39 (fun _ => o_len_os (enc := (encI .u8)) (l := x1) (fl := true) (n := x0) (s := 1)), .b (tbE h7), .c (crc_Sum_o_t0 false (law03_CrcSealed_e0 x1) (tbE h8)), .b (tbE h9), .b (tbE h10), .b (tbE h11), .m 70 (o_idx_sl (m := [(Blk.flat 65 2 [[(.int .u8 x3), (.int .u8 x4)]] true), (Blk.flat 5 1 [[(.int .u8 (IntKind.u8.wrap (shrI .i64 (crc_More_io_r0_0 65535 x1) 8)))], [(.int .u8 (IntKind.u8.wrap ((crc_More_io_r0_0 65535 x1))))]] true), (Blk.flat 5 1 [[(.int .u8 (IntKind.u8.wrap (shrI .i64 (crc_More_io_r0_0 65535 x1) 8)))], [(.int .u8 (IntKind.u8.wrap ((crc_More_io_r0_0 65535 x1))))]] true)]) (id := 2) (n := 2) (s := 1) (k := .i64) (by kernel_rfl) (tbE h12)), .m 71 (o_load_L (m := [(Blk.flat 65 2 [[(.int .u8 x3), (.int .u8 x4)]] true), (Blk.flat 5 1 [[(.int .u8 (IntKind.u8.wrap (shrI .i64 (crc_More_io_r0_0 65535 x1) 8)))], [(.int .u8 (IntKind.u8.wrap ((crc_More_io_r0_0 65535 x1))))]] true), (Blk.flat 5 1 [[(.int .u8 (IntKind.u8.wrap (shrI .i64 (crc_More_io_r0_0 65535 x1) 8)))], [(.int .u8 (IntKind.u8.wrap ((crc_More_io_r0_0 65535 x1))))]] true)]) (enc := (encI .u8)) (l := (law03_CrcSealed_e0 x1)) (id := 2) (e := 5) (s := 1) (off := 0) (size := 1) (p := true) (agg := false) (i := (remI .i64 (wi (x2)) 1)) (v := (V.d (.int .u8 (gt (law03_CrcSealed_e0 x1) (remI .i64 (wi (x2)) 1))))) (n := 2) (by kernel_rfl) (by kernel_rfl) (tbE h12) (by kernel_rfl)), .m 75 (o_idx_sl (m := [(Blk.flat 65 2 [[(.int .u8 x3), (.int .u8 x4)]] false), (Blk.flat 5 1 [[(.int .u8 (IntKind.u8.wrap (shrI .i64 (crc_More_io_r0_0 65535 x1) 8)))], [(.int .u8 (IntKind.u8.wrap ((crc_More_io_r0_0 65535 x1))))]] false), (Blk.flat 5 1 [[(.int .u8 (IntKind.u8.wrap (shrI .i64 (crc_More_io_r0_0 65535 x1) 8)))], [(.int .u8 (IntKind.u8.wrap ((crc_More_io_r0_0 65535 x1))))]] false)]) (id := 2) (n := 2) (s := 1) (k := .i64) (by kernel_rfl) (tbE h12)), .m 100075 (o_store_L (m := [(Blk.flat 65 2 [[(.int .u8 x3), (.int .u8 x4)]] false), (Blk.flat 5 1 [[(.int .u8 (IntKind.u8.wrap (shrI .i64 (crc_More_io_r0_0 65535 x1) 8)))], [(.int .u8 (IntKind.u8.wrap ((crc_More_io_r0_0 65535 x1))))]] false), (Blk.flat 5 1 [[(.int .u8 (IntKind.u8.wrap (shrI .i64 (crc_More_io_r0_0 65535 x1) 8)))], [(.int .u8 (IntKind.u8.wrap ((crc_More_io_r0_0 65535 x1))))]] false)]) (enc := (encI .u8)) (l := (law03_CrcSealed_e0 x1)) (id := 2) (e := 5) (s := 1) (size := 1) (off := 0) (i := (remI .i64 (wi (x2)) 1)) (v := (V.d (.int .u8 (law03_CrcSealed_e1 x1 x2 x3)))) (x := (law03_CrcSealed_e1 x1 x2 x3)) (ys := [(.int .u8 (law03_CrcSealed_e1 x1 x2 x3))]) (n := 2) (by kernel_rfl) (by kernel_rfl) (tbE h12) ⟨by kernel_rfl, by kernel_rfl⟩ (by kernel_rfl) (by kernel_rfl)), .m 82 (o_idx_sl (m := [(Blk.flat 65 2 [[(.int .u8 x3), (.int .u8 x4)]] true), (Blk.flat 5 1 [[(.int .u8 (IntKind.u8.wrap (shrI .i64 (crc_More_io_r0_0 65535 x1) 8)))], [(.int .u8 (IntKind.u8.wrap ((crc_More_io_r0_0 65535 x1))))]] true), (Blk.flat 5 1 (List.map (encI .u8) (law03_CrcSealed_e2 x1 x2 x3)) true)]) (id := 2) (n := 2) (s := 1) (k := .i64) (by kernel_rfl) (tbE h13)), .m 83 (o_load_L (m := [(Blk.flat 65 2 [[(.int .u8 x3), (.int .u8 x4)]] true), (Blk.flat 5 1 [[(.int .u8 (IntKind.u8.wrap (shrI .i64 (crc_More_io_r0_0 65535 x1) 8)))], [(.int .u8 (IntKind.u8.wrap ((crc_More_io_r0_0 65535 x1))))]] true), (Blk.flat 5 1 (List.map (encI .u8) (law03_CrcSealed_e2 x1 x2 x3)) true)]) (enc := (encI .u8)) (l := (law03_CrcSealed_e2 x1 x2 x3)) (id := 2) (e := 5) (s := 1) (off := 0) (size := 1) (p := true) (agg := false) (i := (wi ((remI .i64 (wi (x2)) 1) + 1))) (v := (V.d (.int .u8 (law03_CrcSealed_e3 x1 x2 x3)))) (n := 2) (st_len (by kernel_rfl)) (by kernel_rfl) (tbE h13) (by kernel_rfl)), .m 87 (o_idx_sl (m := [(Blk.flat 65 2 [[(.int .u8 x3), (.int .u8 x4)]] false), (Blk.flat 5 1 [[(.int .u8 (IntKind.u8.wrap (shrI .i64 (crc_More_io_r0_0 65535 x1) 8)))], [(.int .u8 (IntKind.u8.wrap ((crc_More_io_r0_0 65535 x1))))]] false), (Blk.flat 5 1 (List.map (encI .u8) (law03_CrcSealed_e2 x1 x2 x3)) false)]) (id := 2) (n := 2) (s := 1) (k := .i64) (by kernel_rfl) (tbE h13)), .m 100087 (o_store_L (m := [(Blk.flat 65 2 [[(.int .u8 x3), (.int .u8 x4)]] false), (Blk.flat 5 1 [[(.int .u8 (IntKind.u8.wrap (shrI .i64 (crc_More_io_r0_0 65535 x1) 8)))], [(.int .u8 (IntKind.u8.wrap ((crc_More_io_r0_0 65535 x1))))]] false), (Blk.flat 5 1 (List.map (encI .u8) (law03_CrcSealed_e2 x1 x2 x3)) false)]) (enc := (encI .u8)) (l := (law03_CrcSealed_e2 x1 x2 x3)) (id := 2) (e := 5) (s := 1) (size := 1) (off := 0) (i := (wi ((remI .i64 (wi (x2)) 1) + 1))) (v := (V.d (.int .u8 (IntKind.u8.wrap ((law03_CrcSealed_e3 x1 x2 x3) + x4))))) (x := (IntKind.u8.wrap ((law03_CrcSealed_e3 x1 x2 x3) + x4))) (ys := [(.int .u8 (IntKind.u8.wrap ((law03_CrcSealed_e3 x1 x2 x3) + x4)))]) (n := 2) (st_len (by kernel_rfl)) (by kernel_rfl) (tbE h13) ⟨by kernel_rfl, by kernel_rfl⟩ (by kernel_rfl) (by kernel_rfl)), .y (mm := [(Blk.flat 65 2 [[(.int .u8 x3), (.int .u8 x4)]] false), (Blk.flat 5 1 [[(.int .u8 (IntKind.u8.wrap (shrI .i64 (crc_More_io_r0_0 65535 x1) 8)))], [(.int .u8 (IntKind.u8.wrap ((crc_More_io_r0_0 65535 x1))))]] false), (Blk.flat 5 1 (List.map (encI .u8) (law03_CrcSealed_e4 x1 x2 x3 x4)) false)]) (args := [(V.sl 2 2 0 2)]) (args1 := [(V.d (.rs true 1 (List.map (encI .u8) (law03_CrcSealed_e4 x1 x2 x3 x4)) false))]) (byvals_cons (byval_sl (enc := (encI .u8)) (l := (law03_CrcSealed_e4 x1 x2 x3 x4)) (e := 5) (s := 1) (p := false) (n := 2) (st_len (st_len (by kernel_rfl))) (by kernel_rfl)) (by kernel_rfl)), .c (crc_Open_o_t0 false (law03_CrcSealed_e4 x1 x2 x3 x4) (tbE h14)), .c (law03_alive_t0), .k true] (by kernel_rfl)
                      · intro g0
                        exact w9 [.o 16 (fun _ => o_len_os (enc := (encI .u8)) (l := x1) (fl := true) (n := x0) (s := 1)), .b (tbE h1), .c (crc_Seal_o_t0 x0 x1 (tbE h2)), .c (crc_Open_o_t0 false (law03_CrcSealed_e0 x1) (tbE h3)), .c (ref03_Same_oo_t0 true [] x0 x1 (tbE h4)), .b (notT (tbE h5)), .b (notT (tbE h6)), .o 39 (fun _ => o_len_os (enc := (encI .u8)) (l := x1) (fl := true) (n := x0) (s := 1)), .b (tbE h7), .c (crc_Sum_o_t0 false (law03_CrcSealed_e0 x1) (tbE h8)), .b (tbE h9), .b (tbE h10), .b (tbE h11), .c (law03_alive_t0)] (by kernel_rfl)
                  · intro g0
                    exact w9 [.o 16 (fun _ => o_len_os (enc := (encI .u8)) (l := x1) (fl := true) (n := x0) (s := 1)), .b (tbE h1), .c (crc_Seal_o_t0 x0 x1 (tbE h2)), .c (crc_Open_o_t0 false (law03_CrcSealed_e0 x1) (tbE h3)), .c (ref03_Same_oo_t0 true [] x0 x1 (tbE h4)), .b (notT (tbE h5)), .b (notT (tbE h6)), .o 39 (fun _ => o_len_os (enc := (encI .u8)) (l := x1) (fl := true) (n := x0) (s := 1)), .b (tbE h7), .c (crc_Sum_o_t0 false (law03_CrcSealed_e0 x1) (tbE h8)), .b (tbE h9)] (by kernel_rfl)
              · intro g0
                exact w9 [.o 16 (fun _ => o_len_os (enc := (encI .u8)) (l := x1) (fl := true) (n := x0) (s := 1)), .b (tbE h1), .c (crc_Seal_o_t0 x0 x1 (tbE h2)), .c (crc_Open_o_t0 false (law03_CrcSealed_e0 x1) (tbE h3)), .c (ref03_Same_oo_t0 true [] x0 x1 (tbE h4)), .b (notT (tbE h5)), .b (notT (tbE h6)), .o 39 (fun _ => o_len_os (enc := (encI .u8)) (l := x1) (fl := true) (n := x0) (s := 1)), .b (tbE h7)] (by kernel_rfl)
  · intro g0
    exact w9 [.o 16 (fun _ => o_len_os (enc := (encI .u8)) (l := x1) (fl := true) (n := x0) (s := 1)), .b (tbE h1), .c (law03_alive_t0)] (by kernel_rfl)

end Go.Proofs.Ytgalchmjpfmemaa.Den

/- A type's data, opened cell by cell. -/
namespace Go.Proofs.Ytgalchmjpfmemaa.Den
open Go
set_option linter.unusedVariables false
set_option linter.unusedSimpArgs false

inductive CK where
  | b
  | i (k : IntKind)
  | s
  | l (e : TypeId)

def flatK (P : Program) : Nat → TypeId → Option (List CK)
  | 0, _ => none
  | n + 1, t => match P.underlying t with
    | some .bool => some [.b]
    | some (.int k) => some [.i k]
    | some .string => some [.s]
    | some (.slice e) => some [.l e]
    | some (.struct fs) => (fs.toList.mapM fun f => flatK P n f.type).map List.flatten
    | some (.array m e) => (flatK P n e).map fun l => (List.replicate m l).flatten
    | _ => none

def WfI (k : IntKind) (z : Int) : Prop := (Lit.int k z).wf = true

def CellK (P : Program) : CK → D → Prop
  | .b, d => ∃ b, d = .bool b
  | .i k, d => ∃ z, d = .int k z ∧ WfI k z
  | .s, d => ∃ s, d = .str s ∧ s.size ≤ maxLen
  | .l e, d => d = .nils ∨ ∃ rows, d = .rs (isFlat P e) (P.cellsOf e) rows false ∧ rows.length ≤ maxLen ∧ ∃ n, ∀ r, r ∈ rows → Ty P n e r

def CellsK (P : Program) : List CK → List D → Prop
  | [], ds => ds = []
  | k :: ks, ds => ∃ d r, ds = d :: r ∧ CellK P k d ∧ CellsK P ks r

theorem CellsK.append {P : Program} : ∀ {a b : List CK} {x y : List D}, CellsK P a x → CellsK P b y → CellsK P (a ++ b) (x ++ y)
  | [], _, _, _, h, h' => by simp only [CellsK] at h; subst h; simpa using h'
  | k :: a, b, x, y, h, h' => by
    simp only [CellsK] at h
    obtain ⟨d, r, rfl, h1, h2⟩ := h
    simp only [List.cons_append, CellsK]
    exact ⟨d, _, rfl, h1, CellsK.append h2 h'⟩

theorem flatK_fs {P : Program} {n : Nat} (ih : ∀ t ks ds, flatK P n t = some ks → Ty P n t ds → CellsK P ks ds) : ∀ (fs : List Field) (l : List (List CK)) (ds : List D), fs.mapM (fun f => flatK P n f.type) = some l → TyFs (Ty P n) fs ds → CellsK P l.flatten ds
  | [], l, ds, h, ht => by
    simp at h; subst h
    obtain rfl := tyfs_nil ht
    simp [CellsK]
  | f :: fs, l, ds, h, ht => by
    rw [List.mapM_cons] at h
    simp only [Option.bind_eq_bind, Option.bind_eq_some_iff, Option.pure_def, Option.some.injEq] at h
    obtain ⟨a, h1, b, h2, rfl⟩ := h
    obtain ⟨x, y, rfl, g1, g2⟩ := tyfs_cons ht
    simp only [List.flatten_cons]
    exact (ih _ _ _ h1 g1).append (flatK_fs ih fs b y h2 g2)

theorem flatK_ok {P : Program} : ∀ (n : Nat) (t : TypeId) (ks : List CK) (ds : List D), flatK P n t = some ks → Ty P n t ds → CellsK P ks ds
  | 0, _, _, _, h, _ => by simp [flatK] at h
  | n + 1, t, ks, ds, h, ht => by
    simp only [flatK] at h
    cases hu : P.underlying t with
    | none => simp [hu] at h
    | some u =>
      rw [hu] at h
      cases u with
      | bool => cases h; obtain ⟨b, rfl⟩ := ty_bool ht hu; exact ⟨_, [], rfl, ⟨b, rfl⟩, rfl⟩
      | int k => cases h; obtain ⟨z, rfl, hz⟩ := ty_int ht hu; exact ⟨_, [], rfl, ⟨z, rfl, hz⟩, rfl⟩
      | string => cases h; obtain ⟨z, rfl, hz⟩ := ty_str ht hu; exact ⟨_, [], rfl, ⟨z, rfl, hz⟩, rfl⟩
      | slice e =>
        cases h
        rcases ty_slice ht hu with rfl | ⟨rows, rfl, h1, h2⟩
        · exact ⟨_, [], rfl, .inl rfl, rfl⟩
        · exact ⟨_, [], rfl, .inr ⟨rows, rfl, h1, n, h2⟩, rfl⟩
      | struct fs =>
        obtain ⟨l, hl, rfl⟩ := Option.map_eq_some_iff.1 h
        exact flatK_fs (fun t ks ds => flatK_ok n t ks ds) fs.toList l ds hl (ty_struct ht hu)
      | array m e =>
        obtain ⟨l, hl, rfl⟩ := Option.map_eq_some_iff.1 h
        obtain ⟨rows, hr, rfl, hall⟩ := ty_arr ht hu
        have key : ∀ (rows : List (List D)), (∀ r, r ∈ rows → Ty P n e r) → CellsK P (List.replicate rows.length l).flatten rows.flatten := by
          intro rows
          induction rows with
          | nil => intro _; simp [CellsK]
          | cons r rows ih =>
            intro hall
            simp only [List.length_cons, List.replicate_succ, List.flatten_cons]
            exact (flatK_ok n e l r hl (hall r (by simp))).append (ih fun x hx => hall x (by simp [hx]))
        rw [← hr]; exact key rows hall
      | _ => simp at h

/-- The rows of a list, told by an encoding. -/
theorem rows_of {α : Type} {enc : α → List D} {wf : α → Prop} {T : List D → Prop} (h : ∀ r, T r → ∃ x, r = enc x ∧ wf x) : ∀ rows : List (List D), (∀ r, r ∈ rows → T r) → ∃ l : List α, rows = l.map enc ∧ ∀ x, x ∈ l → wf x
  | [], _ => ⟨[], rfl, fun _ h => by simp at h⟩
  | r :: rows, hr => by
    obtain ⟨x, rfl, hx⟩ := h r (hr r (by simp))
    obtain ⟨l, rfl, hl⟩ := rows_of h rows fun y hy => hr y (by simp [hy])
    refine ⟨x :: l, rfl, fun y hy => ?_⟩
    rcases List.mem_cons.1 hy with rfl | hy
    · exact hx
    · exact hl y hy

theorem ints_of {P : Program} {n : Nat} {e : TypeId} {k : IntKind} (hu : P.underlying e = some (.int k)) {rows : List (List D)} (h : ∀ r, r ∈ rows → Ty P n e r) : ∃ l : List Int, rows = l.map (encI k) ∧ ∀ z, z ∈ l → WfI k z :=
  rows_of (T := Ty P n e) (fun r hr => by
    cases n with
    | zero => simp [Ty] at hr
    | succ n => obtain ⟨z, rfl, hz⟩ := ty_int hr hu; exact ⟨z, rfl, hz⟩) rows h

theorem bools_of {P : Program} {n : Nat} {e : TypeId} (hu : P.underlying e = some .bool) {rows : List (List D)} (h : ∀ r, r ∈ rows → Ty P n e r) : ∃ l : List Bool, rows = l.map encB ∧ ∀ z, z ∈ l → True :=
  rows_of (T := Ty P n e) (fun r hr => by
    cases n with
    | zero => simp [Ty] at hr
    | succ n => obtain ⟨z, rfl⟩ := ty_bool hr hu; exact ⟨z, rfl, trivial⟩) rows h

theorem tyFs_mono {T T' : TypeId → List D → Prop} (h : ∀ t ds, T t ds → T' t ds) : ∀ (fs : List Field) (ds : List D), TyFs T fs ds → TyFs T' fs ds
  | [], ds, ht => ht
  | f :: fs, ds, ht => by
    obtain ⟨x, y, rfl, g1, g2⟩ := tyfs_cons ht
    simp only [TyFs]
    exact ⟨x, y, rfl, h _ _ g1, tyFs_mono h fs y g2⟩

theorem ty_mono {P : Program} : ∀ (n : Nat) (t : TypeId) (ds : List D), Ty P n t ds → Ty P (n + 1) t ds
  | 0, _, _, h => by simp [Ty] at h
  | n + 1, t, ds, h => by
    rw [Ty] at h ⊢
    cases hu : P.underlying t with
    | none => simp [hu] at h
    | some u =>
      rw [hu] at h
      cases u with
      | slice e =>
        rcases h with rfl | ⟨rows, rfl, h1, h2⟩
        · exact .inl rfl
        · exact .inr ⟨rows, rfl, h1, fun r hr => ty_mono n _ _ (h2 r hr)⟩
      | struct fs => exact tyFs_mono (fun t ds => ty_mono n t ds) _ _ h
      | array m e =>
        obtain ⟨rows, h1, rfl, h2⟩ := h
        exact ⟨rows, h1, rfl, fun r hr => ty_mono n _ _ (h2 r hr)⟩
      | _ => exact h

theorem mapM_mono {α β : Type} {f g : α → Option β} (h : ∀ a b, f a = some b → g a = some b) : ∀ (l : List α) (r : List β), l.mapM f = some r → l.mapM g = some r
  | [], r, hr => by simpa using hr
  | a :: l, r, hr => by
    rw [List.mapM_cons] at hr ⊢
    simp only [Option.bind_eq_bind, Option.bind_eq_some_iff, Option.pure_def, Option.some.injEq] at hr ⊢
    obtain ⟨x, h1, y, h2, rfl⟩ := hr
    exact ⟨x, h a x h1, y, mapM_mono h l y h2, rfl⟩

theorem flatK_mono {P : Program} : ∀ (n : Nat) (t : TypeId) (ks : List CK), flatK P n t = some ks → flatK P (n + 1) t = some ks
  | 0, _, _, h => by simp [flatK] at h
  | n + 1, t, ks, h => by
    rw [flatK] at h ⊢
    cases hu : P.underlying t with
    | none => simp [hu] at h
    | some u =>
      rw [hu] at h
      cases u with
      | struct fs =>
        obtain ⟨l, hl, rfl⟩ := Option.map_eq_some_iff.1 h
        simp only [mapM_mono (fun f b hb => flatK_mono n _ _ hb) _ _ hl, Option.map_some]
      | array m e =>
        obtain ⟨l, hl, rfl⟩ := Option.map_eq_some_iff.1 h
        simp only [flatK_mono n _ _ hl, Option.map_some]
      | _ => exact h

/-- The cells of an element's type, at any depth. -/
theorem flatK_any {P : Program} {k : Nat} {t : TypeId} {ks : List CK} {ds : List D} (h : flatK P k t = some ks) {n : Nat} (ht : Ty P n t ds) : CellsK P ks ds := by
  have h1 : ∀ j, flatK P (k + j) t = some ks := fun j => by
    induction j with
    | zero => exact h
    | succ j ih => exact flatK_mono _ _ _ ih
  have h2 : ∀ j, Ty P (n + j) t ds := fun j => by
    induction j with
    | zero => exact ht
    | succ j ih => exact ty_mono _ _ _ ih
  refine flatK_ok (k + n) t ks ds (h1 n) ?_
  rw [Nat.add_comm]; exact h2 k

theorem wfI_i64 {z : Int} (h : WfI .i64 z) : -9223372036854775808 ≤ z ∧ z ≤ 9223372036854775807 := by
  simp [WfI, Lit.wf, IntKind.min, IntKind.max, IntKind.signed, IntKind.bits] at h
  omega
end Go.Proofs.Ytgalchmjpfmemaa.Den

/- Plain laws on the words of the printed texts. -/
namespace Go.Proofs.Ytgalchmjpfmemaa.Den
open Go
set_option linter.unusedVariables false
set_option linter.unusedSimpArgs false

@[simp] theorem tb_eq (b : Bool) : tb b = b := rfl

theorem wrap64 {x : Int} (h1 : -9223372036854775808 ≤ x) (h2 : x ≤ 9223372036854775807) : IntKind.i64.wrap x = x := by
  unfold IntKind.wrap
  simp [IntKind.bits, IntKind.signed]
  omega

theorem wi_eq {x : Int} (h1 : -9223372036854775808 ≤ x) (h2 : x ≤ 9223372036854775807) : wi x = x := wrap64 h1 h2

theorem wfI_i32 {z : Int} (h : WfI .i32 z) : -2147483648 ≤ z ∧ z ≤ 2147483647 := by
  simp [WfI, Lit.wf, IntKind.min, IntKind.max, IntKind.signed, IntKind.bits] at h
  omega
theorem wfI_i16 {z : Int} (h : WfI .i16 z) : -32768 ≤ z ∧ z ≤ 32767 := by
  simp [WfI, Lit.wf, IntKind.min, IntKind.max, IntKind.signed, IntKind.bits] at h
  omega
theorem wfI_u8 {z : Int} (h : WfI .u8 z) : 0 ≤ z ∧ z ≤ 255 := by
  simp [WfI, Lit.wf, IntKind.min, IntKind.max, IntKind.signed, IntKind.bits] at h
  omega
theorem wfI_u16 {z : Int} (h : WfI .u16 z) : 0 ≤ z ∧ z ≤ 65535 := by
  simp [WfI, Lit.wf, IntKind.min, IntKind.max, IntKind.signed, IntKind.bits] at h
  omega
theorem wfI_u32 {z : Int} (h : WfI .u32 z) : 0 ≤ z ∧ z ≤ 4294967295 := by
  simp [WfI, Lit.wf, IntKind.min, IntKind.max, IntKind.signed, IntKind.bits] at h
  omega

theorem mxI_eq (a b : Int) : mxI a b = max a b := by unfold mxI; split <;> omega
theorem mnI_eq (a b : Int) : mnI a b = min a b := by unfold mnI; split <;> omega

theorem inb_iff {n : Nat} {i : Int} : inb n i = true ↔ 0 ≤ i ∧ i < n := by simp [inb]
theorem inb_of {n : Nat} {i : Int} (h1 : 0 ≤ i) (h2 : i < n) : inb n i = true := inb_iff.2 ⟨h1, h2⟩

theorem loop_inv {S : Type} {sel : S → Bool} {nx : S → S} (J : S → Prop) (μ : S → Nat) {s0 : S} (h0 : J s0) (hb : μ s0 < 1152921504606846976) (hn : ∀ s, J s → sel s = true → J (nx s) ∧ μ (nx s) < μ s) :
    ∃ s1, itS sel nx bound s0 = some s1 ∧ J s1 ∧ sel s1 = false := itS_inv J μ hn bound s0 h0 hb

/-- A loop told by a function of its states. -/
theorem loop_fun {S : Type} {sel : S → Bool} {nx : S → S} (J : S → Prop) (μ : S → Nat) (g : S → S) {s0 : S} (h0 : J s0) (hb : μ s0 < 1152921504606846976) (hs : ∀ s, J s → sel s = false → g s = s) (hn : ∀ s, J s → sel s = true → J (nx s) ∧ μ (nx s) < μ s ∧ g (nx s) = g s) :
    itS sel nx bound s0 = some (g s0) := itS_eq J μ g hs hn bound s0 h0 hb

theorem gt_mem {α : Type} [Inhabited α] {l : List α} {i : Int} (h1 : 0 ≤ i) (h2 : i < l.length) : gt l i ∈ l := by
  have h : i.toNat < l.length := by omega
  have : gt l i = l[i.toNat] := by simp [gt, List.getD, h]
  rw [this]; exact List.getElem_mem h

theorem gt_nat {α : Type} [Inhabited α] {l : List α} {k : Nat} (h : k < l.length) : gt l (k : Int) = l[k] := by simp [gt, List.getD, h]

theorem gt_getElem {α : Type} [Inhabited α] {l : List α} {i : Int} (h1 : 0 ≤ i) (h2 : i.toNat < l.length) : gt l i = l[i.toNat] := by simp [gt, List.getD, h2]

/-- A loop over a list by an index, that stops where a test fails. -/
theorem all_loop {S α : Type} [Inhabited α] {sel : S → Bool} {nx : S → S} {s0 : S} (l : List α) (ix : S → Int) (p : α → Bool) (J : S → Prop) (hl : l.length < 1152921504606846976) (h0 : ix s0 = 0) (hJ0 : J s0)
    (hnx : ∀ s, J s → 0 ≤ ix s → ix s < l.length → sel s = true → ix (nx s) = ix s + 1 ∧ J (nx s)) (hsel : ∀ s, J s → 0 ≤ ix s → ix s ≤ l.length → sel s = (decide (ix s < l.length) && p (gt l (ix s)))) :
    ∃ s1, itS sel nx bound s0 = some s1 ∧ J s1 ∧ 0 ≤ ix s1 ∧ ((ix s1 = l.length ∧ l.all p = true) ∨ (ix s1 < l.length ∧ p (gt l (ix s1)) = false ∧ l.all p = false)) := by
  obtain ⟨s1, e, ⟨hJ, a1, a2, a3⟩, hs⟩ := loop_inv (sel := sel) (nx := nx) (fun s => J s ∧ 0 ≤ ix s ∧ ix s ≤ l.length ∧ ∀ j : Nat, (j : Int) < ix s → p (gt l j) = true) (fun s => (l.length - ix s).toNat) (s0 := s0)
    ⟨hJ0, by omega, by omega, fun j hj => by omega⟩ (by omega) (fun s ⟨hJ, b1, b2, b3⟩ hs => by
      have h1 := hsel s hJ b1 b2
      rw [hs] at h1
      have h2 := (Bool.and_eq_true _ _).mp h1.symm
      have h3 : ix s < l.length := by simpa using h2.1
      obtain ⟨h4, h5⟩ := hnx s hJ b1 h3 hs
      refine ⟨⟨h5, by omega, by omega, fun j hj => ?_⟩, by omega⟩
      by_cases hjj : (j : Int) < ix s
      · exact b3 j hjj
      · have : (j : Int) = ix s := by omega
        rw [this]; exact h2.2)
  refine ⟨s1, e, hJ, a1, ?_⟩
  rcases Int.lt_or_eq_of_le a2 with h | h
  · have h1 := hsel s1 hJ a1 a2
    rw [hs] at h1
    have hp : p (gt l (ix s1)) = false := by simpa [h] using h1.symm
    refine .inr ⟨h, hp, ?_⟩
    rw [List.all_eq_false]
    exact ⟨_, gt_mem a1 h, by simp [hp]⟩
  · refine .inl ⟨h, ?_⟩
    rw [List.all_eq_true]
    intro x hx
    obtain ⟨j, hj, rfl⟩ := List.getElem_of_mem hx
    have := a3 j (by omega)
    rwa [gt_nat hj] at this

/-- A loop by an index that goes to its end. -/
theorem idx_loop {S : Type} {sel : S → Bool} {nx : S → S} {s0 : S} (n : Int) (ix : S → Int) (J : S → Prop) (hn : n < 1152921504606846976) (h0 : J s0) (h1 : 0 ≤ ix s0) (h2 : ix s0 ≤ n)
    (hr : ∀ s, J s → 0 ≤ ix s → ix s < n → sel s = true ∧ J (nx s) ∧ ix (nx s) = ix s + 1) (he : ∀ s, J s → ix s = n → sel s = false) : ∃ s1, itS sel nx bound s0 = some s1 ∧ J s1 ∧ ix s1 = n := by
  obtain ⟨s1, e, ⟨hJ, a1, a2⟩, hs⟩ := loop_inv (sel := sel) (nx := nx) (fun s => J s ∧ 0 ≤ ix s ∧ ix s ≤ n) (fun s => (n - ix s).toNat) (s0 := s0) ⟨h0, h1, h2⟩ (by omega) (fun s ⟨hJ, b1, b2⟩ hs => by
    by_cases h : ix s = n
    · rw [he s hJ h] at hs; cases hs
    · obtain ⟨_, g1, g2⟩ := hr s hJ b1 (by omega)
      exact ⟨⟨g1, by omega, by omega⟩, by omega⟩)
  refine ⟨s1, e, hJ, ?_⟩
  by_cases h : ix s1 = n
  · exact h
  · rw [(hr s1 hJ a1 (by omega)).1] at hs; cases hs

end Go.Proofs.Ytgalchmjpfmemaa.Den

/- The sum of bytes, told on whole numbers. -/
namespace Go.Proofs.Ytgalchmjpfmemaa.Den
open Go
set_option linter.unusedVariables false
set_option linter.unusedSimpArgs false

theorem xor_mul_pow (a b i : Nat) : (2 ^ i * a) ^^^ (2 ^ i * b) = 2 ^ i * (a ^^^ b) := by
  have h := Nat.shiftLeft_xor_distrib (i := i) (a := a) (b := b)
  simp only [Nat.shiftLeft_eq] at h
  rw [Nat.mul_comm (2 ^ i) a, Nat.mul_comm (2 ^ i) b, Nat.mul_comm (2 ^ i) (a ^^^ b), h]

theorem xor_low {a b i : Nat} (hb : b < 2 ^ i) : (2 ^ i * a) ^^^ b = 2 ^ i * a + b := by
  apply Nat.eq_of_testBit_eq
  intro j
  rw [Nat.testBit_xor, Nat.testBit_two_pow_mul_add a hb, Nat.testBit_two_pow_mul]
  by_cases h : j < i
  · have : ¬ i ≤ j := by omega
    simp [h, this]
  · have h1 : i ≤ j := by omega
    have : b.testBit j = false := Nat.testBit_lt_two_pow (Nat.lt_of_lt_of_le hb (Nat.pow_le_pow_right (by omega) h1))
    simp [h, h1, this]

theorem eq_of_xor {a b : Nat} (h : a ^^^ b = 0) : a = b := by
  have : (a ^^^ b) ^^^ b = a := by rw [Nat.xor_assoc, Nat.xor_self, Nat.xor_zero]
  rw [h, Nat.zero_xor] at this
  exact this.symm

theorem xor16 {a b : Nat} (h1 : a < 65536) (h2 : b < 65536) : a ^^^ b < 65536 := Nat.xor_lt_two_pow (n := 16) h1 h2

/-- The highest bit of sixteen. -/
def topN (n : Nat) : Nat := n / 32768 % 2
def stepN (n : Nat) : Nat := if topN n = 1 then (2 * n % 65536) ^^^ 4129 else 2 * n % 65536

theorem stepN_lt (n : Nat) : stepN n < 65536 := by
  unfold stepN
  split
  · exact xor16 (by omega) (by omega)
  · omega

theorem topN_xor (a b : Nat) : topN (a ^^^ b) = 1 ↔ ¬ (topN a = 1 ↔ topN b = 1) := by
  unfold topN
  rw [show (32768 : Nat) = 2 ^ 15 from rfl, Nat.xor_div_two_pow]
  exact Nat.xor_mod_two_eq_one

theorem dbl_xor (a b : Nat) : 2 * (a ^^^ b) % 65536 = (2 * a % 65536) ^^^ (2 * b % 65536) := by
  have h := xor_mul_pow a b 1
  rw [show (65536 : Nat) = 2 ^ 16 from rfl, ← Nat.xor_mod_two_pow]
  simp only [Nat.pow_one] at h
  rw [h]

theorem stepN_xor (a b : Nat) : stepN (a ^^^ b) = stepN a ^^^ stepN b := by
  have h := topN_xor a b
  unfold stepN
  rw [dbl_xor]
  generalize 2 * a % 65536 = x
  generalize 2 * b % 65536 = y
  by_cases h1 : topN a = 1 <;> by_cases h2 : topN b = 1
  · have : ¬ topN (a ^^^ b) = 1 := by rw [h]; simp [h1, h2]
    simp only [h1, h2, this, if_true, if_false]
    rw [Nat.xor_assoc x, Nat.xor_comm 4129, Nat.xor_assoc y, Nat.xor_self, Nat.xor_zero]
  · have : topN (a ^^^ b) = 1 := by rw [h]; simp [h1, h2]
    simp only [h1, h2, this, if_true, if_false]
    rw [Nat.xor_assoc x, Nat.xor_assoc x, Nat.xor_comm y]
  · have : topN (a ^^^ b) = 1 := by rw [h]; simp [h1, h2]
    simp only [h1, h2, this, if_true, if_false]
    rw [Nat.xor_assoc x]
  · have : ¬ topN (a ^^^ b) = 1 := by rw [h]; simp [h1, h2]
    simp only [h1, h2, this, if_true, if_false]

theorem stepN_zero : stepN 0 = 0 := by decide

theorem stepN_inj {n : Nat} (hn : n < 65536) (h : stepN n = 0) : n = 0 := by
  unfold stepN topN at h
  split at h
  · have := eq_of_xor h; omega
  · omega

theorem stepN_small {n : Nat} (hn : n < 32768) : stepN n = 2 * n := by
  unfold stepN topN
  split <;> omega

def itN : Nat → Nat → Nat
  | 0, c => c
  | k + 1, c => stepN (itN k c)

theorem itN_lt (k : Nat) {c : Nat} (h : c < 65536) : itN k c < 65536 := by
  cases k with
  | zero => exact h
  | succ k => exact stepN_lt _

theorem itN_xor (k a b : Nat) : itN k (a ^^^ b) = itN k a ^^^ itN k b := by
  induction k with
  | zero => rfl
  | succ k ih => simp only [itN, ih, stepN_xor]

theorem itN_zero (k : Nat) : itN k 0 = 0 := by
  induction k with
  | zero => rfl
  | succ k ih => simp only [itN, ih, stepN_zero]

theorem itN_inj (k : Nat) {c : Nat} (hc : c < 65536) (h : itN k c = 0) : c = 0 := by
  induction k with
  | zero => exact h
  | succ k ih => exact ih (stepN_inj (itN_lt k hc) h)

theorem itN_add (a b c : Nat) : itN a (itN b c) = itN (a + b) c := by
  induction a with
  | zero => simp [itN]
  | succ a ih => rw [show a + 1 + b = (a + b) + 1 by omega]; simp only [itN, ih]

theorem itN_small {v : Nat} (hv : v < 256) : itN 8 v = 256 * v := by
  simp only [itN]
  have d : ∀ n m : Nat, n = 2 * m → n ≤ 65535 → stepN m = n := fun n m h1 h2 => by rw [stepN_small (by omega)]; exact h1.symm
  rw [d (2 * v) v rfl (by omega), d (4 * v) (2 * v) (by omega) (by omega), d (8 * v) (4 * v) (by omega) (by omega), d (16 * v) (8 * v) (by omega) (by omega), d (32 * v) (16 * v) (by omega) (by omega), d (64 * v) (32 * v) (by omega) (by omega), d (128 * v) (64 * v) (by omega) (by omega), d (256 * v) (128 * v) (by omega) (by omega)]

def byteN (c b : Nat) : Nat := itN 8 (c ^^^ (256 * b))

theorem byteN_lt {c b : Nat} (hc : c < 65536) (hb : b < 256) : byteN c b < 65536 := itN_lt 8 (xor16 hc (by omega))

theorem byteN_xor (c d a b : Nat) : byteN (c ^^^ d) (a ^^^ b) = byteN c a ^^^ byteN d b := by
  have h := xor_mul_pow a b 8
  unfold byteN
  rw [← itN_xor, show (256 : Nat) = 2 ^ 8 from rfl, ← h]
  congr 1
  rw [Nat.xor_assoc, Nat.xor_assoc, ← Nat.xor_assoc d, Nat.xor_comm d, Nat.xor_assoc]

def crcN (c : Nat) (l : List Nat) : Nat := l.foldl byteN c

theorem crcN_lt {l : List Nat} : ∀ {c : Nat}, c < 65536 → (∀ b ∈ l, b < 256) → crcN c l < 65536 := by
  induction l with
  | nil => intro c h _; exact h
  | cons b l ih => intro c h hl; exact ih (byteN_lt h (hl b (by simp))) (fun x hx => hl x (by simp [hx]))

theorem crcN_app (c : Nat) (l k : List Nat) : crcN c (l ++ k) = crcN (crcN c l) k := by simp [crcN]

theorem two_bytes {c u v : Nat} (hc : c < 65536) (hu : u < 256) (hv : v < 256) : crcN c [u, v] = itN 16 (c ^^^ (256 * u + v)) := by
  simp only [crcN, List.foldl, byteN]
  rw [← itN_small hv, ← itN_xor, itN_add, Nat.xor_assoc]
  congr 2
  exact xor_low (i := 8) hv

theorem two_zero {c u v : Nat} (hc : c < 65536) (hu : u < 256) (hv : v < 256) : crcN c [u, v] = 0 ↔ c = 256 * u + v := by
  rw [two_bytes hc hu hv]
  constructor
  · intro h; exact eq_of_xor (itN_inj 16 (xor16 hc (by omega)) h)
  · rintro rfl; rw [Nat.xor_self, itN_zero]

theorem byteN_inj {c d b : Nat} (hc : c < 65536) (hd : d < 65536) (h : byteN c b = byteN d b) : c = d := by
  have h1 := byteN_xor c d b b
  rw [h, Nat.xor_self, Nat.xor_self] at h1
  exact eq_of_xor (itN_inj 8 (xor16 hc hd) (by simpa [byteN] using h1))

theorem crcN_inj {l : List Nat} : ∀ {c d : Nat}, c < 65536 → d < 65536 → (∀ b ∈ l, b < 256) → crcN c l = crcN d l → c = d := by
  induction l with
  | nil => intro c d _ _ _ h; exact h
  | cons b l ih =>
    intro c d hc hd hl h
    have hb := hl b (by simp)
    exact byteN_inj hc hd (ih (byteN_lt hc hb) (byteN_lt hd hb) (fun x hx => hl x (by simp [hx])) h)

/-- Two bytes next to one another that are changed are seen. -/
theorem crcN_seen {c : Nat} {p q : List Nat} {u v u' v' : Nat} (hc : c < 65536) (hp : ∀ b ∈ p, b < 256) (hq : ∀ b ∈ q, b < 256) (hu : u < 256) (hv : v < 256) (hu' : u' < 256) (hv' : v' < 256)
    (h : crcN c (p ++ u :: v :: q) = crcN c (p ++ u' :: v' :: q)) : u = u' ∧ v = v' := by
  have hx := crcN_lt hc hp
  have e : ∀ a b : Nat, p ++ a :: b :: q = (p ++ [a, b]) ++ q := by simp
  rw [e, e, crcN_app c (p ++ [u, v]), crcN_app c (p ++ [u', v']), crcN_app c p, crcN_app c p] at h
  generalize crcN c p = x at h hx
  have b2 : ∀ {a b : Nat}, a < 256 → b < 256 → ∀ z ∈ [a, b], z < 256 := by
    intro a b ha hb z hz
    simp only [List.mem_cons, List.not_mem_nil, or_false] at hz
    omega
  have h2 := crcN_inj (crcN_lt hx (b2 hu hv)) (crcN_lt hx (b2 hu' hv')) hq h
  rw [two_bytes hx hu hv, two_bytes hx hu' hv'] at h2
  have h3 := itN_xor 16 (x ^^^ (256 * u + v)) (x ^^^ (256 * u' + v'))
  rw [h2, Nat.xor_self] at h3
  have h4 := itN_inj 16 (xor16 (xor16 hx (by omega)) (xor16 hx (by omega))) h3
  have h5 := eq_of_xor h4
  have h6 : (256 * u + v) = (256 * u' + v') := by
    have g : ∀ y, x ^^^ (x ^^^ y) = y := fun y => by rw [← Nat.xor_assoc, Nat.xor_self, Nat.zero_xor]
    rw [← g (256 * u + v), h5, g]
  omega

/-! ### whole numbers -/

theorem bv_nat {a : Nat} (h : a < 9223372036854775808) : BitVec.ofInt 64 (a : Int) = BitVec.ofNat 64 a := by
  apply BitVec.eq_of_toNat_eq
  rw [BitVec.toNat_ofInt, BitVec.toNat_ofNat]
  omega

theorem andI_nat {a b : Nat} (ha : a < 9223372036854775808) (hb : b < 9223372036854775808) : andI .i64 (a : Int) (b : Int) = ((a &&& b : Nat) : Int) := by
  show IntKind.i64.wrap ((BitVec.ofInt 64 (a : Int) &&& BitVec.ofInt 64 (b : Int)).toNat : Int) = _
  rw [bv_nat ha, bv_nat hb, BitVec.toNat_and, BitVec.toNat_ofNat, BitVec.toNat_ofNat, Nat.mod_eq_of_lt (a := a) (by omega), Nat.mod_eq_of_lt (a := b) (by omega)]
  have := @Nat.and_le_left a b
  exact wrap64 (by omega) (by omega)

theorem xorI_nat {a b : Nat} (ha : a < 9223372036854775808) (hb : b < 9223372036854775808) : xorI .i64 (a : Int) (b : Int) = ((a ^^^ b : Nat) : Int) := by
  show IntKind.i64.wrap ((BitVec.ofInt 64 (a : Int) ^^^ BitVec.ofInt 64 (b : Int)).toNat : Int) = _
  rw [bv_nat ha, bv_nat hb, BitVec.toNat_xor, BitVec.toNat_ofNat, BitVec.toNat_ofNat, Nat.mod_eq_of_lt (a := a) (by omega), Nat.mod_eq_of_lt (a := b) (by omega)]
  have : a ^^^ b < 2 ^ 63 := Nat.xor_lt_two_pow (by omega) (by omega)
  exact wrap64 (by omega) (by omega)

theorem and_top (n : Nat) : n &&& 32768 = 32768 * topN n := by
  apply Nat.eq_of_testBit_eq
  intro j
  rw [Nat.testBit_and, show (32768 : Nat) = 2 ^ 15 from rfl, Nat.testBit_two_pow, Nat.testBit_two_pow_mul]
  by_cases h : 15 = j
  · subst h
    simp [topN, Nat.testBit_eq_decide_div_mod_eq]
  · simp only [h, decide_false, Bool.and_false]
    by_cases h2 : 15 ≤ j
    · have h3 : topN n < 2 ^ (j - 15) := by
        have : topN n < 2 ^ 1 := by unfold topN; omega
        exact Nat.lt_of_lt_of_le this (Nat.pow_le_pow_right (by omega) (by omega))
      rw [Nat.testBit_lt_two_pow h3]; simp
    · simp [h2]

theorem and_mask (n : Nat) : n &&& 65535 = n % 65536 := Nat.and_two_pow_sub_one_eq_mod n 16

/-- The bytes of a list. -/
def nats (l : List Int) : List Nat := l.map Int.toNat

theorem nats_lt {l : List Int} (h : ∀ z ∈ l, WfI .u8 z) : ∀ b ∈ nats l, b < 256 := by
  intro b hb
  obtain ⟨z, hz, rfl⟩ := List.mem_map.1 hb
  have := wfI_u8 (h z hz)
  omega

def crcI (c : Nat) (l : List Int) : Nat := crcN c (nats l)

end Go.Proofs.Ytgalchmjpfmemaa.Den

/- The sum of bytes: the program's functions, told plainly. -/
namespace Go.Proofs.Ytgalchmjpfmemaa.Den
open Go
set_option linter.unusedVariables false
set_option linter.unusedSimpArgs false

theorem shl8_nat {n : Nat} (h : n < 4294967296) : shlI .i64 (n : Int) 8 = ((256 * n : Nat) : Int) := by
  show IntKind.i64.wrap ((n : Int) * 2 ^ (min (8 : Int).toNat 64)) = _
  have : (2 : Int) ^ (min (8 : Int).toNat 64) = 256 := by decide
  rw [this, wrap64 (by omega) (by omega)]; omega

theorem shl1_nat {n : Nat} (h : n < 4294967296) : shlI .i64 (n : Int) 1 = ((2 * n : Nat) : Int) := by
  show IntKind.i64.wrap ((n : Int) * 2 ^ (min (1 : Int).toNat 64)) = _
  have : (2 : Int) ^ (min (1 : Int).toNat 64) = 2 := by decide
  rw [this, wrap64 (by omega) (by omega)]; omega

theorem step_eq {n : Nat} (h : n < 65536) : crc_More_c1_p_Fi_r0_0 (n : Int) = (stepN n : Int) := by
  have e1 : andI .i64 (n : Int) 32768 = ((32768 * topN n : Nat) : Int) := by rw [← and_top]; exact andI_nat (b := 32768) (by omega) (by omega)
  have e2 : andI .i64 (shlI .i64 (n : Int) 1) 65535 = ((2 * n % 65536 : Nat) : Int) := by rw [shl1_nat (by omega), ← and_mask]; exact andI_nat (b := 65535) (by omega) (by omega)
  have e3 : xorI .i64 ((2 * n % 65536 : Nat) : Int) 4129 = (((2 * n % 65536) ^^^ 4129 : Nat) : Int) := xorI_nat (b := 4129) (by omega) (by omega)
  have ht : topN n < 2 := by unfold topN; omega
  unfold crc_More_c1_p_Fi_r0_0 stepN
  rw [e1, e2, e3]
  by_cases h1 : topN n = 1
  · simp [h1]
  · have : topN n = 0 := by omega
    simp [this]

theorem crcL0 {c : Nat} (h : c < 65536) : crc_More_io_L0_ok ⟨0, (c : Int)⟩ = true ∧ (crc_More_io_L0_end ⟨0, (c : Int)⟩).c5 = (itN 8 c : Int) := by
  obtain ⟨s1, e, ⟨k, h1, h2⟩, h3⟩ := idx_loop (sel := crc_More_io_L0_sel) (nx := crc_More_io_L0_nx) (s0 := ⟨0, (c : Int)⟩) 8 (fun s => s.c4) (fun s => ∃ k : Nat, s.c4 = k ∧ s.c5 = (itN k c : Int)) (by omega) ⟨0, rfl, rfl⟩ (by simp) (by simp)
    (fun s ⟨k, h1, h2⟩ g1 g2 => by
      have e : (wi (s.c4 + 1)) = s.c4 + 1 := wi_eq (by omega) (by omega)
      refine ⟨by simp [crc_More_io_L0_sel, g2], ⟨k + 1, ?_, ?_⟩, e⟩
      · simp only [crc_More_io_L0_nx, e]; omega
      · simp only [crc_More_io_L0_nx, h2]; exact step_eq (itN_lt k h))
    (fun s _ g => by simp [crc_More_io_L0_sel, g])
  have hk : k = 8 := by omega
  subst hk
  simp [crc_More_io_L0_ok, crc_More_io_L0_end, e, h2]

theorem take_nats {l : List Int} {k : Nat} (h : k < l.length) (c : Nat) : crcI c (l.take (k + 1)) = byteN (crcI c (l.take k)) (l[k]).toNat := by
  unfold crcI nats
  rw [List.take_succ_eq_append_getElem h, List.map_append, crcN_app]
  rfl

def Byt (l : List Int) : Prop := ∀ z ∈ l, WfI .u8 z

theorem Byt.take {l : List Int} (h : Byt l) (k : Nat) : Byt (l.take k) := fun z hz => h z (List.mem_of_mem_take hz)
theorem Byt.drop {l : List Int} (h : Byt l) (k : Nat) : Byt (l.drop k) := fun z hz => h z (List.mem_of_mem_drop hz)
theorem crcI_lt {c : Nat} {l : List Int} (hc : c < 65536) (h : Byt l) : crcI c l < 65536 := crcN_lt hc (nats_lt h)

theorem crcL1 {c : Nat} {l : List Int} (h : c < 65536) (hl : Byt l) (hn : l.length < 1152921504606846976) : ∃ s1, itS (crc_More_io_L1_sel l l.length) (crc_More_io_L1_nx l l.length) bound ⟨0, (c : Int)⟩ = some s1 ∧ s1.c3 = l.length ∧ s1.c4 = (crcI c l : Int) := by
  obtain ⟨s1, e, ⟨k, h1, h2, h4⟩, h3⟩ := idx_loop (sel := crc_More_io_L1_sel l l.length) (nx := crc_More_io_L1_nx l l.length) (s0 := ⟨0, (c : Int)⟩) l.length (fun s => s.c3) (fun s => ∃ k : Nat, s.c3 = k ∧ k ≤ l.length ∧ s.c4 = (crcI c (l.take k) : Int)) (by omega) ⟨0, rfl, by omega, rfl⟩ (by simp) (by simp)
    (fun s ⟨k, h1, h2, h4⟩ g1 g2 => by
      have e : (wi (s.c3 + 1)) = s.c3 + 1 := wi_eq (by omega) (by omega)
      have hk : k < l.length := by omega
      have hg : gt l s.c3 = ((l[k]).toNat : Int) := by
        rw [h1, gt_nat hk]; have := wfI_u8 (hl _ (List.getElem_mem hk)); omega
      have hb : (l[k]).toNat < 256 := by have := wfI_u8 (hl _ (List.getElem_mem hk)); omega
      have hc := crcI_lt h (hl.take k)
      have hx : xorI .i64 s.c4 (shlI .i64 (wi (gt l s.c3)) 8) = ((crcI c (l.take k) ^^^ (256 * (l[k]).toNat) : Nat) : Int) := by
        rw [hg, wi_eq (x := ((l[k]).toNat : Int)) (by omega) (by omega), shl8_nat (by omega), h4]; exact xorI_nat (by omega) (by omega)
      obtain ⟨q1, q2⟩ := crcL0 (xor16 hc (by omega : 256 * (l[k]).toNat < 65536))
      refine ⟨by simp [crc_More_io_L1_sel, g2, inb_of g1 g2, hx, q1], ⟨k + 1, ?_, by omega, ?_⟩, e⟩
      · simp only [crc_More_io_L1_nx, e]; omega
      · simp only [crc_More_io_L1_nx, crc_More_io_L1_h0_e0, hx, q2, take_nats hk]; rfl)
    (fun s _ g => by simp [crc_More_io_L1_sel, g])
  have hk : k = l.length := by omega
  subst hk
  exact ⟨s1, e, h1, by rw [h4, List.take_length]⟩

def moreI (x : Int) (l : List Int) : Int := if 0 ≤ x ∧ x ≤ 65535 then (crcI x.toNat l : Int) else 0

theorem more_eq (x : Int) {l : List Int} (hl : Byt l) (hn : l.length < 1152921504606846976) : crc_More_io_c0 x l = true ∧ crc_More_io_r0_0 x l = moreI x l := by
  by_cases h1 : x < 0
  · simp [crc_More_io_c0, crc_More_io_r0_0, h1, moreI]; omega
  by_cases h2 : 65535 < x
  · simp [crc_More_io_c0, crc_More_io_r0_0, h1, h2, moreI]; omega
  obtain ⟨s1, e, g1, g2⟩ := crcL1 (c := x.toNat) (by omega) hl hn
  rw [show ((x.toNat : Nat) : Int) = x by omega] at e
  have h3 : 0 ≤ x ∧ x ≤ 65535 := by omega
  simp [crc_More_io_c0, crc_More_io_r0_0, crc_More_io_e0, h1, h2, moreI, h3, crc_More_io_L1_ok, crc_More_io_L1_end, e, crc_More_io_L1_c0, g1, g2]

/-! ### the reference -/

theorem cross_eq {a b : Nat} (ha : a < 65536) (hb : b < 65536) : ref03_cross_ii_c0 (a : Int) (b : Int) = true ∧ (ref03_cross_ii_e0 (a : Int) (b : Int)).c0 = ((a ^^^ b : Nat) : Int) := by
  obtain ⟨s1, e, ⟨k, h1, h2, c, p, h4, h5, h6, h7, h8⟩, h3⟩ := idx_loop (sel := ref03_cross_ii_L0_sel) (nx := ref03_cross_ii_L0_nx) (s0 := ⟨0, 1, (a : Int), (b : Int), 0⟩) 16 (fun s => s.c4)
    (fun s => ∃ k : Nat, s.c4 = k ∧ k ≤ 16 ∧ ∃ c p : Nat, s.c0 = c ∧ s.c1 = p ∧ p = 2 ^ k ∧ (s.c2 = ((a / p : Nat) : Int) ∧ s.c3 = ((b / p : Nat) : Int)) ∧ c + p * ((a / p) ^^^ (b / p)) = a ^^^ b) (by omega) ⟨0, rfl, by omega, 0, 1, rfl, rfl, rfl, by simp, by simp⟩ (by simp) (by simp)
    (fun s ⟨k, h1, h2, c, p, h4, h5, h6, ⟨h7, h7'⟩, h8⟩ g1 g2 => by
      have e : (wi (s.c4 + 1)) = s.c4 + 1 := wi_eq (by omega) (by omega)
      have hp0 : 0 < p := by rw [h6]; exact Nat.two_pow_pos k
      have hp : p ≤ 32768 := by
        have : (2 : Nat) ^ k ≤ 2 ^ 15 := Nat.pow_le_pow_right (by omega) (by omega)
        omega
      have hx := xor16 ha hb
      have hc : c ≤ a ^^^ b := by rw [← h8]; omega
      have hpa : a / p ≤ a := Nat.div_le_self a p
      have hpb : b / p ≤ b := Nat.div_le_self b p
      have e1 : wi (2 * s.c1) = ((2 * p : Nat) : Int) := by rw [h5, wi_eq (x := 2 * (p : Int)) (by omega) (by omega)]; omega
      have e2 : wi (s.c0 + s.c1) = ((c + p : Nat) : Int) := by rw [h4, h5, wi_eq (x := (c : Int) + (p : Int)) (by omega) (by omega)]; omega
      have q : ∀ n : Nat, n < 65536 → quoI .i64 (n : Int) 2 = ((n / 2 : Nat) : Int) := fun n hn => by
        unfold quoI
        rw [show ((n : Int).tdiv 2) = ((n / 2 : Nat) : Int) from rfl]; exact wrap64 (by omega) (by omega)
      have r : ∀ n : Nat, remI .i64 (n : Int) 2 = ((n % 2 : Nat) : Int) := fun n => rfl
      have ea : a / (2 * p) = a / p / 2 := by rw [Nat.mul_comm, Nat.div_div_eq_div_mul]
      have eb : b / (2 * p) = b / p / 2 := by rw [Nat.mul_comm, Nat.div_div_eq_div_mul]
      have xm := @Nat.xor_mod_two_eq_one (a / p) (b / p)
      have xd := @Nat.xor_div_two (a / p) (b / p)
      have pk : 2 * p = 2 ^ (k + 1) := by rw [h6, Nat.pow_succ]; omega
      have fin : ∀ z : Nat, z = c + p * (((a / p) ^^^ (b / p)) % 2) → z + 2 * p * ((a / (2 * p)) ^^^ (b / (2 * p))) = a ^^^ b := fun z hz => by
        rw [ea, eb, ← xd, hz, ← h8]
        have : (a / p ^^^ b / p) = 2 * ((a / p ^^^ b / p) / 2) + (a / p ^^^ b / p) % 2 := by omega
        generalize (a / p ^^^ b / p) = y at *
        conv => rhs; rw [this, Nat.mul_add]
        rw [Nat.mul_comm 2 p, Nat.mul_assoc]
        omega
      refine ⟨by simp [ref03_cross_ii_L0_sel, g2], ?_, ?_⟩
      · by_cases hd : (remI .i64 s.c2 2 : Int) = remI .i64 s.c3 2
        · have hm : (a / p ^^^ b / p) % 2 = 0 := by
            rw [h7, h7', r, r] at hd
            have : (a / p) % 2 = (b / p) % 2 := by omega
            rw [this] at xm
            have : ¬ (a / p ^^^ b / p) % 2 = 1 := by rw [xm]; simp
            omega
          simp only [ref03_cross_ii_L0_nx, hd, bne_self_eq_false, tb_eq, cond_false]
          exact ⟨k + 1, by rw [e]; omega, by omega, c, 2 * p, h4, e1, pk, ⟨by rw [h7, q _ (by omega), ea], by rw [h7', q _ (by omega), eb]⟩, fin c (by rw [hm]; omega)⟩
        · have hm : (a / p ^^^ b / p) % 2 = 1 := by
            rw [h7, h7', r, r] at hd
            have : ¬ (a / p) % 2 = (b / p) % 2 := by omega
            rw [xm]; omega
          simp only [ref03_cross_ii_L0_nx, bne_iff_ne.2 hd, tb_eq, cond_true]
          exact ⟨k + 1, by rw [e]; omega, by omega, c + p, 2 * p, e2, e1, pk, ⟨by rw [h7, q _ (by omega), ea], by rw [h7', q _ (by omega), eb]⟩, fin (c + p) (by rw [hm]; omega)⟩
      · by_cases hd : tb ((remI .i64 s.c2 2 : Int) != remI .i64 s.c3 2) = true <;> simp only [ref03_cross_ii_L0_nx, hd, cond_true, cond_false, e])
    (fun s _ g => by simp [ref03_cross_ii_L0_sel, g])
  have hk : k = 16 := by omega
  subst hk
  have ea : a / p = 0 := by rw [h6]; exact Nat.div_eq_of_lt (by omega)
  have eb : b / p = 0 := by rw [h6]; exact Nat.div_eq_of_lt (by omega)
  rw [ea, eb, Nat.xor_self, Nat.mul_zero, Nat.add_zero] at h8
  simp [ref03_cross_ii_c0, ref03_cross_ii_e0, ref03_cross_ii_L0_ok, ref03_cross_ii_L0_end, e, h4, h8]

theorem top_iff {n : Nat} (h : n < 65536) : topN n = 1 ↔ 32768 ≤ n := by unfold topN; omega

theorem refL0 {c : Nat} (h : c < 65536) : ref03_More_io_L0_ok ⟨(c : Int), 0⟩ = true ∧ (ref03_More_io_L0_end ⟨(c : Int), 0⟩).c2 = (itN 8 c : Int) ∧ ref03_More_io_L0_c0 (ref03_More_io_L0_end ⟨(c : Int), 0⟩) = true := by
  obtain ⟨s1, e, ⟨k, h1, h2⟩, h3⟩ := idx_loop (sel := ref03_More_io_L0_sel) (nx := ref03_More_io_L0_nx) (s0 := ⟨(c : Int), 0⟩) 8 (fun s => s.c4) (fun s => ∃ k : Nat, s.c4 = k ∧ s.c2 = (itN k c : Int)) (by omega) ⟨0, rfl, rfl⟩ (by simp) (by simp)
    (fun s ⟨k, h1, h2⟩ g1 g2 => by
      have e : (wi (s.c4 + 1)) = s.c4 + 1 := wi_eq (by omega) (by omega)
      have hi := itN_lt k h
      have hm : remI .i64 (wi (2 * s.c2)) 65536 = ((2 * itN k c % 65536 : Nat) : Int) := by
        rw [h2, wi_eq (x := 2 * (itN k c : Int)) (by omega) (by omega)]
        unfold remI
        rw [show (2 * (itN k c : Int)) = ((2 * itN k c : Nat) : Int) by omega]; rfl
      obtain ⟨q1, q2⟩ := cross_eq (a := 2 * itN k c % 65536) (b := 4129) (by omega) (by omega)
      have q1' : ref03_cross_ii_c0 ((2 * itN k c % 65536 : Nat) : Int) 4129 = true := q1
      have q2' : (ref03_cross_ii_e0 ((2 * itN k c % 65536 : Nat) : Int) 4129).c0 = _ := q2
      by_cases hd : 32768 ≤ s.c2
      · have hs : stepN (itN k c) = (2 * itN k c % 65536) ^^^ 4129 := by unfold stepN; rw [if_pos ((top_iff hi).2 (by omega))]
        refine ⟨by simp only [ref03_More_io_L0_sel, g2, hd, hm, q1', decide_true, tb_eq, cond_true], ⟨k + 1, ?_, ?_⟩, ?_⟩
        · simp only [ref03_More_io_L0_nx, e, hd, decide_true, tb_eq, cond_true]; omega
        · simp only [ref03_More_io_L0_nx, hd, decide_true, tb_eq, cond_true, hm, q2']; rw [← hs]; rfl
        · simp only [ref03_More_io_L0_nx, e, hd, decide_true, tb_eq, cond_true]
      · have hs : stepN (itN k c) = (2 * itN k c % 65536) := by unfold stepN; rw [if_neg (by rw [top_iff hi]; omega)]
        refine ⟨by simp [ref03_More_io_L0_sel, g2, hd], ⟨k + 1, ?_, ?_⟩, ?_⟩
        · simp only [ref03_More_io_L0_nx, e, hd, decide_false, tb_eq, cond_false]; omega
        · simp only [ref03_More_io_L0_nx, hd, decide_false, tb_eq, cond_false, hm]; rw [← hs]; rfl
        · simp only [ref03_More_io_L0_nx, e, hd, decide_false, tb_eq, cond_false])
    (fun s _ g => by simp [ref03_More_io_L0_sel, g])
  have hk : k = 8 := by omega
  subst hk
  simp [ref03_More_io_L0_ok, ref03_More_io_L0_end, e, h2, ref03_More_io_L0_c0, h3]

theorem refL1 {c : Nat} {l : List Int} (h : c < 65536) (hl : Byt l) (hn : l.length < 1152921504606846976) : ∃ s1, itS (ref03_More_io_L1_sel l) (ref03_More_io_L1_nx l) bound ⟨(c : Int), 0⟩ = some s1 ∧ s1.c3 = l.length ∧ s1.c2 = (crcI c l : Int) := by
  obtain ⟨s1, e, ⟨k, h1, h2, h4⟩, h3⟩ := idx_loop (sel := ref03_More_io_L1_sel l) (nx := ref03_More_io_L1_nx l) (s0 := ⟨(c : Int), 0⟩) l.length (fun s => s.c3) (fun s => ∃ k : Nat, s.c3 = k ∧ k ≤ l.length ∧ s.c2 = (crcI c (l.take k) : Int)) (by omega) ⟨0, rfl, by omega, rfl⟩ (by simp) (by simp)
    (fun s ⟨k, h1, h2, h4⟩ g1 g2 => by
      have e : (wi (s.c3 + 1)) = s.c3 + 1 := wi_eq (by omega) (by omega)
      have hk : k < l.length := by omega
      have hg : gt l s.c3 = ((l[k]).toNat : Int) := by
        rw [h1, gt_nat hk]; have := wfI_u8 (hl _ (List.getElem_mem hk)); omega
      have hb : (l[k]).toNat < 256 := by have := wfI_u8 (hl _ (List.getElem_mem hk)); omega
      have hc := crcI_lt h (hl.take k)
      have hw : wi (256 * (wi (gt l s.c3))) = ((256 * (l[k]).toNat : Nat) : Int) := by
        rw [hg, wi_eq (x := ((l[k]).toNat : Int)) (by omega) (by omega), wi_eq (x := 256 * ((l[k]).toNat : Int)) (by omega) (by omega)]; omega
      obtain ⟨p1, p2⟩ := cross_eq hc (by omega : 256 * (l[k]).toNat < 65536)
      obtain ⟨q1, q2, q3⟩ := refL0 (xor16 hc (by omega : 256 * (l[k]).toNat < 65536))
      have he0 : ref03_More_io_L1_h0_e0 l s = ((crcI c (l.take k) ^^^ (256 * (l[k]).toNat) : Nat) : Int) := by unfold ref03_More_io_L1_h0_e0; rw [hw, h4, p2]
      refine ⟨by simp only [ref03_More_io_L1_sel, g2, inb_of g1 g2, hw, h4, p1, he0, q1, ref03_More_io_L1_h0_e1, q3, decide_true, tb_eq, cond_true], ⟨k + 1, ?_, by omega, ?_⟩, e⟩
      · simp only [ref03_More_io_L1_nx, e]; omega
      · simp only [ref03_More_io_L1_nx, ref03_More_io_L1_h0_e1, he0, q2, take_nats hk]; rfl)
    (fun s _ g => by simp [ref03_More_io_L1_sel, g])
  have hk : k = l.length := by omega
  subst hk
  exact ⟨s1, e, h1, by rw [h4, List.take_length]⟩

theorem rmore_eq (x : Int) {l : List Int} (hl : Byt l) (hn : l.length < 1152921504606846976) : ref03_More_io_c0 x l = true ∧ ref03_More_io_r0_0 x l = moreI x l := by
  by_cases h1 : x < 0
  · simp [ref03_More_io_c0, ref03_More_io_r0_0, h1, moreI]; omega
  by_cases h2 : 65535 < x
  · simp [ref03_More_io_c0, ref03_More_io_r0_0, h1, h2, moreI]; omega
  obtain ⟨s1, e, g1, g2⟩ := refL1 (c := x.toNat) (by omega) hl hn
  rw [show ((x.toNat : Nat) : Int) = x by omega] at e
  have h3 : 0 ≤ x ∧ x ≤ 65535 := by omega
  simp [ref03_More_io_c0, ref03_More_io_r0_0, h1, h2, moreI, h3, ref03_More_io_L1_ok, ref03_More_io_L1_end, e, ref03_More_io_L1_c0, g1, g2]

end Go.Proofs.Ytgalchmjpfmemaa.Den

/- Seal, Open, and what tells lists alike, told plainly. -/
namespace Go.Proofs.Ytgalchmjpfmemaa.Den
open Go
set_option linter.unusedVariables false
set_option linter.unusedSimpArgs false

theorem gt_zip {l k : List Int} (h : l.length = k.length) {i : Int} (h1 : 0 ≤ i) (h2 : i < l.length) : gt (l.zip k) i = (gt l i, gt k i) := by
  rw [gt_getElem h1 (by rw [List.length_zip]; omega), gt_getElem h1 (by omega), gt_getElem h1 (by omega), List.getElem_zip]

theorem zip_all : ∀ {l k : List Int}, l.length = k.length → ((l.zip k).all fun p => p.1 == p.2) = decide (l = k)
  | [], [], _ => by simp
  | x :: l, y :: k, h => by
    rw [List.zip_cons_cons, List.all_cons, zip_all (by simpa using h), Bool.eq_iff_iff]
    simp
  | [], _ :: _, h => by simp at h
  | _ :: _, [], h => by simp at h

/-- A loop that goes on while two lists are alike. -/
theorem eq_loop {S : Type} {sel : S → Bool} {nx : S → S} {s0 : S} {l k : List Int} (hlk : l.length = k.length) (ix : S → Int) (hl : l.length < 1152921504606846976) (h0 : ix s0 = 0)
    (hnx : ∀ s, 0 ≤ ix s → ix s < l.length → ix (nx s) = ix s + 1) (hsel : ∀ s, 0 ≤ ix s → ix s ≤ l.length → sel s = (decide (ix s < l.length) && (gt l (ix s) == gt k (ix s)))) :
    ∃ s1, itS sel nx bound s0 = some s1 ∧ 0 ≤ ix s1 ∧ ((ix s1 = l.length ∧ l = k) ∨ (ix s1 < l.length ∧ (gt l (ix s1) == gt k (ix s1)) = false ∧ l ≠ k)) := by
  have hz : (l.zip k).length = l.length := by rw [List.length_zip]; omega
  obtain ⟨s1, e, -, g0, g⟩ := all_loop (sel := sel) (nx := nx) (s0 := s0) (l.zip k) ix (fun p => p.1 == p.2) (fun _ => True) (by omega) h0 trivial
    (fun s _ a1 a2 _ => ⟨hnx s a1 (by omega), trivial⟩)
    (fun s _ a1 a2 => by
      rw [hsel s a1 (by omega), hz]
      by_cases h : ix s < l.length
      · rw [gt_zip hlk a1 h]
      · simp [h])
  rw [zip_all hlk, hz] at g
  refine ⟨s1, e, g0, ?_⟩
  rcases g with ⟨a, b⟩ | ⟨a, b, c⟩
  · exact .inl ⟨a, by simpa using b⟩
  · rw [gt_zip hlk g0 a] at b
    exact .inr ⟨a, b, by simpa using c⟩

theorem equal_eq {l k : List Int} (hl : l.length < 1152921504606846976) : slices_Equal_byte_oo_c0 l k = true ∧ slices_Equal_byte_oo_r0_0 l k = decide (l = k) := by
  by_cases h : l.length = k.length
  · obtain ⟨s1, e, g0, g⟩ := eq_loop (sel := slices_Equal_byte_oo_L0_sel l k l.length) (nx := slices_Equal_byte_oo_L0_nx l k l.length) (s0 := ⟨0⟩) h (fun s => s.c5) hl rfl
      (fun s a1 a2 => by show wi _ = _; exact wi_eq (by omega) (by omega))
      (fun s a1 a2 => by
        by_cases hi : s.c5 < l.length
        · have i1 := inb_of a1 hi
          have i2 : inb k.length s.c5 = true := by rw [← h]; exact i1
          by_cases q : gt l s.c5 = gt k s.c5
          · simp [slices_Equal_byte_oo_L0_sel, hi, i1, i2, q]
          · simp [slices_Equal_byte_oo_L0_sel, hi, i1, i2, q, bne]
        · simp [slices_Equal_byte_oo_L0_sel, hi])
    have hne : ((((l.length : Nat) : Int) : Int) != ((k.length : Nat) : Int)) = false := by simp [h]
    simp only [slices_Equal_byte_oo_c0, slices_Equal_byte_oo_r0_0, slices_Equal_byte_oo_e0, slices_Equal_byte_oo_L0_ok, slices_Equal_byte_oo_L0_end, e, hne, tb_eq, cond_false, Option.isSome_some, cond_true, Option.getD_some]
    rcases g with ⟨a, b⟩ | ⟨a, b, c⟩
    · simp [slices_Equal_byte_oo_L0_c0, slices_Equal_byte_oo_L0_c1, a, b]
    · have i1 := inb_of g0 a
      have i2 : inb k.length s1.c5 = true := by rw [← h]; exact i1
      simp [slices_Equal_byte_oo_L0_c0, slices_Equal_byte_oo_L0_c1, a, c, i1, i2]
  · have hne : ((((l.length : Nat) : Int) : Int) != ((k.length : Nat) : Int)) = true := by simp; omega
    have : l ≠ k := fun e => h (by rw [e])
    simp [slices_Equal_byte_oo_c0, slices_Equal_byte_oo_r0_0, hne, this]

theorem same_eq {l k : List Int} (hl : l.length < 1152921504606846976) : ref03_Same_oo_c0 l k = true ∧ ref03_Same_oo_r0_0 l k = decide (l = k) := by
  by_cases h : l.length = k.length
  · obtain ⟨s1, e, g0, g⟩ := eq_loop (sel := ref03_Same_oo_L0_sel l k) (nx := ref03_Same_oo_L0_nx l k) (s0 := ⟨0⟩) h (fun s => s.c4) hl rfl
      (fun s a1 a2 => by show wi _ = _; exact wi_eq (by omega) (by omega))
      (fun s a1 a2 => by
        by_cases hi : s.c4 < l.length
        · have i1 := inb_of a1 hi
          have i2 : inb k.length s.c4 = true := by rw [← h]; exact i1
          by_cases q : gt l s.c4 = gt k s.c4
          · simp [ref03_Same_oo_L0_sel, hi, i1, i2, q]
          · simp [ref03_Same_oo_L0_sel, hi, i1, i2, q, bne]
        · simp [ref03_Same_oo_L0_sel, hi])
    have hne : ((((l.length : Nat) : Int) : Int) != ((k.length : Nat) : Int)) = false := by simp [h]
    simp only [ref03_Same_oo_c0, ref03_Same_oo_r0_0, ref03_Same_oo_L0_ok, ref03_Same_oo_L0_end, e, hne, tb_eq, cond_false, Option.isSome_some, cond_true, Option.getD_some]
    rcases g with ⟨a, b⟩ | ⟨a, b, c⟩
    · simp [ref03_Same_oo_L0_c0, ref03_Same_oo_L0_c1, a, b]
    · have i1 := inb_of g0 a
      have i2 : inb k.length s1.c4 = true := by rw [← h]; exact i1
      simp [ref03_Same_oo_L0_c0, ref03_Same_oo_L0_c1, a, c, i1, i2]
  · have hne : ((((l.length : Nat) : Int) : Int) != ((k.length : Nat) : Int)) = true := by simp; omega
    have : l ≠ k := fun e => h (by rw [e])
    simp [ref03_Same_oo_c0, ref03_Same_oo_r0_0, hne, this]

/-! ### Seal -/

structure Sm (l : List Int) : Prop where
  b : Byt l
  n : l.length ≤ 1000

theorem Sm.n' {l : List Int} (h : Sm l) : l.length < 1152921504606846976 := by have := h.n; omega

/-- A sum as two bytes. -/
def tail2 (l : List Int) : List Int := [((crcI 65535 l / 256 : Nat) : Int), ((crcI 65535 l % 256 : Nat) : Int)]
def sealed (l : List Int) : List Int := l ++ tail2 l

theorem u8_wrap {n : Nat} : IntKind.u8.wrap (n : Int) = ((n % 256 : Nat) : Int) := by
  unfold IntKind.wrap; simp [IntKind.bits, IntKind.signed]

theorem more_f {l : List Int} (h : Sm l) : crc_More_io_r0_0 65535 l = (crcI 65535 l : Int) := by
  rw [(more_eq 65535 h.b h.n').2]; simp [moreI]
theorem rmore_f {l : List Int} (h : Sm l) : ref03_More_io_r0_0 65535 l = (crcI 65535 l : Int) := by
  rw [(rmore_eq 65535 h.b h.n').2]; simp [moreI]
theorem sumc {l : List Int} (h : Sm l) : crc_Sum_o_c0 l = true := by simp [crc_Sum_o_c0, (more_eq 65535 h.b h.n').1]
theorem rsumc {l : List Int} (h : Sm l) : ref03_Sum_o_c0 l = true := by simp [ref03_Sum_o_c0, (rmore_eq 65535 h.b h.n').1]
theorem Sm.crc {l : List Int} (h : Sm l) : crcI 65535 l < 65536 := crcI_lt (by omega) h.b

theorem tail_eq {l : List Int} (h : Sm l) : [(IntKind.u8.wrap (shrI .i64 (crc_More_io_r0_0 65535 l) 8)), (IntKind.u8.wrap ((crc_More_io_r0_0 65535 l)))] = tail2 l := by
  have hc := h.crc
  have e : shrI .i64 (crcI 65535 l : Int) 8 = ((crcI 65535 l / 256 : Nat) : Int) := by
    show (crcI 65535 l : Int).fdiv (2 ^ (min (8 : Int).toNat 64)) = _
    rw [show (2 : Int) ^ (min (8 : Int).toNat 64) = 256 by decide, Int.fdiv_eq_ediv_of_nonneg _ (by omega)]; omega
  rw [more_f h, e, u8_wrap, u8_wrap, Nat.mod_eq_of_lt (a := crcI 65535 l / 256) (by omega)]
  rfl

theorem seal_e0 {l : List Int} (h : Sm l) : crc_Seal_o_e0 l = sealed l := by unfold crc_Seal_o_e0; rw [tail_eq h]; rfl
theorem clone_c0 (a : Bool) (l : List Int) : slices_Clone_byte_o_c0 a l = (a && l.isEmpty) := by
  simp only [slices_Clone_byte_o_c0, tb_eq]; cases (a && l.isEmpty) <;> rfl
theorem clone_c1 (a : Bool) {l : List Int} (h : Sm l) : slices_Clone_byte_o_c1 a l = !(a && l.isEmpty) := by
  have : l.length * 1 ≤ 140737488355328 := by have := h.n; omega
  simp only [slices_Clone_byte_o_c1, tb_eq, this, decide_true]; cases (a && l.isEmpty) <;> rfl

theorem seal_c0 (a : Bool) {l : List Int} (h : Sm l) : crc_Seal_o_c0 a l = (a && l.isEmpty) := by
  simp only [crc_Seal_o_c0, sumc h, clone_c0, tb_eq, cond_true]; cases (a && l.isEmpty) <;> rfl
theorem seal_c1 (a : Bool) {l : List Int} (h : Sm l) : crc_Seal_o_c1 a l = !(a && l.isEmpty) := by
  have : (l.length + (tail2 l).length) * 1 ≤ 140737488355328 := by have := h.n; show (l.length + 2) * 1 ≤ _; omega
  simp only [crc_Seal_o_c1, sumc h, clone_c0, clone_c1 a h, tail_eq h, this, decide_true, tb_eq, cond_true]; cases (a && l.isEmpty) <;> rfl

theorem rtail {l : List Int} (h : Sm l) : quoI .i64 (ref03_More_io_r0_0 65535 l) 256 = ((crcI 65535 l / 256 : Nat) : Int) ∧ remI .i64 (ref03_More_io_r0_0 65535 l) 256 = ((crcI 65535 l % 256 : Nat) : Int) := by
  have hc := h.crc
  rw [rmore_f h]
  refine ⟨?_, rfl⟩
  unfold quoI
  rw [show ((crcI 65535 l : Int).tdiv 256) = ((crcI 65535 l / 256 : Nat) : Int) from rfl]
  exact wrap64 (by omega) (by omega)

theorem rseal_e {l : List Int} (h : Sm l) : [ref03_Seal_o_e0 l, ref03_Seal_o_e1 l] = tail2 l := by
  have hc := h.crc
  unfold ref03_Seal_o_e0 ref03_Seal_o_e1
  rw [(rtail h).1, (rtail h).2, u8_wrap, u8_wrap, Nat.mod_eq_of_lt (a := crcI 65535 l / 256) (by omega), Nat.mod_mod]
  rfl
theorem rseal_c0 {l : List Int} (h : Sm l) : ref03_Seal_o_c0 l = true := by
  have h1 : l.length * 1 ≤ 140737488355328 := by have := h.n; omega
  have h2 : (l.length + (tail2 l).length) * 1 ≤ 140737488355328 := by have := h.n; show (l.length + 2) * 1 ≤ _; omega
  simp only [ref03_Seal_o_c0, rsumc h, rseal_e h, h1, h2, decide_true, tb_eq, cond_true]

/-! ### Open -/

def okS (l : List Int) : Bool := decide (2 ≤ l.length) && decide (sealed (l.take (l.length - 2)) = l)

theorem Sm.take {l : List Int} (h : Sm l) (k : Nat) : Sm (l.take k) := ⟨h.b.take k, by have := h.n; rw [List.length_take]; omega⟩

theorem cut_eq {l : List Int} (h : Sm l) (h2 : 2 ≤ l.length) : wi (((l.length : Nat) : Int) - 2) = ((l.length - 2 : Nat) : Int) ∧ sub l 0 (wi (((l.length : Nat) : Int) - 2)) = l.take (l.length - 2) ∧ ins l.length 0 (wi (((l.length : Nat) : Int) - 2)) = true := by
  have hn := h.n
  have e : wi (((l.length : Nat) : Int) - 2) = ((l.length - 2 : Nat) : Int) := by rw [wi_eq (x := (l.length : Int) - 2) (by omega) (by omega)]; omega
  refine ⟨e, ?_, ?_⟩
  · rw [e]; simp [sub]
  · rw [e]; simp [ins]

theorem sealed_short {l : List Int} (h : (l.length : Nat) ≤ 1000) : (sealed l).length < 1152921504606846976 := by simp [sealed, tail2]; omega

theorem open_short {l : List Int} (h : Sm l) (h2 : l.length < 2) (a : Bool) : okS l = false ∧ crc_Open_o_c0 a l = true ∧ crc_Open_o_r0_0 a l = false ∧ crc_Open_o_c1 a l = false ∧ ref03_Open_o_c0 l = true ∧ ref03_Open_o_c1 l = false := by
  have e : wi (((l.length : Nat) : Int) - 2) < 0 := by rw [wi_eq (x := (l.length : Int) - 2) (by omega) (by omega)]; omega
  have e2 : ((l.length : Nat) : Int) < 2 := by omega
  have e3 : ¬ 2 ≤ l.length := by omega
  simp only [okS, crc_Open_o_c0, crc_Open_o_r0_0, crc_Open_o_c1, ref03_Open_o_c0, ref03_Open_o_c1, e, e2, e3, decide_true, decide_false, tb_eq, cond_true, Bool.false_and, and_self]

theorem open_eq {l : List Int} (h : Sm l) (a : Bool) : crc_Open_o_c0 a l = !(okS l) ∧ crc_Open_o_r0_0 a l = okS l ∧ crc_Open_o_c1 a l = okS l := by
  by_cases h2 : l.length < 2
  · obtain ⟨q1, q2, q3, q4, -⟩ := open_short h h2 a
    rw [q1, q2, q3, q4]; simp
  have h3 : 2 ≤ l.length := by omega
  obtain ⟨c1, c2, c3⟩ := cut_eq h h3
  have hp := h.take (l.length - 2)
  have hne : l.isEmpty = false := by cases l <;> simp_all
  have hneg : ¬ (wi (((l.length : Nat) : Int) - 2) < 0) := by rw [c1]; omega
  have hE : crc_Open_o_e1 l = sealed (l.take (l.length - 2)) := by unfold crc_Open_o_e1; rw [c2, seal_e0 hp]
  have eq := equal_eq (l := sealed (l.take (l.length - 2))) (k := l) (sealed_short hp.n)
  simp only [crc_Open_o_c0, crc_Open_o_r0_0, crc_Open_o_c1, hneg, c3, c2, hE, seal_c0 _ hp, seal_c1 _ hp, clone_c0, clone_c1 _ hp, hne, eq.1, eq.2, okS, h3, Bool.and_false, Bool.false_and, Bool.not_false, decide_true, decide_false, tb_eq, cond_true, cond_false, Bool.true_and]
  cases decide (sealed (l.take (l.length - 2)) = l) <;> simp

theorem two_end {l : List Int} (h : 2 ≤ l.length) : l = l.take (l.length - 2) ++ [l[l.length - 2], l[l.length - 1]] := by
  conv => lhs; rw [← List.take_append_drop (l.length - 2) l]
  congr 1
  apply List.ext_getElem
  · simp; omega
  · intro i h1 h2
    rw [List.getElem_drop]
    simp at h2
    rcases (by omega : i = 0 ∨ i = 1) with rfl | rfl
    · simp
    · simp; congr 1; omega

theorem ropen_eq {l : List Int} (h : Sm l) : ref03_Open_o_c0 l = !(okS l) ∧ ref03_Open_o_c1 l = okS l := by
  by_cases h2 : l.length < 2
  · obtain ⟨q1, q2, q3, q4, q5, q6⟩ := open_short h h2 false
    rw [q1, q5, q6]; simp
  have h3 : 2 ≤ l.length := by omega
  have hn := h.n
  obtain ⟨c1, c2, c3⟩ := cut_eq h h3
  rw [c1] at c2 c3
  have hp := h.take (l.length - 2)
  have hneg : ¬ (((l.length : Nat) : Int) < 2) := by omega
  have e1 : wi (((l.length : Nat) : Int) - 1) = ((l.length - 1 : Nat) : Int) := by rw [wi_eq (x := (l.length : Int) - 1) (by omega) (by omega)]; omega
  have g1 : gt l ((l.length - 2 : Nat) : Int) = l[l.length - 2] := gt_nat (by omega)
  have g2 : gt l ((l.length - 1 : Nat) : Int) = l[l.length - 1] := gt_nat (by omega)
  have b1 := wfI_u8 (h.b _ (List.getElem_mem (show l.length - 2 < l.length by omega)))
  have b2 := wfI_u8 (h.b _ (List.getElem_mem (show l.length - 1 < l.length by omega)))
  have i1 : inb l.length ((l.length - 2 : Nat) : Int) = true := inb_of (by omega) (by omega)
  have i2 : inb l.length ((l.length - 1 : Nat) : Int) = true := inb_of (by omega) (by omega)
  have hl : (l.take (l.length - 2)).length * 1 ≤ 140737488355328 := by rw [List.length_take]; omega
  have ok : okS l = (decide (l[l.length - 2] = ((crcI 65535 (l.take (l.length - 2)) / 256 : Nat) : Int)) && decide (l[l.length - 1] = ((crcI 65535 (l.take (l.length - 2)) % 256 : Nat) : Int))) := by
    have hs : sealed (l.take (l.length - 2)) = l ↔ tail2 (l.take (l.length - 2)) = [l[l.length - 2], l[l.length - 1]] := by
      conv => lhs; rhs; rw [two_end h3]
      unfold sealed
      rw [List.append_cancel_left_eq]
    unfold okS
    rw [Bool.eq_iff_iff]
    simp only [h3, decide_true, Bool.true_and, Bool.and_eq_true, decide_eq_true_eq, hs, tail2, List.cons.injEq, and_true]
    constructor <;> rintro ⟨a, b⟩ <;> exact ⟨a.symm, b.symm⟩
  rw [ok]
  simp only [ref03_Open_o_c0, ref03_Open_o_c1, ref03_Open_o_e0, ref03_Open_o_e1, hneg, c3, c2, c1, e1, rsumc hp, (rtail hp).1, (rtail hp).2, i1, i2, g1, g2, hl, decide_true, decide_false, tb_eq, cond_true, cond_false]
  rw [wi_eq (x := l[l.length - 2]) (by omega) (by omega), wi_eq (x := l[l.length - 1]) (by omega) (by omega)]
  simp only [bne]
  by_cases q1 : l[l.length - 2] = ((crcI 65535 (l.take (l.length - 2)) / 256 : Nat) : Int)
  · by_cases q2 : l[l.length - 1] = ((crcI 65535 (l.take (l.length - 2)) % 256 : Nat) : Int)
    · simp only [beq_iff_eq.2 q1, beq_iff_eq.2 q2, q1, q2]; simp
    · have : (l[l.length - 1] == ((crcI 65535 (l.take (l.length - 2)) % 256 : Nat) : Int)) = false := by simpa using q2
      simp only [beq_iff_eq.2 q1, this, q2, decide_false]; simp
  · have : (l[l.length - 2] == ((crcI 65535 (l.take (l.length - 2)) / 256 : Nat) : Int)) = false := by simpa using q1
    simp only [this, q1, decide_false]; simp

end Go.Proofs.Ytgalchmjpfmemaa.Den

/- CrcSealed, told plainly. -/
namespace Go.Proofs.Ytgalchmjpfmemaa.Den
open Go
set_option linter.unusedVariables false
set_option linter.unusedSimpArgs false

theorem wfI_u8_of {z : Int} (h1 : 0 ≤ z) (h2 : z ≤ 255) : WfI .u8 z := by
  simp [WfI, Lit.wf, IntKind.min, IntKind.max, IntKind.signed, IntKind.bits]; omega

theorem u8_wrap_int (z : Int) : IntKind.u8.wrap z = z % 256 := by
  unfold IntKind.wrap; simp [IntKind.bits, IntKind.signed]

theorem nats_app (l k : List Int) : nats (l ++ k) = nats l ++ nats k := by simp [nats]

theorem crc_sealed {l : List Int} (h : Sm l) : crcI 65535 (sealed l) = 0 := by
  have hc := h.crc
  unfold sealed
  have e : nats (tail2 l) = [crcI 65535 l / 256, crcI 65535 l % 256] := rfl
  show crcN 65535 (nats (l ++ tail2 l)) = 0
  rw [nats_app, e, crcN_app]
  exact (two_zero hc (by omega) (by omega)).2 (by show crcI 65535 l = _; omega)

theorem sealed_len (l : List Int) : (sealed l).length = l.length + 2 := by simp [sealed, tail2]

theorem sm_sealed {l : List Int} (h : Sm l) (hn : l.length ≤ 300) : Sm (sealed l) := by
  have hc := h.crc
  refine ⟨fun z hz => ?_, by rw [sealed_len]; omega⟩
  rcases List.mem_append.1 hz with hz | hz
  · exact h.b z hz
  · simp only [tail2, List.mem_cons, List.not_mem_nil, or_false] at hz
    rcases hz with rfl | rfl <;> exact wfI_u8_of (by omega) (by omega)

theorem sealed_take (l : List Int) : (sealed l).take ((sealed l).length - 2) = l := by
  rw [sealed_len]
  unfold sealed
  rw [show l.length + 2 - 2 = l.length by omega]
  exact List.take_left

theorem okS_sealed (l : List Int) : okS (sealed l) = true := by
  unfold okS
  rw [sealed_take, sealed_len]; simp

theorem okS_crc {l : List Int} (h : Sm l) (ok : okS l = true) : crcI 65535 l = 0 := by
  simp only [okS, Bool.and_eq_true, decide_eq_true_eq] at ok
  have := crc_sealed (h.take (l.length - 2))
  rwa [ok.2] at this

theorem set2 : ∀ {s : List Int} {i : Nat} (h : i + 1 < s.length) (u v : Int), (s.set i u).set (i + 1) v = s.take i ++ u :: v :: s.drop (i + 2)
  | [], _, h, _, _ => by simp at h
  | [_], 0, h, _, _ => by simp at h
  | a :: b :: t, 0, _, u, v => by simp
  | a :: t, i + 1, h, u, v => by
    have := set2 (s := t) (i := i) (by simpa using h) u v
    simp only [List.set_cons_succ, List.take_succ_cons, List.drop_succ_cons, List.cons_append, this]

theorem own2 {s : List Int} {i : Nat} (h : i + 1 < s.length) : s = s.take i ++ s[i] :: s[i + 1] :: s.drop (i + 2) := by
  conv => lhs; rw [← List.take_append_drop i s, List.drop_eq_getElem_cons (by omega), List.drop_eq_getElem_cons (by omega)]

def chg (s : List Int) (i x3 x4 : Int) : List Int := st (st s i (IntKind.u8.wrap (gt s i + x3))) (wi (i + 1)) (IntKind.u8.wrap ((gt (st s i (IntKind.u8.wrap (gt s i + x3))) (wi (i + 1))) + x4))

theorem chg_ok {s : List Int} (hs : Sm s) (h0 : crcI 65535 s = 0) (h2 : 2 ≤ s.length) {x2 x3 x4 : Int} (hx2 : 0 ≤ x2 ∧ x2 ≤ 65535) (hx3 : 0 ≤ x3 ∧ x3 ≤ 255) (hx4 : 0 ≤ x4 ∧ x4 ≤ 255) {m : Int} (hm : m = s.length - 1) :
    inb s.length (remI .i64 (wi x2) m) = true ∧ inb s.length (wi (remI .i64 (wi x2) m + 1)) = true ∧ Sm (chg s (remI .i64 (wi x2) m) x3 x4) ∧ ((x3 ≠ 0 ∨ x4 ≠ 0) → okS (chg s (remI .i64 (wi x2) m) x3 x4) = false) := by
  have hn := hs.n
  obtain ⟨i, hi, hi2⟩ : ∃ i : Nat, remI .i64 (wi (x2)) m = i ∧ i + 1 < s.length := by
    rw [wi_eq (x := x2) (by omega) (by omega)]
    refine ⟨x2.toNat % (s.length - 1), ?_, ?_⟩
    · unfold remI
      conv => lhs; rw [show x2 = ((x2.toNat : Nat) : Int) by omega, show m = ((s.length - 1 : Nat) : Int) by omega]
      rfl
    · have := Nat.mod_lt x2.toNat (show 0 < s.length - 1 by omega); omega
  rw [hi]
  have e1 : wi ((i : Int) + 1) = ((i + 1 : Nat) : Int) := by rw [wi_eq (x := (i : Int) + 1) (by omega) (by omega)]; omega
  have b1 := wfI_u8 (hs.b _ (List.getElem_mem (show i < s.length by omega)))
  have b2 := wfI_u8 (hs.b _ (List.getElem_mem hi2))
  have g1 : gt s (i : Int) = s[i] := gt_nat (by omega)
  have g2 : gt (s.set i ((s[i] + x3) % 256)) ((i + 1 : Nat) : Int) = s[i + 1] := by
    rw [gt_nat (by simpa using hi2), List.getElem_set_ne (by omega)]
  have ec : chg s i x3 x4 = s.take i ++ ((s[i] + x3) % 256) :: ((s[i + 1] + x4) % 256) :: s.drop (i + 2) := by
    unfold chg
    rw [e1, g1, u8_wrap_int, u8_wrap_int]
    show (s.set i ((s[i] + x3) % 256)).set (i + 1) ((gt (s.set i ((s[i] + x3) % 256)) ((i + 1 : Nat) : Int) + x4) % 256) = _
    rw [g2, set2 hi2]
  have hsm : Sm (chg s i x3 x4) := by
    rw [ec]
    refine ⟨fun z hz => ?_, ?_⟩
    · rcases List.mem_append.1 hz with hz | hz
      · exact hs.b.take i z hz
      · simp only [List.mem_cons] at hz
        rcases hz with rfl | rfl | hz
        · exact wfI_u8_of (by omega) (by omega)
        · exact wfI_u8_of (by omega) (by omega)
        · exact hs.b.drop (i + 2) z hz
    · simp only [List.length_append, List.length_take, List.length_cons, List.length_drop]; omega
  refine ⟨inb_of (by omega) (by omega), by rw [e1]; exact inb_of (by omega) (by omega), hsm, fun hx => ?_⟩
  cases hk : okS (chg s i x3 x4)
  · rfl
  exfalso
  have hz := okS_crc hsm hk
  rw [ec] at hz
  have ho : crcI 65535 (s.take i ++ s[i] :: s[i + 1] :: s.drop (i + 2)) = 0 := by rw [← own2 hi2]; exact h0
  have hq : ∀ u v : Int, crcI 65535 (s.take i ++ u :: v :: s.drop (i + 2)) = crcN 65535 (nats (s.take i) ++ u.toNat :: v.toNat :: nats (s.drop (i + 2))) := fun u v => by
    unfold crcI; rw [nats_app]; rfl
  rw [hq] at hz ho
  obtain ⟨q1, q2⟩ := crcN_seen (by omega) (nats_lt (hs.b.take i)) (nats_lt (hs.b.drop (i + 2))) (by omega) (by omega) (by omega) (by omega) (ho.trans hz.symm)
  omega

theorem pure_CrcSealed (x0 : Bool) (x1 : List Int) (x2 : Int) (x3 : Int) (x4 : Int) (wx1 : (x1.length ≤ maxLen ∧ ∀ z ∈ x1, WfI .u8 z)) (wx2 : WfI .u16 x2) (wx3 : WfI .u8 x3) (wx4 : WfI .u8 x4) : law03_CrcSealed_c0 x0 x1 x2 x3 x4 = true ∧ (law03_CrcSealed_r0_0 x0 x1 x2 x3 x4) = true := by
  obtain ⟨_, hl⟩ := wx1
  have hb : Byt x1 := hl
  by_cases h : (300 : Int) < x1.length
  · simp only [law03_CrcSealed_c0, law03_CrcSealed_r0_0, h, decide_true, tb_eq, cond_true, and_self]
  have hs : Sm x1 := ⟨hb, by omega⟩
  have hss := sm_sealed hs (by omega)
  have hlen := sealed_len x1
  have he : law03_CrcSealed_e0 x1 = tail2 x1 := tail_eq hs
  obtain ⟨o1, o2, o3⟩ := open_eq hss false
  rw [okS_sealed] at o1 o2 o3
  have hz := crc_sealed hs
  have hw : wi (((x1.length : Nat) : Int) + 2) = ((x1.length + 2 : Nat) : Int) := by rw [wi_eq (x := (x1.length : Int) + 2) (by omega) (by omega)]; omega
  have e6 : law03_CrcSealed_e6 x1 = ((sealed x1).length : Int) - 1 := by
    unfold law03_CrcSealed_e6
    rw [tail_eq hs, hlen]
    have : (tail2 x1).length = 2 := rfl
    rw [this, wi_eq (x := ((x1.length + 2 : Nat) : Int) - 1) (by omega) (by omega)]
  have d4 : law03_CrcSealed_e4 x1 x2 x3 x4 = chg (law03_CrcSealed_e0 x1) (remI .i64 (wi (x2)) 1) x3 x4 := rfl
  have d10 : law03_CrcSealed_e10 x1 x2 x3 x4 = chg (crc_Seal_o_e0 x1) (remI .i64 (wi (x2)) (law03_CrcSealed_e6 x1)) x3 x4 := rfl
  have same := same_eq (l := x1) (k := x1) hs.n'
  obtain ⟨c1, c2, c3⟩ := cut_eq hss (by omega)
  rw [sealed_take] at c2
  have ck := fun m hm => chg_ok hss hz (by omega) (wfI_u16 wx2) (wfI_u8 wx3) (wfI_u8 wx4) (m := m) hm
  obtain ⟨k1, k2, k3, k4⟩ := ck _ e6
  obtain ⟨r1, r2, r3⟩ := open_eq k3 false
  have hne : (law03_CrcSealed_e6 x1 == 0) = false := by rw [e6, hlen]; simp; omega
  have htl : (tail2 x1).length = 2 := rfl
  have hsz : (sealed x1).length * 1 ≤ 140737488355328 := by omega
  have nn : ((((x1.length + 2 : Nat) : Int) : Int) != ((x1.length + 2 : Nat) : Int)) = false := by simp
  have e11 : law03_CrcSealed_e11 x1 = x1 := by unfold law03_CrcSealed_e11; rw [seal_e0 hs]; exact c2
  have m0 : ((crc_More_io_r0_0 65535 (sealed x1) : Int) != 0) = false := by rw [more_f hss, hz]; rfl
  cases hn : (x0 && x1.isEmpty)
  · simp only [law03_CrcSealed_c0, law03_CrcSealed_r0_0, h, seal_c0 x0 hs, seal_c1 x0 hs, hn, d10, seal_e0 hs, tail_eq hs, htl, o1, o2, o3, e11, same.1, same.2, hw, nn, hne, sumc hss, m0, hsz, k1, k2, r1, r2, r3, Bool.not_true, Bool.not_false, decide_true, decide_false, tb_eq, cond_true, cond_false]
    by_cases z3 : x3 = 0
    · by_cases z4 : x4 = 0
      · simp [z3, z4]
      · simp [z3, z4, ← z3 ▸ k4 (.inr z4)]
    · simp [z3, k4 (.inl z3)]
  · have hx : x1 = [] := by cases x1 <;> simp_all
    subst hx
    have hts : tail2 [] = sealed [] := rfl
    have e5 : law03_CrcSealed_e5 [] = [] := by unfold law03_CrcSealed_e5; rw [he, hts]; exact c2
    have e61 : law03_CrcSealed_e6 [] = 1 := by rw [e6]; rfl
    rw [e61] at k1 k2 k3 k4 r1 r2 r3
    have l2 : (sealed []).length = 2 := rfl
    rw [l2] at k1 k2
    have nn2 : ((2 : Int) != (([] : List Int).length + 2 : Nat)) = false := rfl
    simp only [law03_CrcSealed_c0, law03_CrcSealed_r0_0, h, seal_c0 x0 hs, seal_c1 x0 hs, hn, d4, he, hts, o1, o2, o3, e5, same.1, same.2, hw, nn2, sumc hss, m0, k1, k2, r1, r2, r3, Bool.not_true, Bool.not_false, decide_true, decide_false, tb_eq, cond_true, cond_false]
    by_cases z3 : x3 = 0
    · by_cases z4 : x4 = 0
      · simp [z3, z4]
      · simp [z3, z4, ← z3 ▸ k4 (.inr z4)]
    · simp [z3, k4 (.inl z3)]

end Go.Proofs.Ytgalchmjpfmemaa.Den
