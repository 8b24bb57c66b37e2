/- ConfigLess: part 6 of what its proof rests on: an evaluator of the program's code, proved sound; plain functions printed from the code by a program of this session, with proofs; plain laws. No condition. -/
import Derived.Test.YtgalchmjpfmemaaDenconfigLess5
import Derived.Laws.StructEq
import Derived.Test.YtgalchmjpfmemaaRows

namespace Go.Proofs.Ytgalchmjpfmemaa.Den
open Go Go.Proofs
set_option maxRecDepth 100000
set_option maxHeartbeats 4000000
set_option linter.unusedVariables false
set_option linter.unusedSimpArgs false

structure ref07_Default_i_L0_1_s0 where mk ::
  deriving Inhabited

structure ref07_Default_i_L0_1_s1 where mk ::
  deriving Inhabited

structure ref07_Default_i_L0_1_s2 where mk ::
  deriving Inhabited

structure ref07_Default_i_L0_1_s3 where mk ::
  deriving Inhabited

structure ref07_Default_i_L0_1_s4 where mk ::
  deriving Inhabited

inductive ref07_Default_i_L0_1_S where
  | h0 (v : ref07_Default_i_L0_1_s0)
  | h1 (v : ref07_Default_i_L0_1_s1)
  | h2 (v : ref07_Default_i_L0_1_s2)
  | h3 (v : ref07_Default_i_L0_1_s3)
  | h4 (v : ref07_Default_i_L0_1_s4)
  deriving Inhabited

def ref07_Default_i_L0_1_is0 : ref07_Default_i_L0_1_S → Bool
  | .h0 _ => true
  | _ => false

def ref07_Default_i_L0_1_get0 : ref07_Default_i_L0_1_S → ref07_Default_i_L0_1_s0
  | .h0 v => v
  | _ => default

theorem ref07_Default_i_L0_1_at0 {s : ref07_Default_i_L0_1_S} (h : ref07_Default_i_L0_1_is0 s = true) : s = .h0 (ref07_Default_i_L0_1_get0 s) := by cases s <;> first | rfl | cases h

def ref07_Default_i_L0_1_is1 : ref07_Default_i_L0_1_S → Bool
  | .h1 _ => true
  | _ => false

def ref07_Default_i_L0_1_get1 : ref07_Default_i_L0_1_S → ref07_Default_i_L0_1_s1
  | .h1 v => v
  | _ => default

theorem ref07_Default_i_L0_1_at1 {s : ref07_Default_i_L0_1_S} (h : ref07_Default_i_L0_1_is1 s = true) : s = .h1 (ref07_Default_i_L0_1_get1 s) := by cases s <;> first | rfl | cases h

def ref07_Default_i_L0_1_is2 : ref07_Default_i_L0_1_S → Bool
  | .h2 _ => true
  | _ => false

def ref07_Default_i_L0_1_get2 : ref07_Default_i_L0_1_S → ref07_Default_i_L0_1_s2
  | .h2 v => v
  | _ => default

theorem ref07_Default_i_L0_1_at2 {s : ref07_Default_i_L0_1_S} (h : ref07_Default_i_L0_1_is2 s = true) : s = .h2 (ref07_Default_i_L0_1_get2 s) := by cases s <;> first | rfl | cases h

def ref07_Default_i_L0_1_is3 : ref07_Default_i_L0_1_S → Bool
  | .h3 _ => true
  | _ => false

def ref07_Default_i_L0_1_get3 : ref07_Default_i_L0_1_S → ref07_Default_i_L0_1_s3
  | .h3 v => v
  | _ => default

theorem ref07_Default_i_L0_1_at3 {s : ref07_Default_i_L0_1_S} (h : ref07_Default_i_L0_1_is3 s = true) : s = .h3 (ref07_Default_i_L0_1_get3 s) := by cases s <;> first | rfl | cases h

def ref07_Default_i_L0_1_is4 : ref07_Default_i_L0_1_S → Bool
  | .h4 _ => true
  | _ => false

def ref07_Default_i_L0_1_get4 : ref07_Default_i_L0_1_S → ref07_Default_i_L0_1_s4
  | .h4 v => v
  | _ => default

theorem ref07_Default_i_L0_1_at4 {s : ref07_Default_i_L0_1_S} (h : ref07_Default_i_L0_1_is4 s = true) : s = .h4 (ref07_Default_i_L0_1_get4 s) := by cases s <;> first | rfl | cases h

def ref07_Default_i_L0_1_enc (x0 : Int) (x1 : Bool) (x2 : Bool) (x3 : Int) : ref07_Default_i_L0_1_S → List V × Mem
  | .h0 s0 => ([(V.d (.int .i64 x3)), (V.ptr 0 1 0 0), (V.ptr 1 1 0 0), (V.d (.int .i64 0))], [(Blk.flat 69 21 [[(.int .i64 0), (.int .i64 0), (.int .i64 0), (.int .i64 0), (.int .i64 0), (.int .i64 0), (.int .i64 0), (.int .i64 0), (.int .i64 0), (.int .i64 0), (.int .i64 0), (.int .i64 0), (.int .i64 0), (.int .i64 0), (.int .i64 0), (.int .i64 0), (.int .i64 0), (.int .i64 0), (.int .i64 0), (.int .i64 0), (.int .i64 0)]] x1), (Blk.flat 69 21 [[(.int .i64 x0), (.int .i64 (-1000000)), (.int .i64 1000000), (.int .i64 0), (.int .i64 400), (.int .i64 600), (.int .i64 8), (.int .i64 150), (.int .i64 4), (.int .i64 300), (.int .i64 40), (.int .i64 5), (.int .i64 60), (.int .i64 3), (.int .i64 10), (.int .i64 2), (.int .i64 4), (.int .i64 0), (.int .i64 0), (.int .i64 0), (.int .i64 0)]] false)])
  | .h1 s0 => ([(V.d (.int .i64 x3)), (V.ptr 0 1 0 0), (V.ptr 1 1 0 0), (V.d (.int .i64 1))], [(Blk.flat 69 21 [[(.int .i64 0), (.int .i64 0), (.int .i64 0), (.int .i64 0), (.int .i64 0), (.int .i64 0), (.int .i64 0), (.int .i64 0), (.int .i64 0), (.int .i64 0), (.int .i64 0), (.int .i64 0), (.int .i64 0), (.int .i64 0), (.int .i64 0), (.int .i64 0), (.int .i64 0), (.int .i64 0), (.int .i64 0), (.int .i64 0), (.int .i64 0)]] x1), (Blk.flat 69 21 [[(.int .i64 x0), (.int .i64 (-1000000)), (.int .i64 1000000), (.int .i64 0), (.int .i64 400), (.int .i64 600), (.int .i64 8), (.int .i64 150), (.int .i64 4), (.int .i64 300), (.int .i64 40), (.int .i64 5), (.int .i64 60), (.int .i64 3), (.int .i64 10), (.int .i64 2), (.int .i64 4), (.int .i64 1), (.int .i64 0), (.int .i64 0), (.int .i64 0)]] false)])
  | .h2 s0 => ([(V.d (.int .i64 x3)), (V.ptr 0 1 0 0), (V.ptr 1 1 0 0), (V.d (.int .i64 2))], [(Blk.flat 69 21 [[(.int .i64 0), (.int .i64 0), (.int .i64 0), (.int .i64 0), (.int .i64 0), (.int .i64 0), (.int .i64 0), (.int .i64 0), (.int .i64 0), (.int .i64 0), (.int .i64 0), (.int .i64 0), (.int .i64 0), (.int .i64 0), (.int .i64 0), (.int .i64 0), (.int .i64 0), (.int .i64 0), (.int .i64 0), (.int .i64 0), (.int .i64 0)]] x1), (Blk.flat 69 21 [[(.int .i64 x0), (.int .i64 (-1000000)), (.int .i64 1000000), (.int .i64 0), (.int .i64 400), (.int .i64 600), (.int .i64 8), (.int .i64 150), (.int .i64 4), (.int .i64 300), (.int .i64 40), (.int .i64 5), (.int .i64 60), (.int .i64 3), (.int .i64 10), (.int .i64 2), (.int .i64 4), (.int .i64 1), (.int .i64 1), (.int .i64 0), (.int .i64 0)]] false)])
  | .h3 s0 => ([(V.d (.int .i64 x3)), (V.ptr 0 1 0 0), (V.ptr 1 1 0 0), (V.d (.int .i64 3))], [(Blk.flat 69 21 [[(.int .i64 0), (.int .i64 0), (.int .i64 0), (.int .i64 0), (.int .i64 0), (.int .i64 0), (.int .i64 0), (.int .i64 0), (.int .i64 0), (.int .i64 0), (.int .i64 0), (.int .i64 0), (.int .i64 0), (.int .i64 0), (.int .i64 0), (.int .i64 0), (.int .i64 0), (.int .i64 0), (.int .i64 0), (.int .i64 0), (.int .i64 0)]] x1), (Blk.flat 69 21 [[(.int .i64 x0), (.int .i64 (-1000000)), (.int .i64 1000000), (.int .i64 0), (.int .i64 400), (.int .i64 600), (.int .i64 8), (.int .i64 150), (.int .i64 4), (.int .i64 300), (.int .i64 40), (.int .i64 5), (.int .i64 60), (.int .i64 3), (.int .i64 10), (.int .i64 2), (.int .i64 4), (.int .i64 1), (.int .i64 1), (.int .i64 1), (.int .i64 0)]] false)])
  | .h4 s0 => ([(V.d (.int .i64 x3)), (V.ptr 0 1 0 0), (V.ptr 1 1 0 0), (V.d (.int .i64 4))], [(Blk.flat 69 21 [[(.int .i64 0), (.int .i64 0), (.int .i64 0), (.int .i64 0), (.int .i64 0), (.int .i64 0), (.int .i64 0), (.int .i64 0), (.int .i64 0), (.int .i64 0), (.int .i64 0), (.int .i64 0), (.int .i64 0), (.int .i64 0), (.int .i64 0), (.int .i64 0), (.int .i64 0), (.int .i64 0), (.int .i64 0), (.int .i64 0), (.int .i64 0)]] x1), (Blk.flat 69 21 [[(.int .i64 x0), (.int .i64 (-1000000)), (.int .i64 1000000), (.int .i64 0), (.int .i64 400), (.int .i64 600), (.int .i64 8), (.int .i64 150), (.int .i64 4), (.int .i64 300), (.int .i64 40), (.int .i64 5), (.int .i64 60), (.int .i64 3), (.int .i64 10), (.int .i64 2), (.int .i64 4), (.int .i64 1), (.int .i64 1), (.int .i64 1), (.int .i64 1)]] false)])

def ref07_Default_i_L0_1_h0_sel (x3 : Int) (s0 : ref07_Default_i_L0_1_s0) : Bool := (bif tb (decide (0 < x3)) then true else false)

def ref07_Default_i_L0_1_h0_nx (x3 : Int) (s0 : ref07_Default_i_L0_1_s0) : ref07_Default_i_L0_1_S := .h1 ⟨⟩

def ref07_Default_i_L0_1_h1_sel (x3 : Int) (s0 : ref07_Default_i_L0_1_s1) : Bool := (bif tb (decide (1 < x3)) then true else false)

def ref07_Default_i_L0_1_h1_nx (x3 : Int) (s0 : ref07_Default_i_L0_1_s1) : ref07_Default_i_L0_1_S := .h2 ⟨⟩

def ref07_Default_i_L0_1_h2_sel (x3 : Int) (s0 : ref07_Default_i_L0_1_s2) : Bool := (bif tb (decide (2 < x3)) then true else false)

def ref07_Default_i_L0_1_h2_nx (x3 : Int) (s0 : ref07_Default_i_L0_1_s2) : ref07_Default_i_L0_1_S := .h3 ⟨⟩

def ref07_Default_i_L0_1_h3_sel (x3 : Int) (s0 : ref07_Default_i_L0_1_s3) : Bool := (bif tb (decide (3 < x3)) then true else false)

def ref07_Default_i_L0_1_h3_nx (x3 : Int) (s0 : ref07_Default_i_L0_1_s3) : ref07_Default_i_L0_1_S := .h4 ⟨⟩

def ref07_Default_i_L0_1_h4_sel (x3 : Int) (s0 : ref07_Default_i_L0_1_s4) : Bool := false

def ref07_Default_i_L0_1_h4_nx (x3 : Int) (s0 : ref07_Default_i_L0_1_s4) : ref07_Default_i_L0_1_S := default

def ref07_Default_i_L0_1_sel (x3 : Int) : ref07_Default_i_L0_1_S → Bool
  | .h0 v => ref07_Default_i_L0_1_h0_sel x3 v
  | .h1 v => ref07_Default_i_L0_1_h1_sel x3 v
  | .h2 v => ref07_Default_i_L0_1_h2_sel x3 v
  | .h3 v => ref07_Default_i_L0_1_h3_sel x3 v
  | .h4 v => ref07_Default_i_L0_1_h4_sel x3 v

def ref07_Default_i_L0_1_nx (x3 : Int) : ref07_Default_i_L0_1_S → ref07_Default_i_L0_1_S
  | .h0 v => ref07_Default_i_L0_1_h0_nx x3 v
  | .h1 v => ref07_Default_i_L0_1_h1_nx x3 v
  | .h2 v => ref07_Default_i_L0_1_h2_nx x3 v
  | .h3 v => ref07_Default_i_L0_1_h3_nx x3 v
  | .h4 v => ref07_Default_i_L0_1_h4_nx x3 v

def ref07_Default_i_L0_1_ok (x3 : Int) (s0 : ref07_Default_i_L0_1_S) : Bool := (itS (ref07_Default_i_L0_1_sel x3) (ref07_Default_i_L0_1_nx x3) bound s0).isSome
def ref07_Default_i_L0_1_end (x3 : Int) (s0 : ref07_Default_i_L0_1_S) : ref07_Default_i_L0_1_S := (itS (ref07_Default_i_L0_1_sel x3) (ref07_Default_i_L0_1_nx x3) bound s0).getD default

theorem ref07_Default_i_L0_1_h0_go (x0 : Int) (x1 : Bool) (x2 : Bool) (x3 : Int) (s0 : ref07_Default_i_L0_1_s0) : ref07_Default_i_L0_1_h0_sel x3 s0 = true → (roundG (runC E0 (cl E0) L43_0) [0, 2, 4, 5] [2, 4] 2) (ref07_Default_i_L0_1_enc x0 x1 x2 x3 (.h0 s0)) = some (.normal, ref07_Default_i_L0_1_enc x0 x1 x2 x3 (ref07_Default_i_L0_1_h0_nx x3 s0)) := by
  unfold ref07_Default_i_L0_1_h0_sel ref07_Default_i_L0_1_h0_nx
  cases h1 : tb (decide (0 < x3))
  · intro g0
    exact absurd g0 ft
  · intro _
    exact round_walk [.b (tbE h1)] (by kernel_rfl)

theorem ref07_Default_i_L0_1_h0_x0 (x0 : Int) (x1 : Bool) (x2 : Bool) (x3 : Int) (s0 : ref07_Default_i_L0_1_s0) : ref07_Default_i_L0_1_h0_sel x3 s0 = false → (roundG (runC E0 (cl E0) L43_0) [0, 2, 4, 5] [2, 4] 2) (ref07_Default_i_L0_1_enc x0 x1 x2 x3 (.h0 s0)) = some ((.exit 0), ([(V.ptr 0 1 0 0), (V.ptr 1 1 0 0)], [(Blk.flat 69 21 [[(.int .i64 0), (.int .i64 0), (.int .i64 0), (.int .i64 0), (.int .i64 0), (.int .i64 0), (.int .i64 0), (.int .i64 0), (.int .i64 0), (.int .i64 0), (.int .i64 0), (.int .i64 0), (.int .i64 0), (.int .i64 0), (.int .i64 0), (.int .i64 0), (.int .i64 0), (.int .i64 0), (.int .i64 0), (.int .i64 0), (.int .i64 0)]] x1), (Blk.flat 69 21 [[(.int .i64 x0), (.int .i64 (-1000000)), (.int .i64 1000000), (.int .i64 0), (.int .i64 400), (.int .i64 600), (.int .i64 8), (.int .i64 150), (.int .i64 4), (.int .i64 300), (.int .i64 40), (.int .i64 5), (.int .i64 60), (.int .i64 3), (.int .i64 10), (.int .i64 2), (.int .i64 4), (.int .i64 0), (.int .i64 0), (.int .i64 0), (.int .i64 0)]] false)])) := by
  unfold ref07_Default_i_L0_1_h0_sel
  cases h1 : tb (decide (0 < x3))
  · intro g0
    exact round_walk [.b (tbE h1)] (by kernel_rfl)
  · intro g0
    exact absurd g0 tf

theorem ref07_Default_i_L0_1_h1_go (x0 : Int) (x1 : Bool) (x2 : Bool) (x3 : Int) (s0 : ref07_Default_i_L0_1_s1) : ref07_Default_i_L0_1_h1_sel x3 s0 = true → (roundG (runC E0 (cl E0) L43_0) [0, 2, 4, 5] [2, 4] 2) (ref07_Default_i_L0_1_enc x0 x1 x2 x3 (.h1 s0)) = some (.normal, ref07_Default_i_L0_1_enc x0 x1 x2 x3 (ref07_Default_i_L0_1_h1_nx x3 s0)) := by
  unfold ref07_Default_i_L0_1_h1_sel ref07_Default_i_L0_1_h1_nx
  cases h1 : tb (decide (1 < x3))
  · intro g0
    exact absurd g0 ft
  · intro _
    exact round_walk [.b (tbE h1)] (by kernel_rfl)

theorem ref07_Default_i_L0_1_h1_x0 (x0 : Int) (x1 : Bool) (x2 : Bool) (x3 : Int) (s0 : ref07_Default_i_L0_1_s1) : ref07_Default_i_L0_1_h1_sel x3 s0 = false → (roundG (runC E0 (cl E0) L43_0) [0, 2, 4, 5] [2, 4] 2) (ref07_Default_i_L0_1_enc x0 x1 x2 x3 (.h1 s0)) = some ((.exit 0), ([(V.ptr 0 1 0 0), (V.ptr 1 1 0 0)], [(Blk.flat 69 21 [[(.int .i64 0), (.int .i64 0), (.int .i64 0), (.int .i64 0), (.int .i64 0), (.int .i64 0), (.int .i64 0), (.int .i64 0), (.int .i64 0), (.int .i64 0), (.int .i64 0), (.int .i64 0), (.int .i64 0), (.int .i64 0), (.int .i64 0), (.int .i64 0), (.int .i64 0), (.int .i64 0), (.int .i64 0), (.int .i64 0), (.int .i64 0)]] x1), (Blk.flat 69 21 [[(.int .i64 x0), (.int .i64 (-1000000)), (.int .i64 1000000), (.int .i64 0), (.int .i64 400), (.int .i64 600), (.int .i64 8), (.int .i64 150), (.int .i64 4), (.int .i64 300), (.int .i64 40), (.int .i64 5), (.int .i64 60), (.int .i64 3), (.int .i64 10), (.int .i64 2), (.int .i64 4), (.int .i64 1), (.int .i64 0), (.int .i64 0), (.int .i64 0)]] false)])) := by
  unfold ref07_Default_i_L0_1_h1_sel
  cases h1 : tb (decide (1 < x3))
  · intro g0
    exact round_walk [.b (tbE h1)] (by kernel_rfl)
  · intro g0
    exact absurd g0 tf

theorem ref07_Default_i_L0_1_h2_go (x0 : Int) (x1 : Bool) (x2 : Bool) (x3 : Int) (s0 : ref07_Default_i_L0_1_s2) : ref07_Default_i_L0_1_h2_sel x3 s0 = true → (roundG (runC E0 (cl E0) L43_0) [0, 2, 4, 5] [2, 4] 2) (ref07_Default_i_L0_1_enc x0 x1 x2 x3 (.h2 s0)) = some (.normal, ref07_Default_i_L0_1_enc x0 x1 x2 x3 (ref07_Default_i_L0_1_h2_nx x3 s0)) := by
  unfold ref07_Default_i_L0_1_h2_sel ref07_Default_i_L0_1_h2_nx
  cases h1 : tb (decide (2 < x3))
  · intro g0
    exact absurd g0 ft
  · intro _
    exact round_walk [.b (tbE h1)] (by kernel_rfl)

theorem ref07_Default_i_L0_1_h2_x0 (x0 : Int) (x1 : Bool) (x2 : Bool) (x3 : Int) (s0 : ref07_Default_i_L0_1_s2) : ref07_Default_i_L0_1_h2_sel x3 s0 = false → (roundG (runC E0 (cl E0) L43_0) [0, 2, 4, 5] [2, 4] 2) (ref07_Default_i_L0_1_enc x0 x1 x2 x3 (.h2 s0)) = some ((.exit 0), ([(V.ptr 0 1 0 0), (V.ptr 1 1 0 0)], [(Blk.flat 69 21 [[(.int .i64 0), (.int .i64 0), (.int .i64 0), (.int .i64 0), (.int .i64 0), (.int .i64 0), (.int .i64 0), (.int .i64 0), (.int .i64 0), (.int .i64 0), (.int .i64 0), (.int .i64 0), (.int .i64 0), (.int .i64 0), (.int .i64 0), (.int .i64 0), (.int .i64 0), (.int .i64 0), (.int .i64 0), (.int .i64 0), (.int .i64 0)]] x1), (Blk.flat 69 21 [[(.int .i64 x0), (.int .i64 (-1000000)), (.int .i64 1000000), (.int .i64 0), (.int .i64 400), (.int .i64 600), (.int .i64 8), (.int .i64 150), (.int .i64 4), (.int .i64 300), (.int .i64 40), (.int .i64 5), (.int .i64 60), (.int .i64 3), (.int .i64 10), (.int .i64 2), (.int .i64 4), (.int .i64 1), (.int .i64 1), (.int .i64 0), (.int .i64 0)]] false)])) := by
  unfold ref07_Default_i_L0_1_h2_sel
  cases h1 : tb (decide (2 < x3))
  · intro g0
    exact round_walk [.b (tbE h1)] (by kernel_rfl)
  · intro g0
    exact absurd g0 tf

theorem ref07_Default_i_L0_1_h3_go (x0 : Int) (x1 : Bool) (x2 : Bool) (x3 : Int) (s0 : ref07_Default_i_L0_1_s3) : ref07_Default_i_L0_1_h3_sel x3 s0 = true → (roundG (runC E0 (cl E0) L43_0) [0, 2, 4, 5] [2, 4] 2) (ref07_Default_i_L0_1_enc x0 x1 x2 x3 (.h3 s0)) = some (.normal, ref07_Default_i_L0_1_enc x0 x1 x2 x3 (ref07_Default_i_L0_1_h3_nx x3 s0)) := by
  unfold ref07_Default_i_L0_1_h3_sel ref07_Default_i_L0_1_h3_nx
  cases h1 : tb (decide (3 < x3))
  · intro g0
    exact absurd g0 ft
  · intro _
    exact round_walk [.b (tbE h1)] (by kernel_rfl)

theorem ref07_Default_i_L0_1_h3_x0 (x0 : Int) (x1 : Bool) (x2 : Bool) (x3 : Int) (s0 : ref07_Default_i_L0_1_s3) : ref07_Default_i_L0_1_h3_sel x3 s0 = false → (roundG (runC E0 (cl E0) L43_0) [0, 2, 4, 5] [2, 4] 2) (ref07_Default_i_L0_1_enc x0 x1 x2 x3 (.h3 s0)) = some ((.exit 0), ([(V.ptr 0 1 0 0), (V.ptr 1 1 0 0)], [(Blk.flat 69 21 [[(.int .i64 0), (.int .i64 0), (.int .i64 0), (.int .i64 0), (.int .i64 0), (.int .i64 0), (.int .i64 0), (.int .i64 0), (.int .i64 0), (.int .i64 0), (.int .i64 0), (.int .i64 0), (.int .i64 0), (.int .i64 0), (.int .i64 0), (.int .i64 0), (.int .i64 0), (.int .i64 0), (.int .i64 0), (.int .i64 0), (.int .i64 0)]] x1), (Blk.flat 69 21 [[(.int .i64 x0), (.int .i64 (-1000000)), (.int .i64 1000000), (.int .i64 0), (.int .i64 400), (.int .i64 600), (.int .i64 8), (.int .i64 150), (.int .i64 4), (.int .i64 300), (.int .i64 40), (.int .i64 5), (.int .i64 60), (.int .i64 3), (.int .i64 10), (.int .i64 2), (.int .i64 4), (.int .i64 1), (.int .i64 1), (.int .i64 1), (.int .i64 0)]] false)])) := by
  unfold ref07_Default_i_L0_1_h3_sel
  cases h1 : tb (decide (3 < x3))
  · intro g0
    exact round_walk [.b (tbE h1)] (by kernel_rfl)
  · intro g0
    exact absurd g0 tf

theorem ref07_Default_i_L0_1_h4_go (x0 : Int) (x1 : Bool) (x2 : Bool) (x3 : Int) (s0 : ref07_Default_i_L0_1_s4) : ref07_Default_i_L0_1_h4_sel x3 s0 = true → (roundG (runC E0 (cl E0) L43_0) [0, 2, 4, 5] [2, 4] 2) (ref07_Default_i_L0_1_enc x0 x1 x2 x3 (.h4 s0)) = some (.normal, ref07_Default_i_L0_1_enc x0 x1 x2 x3 (ref07_Default_i_L0_1_h4_nx x3 s0)) := by
  unfold ref07_Default_i_L0_1_h4_sel ref07_Default_i_L0_1_h4_nx
  cases h1 : tb (decide (4 < x3))
  · intro g0
    exact absurd g0 ft
  · intro g0
    exact absurd g0 ft

def ref07_Default_i_L0_1_h4_c0 (x3 : Int) : Bool := (bif tb (decide (4 < x3)) then false else true)

theorem ref07_Default_i_L0_1_h4_x0 (x0 : Int) (x1 : Bool) (x2 : Bool) (x3 : Int) (s0 : ref07_Default_i_L0_1_s4) : ref07_Default_i_L0_1_h4_sel x3 s0 = false → ref07_Default_i_L0_1_h4_c0 x3 = true → (roundG (runC E0 (cl E0) L43_0) [0, 2, 4, 5] [2, 4] 2) (ref07_Default_i_L0_1_enc x0 x1 x2 x3 (.h4 s0)) = some ((.exit 0), ([(V.ptr 0 1 0 0), (V.ptr 1 1 0 0)], [(Blk.flat 69 21 [[(.int .i64 0), (.int .i64 0), (.int .i64 0), (.int .i64 0), (.int .i64 0), (.int .i64 0), (.int .i64 0), (.int .i64 0), (.int .i64 0), (.int .i64 0), (.int .i64 0), (.int .i64 0), (.int .i64 0), (.int .i64 0), (.int .i64 0), (.int .i64 0), (.int .i64 0), (.int .i64 0), (.int .i64 0), (.int .i64 0), (.int .i64 0)]] x1), (Blk.flat 69 21 [[(.int .i64 x0), (.int .i64 (-1000000)), (.int .i64 1000000), (.int .i64 0), (.int .i64 400), (.int .i64 600), (.int .i64 8), (.int .i64 150), (.int .i64 4), (.int .i64 300), (.int .i64 40), (.int .i64 5), (.int .i64 60), (.int .i64 3), (.int .i64 10), (.int .i64 2), (.int .i64 4), (.int .i64 1), (.int .i64 1), (.int .i64 1), (.int .i64 1)]] false)])) := by
  unfold ref07_Default_i_L0_1_h4_sel ref07_Default_i_L0_1_h4_c0
  cases h1 : tb (decide (4 < x3))
  · intro g0 g1
    exact round_walk [.b (tbE h1)] (by kernel_rfl)
  · intro g0 g1
    exact absurd g1 ft

theorem ref07_Default_i_L0_1_go (x0 : Int) (x1 : Bool) (x2 : Bool) (x3 : Int) : ∀ s, ref07_Default_i_L0_1_sel x3 s = true → (roundG (runC E0 (cl E0) L43_0) [0, 2, 4, 5] [2, 4] 2) (ref07_Default_i_L0_1_enc x0 x1 x2 x3 s) = some (.normal, ref07_Default_i_L0_1_enc x0 x1 x2 x3 (ref07_Default_i_L0_1_nx x3 s))
  | .h0 s0, h => ref07_Default_i_L0_1_h0_go x0 x1 x2 x3 s0 h
  | .h1 s0, h => ref07_Default_i_L0_1_h1_go x0 x1 x2 x3 s0 h
  | .h2 s0, h => ref07_Default_i_L0_1_h2_go x0 x1 x2 x3 s0 h
  | .h3 s0, h => ref07_Default_i_L0_1_h3_go x0 x1 x2 x3 s0 h
  | .h4 s0, h => ref07_Default_i_L0_1_h4_go x0 x1 x2 x3 s0 h

theorem ref07_Default_i_L0_1_f0_0 (x0 : Int) (x1 : Bool) (x2 : Bool) (x3 : Int) (s : ref07_Default_i_L0_1_S) (hok : ref07_Default_i_L0_1_ok x3 s = true) (k0 : ref07_Default_i_L0_1_is0 (ref07_Default_i_L0_1_end x3 s) = true) : loopG (roundG (runC E0 (cl E0) L43_0) [0, 2, 4, 5] [2, 4] 2) bound (ref07_Default_i_L0_1_enc x0 x1 x2 x3 s) = some ((.exit 0), ([(V.ptr 0 1 0 0), (V.ptr 1 1 0 0)], [(Blk.flat 69 21 [[(.int .i64 0), (.int .i64 0), (.int .i64 0), (.int .i64 0), (.int .i64 0), (.int .i64 0), (.int .i64 0), (.int .i64 0), (.int .i64 0), (.int .i64 0), (.int .i64 0), (.int .i64 0), (.int .i64 0), (.int .i64 0), (.int .i64 0), (.int .i64 0), (.int .i64 0), (.int .i64 0), (.int .i64 0), (.int .i64 0), (.int .i64 0)]] x1), (Blk.flat 69 21 [[(.int .i64 x0), (.int .i64 (-1000000)), (.int .i64 1000000), (.int .i64 0), (.int .i64 400), (.int .i64 600), (.int .i64 8), (.int .i64 150), (.int .i64 4), (.int .i64 300), (.int .i64 40), (.int .i64 5), (.int .i64 60), (.int .i64 3), (.int .i64 10), (.int .i64 2), (.int .i64 4), (.int .i64 0), (.int .i64 0), (.int .i64 0), (.int .i64 0)]] false)])) := by
  have e : itS (ref07_Default_i_L0_1_sel x3) (ref07_Default_i_L0_1_nx x3) bound s = some (ref07_Default_i_L0_1_end x3 s) := itS_get hok
  have f := itS_false e
  have a := ref07_Default_i_L0_1_at0 k0
  have g := ref07_Default_i_L0_1_h0_x0 x0 x1 x2 x3 (ref07_Default_i_L0_1_get0 (ref07_Default_i_L0_1_end x3 s)) (by rw [a] at f; exact f) 
  exact loop_it (ref07_Default_i_L0_1_go x0 x1 x2 x3) bound s _ _ _ e (fun h => by cases h) (by rw [a]; exact g)

theorem ref07_Default_i_L0_1_f1_0 (x0 : Int) (x1 : Bool) (x2 : Bool) (x3 : Int) (s : ref07_Default_i_L0_1_S) (hok : ref07_Default_i_L0_1_ok x3 s = true) (k0 : ref07_Default_i_L0_1_is0 (ref07_Default_i_L0_1_end x3 s) = false) (k1 : ref07_Default_i_L0_1_is1 (ref07_Default_i_L0_1_end x3 s) = true) : loopG (roundG (runC E0 (cl E0) L43_0) [0, 2, 4, 5] [2, 4] 2) bound (ref07_Default_i_L0_1_enc x0 x1 x2 x3 s) = some ((.exit 0), ([(V.ptr 0 1 0 0), (V.ptr 1 1 0 0)], [(Blk.flat 69 21 [[(.int .i64 0), (.int .i64 0), (.int .i64 0), (.int .i64 0), (.int .i64 0), (.int .i64 0), (.int .i64 0), (.int .i64 0), (.int .i64 0), (.int .i64 0), (.int .i64 0), (.int .i64 0), (.int .i64 0), (.int .i64 0), (.int .i64 0), (.int .i64 0), (.int .i64 0), (.int .i64 0), (.int .i64 0), (.int .i64 0), (.int .i64 0)]] x1), (Blk.flat 69 21 [[(.int .i64 x0), (.int .i64 (-1000000)), (.int .i64 1000000), (.int .i64 0), (.int .i64 400), (.int .i64 600), (.int .i64 8), (.int .i64 150), (.int .i64 4), (.int .i64 300), (.int .i64 40), (.int .i64 5), (.int .i64 60), (.int .i64 3), (.int .i64 10), (.int .i64 2), (.int .i64 4), (.int .i64 1), (.int .i64 0), (.int .i64 0), (.int .i64 0)]] false)])) := by
  have e : itS (ref07_Default_i_L0_1_sel x3) (ref07_Default_i_L0_1_nx x3) bound s = some (ref07_Default_i_L0_1_end x3 s) := itS_get hok
  have f := itS_false e
  have a := ref07_Default_i_L0_1_at1 k1
  have g := ref07_Default_i_L0_1_h1_x0 x0 x1 x2 x3 (ref07_Default_i_L0_1_get1 (ref07_Default_i_L0_1_end x3 s)) (by rw [a] at f; exact f) 
  exact loop_it (ref07_Default_i_L0_1_go x0 x1 x2 x3) bound s _ _ _ e (fun h => by cases h) (by rw [a]; exact g)

theorem ref07_Default_i_L0_1_f2_0 (x0 : Int) (x1 : Bool) (x2 : Bool) (x3 : Int) (s : ref07_Default_i_L0_1_S) (hok : ref07_Default_i_L0_1_ok x3 s = true) (k0 : ref07_Default_i_L0_1_is0 (ref07_Default_i_L0_1_end x3 s) = false) (k1 : ref07_Default_i_L0_1_is1 (ref07_Default_i_L0_1_end x3 s) = false) (k2 : ref07_Default_i_L0_1_is2 (ref07_Default_i_L0_1_end x3 s) = true) : loopG (roundG (runC E0 (cl E0) L43_0) [0, 2, 4, 5] [2, 4] 2) bound (ref07_Default_i_L0_1_enc x0 x1 x2 x3 s) = some ((.exit 0), ([(V.ptr 0 1 0 0), (V.ptr 1 1 0 0)], [(Blk.flat 69 21 [[(.int .i64 0), (.int .i64 0), (.int .i64 0), (.int .i64 0), (.int .i64 0), (.int .i64 0), (.int .i64 0), (.int .i64 0), (.int .i64 0), (.int .i64 0), (.int .i64 0), (.int .i64 0), (.int .i64 0), (.int .i64 0), (.int .i64 0), (.int .i64 0), (.int .i64 0), (.int .i64 0), (.int .i64 0), (.int .i64 0), (.int .i64 0)]] x1), (Blk.flat 69 21 [[(.int .i64 x0), (.int .i64 (-1000000)), (.int .i64 1000000), (.int .i64 0), (.int .i64 400), (.int .i64 600), (.int .i64 8), (.int .i64 150), (.int .i64 4), (.int .i64 300), (.int .i64 40), (.int .i64 5), (.int .i64 60), (.int .i64 3), (.int .i64 10), (.int .i64 2), (.int .i64 4), (.int .i64 1), (.int .i64 1), (.int .i64 0), (.int .i64 0)]] false)])) := by
  have e : itS (ref07_Default_i_L0_1_sel x3) (ref07_Default_i_L0_1_nx x3) bound s = some (ref07_Default_i_L0_1_end x3 s) := itS_get hok
  have f := itS_false e
  have a := ref07_Default_i_L0_1_at2 k2
  have g := ref07_Default_i_L0_1_h2_x0 x0 x1 x2 x3 (ref07_Default_i_L0_1_get2 (ref07_Default_i_L0_1_end x3 s)) (by rw [a] at f; exact f) 
  exact loop_it (ref07_Default_i_L0_1_go x0 x1 x2 x3) bound s _ _ _ e (fun h => by cases h) (by rw [a]; exact g)

theorem ref07_Default_i_L0_1_f3_0 (x0 : Int) (x1 : Bool) (x2 : Bool) (x3 : Int) (s : ref07_Default_i_L0_1_S) (hok : ref07_Default_i_L0_1_ok x3 s = true) (k0 : ref07_Default_i_L0_1_is0 (ref07_Default_i_L0_1_end x3 s) = false) (k1 : ref07_Default_i_L0_1_is1 (ref07_Default_i_L0_1_end x3 s) = false) (k2 : ref07_Default_i_L0_1_is2 (ref07_Default_i_L0_1_end x3 s) = false) (k3 : ref07_Default_i_L0_1_is3 (ref07_Default_i_L0_1_end x3 s) = true) : loopG (roundG (runC E0 (cl E0) L43_0) [0, 2, 4, 5] [2, 4] 2) bound (ref07_Default_i_L0_1_enc x0 x1 x2 x3 s) = some ((.exit 0), ([(V.ptr 0 1 0 0), (V.ptr 1 1 0 0)], [(Blk.flat 69 21 [[(.int .i64 0), (.int .i64 0), (.int .i64 0), (.int .i64 0), (.int .i64 0), (.int .i64 0), (.int .i64 0), (.int .i64 0), (.int .i64 0), (.int .i64 0), (.int .i64 0), (.int .i64 0), (.int .i64 0), (.int .i64 0), (.int .i64 0), (.int .i64 0), (.int .i64 0), (.int .i64 0), (.int .i64 0), (.int .i64 0), (.int .i64 0)]] x1), (Blk.flat 69 21 [[(.int .i64 x0), (.int .i64 (-1000000)), (.int .i64 1000000), (.int .i64 0), (.int .i64 400), (.int .i64 600), (.int .i64 8), (.int .i64 150), (.int .i64 4), (.int .i64 300), (.int .i64 40), (.int .i64 5), (.int .i64 60), (.int .i64 3), (.int .i64 10), (.int .i64 2), (.int .i64 4), (.int .i64 1), (.int .i64 1), (.int .i64 1), (.int .i64 0)]] false)])) := by
  have e : itS (ref07_Default_i_L0_1_sel x3) (ref07_Default_i_L0_1_nx x3) bound s = some (ref07_Default_i_L0_1_end x3 s) := itS_get hok
  have f := itS_false e
  have a := ref07_Default_i_L0_1_at3 k3
  have g := ref07_Default_i_L0_1_h3_x0 x0 x1 x2 x3 (ref07_Default_i_L0_1_get3 (ref07_Default_i_L0_1_end x3 s)) (by rw [a] at f; exact f) 
  exact loop_it (ref07_Default_i_L0_1_go x0 x1 x2 x3) bound s _ _ _ e (fun h => by cases h) (by rw [a]; exact g)

theorem ref07_Default_i_L0_1_f4_0 (x0 : Int) (x1 : Bool) (x2 : Bool) (x3 : Int) (s : ref07_Default_i_L0_1_S) (hok : ref07_Default_i_L0_1_ok x3 s = true) (k0 : ref07_Default_i_L0_1_is0 (ref07_Default_i_L0_1_end x3 s) = false) (k1 : ref07_Default_i_L0_1_is1 (ref07_Default_i_L0_1_end x3 s) = false) (k2 : ref07_Default_i_L0_1_is2 (ref07_Default_i_L0_1_end x3 s) = false) (k3 : ref07_Default_i_L0_1_is3 (ref07_Default_i_L0_1_end x3 s) = false) (c0 : ref07_Default_i_L0_1_h4_c0 x3 = true) : loopG (roundG (runC E0 (cl E0) L43_0) [0, 2, 4, 5] [2, 4] 2) bound (ref07_Default_i_L0_1_enc x0 x1 x2 x3 s) = some ((.exit 0), ([(V.ptr 0 1 0 0), (V.ptr 1 1 0 0)], [(Blk.flat 69 21 [[(.int .i64 0), (.int .i64 0), (.int .i64 0), (.int .i64 0), (.int .i64 0), (.int .i64 0), (.int .i64 0), (.int .i64 0), (.int .i64 0), (.int .i64 0), (.int .i64 0), (.int .i64 0), (.int .i64 0), (.int .i64 0), (.int .i64 0), (.int .i64 0), (.int .i64 0), (.int .i64 0), (.int .i64 0), (.int .i64 0), (.int .i64 0)]] x1), (Blk.flat 69 21 [[(.int .i64 x0), (.int .i64 (-1000000)), (.int .i64 1000000), (.int .i64 0), (.int .i64 400), (.int .i64 600), (.int .i64 8), (.int .i64 150), (.int .i64 4), (.int .i64 300), (.int .i64 40), (.int .i64 5), (.int .i64 60), (.int .i64 3), (.int .i64 10), (.int .i64 2), (.int .i64 4), (.int .i64 1), (.int .i64 1), (.int .i64 1), (.int .i64 1)]] false)])) := by
  have e : itS (ref07_Default_i_L0_1_sel x3) (ref07_Default_i_L0_1_nx x3) bound s = some (ref07_Default_i_L0_1_end x3 s) := itS_get hok
  have f := itS_false e
  have a : (ref07_Default_i_L0_1_end x3 s) = .h4 (ref07_Default_i_L0_1_get4 (ref07_Default_i_L0_1_end x3 s)) := by
    revert k0 k1 k2 k3
    cases (ref07_Default_i_L0_1_end x3 s) with
    | h0 w => intros; contradiction
    | h1 w => intros; contradiction
    | h2 w => intros; contradiction
    | h3 w => intros; contradiction
    | h4 w => intros; rfl
  have g := ref07_Default_i_L0_1_h4_x0 x0 x1 x2 x3 (ref07_Default_i_L0_1_get4 (ref07_Default_i_L0_1_end x3 s)) (by rw [a] at f; exact f) c0
  exact loop_it (ref07_Default_i_L0_1_go x0 x1 x2 x3) bound s _ _ _ e (fun h => by cases h) (by rw [a]; exact g)

def ref07_Default_i_e0 (x0 : Int) : ref07_Default_i_L0_1_S := ref07_Default_i_L0_1_end x0 (.h0 ⟨⟩ : ref07_Default_i_L0_1_S)

def ref07_Default_i_c0 (x0 : Int) : Bool := (bif tb ((x0 : Int) != 3) then (bif tb ((x0 : Int) != 4) then true else (bif tb (ref07_Default_i_L0_1_ok x0 (.h0 ⟨⟩ : ref07_Default_i_L0_1_S)) then (bif tb (ref07_Default_i_L0_1_is0 (ref07_Default_i_e0 x0)) then true else (bif tb (ref07_Default_i_L0_1_is1 (ref07_Default_i_e0 x0)) then true else (bif tb (ref07_Default_i_L0_1_is2 (ref07_Default_i_e0 x0)) then true else (bif tb (ref07_Default_i_L0_1_is3 (ref07_Default_i_e0 x0)) then true else (bif tb (ref07_Default_i_L0_1_h4_c0 x0) then true else false))))) else false)) else (bif tb (ref07_Default_i_L0_1_ok x0 (.h0 ⟨⟩ : ref07_Default_i_L0_1_S)) then (bif tb (ref07_Default_i_L0_1_is0 (ref07_Default_i_e0 x0)) then true else (bif tb (ref07_Default_i_L0_1_is1 (ref07_Default_i_e0 x0)) then true else (bif tb (ref07_Default_i_L0_1_is2 (ref07_Default_i_e0 x0)) then true else (bif tb (ref07_Default_i_L0_1_is3 (ref07_Default_i_e0 x0)) then true else (bif tb (ref07_Default_i_L0_1_h4_c0 x0) then true else false))))) else false))

def ref07_Default_i_r0_0 (x0 : Int) : Int := (bif tb ((x0 : Int) != 3) then (bif tb ((x0 : Int) != 4) then 0 else x0) else x0)

def ref07_Default_i_r0_1 (x0 : Int) : Int := (bif tb ((x0 : Int) != 3) then (bif tb ((x0 : Int) != 4) then 0 else (-1000000)) else (-1000000))

def ref07_Default_i_r0_2 (x0 : Int) : Int := (bif tb ((x0 : Int) != 3) then (bif tb ((x0 : Int) != 4) then 0 else 1000000) else 1000000)

def ref07_Default_i_r0_4 (x0 : Int) : Int := (bif tb ((x0 : Int) != 3) then (bif tb ((x0 : Int) != 4) then 0 else 400) else 400)

def ref07_Default_i_r0_5 (x0 : Int) : Int := (bif tb ((x0 : Int) != 3) then (bif tb ((x0 : Int) != 4) then 0 else 600) else 600)

def ref07_Default_i_r0_6 (x0 : Int) : Int := (bif tb ((x0 : Int) != 3) then (bif tb ((x0 : Int) != 4) then 0 else 8) else 8)

def ref07_Default_i_r0_7 (x0 : Int) : Int := (bif tb ((x0 : Int) != 3) then (bif tb ((x0 : Int) != 4) then 0 else 150) else 150)

def ref07_Default_i_r0_8 (x0 : Int) : Int := (bif tb ((x0 : Int) != 3) then (bif tb ((x0 : Int) != 4) then 0 else 4) else 4)

def ref07_Default_i_r0_9 (x0 : Int) : Int := (bif tb ((x0 : Int) != 3) then (bif tb ((x0 : Int) != 4) then 0 else 300) else 300)

def ref07_Default_i_r0_10 (x0 : Int) : Int := (bif tb ((x0 : Int) != 3) then (bif tb ((x0 : Int) != 4) then 0 else 40) else 40)

def ref07_Default_i_r0_11 (x0 : Int) : Int := (bif tb ((x0 : Int) != 3) then (bif tb ((x0 : Int) != 4) then 0 else 5) else 5)

def ref07_Default_i_r0_12 (x0 : Int) : Int := (bif tb ((x0 : Int) != 3) then (bif tb ((x0 : Int) != 4) then 0 else 60) else 60)

def ref07_Default_i_r0_13 (x0 : Int) : Int := (bif tb ((x0 : Int) != 3) then (bif tb ((x0 : Int) != 4) then 0 else 3) else 3)

def ref07_Default_i_r0_14 (x0 : Int) : Int := (bif tb ((x0 : Int) != 3) then (bif tb ((x0 : Int) != 4) then 0 else 10) else 10)

def ref07_Default_i_r0_15 (x0 : Int) : Int := (bif tb ((x0 : Int) != 3) then (bif tb ((x0 : Int) != 4) then 0 else 2) else 2)

def ref07_Default_i_r0_16 (x0 : Int) : Int := (bif tb ((x0 : Int) != 3) then (bif tb ((x0 : Int) != 4) then 0 else 4) else 4)

def ref07_Default_i_r0_17 (x0 : Int) : Int := (bif tb ((x0 : Int) != 3) then (bif tb ((x0 : Int) != 4) then 0 else (bif tb (ref07_Default_i_L0_1_is0 (ref07_Default_i_e0 x0)) then 0 else 1)) else (bif tb (ref07_Default_i_L0_1_is0 (ref07_Default_i_e0 x0)) then 0 else 1))

def ref07_Default_i_r0_18 (x0 : Int) : Int := (bif tb ((x0 : Int) != 3) then (bif tb ((x0 : Int) != 4) then 0 else (bif tb (ref07_Default_i_L0_1_is0 (ref07_Default_i_e0 x0)) then 0 else (bif tb (ref07_Default_i_L0_1_is1 (ref07_Default_i_e0 x0)) then 0 else 1))) else (bif tb (ref07_Default_i_L0_1_is0 (ref07_Default_i_e0 x0)) then 0 else (bif tb (ref07_Default_i_L0_1_is1 (ref07_Default_i_e0 x0)) then 0 else 1)))

def ref07_Default_i_r0_19 (x0 : Int) : Int := (bif tb ((x0 : Int) != 3) then (bif tb ((x0 : Int) != 4) then 0 else (bif tb (ref07_Default_i_L0_1_is0 (ref07_Default_i_e0 x0)) then 0 else (bif tb (ref07_Default_i_L0_1_is1 (ref07_Default_i_e0 x0)) then 0 else (bif tb (ref07_Default_i_L0_1_is2 (ref07_Default_i_e0 x0)) then 0 else 1)))) else (bif tb (ref07_Default_i_L0_1_is0 (ref07_Default_i_e0 x0)) then 0 else (bif tb (ref07_Default_i_L0_1_is1 (ref07_Default_i_e0 x0)) then 0 else (bif tb (ref07_Default_i_L0_1_is2 (ref07_Default_i_e0 x0)) then 0 else 1))))

def ref07_Default_i_r0_20 (x0 : Int) : Int := (bif tb ((x0 : Int) != 3) then (bif tb ((x0 : Int) != 4) then 0 else (bif tb (ref07_Default_i_L0_1_is0 (ref07_Default_i_e0 x0)) then 0 else (bif tb (ref07_Default_i_L0_1_is1 (ref07_Default_i_e0 x0)) then 0 else (bif tb (ref07_Default_i_L0_1_is2 (ref07_Default_i_e0 x0)) then 0 else (bif tb (ref07_Default_i_L0_1_is3 (ref07_Default_i_e0 x0)) then 0 else 1))))) else (bif tb (ref07_Default_i_L0_1_is0 (ref07_Default_i_e0 x0)) then 0 else (bif tb (ref07_Default_i_L0_1_is1 (ref07_Default_i_e0 x0)) then 0 else (bif tb (ref07_Default_i_L0_1_is2 (ref07_Default_i_e0 x0)) then 0 else (bif tb (ref07_Default_i_L0_1_is3 (ref07_Default_i_e0 x0)) then 0 else 1)))))

def ref07_Default_i_r0_21 (x0 : Int) : Int := (bif tb ((x0 : Int) != 3) then (bif tb ((x0 : Int) != 4) then 1 else 0) else 0)

theorem ref07_Default_i_t0 (x0 : Int) : ref07_Default_i_c0 x0 = true → cl E0 43 [(V.d (.int .i64 x0))] [] = some ([(V.agg [(V.d (.int .i64 (ref07_Default_i_r0_0 x0))), (V.d (.int .i64 (ref07_Default_i_r0_1 x0))), (V.d (.int .i64 (ref07_Default_i_r0_2 x0))), (V.d (.int .i64 0)), (V.d (.int .i64 (ref07_Default_i_r0_4 x0))), (V.d (.int .i64 (ref07_Default_i_r0_5 x0))), (V.d (.int .i64 (ref07_Default_i_r0_6 x0))), (V.d (.int .i64 (ref07_Default_i_r0_7 x0))), (V.d (.int .i64 (ref07_Default_i_r0_8 x0))), (V.d (.int .i64 (ref07_Default_i_r0_9 x0))), (V.d (.int .i64 (ref07_Default_i_r0_10 x0))), (V.d (.int .i64 (ref07_Default_i_r0_11 x0))), (V.d (.int .i64 (ref07_Default_i_r0_12 x0))), (V.d (.int .i64 (ref07_Default_i_r0_13 x0))), (V.d (.int .i64 (ref07_Default_i_r0_14 x0))), (V.d (.int .i64 (ref07_Default_i_r0_15 x0))), (V.d (.int .i64 (ref07_Default_i_r0_16 x0))), (V.d (.int .i64 (ref07_Default_i_r0_17 x0))), (V.d (.int .i64 (ref07_Default_i_r0_18 x0))), (V.d (.int .i64 (ref07_Default_i_r0_19 x0))), (V.d (.int .i64 (ref07_Default_i_r0_20 x0)))]), (V.d (.int .i64 (ref07_Default_i_r0_21 x0)))], []) := by
  unfold ref07_Default_i_c0 ref07_Default_i_r0_0 ref07_Default_i_r0_1 ref07_Default_i_r0_2 ref07_Default_i_r0_4 ref07_Default_i_r0_5 ref07_Default_i_r0_6 ref07_Default_i_r0_7 ref07_Default_i_r0_8 ref07_Default_i_r0_9 ref07_Default_i_r0_10 ref07_Default_i_r0_11 ref07_Default_i_r0_12 ref07_Default_i_r0_13 ref07_Default_i_r0_14 ref07_Default_i_r0_15 ref07_Default_i_r0_16 ref07_Default_i_r0_17 ref07_Default_i_r0_18 ref07_Default_i_r0_19 ref07_Default_i_r0_20 ref07_Default_i_r0_21
  cases h1 : tb ((x0 : Int) != 3)
  · cases h2 : tb (ref07_Default_i_L0_1_ok x0 (.h0 ⟨⟩ : ref07_Default_i_L0_1_S))
    · intro g0
      exact absurd g0 ft
    · cases h3 : tb (ref07_Default_i_L0_1_is0 (ref07_Default_i_e0 x0))
      · cases h4 : tb (ref07_Default_i_L0_1_is1 (ref07_Default_i_e0 x0))
        · cases h5 : tb (ref07_Default_i_L0_1_is2 (ref07_Default_i_e0 x0))
          · cases h6 : tb (ref07_Default_i_L0_1_is3 (ref07_Default_i_e0 x0))
            · cases h7 : tb (ref07_Default_i_L0_1_h4_c0 x0)
              · intro g0
                exact absurd g0 ft
              · intro g0
                exact w43 [.b (tbE h1), .l (ref07_Default_i_L0_1_f4_0 x0 false false x0 (.h0 ⟨⟩ : ref07_Default_i_L0_1_S) (tbE h2) (tbE h3) (tbE h4) (tbE h5) (tbE h6) (tbE h7))] (by kernel_rfl)
            · intro g0
              exact w43 [.b (tbE h1), .l (ref07_Default_i_L0_1_f3_0 x0 false false x0 (.h0 ⟨⟩ : ref07_Default_i_L0_1_S) (tbE h2) (tbE h3) (tbE h4) (tbE h5) (tbE h6))] (by kernel_rfl)
          · intro g0
            exact w43 [.b (tbE h1), .l (ref07_Default_i_L0_1_f2_0 x0 false false x0 (.h0 ⟨⟩ : ref07_Default_i_L0_1_S) (tbE h2) (tbE h3) (tbE h4) (tbE h5))] (by kernel_rfl)
        · intro g0
          exact w43 [.b (tbE h1), .l (ref07_Default_i_L0_1_f1_0 x0 false false x0 (.h0 ⟨⟩ : ref07_Default_i_L0_1_S) (tbE h2) (tbE h3) (tbE h4))] (by kernel_rfl)
      · intro g0
        exact w43 [.b (tbE h1), .l (ref07_Default_i_L0_1_f0_0 x0 false false x0 (.h0 ⟨⟩ : ref07_Default_i_L0_1_S) (tbE h2) (tbE h3))] (by kernel_rfl)
  · cases h2 : tb ((x0 : Int) != 4)
    · cases h3 : tb (ref07_Default_i_L0_1_ok x0 (.h0 ⟨⟩ : ref07_Default_i_L0_1_S))
      · intro g0
        exact absurd g0 ft
      · cases h4 : tb (ref07_Default_i_L0_1_is0 (ref07_Default_i_e0 x0))
        · cases h5 : tb (ref07_Default_i_L0_1_is1 (ref07_Default_i_e0 x0))
          · cases h6 : tb (ref07_Default_i_L0_1_is2 (ref07_Default_i_e0 x0))
            · cases h7 : tb (ref07_Default_i_L0_1_is3 (ref07_Default_i_e0 x0))
              · cases h8 : tb (ref07_Default_i_L0_1_h4_c0 x0)
                · intro g0
                  exact absurd g0 ft
                · intro g0
                  exact w43 [.b (tbE h1), .b (tbE h2), .l (ref07_Default_i_L0_1_f4_0 x0 false false x0 (.h0 ⟨⟩ : ref07_Default_i_L0_1_S) (tbE h3) (tbE h4) (tbE h5) (tbE h6) (tbE h7) (tbE h8))] (by kernel_rfl)
              · intro g0
                exact w43 [.b (tbE h1), .b (tbE h2), .l (ref07_Default_i_L0_1_f3_0 x0 false false x0 (.h0 ⟨⟩ : ref07_Default_i_L0_1_S) (tbE h3) (tbE h4) (tbE h5) (tbE h6) (tbE h7))] (by kernel_rfl)
            · intro g0
              exact w43 [.b (tbE h1), .b (tbE h2), .l (ref07_Default_i_L0_1_f2_0 x0 false false x0 (.h0 ⟨⟩ : ref07_Default_i_L0_1_S) (tbE h3) (tbE h4) (tbE h5) (tbE h6))] (by kernel_rfl)
          · intro g0
            exact w43 [.b (tbE h1), .b (tbE h2), .l (ref07_Default_i_L0_1_f1_0 x0 false false x0 (.h0 ⟨⟩ : ref07_Default_i_L0_1_S) (tbE h3) (tbE h4) (tbE h5))] (by kernel_rfl)
        · intro g0
          exact w43 [.b (tbE h1), .b (tbE h2), .l (ref07_Default_i_L0_1_f0_0 x0 false false x0 (.h0 ⟨⟩ : ref07_Default_i_L0_1_S) (tbE h3) (tbE h4))] (by kernel_rfl)
    · intro g0
      exact w43 [.b (tbE h1), .b (tbE h2)] (by kernel_rfl)

def ref07_small_i_r0_0 (x0 : Int) : Bool := (bif tb (decide ((-2147483648) ≤ x0)) then (decide (x0 ≤ 2147483647)) else false)

theorem ref07_small_i_t0 (x0 : Int) : cl E0 73 [(V.d (.int .i64 x0))] [] = some ([(V.d (.bool (ref07_small_i_r0_0 x0)))], []) := by
  unfold ref07_small_i_r0_0
  cases h1 : tb (decide ((-2147483648) ≤ x0))
  · exact w73 [.b (tbE h1)] (by kernel_rfl)
  · exact w73 [.b (tbE h1)] (by kernel_rfl)

def ref07_count_i_r0_0 (x0 : Int) : Bool := (bif tb (decide (0 ≤ x0)) then (decide (x0 ≤ 2147483647)) else false)

theorem ref07_count_i_t0 (x0 : Int) : cl E0 74 [(V.d (.int .i64 x0))] [] = some ([(V.d (.bool (ref07_count_i_r0_0 x0)))], []) := by
  unfold ref07_count_i_r0_0
  cases h1 : tb (decide (0 ≤ x0))
  · exact w74 [.b (tbE h1)] (by kernel_rfl)
  · exact w74 [.b (tbE h1)] (by kernel_rfl)

structure ref07_tail_ai21_L0_1_s0 where mk ::
  deriving Inhabited

structure ref07_tail_ai21_L0_1_s1 where mk ::
  deriving Inhabited

structure ref07_tail_ai21_L0_1_s2 where mk ::
  deriving Inhabited

structure ref07_tail_ai21_L0_1_s3 where mk ::
  deriving Inhabited

structure ref07_tail_ai21_L0_1_s4 where mk ::
  deriving Inhabited

inductive ref07_tail_ai21_L0_1_S where
  | h0 (v : ref07_tail_ai21_L0_1_s0)
  | h1 (v : ref07_tail_ai21_L0_1_s1)
  | h2 (v : ref07_tail_ai21_L0_1_s2)
  | h3 (v : ref07_tail_ai21_L0_1_s3)
  | h4 (v : ref07_tail_ai21_L0_1_s4)
  deriving Inhabited

def ref07_tail_ai21_L0_1_is0 : ref07_tail_ai21_L0_1_S → Bool
  | .h0 _ => true
  | _ => false

def ref07_tail_ai21_L0_1_get0 : ref07_tail_ai21_L0_1_S → ref07_tail_ai21_L0_1_s0
  | .h0 v => v
  | _ => default

theorem ref07_tail_ai21_L0_1_at0 {s : ref07_tail_ai21_L0_1_S} (h : ref07_tail_ai21_L0_1_is0 s = true) : s = .h0 (ref07_tail_ai21_L0_1_get0 s) := by cases s <;> first | rfl | cases h

def ref07_tail_ai21_L0_1_is1 : ref07_tail_ai21_L0_1_S → Bool
  | .h1 _ => true
  | _ => false

def ref07_tail_ai21_L0_1_get1 : ref07_tail_ai21_L0_1_S → ref07_tail_ai21_L0_1_s1
  | .h1 v => v
  | _ => default

theorem ref07_tail_ai21_L0_1_at1 {s : ref07_tail_ai21_L0_1_S} (h : ref07_tail_ai21_L0_1_is1 s = true) : s = .h1 (ref07_tail_ai21_L0_1_get1 s) := by cases s <;> first | rfl | cases h

def ref07_tail_ai21_L0_1_is2 : ref07_tail_ai21_L0_1_S → Bool
  | .h2 _ => true
  | _ => false

def ref07_tail_ai21_L0_1_get2 : ref07_tail_ai21_L0_1_S → ref07_tail_ai21_L0_1_s2
  | .h2 v => v
  | _ => default

theorem ref07_tail_ai21_L0_1_at2 {s : ref07_tail_ai21_L0_1_S} (h : ref07_tail_ai21_L0_1_is2 s = true) : s = .h2 (ref07_tail_ai21_L0_1_get2 s) := by cases s <;> first | rfl | cases h

def ref07_tail_ai21_L0_1_is3 : ref07_tail_ai21_L0_1_S → Bool
  | .h3 _ => true
  | _ => false

def ref07_tail_ai21_L0_1_get3 : ref07_tail_ai21_L0_1_S → ref07_tail_ai21_L0_1_s3
  | .h3 v => v
  | _ => default

theorem ref07_tail_ai21_L0_1_at3 {s : ref07_tail_ai21_L0_1_S} (h : ref07_tail_ai21_L0_1_is3 s = true) : s = .h3 (ref07_tail_ai21_L0_1_get3 s) := by cases s <;> first | rfl | cases h

def ref07_tail_ai21_L0_1_is4 : ref07_tail_ai21_L0_1_S → Bool
  | .h4 _ => true
  | _ => false

def ref07_tail_ai21_L0_1_get4 : ref07_tail_ai21_L0_1_S → ref07_tail_ai21_L0_1_s4
  | .h4 v => v
  | _ => default

theorem ref07_tail_ai21_L0_1_at4 {s : ref07_tail_ai21_L0_1_S} (h : ref07_tail_ai21_L0_1_is4 s = true) : s = .h4 (ref07_tail_ai21_L0_1_get4 s) := by cases s <;> first | rfl | cases h

def ref07_tail_ai21_L0_1_enc (x0 : Int) (x1 : Int) (x2 : Int) (x3 : Int) (x4 : Int) (x5 : Int) (x6 : Int) (x7 : Int) (x8 : Int) (x9 : Int) (x10 : Int) (x11 : Int) (x12 : Int) (x13 : Int) (x14 : Int) (x15 : Int) (x16 : Int) (x17 : Int) (x18 : Int) (x19 : Int) (x20 : Int) (x21 : Bool) : ref07_tail_ai21_L0_1_S → List V × Mem
  | .h0 s0 => ([(V.ptr 0 1 0 0), (V.d (.int .i64 0))], [(Blk.flat 69 21 [[(.int .i64 x0), (.int .i64 x1), (.int .i64 x2), (.int .i64 x3), (.int .i64 x4), (.int .i64 x5), (.int .i64 x6), (.int .i64 x7), (.int .i64 x8), (.int .i64 x9), (.int .i64 x10), (.int .i64 x11), (.int .i64 x12), (.int .i64 x13), (.int .i64 x14), (.int .i64 x15), (.int .i64 x16), (.int .i64 x17), (.int .i64 x18), (.int .i64 x19), (.int .i64 x20)]] x21)])
  | .h1 s0 => ([(V.ptr 0 1 0 0), (V.d (.int .i64 1))], [(Blk.flat 69 21 [[(.int .i64 x0), (.int .i64 x1), (.int .i64 x2), (.int .i64 x3), (.int .i64 x4), (.int .i64 x5), (.int .i64 x6), (.int .i64 x7), (.int .i64 x8), (.int .i64 x9), (.int .i64 x10), (.int .i64 x11), (.int .i64 x12), (.int .i64 x13), (.int .i64 x14), (.int .i64 x15), (.int .i64 x16), (.int .i64 x17), (.int .i64 x18), (.int .i64 x19), (.int .i64 x20)]] x21)])
  | .h2 s0 => ([(V.ptr 0 1 0 0), (V.d (.int .i64 2))], [(Blk.flat 69 21 [[(.int .i64 x0), (.int .i64 x1), (.int .i64 x2), (.int .i64 x3), (.int .i64 x4), (.int .i64 x5), (.int .i64 x6), (.int .i64 x7), (.int .i64 x8), (.int .i64 x9), (.int .i64 x10), (.int .i64 x11), (.int .i64 x12), (.int .i64 x13), (.int .i64 x14), (.int .i64 x15), (.int .i64 x16), (.int .i64 x17), (.int .i64 x18), (.int .i64 x19), (.int .i64 x20)]] x21)])
  | .h3 s0 => ([(V.ptr 0 1 0 0), (V.d (.int .i64 3))], [(Blk.flat 69 21 [[(.int .i64 x0), (.int .i64 x1), (.int .i64 x2), (.int .i64 x3), (.int .i64 x4), (.int .i64 x5), (.int .i64 x6), (.int .i64 x7), (.int .i64 x8), (.int .i64 x9), (.int .i64 x10), (.int .i64 x11), (.int .i64 x12), (.int .i64 x13), (.int .i64 x14), (.int .i64 x15), (.int .i64 x16), (.int .i64 x17), (.int .i64 x18), (.int .i64 x19), (.int .i64 x20)]] x21)])
  | .h4 s0 => ([(V.ptr 0 1 0 0), (V.d (.int .i64 4))], [(Blk.flat 69 21 [[(.int .i64 x0), (.int .i64 x1), (.int .i64 x2), (.int .i64 x3), (.int .i64 x4), (.int .i64 x5), (.int .i64 x6), (.int .i64 x7), (.int .i64 x8), (.int .i64 x9), (.int .i64 x10), (.int .i64 x11), (.int .i64 x12), (.int .i64 x13), (.int .i64 x14), (.int .i64 x15), (.int .i64 x16), (.int .i64 x17), (.int .i64 x18), (.int .i64 x19), (.int .i64 x20)]] x21)])

def ref07_tail_ai21_L0_1_h0_sel (x0 : Int) (x17 : Int) (x18 : Int) (x19 : Int) (x20 : Int) (s0 : ref07_tail_ai21_L0_1_s0) : Bool := (bif tb (decide (0 < x0)) then (bif tb (decide (x17 < 1)) then false else (bif tb (decide (16 < x17)) then false else (bif tb (decide (x0 ≤ 0)) then (bif tb ((x17 : Int) != 0) then false else true) else true))) else (bif tb (decide (x0 ≤ 0)) then (bif tb ((x17 : Int) != 0) then false else true) else true))

def ref07_tail_ai21_L0_1_h0_nx (x0 : Int) (x17 : Int) (x18 : Int) (x19 : Int) (x20 : Int) (s0 : ref07_tail_ai21_L0_1_s0) : ref07_tail_ai21_L0_1_S := .h1 ⟨⟩

def ref07_tail_ai21_L0_1_h1_sel (x0 : Int) (x17 : Int) (x18 : Int) (x19 : Int) (x20 : Int) (s0 : ref07_tail_ai21_L0_1_s1) : Bool := (bif tb (decide (1 < x0)) then (bif tb (decide (x18 < 1)) then false else (bif tb (decide (16 < x18)) then false else (bif tb (decide (x0 ≤ 1)) then (bif tb ((x18 : Int) != 0) then false else true) else true))) else (bif tb (decide (x0 ≤ 1)) then (bif tb ((x18 : Int) != 0) then false else true) else true))

def ref07_tail_ai21_L0_1_h1_nx (x0 : Int) (x17 : Int) (x18 : Int) (x19 : Int) (x20 : Int) (s0 : ref07_tail_ai21_L0_1_s1) : ref07_tail_ai21_L0_1_S := .h2 ⟨⟩

def ref07_tail_ai21_L0_1_h2_sel (x0 : Int) (x17 : Int) (x18 : Int) (x19 : Int) (x20 : Int) (s0 : ref07_tail_ai21_L0_1_s2) : Bool := (bif tb (decide (2 < x0)) then (bif tb (decide (x19 < 1)) then false else (bif tb (decide (16 < x19)) then false else (bif tb (decide (x0 ≤ 2)) then (bif tb ((x19 : Int) != 0) then false else true) else true))) else (bif tb (decide (x0 ≤ 2)) then (bif tb ((x19 : Int) != 0) then false else true) else true))

def ref07_tail_ai21_L0_1_h2_nx (x0 : Int) (x17 : Int) (x18 : Int) (x19 : Int) (x20 : Int) (s0 : ref07_tail_ai21_L0_1_s2) : ref07_tail_ai21_L0_1_S := .h3 ⟨⟩

def ref07_tail_ai21_L0_1_h3_sel (x0 : Int) (x17 : Int) (x18 : Int) (x19 : Int) (x20 : Int) (s0 : ref07_tail_ai21_L0_1_s3) : Bool := (bif tb (decide (3 < x0)) then (bif tb (decide (x20 < 1)) then false else (bif tb (decide (16 < x20)) then false else (bif tb (decide (x0 ≤ 3)) then (bif tb ((x20 : Int) != 0) then false else true) else true))) else (bif tb (decide (x0 ≤ 3)) then (bif tb ((x20 : Int) != 0) then false else true) else true))

def ref07_tail_ai21_L0_1_h3_nx (x0 : Int) (x17 : Int) (x18 : Int) (x19 : Int) (x20 : Int) (s0 : ref07_tail_ai21_L0_1_s3) : ref07_tail_ai21_L0_1_S := .h4 ⟨⟩

def ref07_tail_ai21_L0_1_h4_sel (x0 : Int) (x17 : Int) (x18 : Int) (x19 : Int) (x20 : Int) (s0 : ref07_tail_ai21_L0_1_s4) : Bool := false

def ref07_tail_ai21_L0_1_h4_nx (x0 : Int) (x17 : Int) (x18 : Int) (x19 : Int) (x20 : Int) (s0 : ref07_tail_ai21_L0_1_s4) : ref07_tail_ai21_L0_1_S := default

def ref07_tail_ai21_L0_1_sel (x0 : Int) (x17 : Int) (x18 : Int) (x19 : Int) (x20 : Int) : ref07_tail_ai21_L0_1_S → Bool
  | .h0 v => ref07_tail_ai21_L0_1_h0_sel x0 x17 x18 x19 x20 v
  | .h1 v => ref07_tail_ai21_L0_1_h1_sel x0 x17 x18 x19 x20 v
  | .h2 v => ref07_tail_ai21_L0_1_h2_sel x0 x17 x18 x19 x20 v
  | .h3 v => ref07_tail_ai21_L0_1_h3_sel x0 x17 x18 x19 x20 v
  | .h4 v => ref07_tail_ai21_L0_1_h4_sel x0 x17 x18 x19 x20 v

def ref07_tail_ai21_L0_1_nx (x0 : Int) (x17 : Int) (x18 : Int) (x19 : Int) (x20 : Int) : ref07_tail_ai21_L0_1_S → ref07_tail_ai21_L0_1_S
  | .h0 v => ref07_tail_ai21_L0_1_h0_nx x0 x17 x18 x19 x20 v
  | .h1 v => ref07_tail_ai21_L0_1_h1_nx x0 x17 x18 x19 x20 v
  | .h2 v => ref07_tail_ai21_L0_1_h2_nx x0 x17 x18 x19 x20 v
  | .h3 v => ref07_tail_ai21_L0_1_h3_nx x0 x17 x18 x19 x20 v
  | .h4 v => ref07_tail_ai21_L0_1_h4_nx x0 x17 x18 x19 x20 v

def ref07_tail_ai21_L0_1_ok (x0 : Int) (x17 : Int) (x18 : Int) (x19 : Int) (x20 : Int) (s0 : ref07_tail_ai21_L0_1_S) : Bool := (itS (ref07_tail_ai21_L0_1_sel x0 x17 x18 x19 x20) (ref07_tail_ai21_L0_1_nx x0 x17 x18 x19 x20) bound s0).isSome
def ref07_tail_ai21_L0_1_end (x0 : Int) (x17 : Int) (x18 : Int) (x19 : Int) (x20 : Int) (s0 : ref07_tail_ai21_L0_1_S) : ref07_tail_ai21_L0_1_S := (itS (ref07_tail_ai21_L0_1_sel x0 x17 x18 x19 x20) (ref07_tail_ai21_L0_1_nx x0 x17 x18 x19 x20) bound s0).getD default

theorem ref07_tail_ai21_L0_1_h0_go (x0 : Int) (x1 : Int) (x2 : Int) (x3 : Int) (x4 : Int) (x5 : Int) (x6 : Int) (x7 : Int) (x8 : Int) (x9 : Int) (x10 : Int) (x11 : Int) (x12 : Int) (x13 : Int) (x14 : Int) (x15 : Int) (x16 : Int) (x17 : Int) (x18 : Int) (x19 : Int) (x20 : Int) (x21 : Bool) (s0 : ref07_tail_ai21_L0_1_s0) : ref07_tail_ai21_L0_1_h0_sel x0 x17 x18 x19 x20 s0 = true → (roundG (runC E0 (cl E0) L75_0) [1, 3] [2] 1) (ref07_tail_ai21_L0_1_enc x0 x1 x2 x3 x4 x5 x6 x7 x8 x9 x10 x11 x12 x13 x14 x15 x16 x17 x18 x19 x20 x21 (.h0 s0)) = some (.normal, ref07_tail_ai21_L0_1_enc x0 x1 x2 x3 x4 x5 x6 x7 x8 x9 x10 x11 x12 x13 x14 x15 x16 x17 x18 x19 x20 x21 (ref07_tail_ai21_L0_1_h0_nx x0 x17 x18 x19 x20 s0)) := by
  unfold ref07_tail_ai21_L0_1_h0_sel ref07_tail_ai21_L0_1_h0_nx
  cases h1 : tb (decide (0 < x0))
  · cases h2 : tb (decide (x0 ≤ 0))
    · intro _
      exact round_walk [.k true, .b (tbE h1), .b (tbE h2)] (by kernel_rfl)
    · cases h3 : tb ((x17 : Int) != 0)
      · intro _
        exact round_walk [.k true, .b (tbE h1), .b (tbE h2), .b (tbE h3)] (by kernel_rfl)
      · intro g0
        exact absurd g0 ft
  · cases h2 : tb (decide (x17 < 1))
    · cases h3 : tb (decide (16 < x17))
      · cases h4 : tb (decide (x0 ≤ 0))
        · intro _
          exact round_walk [.k true, .b (tbE h1), .b (tbE h2), .b (tbE h3), .b (tbE h4)] (by kernel_rfl)
        · cases h5 : tb ((x17 : Int) != 0)
          · intro _
            exact round_walk [.k true, .b (tbE h1), .b (tbE h2), .b (tbE h3), .b (tbE h4), .b (tbE h5)] (by kernel_rfl)
          · intro g0
            exact absurd g0 ft
      · intro g0
        exact absurd g0 ft
    · intro g0
      exact absurd g0 ft

theorem ref07_tail_ai21_L0_1_h0_x0 (x0 : Int) (x1 : Int) (x2 : Int) (x3 : Int) (x4 : Int) (x5 : Int) (x6 : Int) (x7 : Int) (x8 : Int) (x9 : Int) (x10 : Int) (x11 : Int) (x12 : Int) (x13 : Int) (x14 : Int) (x15 : Int) (x16 : Int) (x17 : Int) (x18 : Int) (x19 : Int) (x20 : Int) (x21 : Bool) (s0 : ref07_tail_ai21_L0_1_s0) : ref07_tail_ai21_L0_1_h0_sel x0 x17 x18 x19 x20 s0 = false → (roundG (runC E0 (cl E0) L75_0) [1, 3] [2] 1) (ref07_tail_ai21_L0_1_enc x0 x1 x2 x3 x4 x5 x6 x7 x8 x9 x10 x11 x12 x13 x14 x15 x16 x17 x18 x19 x20 x21 (.h0 s0)) = some (.ret, ([(V.d (.str ⟨#[87, 101, 105, 103, 104, 116, 115]⟩))], [(Blk.flat 69 21 [[(.int .i64 x0), (.int .i64 x1), (.int .i64 x2), (.int .i64 x3), (.int .i64 x4), (.int .i64 x5), (.int .i64 x6), (.int .i64 x7), (.int .i64 x8), (.int .i64 x9), (.int .i64 x10), (.int .i64 x11), (.int .i64 x12), (.int .i64 x13), (.int .i64 x14), (.int .i64 x15), (.int .i64 x16), (.int .i64 x17), (.int .i64 x18), (.int .i64 x19), (.int .i64 x20)]] x21)])) := by
  unfold ref07_tail_ai21_L0_1_h0_sel
  cases h1 : tb (decide (0 < x0))
  · cases h2 : tb (decide (x0 ≤ 0))
    · intro g0
      exact absurd g0 tf
    · cases h3 : tb ((x17 : Int) != 0)
      · intro g0
        exact absurd g0 tf
      · intro g0
        exact round_walk [.k true, .b (tbE h1), .b (tbE h2), .b (tbE h3)] (by kernel_rfl)
  · cases h2 : tb (decide (x17 < 1))
    · cases h3 : tb (decide (16 < x17))
      · cases h4 : tb (decide (x0 ≤ 0))
        · intro g0
          exact absurd g0 tf
        · cases h5 : tb ((x17 : Int) != 0)
          · intro g0
            exact absurd g0 tf
          · intro g0
            exact round_walk [.k true, .b (tbE h1), .b (tbE h2), .b (tbE h3), .b (tbE h4), .b (tbE h5)] (by kernel_rfl)
      · intro g0
        exact round_walk [.k true, .b (tbE h1), .b (tbE h2), .b (tbE h3)] (by kernel_rfl)
    · intro g0
      exact round_walk [.k true, .b (tbE h1), .b (tbE h2)] (by kernel_rfl)

theorem ref07_tail_ai21_L0_1_h1_go (x0 : Int) (x1 : Int) (x2 : Int) (x3 : Int) (x4 : Int) (x5 : Int) (x6 : Int) (x7 : Int) (x8 : Int) (x9 : Int) (x10 : Int) (x11 : Int) (x12 : Int) (x13 : Int) (x14 : Int) (x15 : Int) (x16 : Int) (x17 : Int) (x18 : Int) (x19 : Int) (x20 : Int) (x21 : Bool) (s0 : ref07_tail_ai21_L0_1_s1) : ref07_tail_ai21_L0_1_h1_sel x0 x17 x18 x19 x20 s0 = true → (roundG (runC E0 (cl E0) L75_0) [1, 3] [2] 1) (ref07_tail_ai21_L0_1_enc x0 x1 x2 x3 x4 x5 x6 x7 x8 x9 x10 x11 x12 x13 x14 x15 x16 x17 x18 x19 x20 x21 (.h1 s0)) = some (.normal, ref07_tail_ai21_L0_1_enc x0 x1 x2 x3 x4 x5 x6 x7 x8 x9 x10 x11 x12 x13 x14 x15 x16 x17 x18 x19 x20 x21 (ref07_tail_ai21_L0_1_h1_nx x0 x17 x18 x19 x20 s0)) := by
  unfold ref07_tail_ai21_L0_1_h1_sel ref07_tail_ai21_L0_1_h1_nx
  cases h1 : tb (decide (1 < x0))
  · cases h2 : tb (decide (x0 ≤ 1))
    · intro _
      exact round_walk [.k true, .b (tbE h1), .b (tbE h2)] (by kernel_rfl)
    · cases h3 : tb ((x18 : Int) != 0)
      · intro _
        exact round_walk [.k true, .b (tbE h1), .b (tbE h2), .b (tbE h3)] (by kernel_rfl)
      · intro g0
        exact absurd g0 ft
  · cases h2 : tb (decide (x18 < 1))
    · cases h3 : tb (decide (16 < x18))
      · cases h4 : tb (decide (x0 ≤ 1))
        · intro _
          exact round_walk [.k true, .b (tbE h1), .b (tbE h2), .b (tbE h3), .b (tbE h4)] (by kernel_rfl)
        · cases h5 : tb ((x18 : Int) != 0)
          · intro _
            exact round_walk [.k true, .b (tbE h1), .b (tbE h2), .b (tbE h3), .b (tbE h4), .b (tbE h5)] (by kernel_rfl)
          · intro g0
            exact absurd g0 ft
      · intro g0
        exact absurd g0 ft
    · intro g0
      exact absurd g0 ft

theorem ref07_tail_ai21_L0_1_h1_x0 (x0 : Int) (x1 : Int) (x2 : Int) (x3 : Int) (x4 : Int) (x5 : Int) (x6 : Int) (x7 : Int) (x8 : Int) (x9 : Int) (x10 : Int) (x11 : Int) (x12 : Int) (x13 : Int) (x14 : Int) (x15 : Int) (x16 : Int) (x17 : Int) (x18 : Int) (x19 : Int) (x20 : Int) (x21 : Bool) (s0 : ref07_tail_ai21_L0_1_s1) : ref07_tail_ai21_L0_1_h1_sel x0 x17 x18 x19 x20 s0 = false → (roundG (runC E0 (cl E0) L75_0) [1, 3] [2] 1) (ref07_tail_ai21_L0_1_enc x0 x1 x2 x3 x4 x5 x6 x7 x8 x9 x10 x11 x12 x13 x14 x15 x16 x17 x18 x19 x20 x21 (.h1 s0)) = some (.ret, ([(V.d (.str ⟨#[87, 101, 105, 103, 104, 116, 115]⟩))], [(Blk.flat 69 21 [[(.int .i64 x0), (.int .i64 x1), (.int .i64 x2), (.int .i64 x3), (.int .i64 x4), (.int .i64 x5), (.int .i64 x6), (.int .i64 x7), (.int .i64 x8), (.int .i64 x9), (.int .i64 x10), (.int .i64 x11), (.int .i64 x12), (.int .i64 x13), (.int .i64 x14), (.int .i64 x15), (.int .i64 x16), (.int .i64 x17), (.int .i64 x18), (.int .i64 x19), (.int .i64 x20)]] x21)])) := by
  unfold ref07_tail_ai21_L0_1_h1_sel
  cases h1 : tb (decide (1 < x0))
  · cases h2 : tb (decide (x0 ≤ 1))
    · intro g0
      exact absurd g0 tf
    · cases h3 : tb ((x18 : Int) != 0)
      · intro g0
        exact absurd g0 tf
      · intro g0
        exact round_walk [.k true, .b (tbE h1), .b (tbE h2), .b (tbE h3)] (by kernel_rfl)
  · cases h2 : tb (decide (x18 < 1))
    · cases h3 : tb (decide (16 < x18))
      · cases h4 : tb (decide (x0 ≤ 1))
        · intro g0
          exact absurd g0 tf
        · cases h5 : tb ((x18 : Int) != 0)
          · intro g0
            exact absurd g0 tf
          · intro g0
            exact round_walk [.k true, .b (tbE h1), .b (tbE h2), .b (tbE h3), .b (tbE h4), .b (tbE h5)] (by kernel_rfl)
      · intro g0
        exact round_walk [.k true, .b (tbE h1), .b (tbE h2), .b (tbE h3)] (by kernel_rfl)
    · intro g0
      exact round_walk [.k true, .b (tbE h1), .b (tbE h2)] (by kernel_rfl)

theorem ref07_tail_ai21_L0_1_h2_go (x0 : Int) (x1 : Int) (x2 : Int) (x3 : Int) (x4 : Int) (x5 : Int) (x6 : Int) (x7 : Int) (x8 : Int) (x9 : Int) (x10 : Int) (x11 : Int) (x12 : Int) (x13 : Int) (x14 : Int) (x15 : Int) (x16 : Int) (x17 : Int) (x18 : Int) (x19 : Int) (x20 : Int) (x21 : Bool) (s0 : ref07_tail_ai21_L0_1_s2) : ref07_tail_ai21_L0_1_h2_sel x0 x17 x18 x19 x20 s0 = true → (roundG (runC E0 (cl E0) L75_0) [1, 3] [2] 1) (ref07_tail_ai21_L0_1_enc x0 x1 x2 x3 x4 x5 x6 x7 x8 x9 x10 x11 x12 x13 x14 x15 x16 x17 x18 x19 x20 x21 (.h2 s0)) = some (.normal, ref07_tail_ai21_L0_1_enc x0 x1 x2 x3 x4 x5 x6 x7 x8 x9 x10 x11 x12 x13 x14 x15 x16 x17 x18 x19 x20 x21 (ref07_tail_ai21_L0_1_h2_nx x0 x17 x18 x19 x20 s0)) := by
  unfold ref07_tail_ai21_L0_1_h2_sel ref07_tail_ai21_L0_1_h2_nx
  cases h1 : tb (decide (2 < x0))
  · cases h2 : tb (decide (x0 ≤ 2))
    · intro _
      exact round_walk [.k true, .b (tbE h1), .b (tbE h2)] (by kernel_rfl)
    · cases h3 : tb ((x19 : Int) != 0)
      · intro _
        exact round_walk [.k true, .b (tbE h1), .b (tbE h2), .b (tbE h3)] (by kernel_rfl)
      · intro g0
        exact absurd g0 ft
  · cases h2 : tb (decide (x19 < 1))
    · cases h3 : tb (decide (16 < x19))
      · cases h4 : tb (decide (x0 ≤ 2))
        · intro _
          exact round_walk [.k true, .b (tbE h1), .b (tbE h2), .b (tbE h3), .b (tbE h4)] (by kernel_rfl)
        · cases h5 : tb ((x19 : Int) != 0)
          · intro _
            exact round_walk [.k true, .b (tbE h1), .b (tbE h2), .b (tbE h3), .b (tbE h4), .b (tbE h5)] (by kernel_rfl)
          · intro g0
            exact absurd g0 ft
      · intro g0
        exact absurd g0 ft
    · intro g0
      exact absurd g0 ft

theorem ref07_tail_ai21_L0_1_h2_x0 (x0 : Int) (x1 : Int) (x2 : Int) (x3 : Int) (x4 : Int) (x5 : Int) (x6 : Int) (x7 : Int) (x8 : Int) (x9 : Int) (x10 : Int) (x11 : Int) (x12 : Int) (x13 : Int) (x14 : Int) (x15 : Int) (x16 : Int) (x17 : Int) (x18 : Int) (x19 : Int) (x20 : Int) (x21 : Bool) (s0 : ref07_tail_ai21_L0_1_s2) : ref07_tail_ai21_L0_1_h2_sel x0 x17 x18 x19 x20 s0 = false → (roundG (runC E0 (cl E0) L75_0) [1, 3] [2] 1) (ref07_tail_ai21_L0_1_enc x0 x1 x2 x3 x4 x5 x6 x7 x8 x9 x10 x11 x12 x13 x14 x15 x16 x17 x18 x19 x20 x21 (.h2 s0)) = some (.ret, ([(V.d (.str ⟨#[87, 101, 105, 103, 104, 116, 115]⟩))], [(Blk.flat 69 21 [[(.int .i64 x0), (.int .i64 x1), (.int .i64 x2), (.int .i64 x3), (.int .i64 x4), (.int .i64 x5), (.int .i64 x6), (.int .i64 x7), (.int .i64 x8), (.int .i64 x9), (.int .i64 x10), (.int .i64 x11), (.int .i64 x12), (.int .i64 x13), (.int .i64 x14), (.int .i64 x15), (.int .i64 x16), (.int .i64 x17), (.int .i64 x18), (.int .i64 x19), (.int .i64 x20)]] x21)])) := by
  unfold ref07_tail_ai21_L0_1_h2_sel
  cases h1 : tb (decide (2 < x0))
  · cases h2 : tb (decide (x0 ≤ 2))
    · intro g0
      exact absurd g0 tf
    · cases h3 : tb ((x19 : Int) != 0)
      · intro g0
        exact absurd g0 tf
      · intro g0
        exact round_walk [.k true, .b (tbE h1), .b (tbE h2), .b (tbE h3)] (by kernel_rfl)
  · cases h2 : tb (decide (x19 < 1))
    · cases h3 : tb (decide (16 < x19))
      · cases h4 : tb (decide (x0 ≤ 2))
        · intro g0
          exact absurd g0 tf
        · cases h5 : tb ((x19 : Int) != 0)
          · intro g0
            exact absurd g0 tf
          · intro g0
            exact round_walk [.k true, .b (tbE h1), .b (tbE h2), .b (tbE h3), .b (tbE h4), .b (tbE h5)] (by kernel_rfl)
      · intro g0
        exact round_walk [.k true, .b (tbE h1), .b (tbE h2), .b (tbE h3)] (by kernel_rfl)
    · intro g0
      exact round_walk [.k true, .b (tbE h1), .b (tbE h2)] (by kernel_rfl)

theorem ref07_tail_ai21_L0_1_h3_go (x0 : Int) (x1 : Int) (x2 : Int) (x3 : Int) (x4 : Int) (x5 : Int) (x6 : Int) (x7 : Int) (x8 : Int) (x9 : Int) (x10 : Int) (x11 : Int) (x12 : Int) (x13 : Int) (x14 : Int) (x15 : Int) (x16 : Int) (x17 : Int) (x18 : Int) (x19 : Int) (x20 : Int) (x21 : Bool) (s0 : ref07_tail_ai21_L0_1_s3) : ref07_tail_ai21_L0_1_h3_sel x0 x17 x18 x19 x20 s0 = true → (roundG (runC E0 (cl E0) L75_0) [1, 3] [2] 1) (ref07_tail_ai21_L0_1_enc x0 x1 x2 x3 x4 x5 x6 x7 x8 x9 x10 x11 x12 x13 x14 x15 x16 x17 x18 x19 x20 x21 (.h3 s0)) = some (.normal, ref07_tail_ai21_L0_1_enc x0 x1 x2 x3 x4 x5 x6 x7 x8 x9 x10 x11 x12 x13 x14 x15 x16 x17 x18 x19 x20 x21 (ref07_tail_ai21_L0_1_h3_nx x0 x17 x18 x19 x20 s0)) := by
  unfold ref07_tail_ai21_L0_1_h3_sel ref07_tail_ai21_L0_1_h3_nx
  cases h1 : tb (decide (3 < x0))
  · cases h2 : tb (decide (x0 ≤ 3))
    · intro _
      exact round_walk [.k true, .b (tbE h1), .b (tbE h2)] (by kernel_rfl)
    · cases h3 : tb ((x20 : Int) != 0)
      · intro _
        exact round_walk [.k true, .b (tbE h1), .b (tbE h2), .b (tbE h3)] (by kernel_rfl)
      · intro g0
        exact absurd g0 ft
  · cases h2 : tb (decide (x20 < 1))
    · cases h3 : tb (decide (16 < x20))
      · cases h4 : tb (decide (x0 ≤ 3))
        · intro _
          exact round_walk [.k true, .b (tbE h1), .b (tbE h2), .b (tbE h3), .b (tbE h4)] (by kernel_rfl)
        · cases h5 : tb ((x20 : Int) != 0)
          · intro _
            exact round_walk [.k true, .b (tbE h1), .b (tbE h2), .b (tbE h3), .b (tbE h4), .b (tbE h5)] (by kernel_rfl)
          · intro g0
            exact absurd g0 ft
      · intro g0
        exact absurd g0 ft
    · intro g0
      exact absurd g0 ft

theorem ref07_tail_ai21_L0_1_h3_x0 (x0 : Int) (x1 : Int) (x2 : Int) (x3 : Int) (x4 : Int) (x5 : Int) (x6 : Int) (x7 : Int) (x8 : Int) (x9 : Int) (x10 : Int) (x11 : Int) (x12 : Int) (x13 : Int) (x14 : Int) (x15 : Int) (x16 : Int) (x17 : Int) (x18 : Int) (x19 : Int) (x20 : Int) (x21 : Bool) (s0 : ref07_tail_ai21_L0_1_s3) : ref07_tail_ai21_L0_1_h3_sel x0 x17 x18 x19 x20 s0 = false → (roundG (runC E0 (cl E0) L75_0) [1, 3] [2] 1) (ref07_tail_ai21_L0_1_enc x0 x1 x2 x3 x4 x5 x6 x7 x8 x9 x10 x11 x12 x13 x14 x15 x16 x17 x18 x19 x20 x21 (.h3 s0)) = some (.ret, ([(V.d (.str ⟨#[87, 101, 105, 103, 104, 116, 115]⟩))], [(Blk.flat 69 21 [[(.int .i64 x0), (.int .i64 x1), (.int .i64 x2), (.int .i64 x3), (.int .i64 x4), (.int .i64 x5), (.int .i64 x6), (.int .i64 x7), (.int .i64 x8), (.int .i64 x9), (.int .i64 x10), (.int .i64 x11), (.int .i64 x12), (.int .i64 x13), (.int .i64 x14), (.int .i64 x15), (.int .i64 x16), (.int .i64 x17), (.int .i64 x18), (.int .i64 x19), (.int .i64 x20)]] x21)])) := by
  unfold ref07_tail_ai21_L0_1_h3_sel
  cases h1 : tb (decide (3 < x0))
  · cases h2 : tb (decide (x0 ≤ 3))
    · intro g0
      exact absurd g0 tf
    · cases h3 : tb ((x20 : Int) != 0)
      · intro g0
        exact absurd g0 tf
      · intro g0
        exact round_walk [.k true, .b (tbE h1), .b (tbE h2), .b (tbE h3)] (by kernel_rfl)
  · cases h2 : tb (decide (x20 < 1))
    · cases h3 : tb (decide (16 < x20))
      · cases h4 : tb (decide (x0 ≤ 3))
        · intro g0
          exact absurd g0 tf
        · cases h5 : tb ((x20 : Int) != 0)
          · intro g0
            exact absurd g0 tf
          · intro g0
            exact round_walk [.k true, .b (tbE h1), .b (tbE h2), .b (tbE h3), .b (tbE h4), .b (tbE h5)] (by kernel_rfl)
      · intro g0
        exact round_walk [.k true, .b (tbE h1), .b (tbE h2), .b (tbE h3)] (by kernel_rfl)
    · intro g0
      exact round_walk [.k true, .b (tbE h1), .b (tbE h2)] (by kernel_rfl)

theorem ref07_tail_ai21_L0_1_h4_go (x0 : Int) (x1 : Int) (x2 : Int) (x3 : Int) (x4 : Int) (x5 : Int) (x6 : Int) (x7 : Int) (x8 : Int) (x9 : Int) (x10 : Int) (x11 : Int) (x12 : Int) (x13 : Int) (x14 : Int) (x15 : Int) (x16 : Int) (x17 : Int) (x18 : Int) (x19 : Int) (x20 : Int) (x21 : Bool) (s0 : ref07_tail_ai21_L0_1_s4) : ref07_tail_ai21_L0_1_h4_sel x0 x17 x18 x19 x20 s0 = true → (roundG (runC E0 (cl E0) L75_0) [1, 3] [2] 1) (ref07_tail_ai21_L0_1_enc x0 x1 x2 x3 x4 x5 x6 x7 x8 x9 x10 x11 x12 x13 x14 x15 x16 x17 x18 x19 x20 x21 (.h4 s0)) = some (.normal, ref07_tail_ai21_L0_1_enc x0 x1 x2 x3 x4 x5 x6 x7 x8 x9 x10 x11 x12 x13 x14 x15 x16 x17 x18 x19 x20 x21 (ref07_tail_ai21_L0_1_h4_nx x0 x17 x18 x19 x20 s0)) := by
  unfold ref07_tail_ai21_L0_1_h4_sel ref07_tail_ai21_L0_1_h4_nx
  intro g0
  exact absurd g0 ft

theorem ref07_tail_ai21_L0_1_h4_x0 (x0 : Int) (x1 : Int) (x2 : Int) (x3 : Int) (x4 : Int) (x5 : Int) (x6 : Int) (x7 : Int) (x8 : Int) (x9 : Int) (x10 : Int) (x11 : Int) (x12 : Int) (x13 : Int) (x14 : Int) (x15 : Int) (x16 : Int) (x17 : Int) (x18 : Int) (x19 : Int) (x20 : Int) (x21 : Bool) (s0 : ref07_tail_ai21_L0_1_s4) : ref07_tail_ai21_L0_1_h4_sel x0 x17 x18 x19 x20 s0 = false → (roundG (runC E0 (cl E0) L75_0) [1, 3] [2] 1) (ref07_tail_ai21_L0_1_enc x0 x1 x2 x3 x4 x5 x6 x7 x8 x9 x10 x11 x12 x13 x14 x15 x16 x17 x18 x19 x20 x21 (.h4 s0)) = some ((.exit 0), ([V.un], [(Blk.flat 69 21 [[(.int .i64 x0), (.int .i64 x1), (.int .i64 x2), (.int .i64 x3), (.int .i64 x4), (.int .i64 x5), (.int .i64 x6), (.int .i64 x7), (.int .i64 x8), (.int .i64 x9), (.int .i64 x10), (.int .i64 x11), (.int .i64 x12), (.int .i64 x13), (.int .i64 x14), (.int .i64 x15), (.int .i64 x16), (.int .i64 x17), (.int .i64 x18), (.int .i64 x19), (.int .i64 x20)]] x21)])) := by
  unfold ref07_tail_ai21_L0_1_h4_sel
  intro g0
  exact round_walk [.k false] (by kernel_rfl)

theorem ref07_tail_ai21_L0_1_go (x0 : Int) (x1 : Int) (x2 : Int) (x3 : Int) (x4 : Int) (x5 : Int) (x6 : Int) (x7 : Int) (x8 : Int) (x9 : Int) (x10 : Int) (x11 : Int) (x12 : Int) (x13 : Int) (x14 : Int) (x15 : Int) (x16 : Int) (x17 : Int) (x18 : Int) (x19 : Int) (x20 : Int) (x21 : Bool) : ∀ s, ref07_tail_ai21_L0_1_sel x0 x17 x18 x19 x20 s = true → (roundG (runC E0 (cl E0) L75_0) [1, 3] [2] 1) (ref07_tail_ai21_L0_1_enc x0 x1 x2 x3 x4 x5 x6 x7 x8 x9 x10 x11 x12 x13 x14 x15 x16 x17 x18 x19 x20 x21 s) = some (.normal, ref07_tail_ai21_L0_1_enc x0 x1 x2 x3 x4 x5 x6 x7 x8 x9 x10 x11 x12 x13 x14 x15 x16 x17 x18 x19 x20 x21 (ref07_tail_ai21_L0_1_nx x0 x17 x18 x19 x20 s))
  | .h0 s0, h => ref07_tail_ai21_L0_1_h0_go x0 x1 x2 x3 x4 x5 x6 x7 x8 x9 x10 x11 x12 x13 x14 x15 x16 x17 x18 x19 x20 x21 s0 h
  | .h1 s0, h => ref07_tail_ai21_L0_1_h1_go x0 x1 x2 x3 x4 x5 x6 x7 x8 x9 x10 x11 x12 x13 x14 x15 x16 x17 x18 x19 x20 x21 s0 h
  | .h2 s0, h => ref07_tail_ai21_L0_1_h2_go x0 x1 x2 x3 x4 x5 x6 x7 x8 x9 x10 x11 x12 x13 x14 x15 x16 x17 x18 x19 x20 x21 s0 h
  | .h3 s0, h => ref07_tail_ai21_L0_1_h3_go x0 x1 x2 x3 x4 x5 x6 x7 x8 x9 x10 x11 x12 x13 x14 x15 x16 x17 x18 x19 x20 x21 s0 h
  | .h4 s0, h => ref07_tail_ai21_L0_1_h4_go x0 x1 x2 x3 x4 x5 x6 x7 x8 x9 x10 x11 x12 x13 x14 x15 x16 x17 x18 x19 x20 x21 s0 h

theorem ref07_tail_ai21_L0_1_f0_0 (x0 : Int) (x1 : Int) (x2 : Int) (x3 : Int) (x4 : Int) (x5 : Int) (x6 : Int) (x7 : Int) (x8 : Int) (x9 : Int) (x10 : Int) (x11 : Int) (x12 : Int) (x13 : Int) (x14 : Int) (x15 : Int) (x16 : Int) (x17 : Int) (x18 : Int) (x19 : Int) (x20 : Int) (x21 : Bool) (s : ref07_tail_ai21_L0_1_S) (hok : ref07_tail_ai21_L0_1_ok x0 x17 x18 x19 x20 s = true) (k0 : ref07_tail_ai21_L0_1_is0 (ref07_tail_ai21_L0_1_end x0 x17 x18 x19 x20 s) = true) : loopG (roundG (runC E0 (cl E0) L75_0) [1, 3] [2] 1) bound (ref07_tail_ai21_L0_1_enc x0 x1 x2 x3 x4 x5 x6 x7 x8 x9 x10 x11 x12 x13 x14 x15 x16 x17 x18 x19 x20 x21 s) = some (.ret, ([(V.d (.str ⟨#[87, 101, 105, 103, 104, 116, 115]⟩))], [(Blk.flat 69 21 [[(.int .i64 x0), (.int .i64 x1), (.int .i64 x2), (.int .i64 x3), (.int .i64 x4), (.int .i64 x5), (.int .i64 x6), (.int .i64 x7), (.int .i64 x8), (.int .i64 x9), (.int .i64 x10), (.int .i64 x11), (.int .i64 x12), (.int .i64 x13), (.int .i64 x14), (.int .i64 x15), (.int .i64 x16), (.int .i64 x17), (.int .i64 x18), (.int .i64 x19), (.int .i64 x20)]] x21)])) := by
  have e : itS (ref07_tail_ai21_L0_1_sel x0 x17 x18 x19 x20) (ref07_tail_ai21_L0_1_nx x0 x17 x18 x19 x20) bound s = some (ref07_tail_ai21_L0_1_end x0 x17 x18 x19 x20 s) := itS_get hok
  have f := itS_false e
  have a := ref07_tail_ai21_L0_1_at0 k0
  have g := ref07_tail_ai21_L0_1_h0_x0 x0 x1 x2 x3 x4 x5 x6 x7 x8 x9 x10 x11 x12 x13 x14 x15 x16 x17 x18 x19 x20 x21 (ref07_tail_ai21_L0_1_get0 (ref07_tail_ai21_L0_1_end x0 x17 x18 x19 x20 s)) (by rw [a] at f; exact f) 
  exact loop_it (ref07_tail_ai21_L0_1_go x0 x1 x2 x3 x4 x5 x6 x7 x8 x9 x10 x11 x12 x13 x14 x15 x16 x17 x18 x19 x20 x21) bound s _ _ _ e (fun h => by cases h) (by rw [a]; exact g)

theorem ref07_tail_ai21_L0_1_f1_0 (x0 : Int) (x1 : Int) (x2 : Int) (x3 : Int) (x4 : Int) (x5 : Int) (x6 : Int) (x7 : Int) (x8 : Int) (x9 : Int) (x10 : Int) (x11 : Int) (x12 : Int) (x13 : Int) (x14 : Int) (x15 : Int) (x16 : Int) (x17 : Int) (x18 : Int) (x19 : Int) (x20 : Int) (x21 : Bool) (s : ref07_tail_ai21_L0_1_S) (hok : ref07_tail_ai21_L0_1_ok x0 x17 x18 x19 x20 s = true) (k0 : ref07_tail_ai21_L0_1_is0 (ref07_tail_ai21_L0_1_end x0 x17 x18 x19 x20 s) = false) (k1 : ref07_tail_ai21_L0_1_is1 (ref07_tail_ai21_L0_1_end x0 x17 x18 x19 x20 s) = true) : loopG (roundG (runC E0 (cl E0) L75_0) [1, 3] [2] 1) bound (ref07_tail_ai21_L0_1_enc x0 x1 x2 x3 x4 x5 x6 x7 x8 x9 x10 x11 x12 x13 x14 x15 x16 x17 x18 x19 x20 x21 s) = some (.ret, ([(V.d (.str ⟨#[87, 101, 105, 103, 104, 116, 115]⟩))], [(Blk.flat 69 21 [[(.int .i64 x0), (.int .i64 x1), (.int .i64 x2), (.int .i64 x3), (.int .i64 x4), (.int .i64 x5), (.int .i64 x6), (.int .i64 x7), (.int .i64 x8), (.int .i64 x9), (.int .i64 x10), (.int .i64 x11), (.int .i64 x12), (.int .i64 x13), (.int .i64 x14), (.int .i64 x15), (.int .i64 x16), (.int .i64 x17), (.int .i64 x18), (.int .i64 x19), (.int .i64 x20)]] x21)])) := by
  have e : itS (ref07_tail_ai21_L0_1_sel x0 x17 x18 x19 x20) (ref07_tail_ai21_L0_1_nx x0 x17 x18 x19 x20) bound s = some (ref07_tail_ai21_L0_1_end x0 x17 x18 x19 x20 s) := itS_get hok
  have f := itS_false e
  have a := ref07_tail_ai21_L0_1_at1 k1
  have g := ref07_tail_ai21_L0_1_h1_x0 x0 x1 x2 x3 x4 x5 x6 x7 x8 x9 x10 x11 x12 x13 x14 x15 x16 x17 x18 x19 x20 x21 (ref07_tail_ai21_L0_1_get1 (ref07_tail_ai21_L0_1_end x0 x17 x18 x19 x20 s)) (by rw [a] at f; exact f) 
  exact loop_it (ref07_tail_ai21_L0_1_go x0 x1 x2 x3 x4 x5 x6 x7 x8 x9 x10 x11 x12 x13 x14 x15 x16 x17 x18 x19 x20 x21) bound s _ _ _ e (fun h => by cases h) (by rw [a]; exact g)

theorem ref07_tail_ai21_L0_1_f2_0 (x0 : Int) (x1 : Int) (x2 : Int) (x3 : Int) (x4 : Int) (x5 : Int) (x6 : Int) (x7 : Int) (x8 : Int) (x9 : Int) (x10 : Int) (x11 : Int) (x12 : Int) (x13 : Int) (x14 : Int) (x15 : Int) (x16 : Int) (x17 : Int) (x18 : Int) (x19 : Int) (x20 : Int) (x21 : Bool) (s : ref07_tail_ai21_L0_1_S) (hok : ref07_tail_ai21_L0_1_ok x0 x17 x18 x19 x20 s = true) (k0 : ref07_tail_ai21_L0_1_is0 (ref07_tail_ai21_L0_1_end x0 x17 x18 x19 x20 s) = false) (k1 : ref07_tail_ai21_L0_1_is1 (ref07_tail_ai21_L0_1_end x0 x17 x18 x19 x20 s) = false) (k2 : ref07_tail_ai21_L0_1_is2 (ref07_tail_ai21_L0_1_end x0 x17 x18 x19 x20 s) = true) : loopG (roundG (runC E0 (cl E0) L75_0) [1, 3] [2] 1) bound (ref07_tail_ai21_L0_1_enc x0 x1 x2 x3 x4 x5 x6 x7 x8 x9 x10 x11 x12 x13 x14 x15 x16 x17 x18 x19 x20 x21 s) = some (.ret, ([(V.d (.str ⟨#[87, 101, 105, 103, 104, 116, 115]⟩))], [(Blk.flat 69 21 [[(.int .i64 x0), (.int .i64 x1), (.int .i64 x2), (.int .i64 x3), (.int .i64 x4), (.int .i64 x5), (.int .i64 x6), (.int .i64 x7), (.int .i64 x8), (.int .i64 x9), (.int .i64 x10), (.int .i64 x11), (.int .i64 x12), (.int .i64 x13), (.int .i64 x14), (.int .i64 x15), (.int .i64 x16), (.int .i64 x17), (.int .i64 x18), (.int .i64 x19), (.int .i64 x20)]] x21)])) := by
  have e : itS (ref07_tail_ai21_L0_1_sel x0 x17 x18 x19 x20) (ref07_tail_ai21_L0_1_nx x0 x17 x18 x19 x20) bound s = some (ref07_tail_ai21_L0_1_end x0 x17 x18 x19 x20 s) := itS_get hok
  have f := itS_false e
  have a := ref07_tail_ai21_L0_1_at2 k2
  have g := ref07_tail_ai21_L0_1_h2_x0 x0 x1 x2 x3 x4 x5 x6 x7 x8 x9 x10 x11 x12 x13 x14 x15 x16 x17 x18 x19 x20 x21 (ref07_tail_ai21_L0_1_get2 (ref07_tail_ai21_L0_1_end x0 x17 x18 x19 x20 s)) (by rw [a] at f; exact f) 
  exact loop_it (ref07_tail_ai21_L0_1_go x0 x1 x2 x3 x4 x5 x6 x7 x8 x9 x10 x11 x12 x13 x14 x15 x16 x17 x18 x19 x20 x21) bound s _ _ _ e (fun h => by cases h) (by rw [a]; exact g)

theorem ref07_tail_ai21_L0_1_f3_0 (x0 : Int) (x1 : Int) (x2 : Int) (x3 : Int) (x4 : Int) (x5 : Int) (x6 : Int) (x7 : Int) (x8 : Int) (x9 : Int) (x10 : Int) (x11 : Int) (x12 : Int) (x13 : Int) (x14 : Int) (x15 : Int) (x16 : Int) (x17 : Int) (x18 : Int) (x19 : Int) (x20 : Int) (x21 : Bool) (s : ref07_tail_ai21_L0_1_S) (hok : ref07_tail_ai21_L0_1_ok x0 x17 x18 x19 x20 s = true) (k0 : ref07_tail_ai21_L0_1_is0 (ref07_tail_ai21_L0_1_end x0 x17 x18 x19 x20 s) = false) (k1 : ref07_tail_ai21_L0_1_is1 (ref07_tail_ai21_L0_1_end x0 x17 x18 x19 x20 s) = false) (k2 : ref07_tail_ai21_L0_1_is2 (ref07_tail_ai21_L0_1_end x0 x17 x18 x19 x20 s) = false) (k3 : ref07_tail_ai21_L0_1_is3 (ref07_tail_ai21_L0_1_end x0 x17 x18 x19 x20 s) = true) : loopG (roundG (runC E0 (cl E0) L75_0) [1, 3] [2] 1) bound (ref07_tail_ai21_L0_1_enc x0 x1 x2 x3 x4 x5 x6 x7 x8 x9 x10 x11 x12 x13 x14 x15 x16 x17 x18 x19 x20 x21 s) = some (.ret, ([(V.d (.str ⟨#[87, 101, 105, 103, 104, 116, 115]⟩))], [(Blk.flat 69 21 [[(.int .i64 x0), (.int .i64 x1), (.int .i64 x2), (.int .i64 x3), (.int .i64 x4), (.int .i64 x5), (.int .i64 x6), (.int .i64 x7), (.int .i64 x8), (.int .i64 x9), (.int .i64 x10), (.int .i64 x11), (.int .i64 x12), (.int .i64 x13), (.int .i64 x14), (.int .i64 x15), (.int .i64 x16), (.int .i64 x17), (.int .i64 x18), (.int .i64 x19), (.int .i64 x20)]] x21)])) := by
  have e : itS (ref07_tail_ai21_L0_1_sel x0 x17 x18 x19 x20) (ref07_tail_ai21_L0_1_nx x0 x17 x18 x19 x20) bound s = some (ref07_tail_ai21_L0_1_end x0 x17 x18 x19 x20 s) := itS_get hok
  have f := itS_false e
  have a := ref07_tail_ai21_L0_1_at3 k3
  have g := ref07_tail_ai21_L0_1_h3_x0 x0 x1 x2 x3 x4 x5 x6 x7 x8 x9 x10 x11 x12 x13 x14 x15 x16 x17 x18 x19 x20 x21 (ref07_tail_ai21_L0_1_get3 (ref07_tail_ai21_L0_1_end x0 x17 x18 x19 x20 s)) (by rw [a] at f; exact f) 
  exact loop_it (ref07_tail_ai21_L0_1_go x0 x1 x2 x3 x4 x5 x6 x7 x8 x9 x10 x11 x12 x13 x14 x15 x16 x17 x18 x19 x20 x21) bound s _ _ _ e (fun h => by cases h) (by rw [a]; exact g)

theorem ref07_tail_ai21_L0_1_f4_0 (x0 : Int) (x1 : Int) (x2 : Int) (x3 : Int) (x4 : Int) (x5 : Int) (x6 : Int) (x7 : Int) (x8 : Int) (x9 : Int) (x10 : Int) (x11 : Int) (x12 : Int) (x13 : Int) (x14 : Int) (x15 : Int) (x16 : Int) (x17 : Int) (x18 : Int) (x19 : Int) (x20 : Int) (x21 : Bool) (s : ref07_tail_ai21_L0_1_S) (hok : ref07_tail_ai21_L0_1_ok x0 x17 x18 x19 x20 s = true) (k0 : ref07_tail_ai21_L0_1_is0 (ref07_tail_ai21_L0_1_end x0 x17 x18 x19 x20 s) = false) (k1 : ref07_tail_ai21_L0_1_is1 (ref07_tail_ai21_L0_1_end x0 x17 x18 x19 x20 s) = false) (k2 : ref07_tail_ai21_L0_1_is2 (ref07_tail_ai21_L0_1_end x0 x17 x18 x19 x20 s) = false) (k3 : ref07_tail_ai21_L0_1_is3 (ref07_tail_ai21_L0_1_end x0 x17 x18 x19 x20 s) = false) : loopG (roundG (runC E0 (cl E0) L75_0) [1, 3] [2] 1) bound (ref07_tail_ai21_L0_1_enc x0 x1 x2 x3 x4 x5 x6 x7 x8 x9 x10 x11 x12 x13 x14 x15 x16 x17 x18 x19 x20 x21 s) = some ((.exit 0), ([V.un], [(Blk.flat 69 21 [[(.int .i64 x0), (.int .i64 x1), (.int .i64 x2), (.int .i64 x3), (.int .i64 x4), (.int .i64 x5), (.int .i64 x6), (.int .i64 x7), (.int .i64 x8), (.int .i64 x9), (.int .i64 x10), (.int .i64 x11), (.int .i64 x12), (.int .i64 x13), (.int .i64 x14), (.int .i64 x15), (.int .i64 x16), (.int .i64 x17), (.int .i64 x18), (.int .i64 x19), (.int .i64 x20)]] x21)])) := by
  have e : itS (ref07_tail_ai21_L0_1_sel x0 x17 x18 x19 x20) (ref07_tail_ai21_L0_1_nx x0 x17 x18 x19 x20) bound s = some (ref07_tail_ai21_L0_1_end x0 x17 x18 x19 x20 s) := itS_get hok
  have f := itS_false e
  have a : (ref07_tail_ai21_L0_1_end x0 x17 x18 x19 x20 s) = .h4 (ref07_tail_ai21_L0_1_get4 (ref07_tail_ai21_L0_1_end x0 x17 x18 x19 x20 s)) := by
    revert k0 k1 k2 k3
    cases (ref07_tail_ai21_L0_1_end x0 x17 x18 x19 x20 s) with
    | h0 w => intros; contradiction
    | h1 w => intros; contradiction
    | h2 w => intros; contradiction
    | h3 w => intros; contradiction
    | h4 w => intros; rfl
  have g := ref07_tail_ai21_L0_1_h4_x0 x0 x1 x2 x3 x4 x5 x6 x7 x8 x9 x10 x11 x12 x13 x14 x15 x16 x17 x18 x19 x20 x21 (ref07_tail_ai21_L0_1_get4 (ref07_tail_ai21_L0_1_end x0 x17 x18 x19 x20 s)) (by rw [a] at f; exact f) 
  exact loop_it (ref07_tail_ai21_L0_1_go x0 x1 x2 x3 x4 x5 x6 x7 x8 x9 x10 x11 x12 x13 x14 x15 x16 x17 x18 x19 x20 x21) bound s _ _ _ e (fun h => by cases h) (by rw [a]; exact g)

def ref07_tail_ai21_e0 (x0 : Int) (x17 : Int) (x18 : Int) (x19 : Int) (x20 : Int) : ref07_tail_ai21_L0_1_S := ref07_tail_ai21_L0_1_end x0 x17 x18 x19 x20 (.h0 ⟨⟩ : ref07_tail_ai21_L0_1_S)

def ref07_tail_ai21_e1 (x0 : Int) (x17 : Int) (x18 : Int) (x19 : Int) (x20 : Int) : ref07_tail_ai21_L0_1_s0 := ref07_tail_ai21_L0_1_get0 (ref07_tail_ai21_e0 x0 x17 x18 x19 x20)

def ref07_tail_ai21_e2 (x0 : Int) (x17 : Int) (x18 : Int) (x19 : Int) (x20 : Int) : ref07_tail_ai21_L0_1_s1 := ref07_tail_ai21_L0_1_get1 (ref07_tail_ai21_e0 x0 x17 x18 x19 x20)

def ref07_tail_ai21_e3 (x0 : Int) (x17 : Int) (x18 : Int) (x19 : Int) (x20 : Int) : ref07_tail_ai21_L0_1_s2 := ref07_tail_ai21_L0_1_get2 (ref07_tail_ai21_e0 x0 x17 x18 x19 x20)

def ref07_tail_ai21_e4 (x0 : Int) (x17 : Int) (x18 : Int) (x19 : Int) (x20 : Int) : ref07_tail_ai21_L0_1_s3 := ref07_tail_ai21_L0_1_get3 (ref07_tail_ai21_e0 x0 x17 x18 x19 x20)

def ref07_tail_ai21_e5 (x0 : Int) (x17 : Int) (x18 : Int) (x19 : Int) (x20 : Int) : ref07_tail_ai21_L0_1_s4 := ref07_tail_ai21_L0_1_get4 (ref07_tail_ai21_e0 x0 x17 x18 x19 x20)

def ref07_tail_ai21_c0 (x0 : Int) (x9 : Int) (x10 : Int) (x11 : Int) (x12 : Int) (x13 : Int) (x14 : Int) (x15 : Int) (x16 : Int) (x17 : Int) (x18 : Int) (x19 : Int) (x20 : Int) : Bool := (bif tb (ref07_count_i_r0_0 x9) then (bif tb (ref07_count_i_r0_0 x10) then (bif tb (decide (x11 < 0)) then true else (bif tb (decide (8 < x11)) then true else (bif tb (ref07_count_i_r0_0 x12) then (bif tb (decide (x13 < 1)) then true else (bif tb (decide (100 < x13)) then true else (bif tb (decide (x14 < 1)) then true else (bif tb (decide (1000 < x14)) then true else (bif tb (decide (x15 < 0)) then true else (bif tb (decide (10 < x15)) then true else (bif tb (decide (x16 < 1)) then true else (bif tb (decide (8 < x16)) then true else (bif tb (ref07_tail_ai21_L0_1_ok x0 x17 x18 x19 x20 (.h0 ⟨⟩ : ref07_tail_ai21_L0_1_S)) then true else false))))))))) else true))) else true) else true)

def ref07_tail_ai21_r0_0 (x0 : Int) (x9 : Int) (x10 : Int) (x11 : Int) (x12 : Int) (x13 : Int) (x14 : Int) (x15 : Int) (x16 : Int) (x17 : Int) (x18 : Int) (x19 : Int) (x20 : Int) : ByteArray := (bif tb (ref07_count_i_r0_0 x9) then (bif tb (ref07_count_i_r0_0 x10) then (bif tb (decide (x11 < 0)) then ⟨#[71, 97, 105, 110]⟩ else (bif tb (decide (8 < x11)) then ⟨#[71, 97, 105, 110]⟩ else (bif tb (ref07_count_i_r0_0 x12) then (bif tb (decide (x13 < 1)) then ⟨#[76, 97, 116, 99, 104]⟩ else (bif tb (decide (100 < x13)) then ⟨#[76, 97, 116, 99, 104]⟩ else (bif tb (decide (x14 < 1)) then ⟨#[67, 108, 101, 97, 110]⟩ else (bif tb (decide (1000 < x14)) then ⟨#[67, 108, 101, 97, 110]⟩ else (bif tb (decide (x15 < 0)) then ⟨#[66, 117, 100, 103, 101, 116]⟩ else (bif tb (decide (10 < x15)) then ⟨#[66, 117, 100, 103, 101, 116]⟩ else (bif tb (decide (x16 < 1)) then ⟨#[76, 105, 109, 105, 116]⟩ else (bif tb (decide (8 < x16)) then ⟨#[76, 105, 109, 105, 116]⟩ else (bif tb (ref07_tail_ai21_L0_1_is0 (ref07_tail_ai21_e0 x0 x17 x18 x19 x20)) then ⟨#[87, 101, 105, 103, 104, 116, 115]⟩ else (bif tb (ref07_tail_ai21_L0_1_is1 (ref07_tail_ai21_e0 x0 x17 x18 x19 x20)) then ⟨#[87, 101, 105, 103, 104, 116, 115]⟩ else (bif tb (ref07_tail_ai21_L0_1_is2 (ref07_tail_ai21_e0 x0 x17 x18 x19 x20)) then ⟨#[87, 101, 105, 103, 104, 116, 115]⟩ else (bif tb (ref07_tail_ai21_L0_1_is3 (ref07_tail_ai21_e0 x0 x17 x18 x19 x20)) then ⟨#[87, 101, 105, 103, 104, 116, 115]⟩ else ⟨#[]⟩)))))))))))) else ⟨#[67, 108, 105, 112]⟩))) else ⟨#[65, 117, 116, 104]⟩) else ⟨#[77, 105, 115]⟩)

theorem ref07_tail_ai21_t0 (x0 : Int) (x1 : Int) (x2 : Int) (x3 : Int) (x4 : Int) (x5 : Int) (x6 : Int) (x7 : Int) (x8 : Int) (x9 : Int) (x10 : Int) (x11 : Int) (x12 : Int) (x13 : Int) (x14 : Int) (x15 : Int) (x16 : Int) (x17 : Int) (x18 : Int) (x19 : Int) (x20 : Int) : ref07_tail_ai21_c0 x0 x9 x10 x11 x12 x13 x14 x15 x16 x17 x18 x19 x20 = true → cl E0 75 [(V.agg [(V.d (.int .i64 x0)), (V.d (.int .i64 x1)), (V.d (.int .i64 x2)), (V.d (.int .i64 x3)), (V.d (.int .i64 x4)), (V.d (.int .i64 x5)), (V.d (.int .i64 x6)), (V.d (.int .i64 x7)), (V.d (.int .i64 x8)), (V.d (.int .i64 x9)), (V.d (.int .i64 x10)), (V.d (.int .i64 x11)), (V.d (.int .i64 x12)), (V.d (.int .i64 x13)), (V.d (.int .i64 x14)), (V.d (.int .i64 x15)), (V.d (.int .i64 x16)), (V.d (.int .i64 x17)), (V.d (.int .i64 x18)), (V.d (.int .i64 x19)), (V.d (.int .i64 x20))])] [] = some ([(V.d (.str (ref07_tail_ai21_r0_0 x0 x9 x10 x11 x12 x13 x14 x15 x16 x17 x18 x19 x20)))], []) := by
  unfold ref07_tail_ai21_c0 ref07_tail_ai21_r0_0
  cases h1 : tb (ref07_count_i_r0_0 x9)
  · intro g0
    exact w75 [.c (ref07_count_i_t0 x9), .b (notF (tbE h1))] (by kernel_rfl)
  · cases h2 : tb (ref07_count_i_r0_0 x10)
    · intro g0
      exact w75 [.c (ref07_count_i_t0 x9), .b (notT (tbE h1)), .c (ref07_count_i_t0 x10), .b (notF (tbE h2))] (by kernel_rfl)
    · cases h3 : tb (decide (x11 < 0))
      · cases h4 : tb (decide (8 < x11))
        · cases h5 : tb (ref07_count_i_r0_0 x12)
          · intro g0
            exact w75 [.c (ref07_count_i_t0 x9), .b (notT (tbE h1)), .c (ref07_count_i_t0 x10), .b (notT (tbE h2)), .b (tbE h3), .b (tbE h4), .c (ref07_count_i_t0 x12), .b (notF (tbE h5))] (by kernel_rfl)
          · cases h6 : tb (decide (x13 < 1))
            · cases h7 : tb (decide (100 < x13))
              · cases h8 : tb (decide (x14 < 1))
                · cases h9 : tb (decide (1000 < x14))
                  · cases h10 : tb (decide (x15 < 0))
                    · cases h11 : tb (decide (10 < x15))
                      · cases h12 : tb (decide (x16 < 1))
                        · cases h13 : tb (decide (8 < x16))
                          · cases h14 : tb (ref07_tail_ai21_L0_1_ok x0 x17 x18 x19 x20 (.h0 ⟨⟩ : ref07_tail_ai21_L0_1_S))
                            · intro g0
                              exact absurd g0 ft
                            · cases h15 : tb (ref07_tail_ai21_L0_1_is0 (ref07_tail_ai21_e0 x0 x17 x18 x19 x20))
                              · cases h16 : tb (ref07_tail_ai21_L0_1_is1 (ref07_tail_ai21_e0 x0 x17 x18 x19 x20))
                                · cases h17 : tb (ref07_tail_ai21_L0_1_is2 (ref07_tail_ai21_e0 x0 x17 x18 x19 x20))
                                  · cases h18 : tb (ref07_tail_ai21_L0_1_is3 (ref07_tail_ai21_e0 x0 x17 x18 x19 x20))
                                    · intro g0
                                      exact w75 [.c (ref07_count_i_t0 x9), .b (notT (tbE h1)), .c (ref07_count_i_t0 x10), .b (notT (tbE h2)), .b (tbE h3), .b (tbE h4), .c (ref07_count_i_t0 x12), .b (notT (tbE h5)), .b (tbE h6), .b (tbE h7), .b (tbE h8), .b (tbE h9), .b (tbE h10), .b (tbE h11), .b (tbE h12), .b (tbE h13), .l (ref07_tail_ai21_L0_1_f4_0 x0 x1 x2 x3 x4 x5 x6 x7 x8 x9 x10 x11 x12 x13 x14 x15 x16 x17 x18 x19 x20 false (.h0 ⟨⟩ : ref07_tail_ai21_L0_1_S) (tbE h14) (tbE h15) (tbE h16) (tbE h17) (tbE h18))] (by kernel_rfl)
                                    · intro g0
                                      exact w75 [.c (ref07_count_i_t0 x9), .b (notT (tbE h1)), .c (ref07_count_i_t0 x10), .b (notT (tbE h2)), .b (tbE h3), .b (tbE h4), .c (ref07_count_i_t0 x12), .b (notT (tbE h5)), .b (tbE h6), .b (tbE h7), .b (tbE h8), .b (tbE h9), .b (tbE h10), .b (tbE h11), .b (tbE h12), .b (tbE h13), .l (ref07_tail_ai21_L0_1_f3_0 x0 x1 x2 x3 x4 x5 x6 x7 x8 x9 x10 x11 x12 x13 x14 x15 x16 x17 x18 x19 x20 false (.h0 ⟨⟩ : ref07_tail_ai21_L0_1_S) (tbE h14) (tbE h15) (tbE h16) (tbE h17) (tbE h18))] (by kernel_rfl)
                                  · intro g0
                                    exact w75 [.c (ref07_count_i_t0 x9), .b (notT (tbE h1)), .c (ref07_count_i_t0 x10), .b (notT (tbE h2)), .b (tbE h3), .b (tbE h4), .c (ref07_count_i_t0 x12), .b (notT (tbE h5)), .b (tbE h6), .b (tbE h7), .b (tbE h8), .b (tbE h9), .b (tbE h10), .b (tbE h11), .b (tbE h12), .b (tbE h13), .l (ref07_tail_ai21_L0_1_f2_0 x0 x1 x2 x3 x4 x5 x6 x7 x8 x9 x10 x11 x12 x13 x14 x15 x16 x17 x18 x19 x20 false (.h0 ⟨⟩ : ref07_tail_ai21_L0_1_S) (tbE h14) (tbE h15) (tbE h16) (tbE h17))] (by kernel_rfl)
                                · intro g0
                                  exact w75 [.c (ref07_count_i_t0 x9), .b (notT (tbE h1)), .c (ref07_count_i_t0 x10), .b (notT (tbE h2)), .b (tbE h3), .b (tbE h4), .c (ref07_count_i_t0 x12), .b (notT (tbE h5)), .b (tbE h6), .b (tbE h7), .b (tbE h8), .b (tbE h9), .b (tbE h10), .b (tbE h11), .b (tbE h12), .b (tbE h13), .l (ref07_tail_ai21_L0_1_f1_0 x0 x1 x2 x3 x4 x5 x6 x7 x8 x9 x10 x11 x12 x13 x14 x15 x16 x17 x18 x19 x20 false (.h0 ⟨⟩ : ref07_tail_ai21_L0_1_S) (tbE h14) (tbE h15) (tbE h16))] (by kernel_rfl)
                              · intro g0
                                exact w75 [.c (ref07_count_i_t0 x9), .b (notT (tbE h1)), .c (ref07_count_i_t0 x10), .b (notT (tbE h2)), .b (tbE h3), .b (tbE h4), .c (ref07_count_i_t0 x12), .b (notT (tbE h5)), .b (tbE h6), .b (tbE h7), .b (tbE h8), .b (tbE h9), .b (tbE h10), .b (tbE h11), .b (tbE h12), .b (tbE h13), .l (ref07_tail_ai21_L0_1_f0_0 x0 x1 x2 x3 x4 x5 x6 x7 x8 x9 x10 x11 x12 x13 x14 x15 x16 x17 x18 x19 x20 false (.h0 ⟨⟩ : ref07_tail_ai21_L0_1_S) (tbE h14) (tbE h15))] (by kernel_rfl)
                          · intro g0
                            exact w75 [.c (ref07_count_i_t0 x9), .b (notT (tbE h1)), .c (ref07_count_i_t0 x10), .b (notT (tbE h2)), .b (tbE h3), .b (tbE h4), .c (ref07_count_i_t0 x12), .b (notT (tbE h5)), .b (tbE h6), .b (tbE h7), .b (tbE h8), .b (tbE h9), .b (tbE h10), .b (tbE h11), .b (tbE h12), .b (tbE h13)] (by kernel_rfl)
                        · intro g0
                          exact w75 [.c (ref07_count_i_t0 x9), .b (notT (tbE h1)), .c (ref07_count_i_t0 x10), .b (notT (tbE h2)), .b (tbE h3), .b (tbE h4), .c (ref07_count_i_t0 x12), .b (notT (tbE h5)), .b (tbE h6), .b (tbE h7), .b (tbE h8), .b (tbE h9), .b (tbE h10), .b (tbE h11), .b (tbE h12)] (by kernel_rfl)
                      · intro g0
                        exact w75 [.c (ref07_count_i_t0 x9), .b (notT (tbE h1)), .c (ref07_count_i_t0 x10), .b (notT (tbE h2)), .b (tbE h3), .b (tbE h4), .c (ref07_count_i_t0 x12), .b (notT (tbE h5)), .b (tbE h6), .b (tbE h7), .b (tbE h8), .b (tbE h9), .b (tbE h10), .b (tbE h11)] (by kernel_rfl)
                    · intro g0
                      exact w75 [.c (ref07_count_i_t0 x9), .b (notT (tbE h1)), .c (ref07_count_i_t0 x10), .b (notT (tbE h2)), .b (tbE h3), .b (tbE h4), .c (ref07_count_i_t0 x12), .b (notT (tbE h5)), .b (tbE h6), .b (tbE h7), .b (tbE h8), .b (tbE h9), .b (tbE h10)] (by kernel_rfl)
                  · intro g0
                    exact w75 [.c (ref07_count_i_t0 x9), .b (notT (tbE h1)), .c (ref07_count_i_t0 x10), .b (notT (tbE h2)), .b (tbE h3), .b (tbE h4), .c (ref07_count_i_t0 x12), .b (notT (tbE h5)), .b (tbE h6), .b (tbE h7), .b (tbE h8), .b (tbE h9)] (by kernel_rfl)
                · intro g0
                  exact w75 [.c (ref07_count_i_t0 x9), .b (notT (tbE h1)), .c (ref07_count_i_t0 x10), .b (notT (tbE h2)), .b (tbE h3), .b (tbE h4), .c (ref07_count_i_t0 x12), .b (notT (tbE h5)), .b (tbE h6), .b (tbE h7), .b (tbE h8)] (by kernel_rfl)
              · intro g0
                exact w75 [.c (ref07_count_i_t0 x9), .b (notT (tbE h1)), .c (ref07_count_i_t0 x10), .b (notT (tbE h2)), .b (tbE h3), .b (tbE h4), .c (ref07_count_i_t0 x12), .b (notT (tbE h5)), .b (tbE h6), .b (tbE h7)] (by kernel_rfl)
            · intro g0
              exact w75 [.c (ref07_count_i_t0 x9), .b (notT (tbE h1)), .c (ref07_count_i_t0 x10), .b (notT (tbE h2)), .b (tbE h3), .b (tbE h4), .c (ref07_count_i_t0 x12), .b (notT (tbE h5)), .b (tbE h6)] (by kernel_rfl)
        · intro g0
          exact w75 [.c (ref07_count_i_t0 x9), .b (notT (tbE h1)), .c (ref07_count_i_t0 x10), .b (notT (tbE h2)), .b (tbE h3), .b (tbE h4)] (by kernel_rfl)
      · intro g0
        exact w75 [.c (ref07_count_i_t0 x9), .b (notT (tbE h1)), .c (ref07_count_i_t0 x10), .b (notT (tbE h2)), .b (tbE h3)] (by kernel_rfl)

def ref07_Fault_ai21_c0 (x0 : Int) (x1 : Int) (x2 : Int) (x3 : Int) (x4 : Int) (x5 : Int) (x6 : Int) (x7 : Int) (x8 : Int) (x9 : Int) (x10 : Int) (x11 : Int) (x12 : Int) (x13 : Int) (x14 : Int) (x15 : Int) (x16 : Int) (x17 : Int) (x18 : Int) (x19 : Int) (x20 : Int) : Bool := (bif tb ((x0 : Int) != 3) then (bif tb ((x0 : Int) != 4) then true else (bif tb (ref07_small_i_r0_0 x1) then (bif tb (ref07_small_i_r0_0 x2) then (bif tb (decide (x2 < x1)) then true else (bif tb (decide (x3 < x1)) then true else (bif tb (decide (x2 < x3)) then true else (bif tb (ref07_count_i_r0_0 x4) then (bif tb (ref07_count_i_r0_0 x5) then (bif tb (decide (x6 < 2)) then true else (bif tb (decide (16 < x6)) then true else (bif tb (ref07_count_i_r0_0 x7) then (bif tb (decide (x8 < 0)) then true else (bif tb (decide (8 < x8)) then true else (bif tb (ref07_tail_ai21_c0 x0 x9 x10 x11 x12 x13 x14 x15 x16 x17 x18 x19 x20) then true else false))) else true))) else true) else true)))) else true) else true)) else (bif tb (ref07_small_i_r0_0 x1) then (bif tb (ref07_small_i_r0_0 x2) then (bif tb (decide (x2 < x1)) then true else (bif tb (decide (x3 < x1)) then true else (bif tb (decide (x2 < x3)) then true else (bif tb (ref07_count_i_r0_0 x4) then (bif tb (ref07_count_i_r0_0 x5) then (bif tb (decide (x6 < 2)) then true else (bif tb (decide (16 < x6)) then true else (bif tb (ref07_count_i_r0_0 x7) then (bif tb (decide (x8 < 0)) then true else (bif tb (decide (8 < x8)) then true else (bif tb (ref07_tail_ai21_c0 x0 x9 x10 x11 x12 x13 x14 x15 x16 x17 x18 x19 x20) then true else false))) else true))) else true) else true)))) else true) else true))

def ref07_Fault_ai21_r0_0 (x0 : Int) (x1 : Int) (x2 : Int) (x3 : Int) (x4 : Int) (x5 : Int) (x6 : Int) (x7 : Int) (x8 : Int) (x9 : Int) (x10 : Int) (x11 : Int) (x12 : Int) (x13 : Int) (x14 : Int) (x15 : Int) (x16 : Int) (x17 : Int) (x18 : Int) (x19 : Int) (x20 : Int) : ByteArray := (bif tb ((x0 : Int) != 3) then (bif tb ((x0 : Int) != 4) then ⟨#[78]⟩ else (bif tb (ref07_small_i_r0_0 x1) then (bif tb (ref07_small_i_r0_0 x2) then (bif tb (decide (x2 < x1)) then ⟨#[72, 105]⟩ else (bif tb (decide (x3 < x1)) then ⟨#[83, 97, 102, 101]⟩ else (bif tb (decide (x2 < x3)) then ⟨#[83, 97, 102, 101]⟩ else (bif tb (ref07_count_i_r0_0 x4) then (bif tb (ref07_count_i_r0_0 x5) then (bif tb (decide (x6 < 2)) then ⟨#[87, 105, 110, 100, 111, 119]⟩ else (bif tb (decide (16 < x6)) then ⟨#[87, 105, 110, 100, 111, 119]⟩ else (bif tb (ref07_count_i_r0_0 x7) then (bif tb (decide (x8 < 0)) then ⟨#[76, 97, 103]⟩ else (bif tb (decide (8 < x8)) then ⟨#[76, 97, 103]⟩ else (ref07_tail_ai21_r0_0 x0 x9 x10 x11 x12 x13 x14 x15 x16 x17 x18 x19 x20))) else ⟨#[68, 114, 105, 102, 116]⟩))) else ⟨#[83, 116, 117, 99, 107]⟩) else ⟨#[83, 116, 101, 112]⟩)))) else ⟨#[72, 105]⟩) else ⟨#[76, 111]⟩)) else (bif tb (ref07_small_i_r0_0 x1) then (bif tb (ref07_small_i_r0_0 x2) then (bif tb (decide (x2 < x1)) then ⟨#[72, 105]⟩ else (bif tb (decide (x3 < x1)) then ⟨#[83, 97, 102, 101]⟩ else (bif tb (decide (x2 < x3)) then ⟨#[83, 97, 102, 101]⟩ else (bif tb (ref07_count_i_r0_0 x4) then (bif tb (ref07_count_i_r0_0 x5) then (bif tb (decide (x6 < 2)) then ⟨#[87, 105, 110, 100, 111, 119]⟩ else (bif tb (decide (16 < x6)) then ⟨#[87, 105, 110, 100, 111, 119]⟩ else (bif tb (ref07_count_i_r0_0 x7) then (bif tb (decide (x8 < 0)) then ⟨#[76, 97, 103]⟩ else (bif tb (decide (8 < x8)) then ⟨#[76, 97, 103]⟩ else (ref07_tail_ai21_r0_0 x0 x9 x10 x11 x12 x13 x14 x15 x16 x17 x18 x19 x20))) else ⟨#[68, 114, 105, 102, 116]⟩))) else ⟨#[83, 116, 117, 99, 107]⟩) else ⟨#[83, 116, 101, 112]⟩)))) else ⟨#[72, 105]⟩) else ⟨#[76, 111]⟩))

theorem ref07_Fault_ai21_t0 (x0 : Int) (x1 : Int) (x2 : Int) (x3 : Int) (x4 : Int) (x5 : Int) (x6 : Int) (x7 : Int) (x8 : Int) (x9 : Int) (x10 : Int) (x11 : Int) (x12 : Int) (x13 : Int) (x14 : Int) (x15 : Int) (x16 : Int) (x17 : Int) (x18 : Int) (x19 : Int) (x20 : Int) : ref07_Fault_ai21_c0 x0 x1 x2 x3 x4 x5 x6 x7 x8 x9 x10 x11 x12 x13 x14 x15 x16 x17 x18 x19 x20 = true → cl E0 46 [(V.agg [(V.d (.int .i64 x0)), (V.d (.int .i64 x1)), (V.d (.int .i64 x2)), (V.d (.int .i64 x3)), (V.d (.int .i64 x4)), (V.d (.int .i64 x5)), (V.d (.int .i64 x6)), (V.d (.int .i64 x7)), (V.d (.int .i64 x8)), (V.d (.int .i64 x9)), (V.d (.int .i64 x10)), (V.d (.int .i64 x11)), (V.d (.int .i64 x12)), (V.d (.int .i64 x13)), (V.d (.int .i64 x14)), (V.d (.int .i64 x15)), (V.d (.int .i64 x16)), (V.d (.int .i64 x17)), (V.d (.int .i64 x18)), (V.d (.int .i64 x19)), (V.d (.int .i64 x20))])] [] = some ([(V.d (.str (ref07_Fault_ai21_r0_0 x0 x1 x2 x3 x4 x5 x6 x7 x8 x9 x10 x11 x12 x13 x14 x15 x16 x17 x18 x19 x20)))], []) := by
  unfold ref07_Fault_ai21_c0 ref07_Fault_ai21_r0_0
  cases h1 : tb ((x0 : Int) != 3)
  · cases h2 : tb (ref07_small_i_r0_0 x1)
    · intro g0
      exact w46 [.b (tbE h1), .c (ref07_small_i_t0 x1), .b (notF (tbE h2))] (by kernel_rfl)
    · cases h3 : tb (ref07_small_i_r0_0 x2)
      · intro g0
        exact w46 [.b (tbE h1), .c (ref07_small_i_t0 x1), .b (notT (tbE h2)), .c (ref07_small_i_t0 x2), .b (notF (tbE h3))] (by kernel_rfl)
      · cases h4 : tb (decide (x2 < x1))
        · cases h5 : tb (decide (x3 < x1))
          · cases h6 : tb (decide (x2 < x3))
            · cases h7 : tb (ref07_count_i_r0_0 x4)
              · intro g0
                exact w46 [.b (tbE h1), .c (ref07_small_i_t0 x1), .b (notT (tbE h2)), .c (ref07_small_i_t0 x2), .b (notT (tbE h3)), .b (tbE h4), .b (tbE h5), .b (tbE h6), .c (ref07_count_i_t0 x4), .b (notF (tbE h7))] (by kernel_rfl)
              · cases h8 : tb (ref07_count_i_r0_0 x5)
                · intro g0
                  exact w46 [.b (tbE h1), .c (ref07_small_i_t0 x1), .b (notT (tbE h2)), .c (ref07_small_i_t0 x2), .b (notT (tbE h3)), .b (tbE h4), .b (tbE h5), .b (tbE h6), .c (ref07_count_i_t0 x4), .b (notT (tbE h7)), .c (ref07_count_i_t0 x5), .b (notF (tbE h8))] (by kernel_rfl)
                · cases h9 : tb (decide (x6 < 2))
                  · cases h10 : tb (decide (16 < x6))
                    · cases h11 : tb (ref07_count_i_r0_0 x7)
                      · intro g0
                        exact w46 [.b (tbE h1), .c (ref07_small_i_t0 x1), .b (notT (tbE h2)), .c (ref07_small_i_t0 x2), .b (notT (tbE h3)), .b (tbE h4), .b (tbE h5), .b (tbE h6), .c (ref07_count_i_t0 x4), .b (notT (tbE h7)), .c (ref07_count_i_t0 x5), .b (notT (tbE h8)), .b (tbE h9), .b (tbE h10), .c (ref07_count_i_t0 x7), .b (notF (tbE h11))] (by kernel_rfl)
                      · cases h12 : tb (decide (x8 < 0))
                        · cases h13 : tb (decide (8 < x8))
                          · cases h14 : tb (ref07_tail_ai21_c0 x0 x9 x10 x11 x12 x13 x14 x15 x16 x17 x18 x19 x20)
                            · intro g0
                              exact absurd g0 ft
                            · intro g0
                              exact w46 [.b (tbE h1), .c (ref07_small_i_t0 x1), .b (notT (tbE h2)), .c (ref07_small_i_t0 x2), .b (notT (tbE h3)), .b (tbE h4), .b (tbE h5), .b (tbE h6), .c (ref07_count_i_t0 x4), .b (notT (tbE h7)), .c (ref07_count_i_t0 x5), .b (notT (tbE h8)), .b (tbE h9), .b (tbE h10), .c (ref07_count_i_t0 x7), .b (notT (tbE h11)), .b (tbE h12), .b (tbE h13), .c (ref07_tail_ai21_t0 x0 x1 x2 x3 x4 x5 x6 x7 x8 x9 x10 x11 x12 x13 x14 x15 x16 x17 x18 x19 x20 (tbE h14))] (by kernel_rfl)
                          · intro g0
                            exact w46 [.b (tbE h1), .c (ref07_small_i_t0 x1), .b (notT (tbE h2)), .c (ref07_small_i_t0 x2), .b (notT (tbE h3)), .b (tbE h4), .b (tbE h5), .b (tbE h6), .c (ref07_count_i_t0 x4), .b (notT (tbE h7)), .c (ref07_count_i_t0 x5), .b (notT (tbE h8)), .b (tbE h9), .b (tbE h10), .c (ref07_count_i_t0 x7), .b (notT (tbE h11)), .b (tbE h12), .b (tbE h13)] (by kernel_rfl)
                        · intro g0
                          exact w46 [.b (tbE h1), .c (ref07_small_i_t0 x1), .b (notT (tbE h2)), .c (ref07_small_i_t0 x2), .b (notT (tbE h3)), .b (tbE h4), .b (tbE h5), .b (tbE h6), .c (ref07_count_i_t0 x4), .b (notT (tbE h7)), .c (ref07_count_i_t0 x5), .b (notT (tbE h8)), .b (tbE h9), .b (tbE h10), .c (ref07_count_i_t0 x7), .b (notT (tbE h11)), .b (tbE h12)] (by kernel_rfl)
                    · intro g0
                      exact w46 [.b (tbE h1), .c (ref07_small_i_t0 x1), .b (notT (tbE h2)), .c (ref07_small_i_t0 x2), .b (notT (tbE h3)), .b (tbE h4), .b (tbE h5), .b (tbE h6), .c (ref07_count_i_t0 x4), .b (notT (tbE h7)), .c (ref07_count_i_t0 x5), .b (notT (tbE h8)), .b (tbE h9), .b (tbE h10)] (by kernel_rfl)
                  · intro g0
                    exact w46 [.b (tbE h1), .c (ref07_small_i_t0 x1), .b (notT (tbE h2)), .c (ref07_small_i_t0 x2), .b (notT (tbE h3)), .b (tbE h4), .b (tbE h5), .b (tbE h6), .c (ref07_count_i_t0 x4), .b (notT (tbE h7)), .c (ref07_count_i_t0 x5), .b (notT (tbE h8)), .b (tbE h9)] (by kernel_rfl)
            · intro g0
              exact w46 [.b (tbE h1), .c (ref07_small_i_t0 x1), .b (notT (tbE h2)), .c (ref07_small_i_t0 x2), .b (notT (tbE h3)), .b (tbE h4), .b (tbE h5), .b (tbE h6)] (by kernel_rfl)
          · intro g0
            exact w46 [.b (tbE h1), .c (ref07_small_i_t0 x1), .b (notT (tbE h2)), .c (ref07_small_i_t0 x2), .b (notT (tbE h3)), .b (tbE h4), .b (tbE h5)] (by kernel_rfl)
        · intro g0
          exact w46 [.b (tbE h1), .c (ref07_small_i_t0 x1), .b (notT (tbE h2)), .c (ref07_small_i_t0 x2), .b (notT (tbE h3)), .b (tbE h4)] (by kernel_rfl)
  · cases h2 : tb ((x0 : Int) != 4)
    · cases h3 : tb (ref07_small_i_r0_0 x1)
      · intro g0
        exact w46 [.b (tbE h1), .b (tbE h2), .c (ref07_small_i_t0 x1), .b (notF (tbE h3))] (by kernel_rfl)
      · cases h4 : tb (ref07_small_i_r0_0 x2)
        · intro g0
          exact w46 [.b (tbE h1), .b (tbE h2), .c (ref07_small_i_t0 x1), .b (notT (tbE h3)), .c (ref07_small_i_t0 x2), .b (notF (tbE h4))] (by kernel_rfl)
        · cases h5 : tb (decide (x2 < x1))
          · cases h6 : tb (decide (x3 < x1))
            · cases h7 : tb (decide (x2 < x3))
              · cases h8 : tb (ref07_count_i_r0_0 x4)
                · intro g0
                  exact w46 [.b (tbE h1), .b (tbE h2), .c (ref07_small_i_t0 x1), .b (notT (tbE h3)), .c (ref07_small_i_t0 x2), .b (notT (tbE h4)), .b (tbE h5), .b (tbE h6), .b (tbE h7), .c (ref07_count_i_t0 x4), .b (notF (tbE h8))] (by kernel_rfl)
                · cases h9 : tb (ref07_count_i_r0_0 x5)
                  · intro g0
                    exact w46 [.b (tbE h1), .b (tbE h2), .c (ref07_small_i_t0 x1), .b (notT (tbE h3)), .c (ref07_small_i_t0 x2), .b (notT (tbE h4)), .b (tbE h5), .b (tbE h6), .b (tbE h7), .c (ref07_count_i_t0 x4), .b (notT (tbE h8)), .c (ref07_count_i_t0 x5), .b (notF (tbE h9))] (by kernel_rfl)
                  · cases h10 : tb (decide (x6 < 2))
                    · cases h11 : tb (decide (16 < x6))
                      · cases h12 : tb (ref07_count_i_r0_0 x7)
                        · intro g0
                          exact w46 [.b (tbE h1), .b (tbE h2), .c (ref07_small_i_t0 x1), .b (notT (tbE h3)), .c (ref07_small_i_t0 x2), .b (notT (tbE h4)), .b (tbE h5), .b (tbE h6), .b (tbE h7), .c (ref07_count_i_t0 x4), .b (notT (tbE h8)), .c (ref07_count_i_t0 x5), .b (notT (tbE h9)), .b (tbE h10), .b (tbE h11), .c (ref07_count_i_t0 x7), .b (notF (tbE h12))] (by kernel_rfl)
                        · cases h13 : tb (decide (x8 < 0))
                          · cases h14 : tb (decide (8 < x8))
                            · cases h15 : tb (ref07_tail_ai21_c0 x0 x9 x10 x11 x12 x13 x14 x15 x16 x17 x18 x19 x20)
                              · intro g0
                                exact absurd g0 ft
                              · intro g0
                                exact w46 [.b (tbE h1), .b (tbE h2), .c (ref07_small_i_t0 x1), .b (notT (tbE h3)), .c (ref07_small_i_t0 x2), .b (notT (tbE h4)), .b (tbE h5), .b (tbE h6), .b (tbE h7), .c (ref07_count_i_t0 x4), .b (notT (tbE h8)), .c (ref07_count_i_t0 x5), .b (notT (tbE h9)), .b (tbE h10), .b (tbE h11), .c (ref07_count_i_t0 x7), .b (notT (tbE h12)), .b (tbE h13), .b (tbE h14), .c (ref07_tail_ai21_t0 x0 x1 x2 x3 x4 x5 x6 x7 x8 x9 x10 x11 x12 x13 x14 x15 x16 x17 x18 x19 x20 (tbE h15))] (by kernel_rfl)
                            · intro g0
                              exact w46 [.b (tbE h1), .b (tbE h2), .c (ref07_small_i_t0 x1), .b (notT (tbE h3)), .c (ref07_small_i_t0 x2), .b (notT (tbE h4)), .b (tbE h5), .b (tbE h6), .b (tbE h7), .c (ref07_count_i_t0 x4), .b (notT (tbE h8)), .c (ref07_count_i_t0 x5), .b (notT (tbE h9)), .b (tbE h10), .b (tbE h11), .c (ref07_count_i_t0 x7), .b (notT (tbE h12)), .b (tbE h13), .b (tbE h14)] (by kernel_rfl)
                          · intro g0
                            exact w46 [.b (tbE h1), .b (tbE h2), .c (ref07_small_i_t0 x1), .b (notT (tbE h3)), .c (ref07_small_i_t0 x2), .b (notT (tbE h4)), .b (tbE h5), .b (tbE h6), .b (tbE h7), .c (ref07_count_i_t0 x4), .b (notT (tbE h8)), .c (ref07_count_i_t0 x5), .b (notT (tbE h9)), .b (tbE h10), .b (tbE h11), .c (ref07_count_i_t0 x7), .b (notT (tbE h12)), .b (tbE h13)] (by kernel_rfl)
                      · intro g0
                        exact w46 [.b (tbE h1), .b (tbE h2), .c (ref07_small_i_t0 x1), .b (notT (tbE h3)), .c (ref07_small_i_t0 x2), .b (notT (tbE h4)), .b (tbE h5), .b (tbE h6), .b (tbE h7), .c (ref07_count_i_t0 x4), .b (notT (tbE h8)), .c (ref07_count_i_t0 x5), .b (notT (tbE h9)), .b (tbE h10), .b (tbE h11)] (by kernel_rfl)
                    · intro g0
                      exact w46 [.b (tbE h1), .b (tbE h2), .c (ref07_small_i_t0 x1), .b (notT (tbE h3)), .c (ref07_small_i_t0 x2), .b (notT (tbE h4)), .b (tbE h5), .b (tbE h6), .b (tbE h7), .c (ref07_count_i_t0 x4), .b (notT (tbE h8)), .c (ref07_count_i_t0 x5), .b (notT (tbE h9)), .b (tbE h10)] (by kernel_rfl)
              · intro g0
                exact w46 [.b (tbE h1), .b (tbE h2), .c (ref07_small_i_t0 x1), .b (notT (tbE h3)), .c (ref07_small_i_t0 x2), .b (notT (tbE h4)), .b (tbE h5), .b (tbE h6), .b (tbE h7)] (by kernel_rfl)
            · intro g0
              exact w46 [.b (tbE h1), .b (tbE h2), .c (ref07_small_i_t0 x1), .b (notT (tbE h3)), .c (ref07_small_i_t0 x2), .b (notT (tbE h4)), .b (tbE h5), .b (tbE h6)] (by kernel_rfl)
          · intro g0
            exact w46 [.b (tbE h1), .b (tbE h2), .c (ref07_small_i_t0 x1), .b (notT (tbE h3)), .c (ref07_small_i_t0 x2), .b (notT (tbE h4)), .b (tbE h5)] (by kernel_rfl)
    · intro g0
      exact w46 [.b (tbE h1), .b (tbE h2)] (by kernel_rfl)

def ref07_Right_ai21_c0 (x0 : Int) (x1 : Int) (x2 : Int) (x3 : Int) (x4 : Int) (x5 : Int) (x6 : Int) (x7 : Int) (x8 : Int) (x9 : Int) (x10 : Int) (x11 : Int) (x12 : Int) (x13 : Int) (x14 : Int) (x15 : Int) (x16 : Int) (x17 : Int) (x18 : Int) (x19 : Int) (x20 : Int) : Bool := (bif tb (ref07_Fault_ai21_c0 x0 x1 x2 x3 x4 x5 x6 x7 x8 x9 x10 x11 x12 x13 x14 x15 x16 x17 x18 x19 x20) then true else false)

theorem ref07_Right_ai21_t0 (x0 : Int) (x1 : Int) (x2 : Int) (x3 : Int) (x4 : Int) (x5 : Int) (x6 : Int) (x7 : Int) (x8 : Int) (x9 : Int) (x10 : Int) (x11 : Int) (x12 : Int) (x13 : Int) (x14 : Int) (x15 : Int) (x16 : Int) (x17 : Int) (x18 : Int) (x19 : Int) (x20 : Int) : ref07_Right_ai21_c0 x0 x1 x2 x3 x4 x5 x6 x7 x8 x9 x10 x11 x12 x13 x14 x15 x16 x17 x18 x19 x20 = true → cl E0 48 [(V.agg [(V.d (.int .i64 x0)), (V.d (.int .i64 x1)), (V.d (.int .i64 x2)), (V.d (.int .i64 x3)), (V.d (.int .i64 x4)), (V.d (.int .i64 x5)), (V.d (.int .i64 x6)), (V.d (.int .i64 x7)), (V.d (.int .i64 x8)), (V.d (.int .i64 x9)), (V.d (.int .i64 x10)), (V.d (.int .i64 x11)), (V.d (.int .i64 x12)), (V.d (.int .i64 x13)), (V.d (.int .i64 x14)), (V.d (.int .i64 x15)), (V.d (.int .i64 x16)), (V.d (.int .i64 x17)), (V.d (.int .i64 x18)), (V.d (.int .i64 x19)), (V.d (.int .i64 x20))])] [] = some ([(V.d (.bool ((ref07_Fault_ai21_r0_0 x0 x1 x2 x3 x4 x5 x6 x7 x8 x9 x10 x11 x12 x13 x14 x15 x16 x17 x18 x19 x20).toList == (⟨#[]⟩ : ByteArray).toList)))], []) := by
  unfold ref07_Right_ai21_c0
  cases h1 : tb (ref07_Fault_ai21_c0 x0 x1 x2 x3 x4 x5 x6 x7 x8 x9 x10 x11 x12 x13 x14 x15 x16 x17 x18 x19 x20)
  · intro g0
    exact absurd g0 ft
  · intro g0
    exact w48 [.c (ref07_Fault_ai21_t0 x0 x1 x2 x3 x4 x5 x6 x7 x8 x9 x10 x11 x12 x13 x14 x15 x16 x17 x18 x19 x20 (tbE h1))] (by kernel_rfl)

def ref07_Covers_ai21ii_e0 (x10 : Int) (x12 : Int) (x21 : Int) : Int := wi ((wi ((wi (4 * x21)) + (wi (2 * x10)))) + (wi (2 * x12)))

def ref07_Covers_ai21ii_c0 (x0 : Int) (x1 : Int) (x2 : Int) (x3 : Int) (x4 : Int) (x5 : Int) (x6 : Int) (x7 : Int) (x8 : Int) (x9 : Int) (x10 : Int) (x11 : Int) (x12 : Int) (x13 : Int) (x14 : Int) (x15 : Int) (x16 : Int) (x17 : Int) (x18 : Int) (x19 : Int) (x20 : Int) : Bool := (bif tb (ref07_Right_ai21_c0 x0 x1 x2 x3 x4 x5 x6 x7 x8 x9 x10 x11 x12 x13 x14 x15 x16 x17 x18 x19 x20) then true else false)

def ref07_Covers_ai21ii_r0_0 (x0 : Int) (x1 : Int) (x2 : Int) (x3 : Int) (x4 : Int) (x5 : Int) (x6 : Int) (x7 : Int) (x8 : Int) (x9 : Int) (x10 : Int) (x11 : Int) (x12 : Int) (x13 : Int) (x14 : Int) (x15 : Int) (x16 : Int) (x17 : Int) (x18 : Int) (x19 : Int) (x20 : Int) (x21 : Int) (x22 : Int) : Bool := (bif tb ((ref07_Fault_ai21_r0_0 x0 x1 x2 x3 x4 x5 x6 x7 x8 x9 x10 x11 x12 x13 x14 x15 x16 x17 x18 x19 x20).toList == (⟨#[]⟩ : ByteArray).toList) then (bif tb (decide (x21 < 0)) then false else (bif tb (decide (1073741824 < x21)) then false else (bif tb (decide (x22 < 0)) then false else (bif tb (decide (1073741824 < x22)) then false else (bif tb (decide ((wi ((wi ((wi (2 * x21)) + (wi (2 * x10)))) + x12)) ≤ x9)) then (bif tb (decide ((wi (x22 + (wi (2 * x21)))) ≤ x4)) then (bif tb (decide ((wi (2 * x21)) ≤ x7)) then (bif tb (decide ((ref07_Covers_ai21ii_e0 x10 x12 x21) ≤ x5)) then (decide ((wi (2 * x21)) ≤ (wi (x2 - x1)))) else false) else false) else false) else false))))) else false)

theorem ref07_Covers_ai21ii_t0 (x0 : Int) (x1 : Int) (x2 : Int) (x3 : Int) (x4 : Int) (x5 : Int) (x6 : Int) (x7 : Int) (x8 : Int) (x9 : Int) (x10 : Int) (x11 : Int) (x12 : Int) (x13 : Int) (x14 : Int) (x15 : Int) (x16 : Int) (x17 : Int) (x18 : Int) (x19 : Int) (x20 : Int) (x21 : Int) (x22 : Int) : ref07_Covers_ai21ii_c0 x0 x1 x2 x3 x4 x5 x6 x7 x8 x9 x10 x11 x12 x13 x14 x15 x16 x17 x18 x19 x20 = true → cl E0 50 [(V.agg [(V.d (.int .i64 x0)), (V.d (.int .i64 x1)), (V.d (.int .i64 x2)), (V.d (.int .i64 x3)), (V.d (.int .i64 x4)), (V.d (.int .i64 x5)), (V.d (.int .i64 x6)), (V.d (.int .i64 x7)), (V.d (.int .i64 x8)), (V.d (.int .i64 x9)), (V.d (.int .i64 x10)), (V.d (.int .i64 x11)), (V.d (.int .i64 x12)), (V.d (.int .i64 x13)), (V.d (.int .i64 x14)), (V.d (.int .i64 x15)), (V.d (.int .i64 x16)), (V.d (.int .i64 x17)), (V.d (.int .i64 x18)), (V.d (.int .i64 x19)), (V.d (.int .i64 x20))]), (V.d (.int .i64 x21)), (V.d (.int .i64 x22))] [] = some ([(V.d (.bool (ref07_Covers_ai21ii_r0_0 x0 x1 x2 x3 x4 x5 x6 x7 x8 x9 x10 x11 x12 x13 x14 x15 x16 x17 x18 x19 x20 x21 x22)))], []) := by
  unfold ref07_Covers_ai21ii_c0 ref07_Covers_ai21ii_r0_0
  cases h1 : tb (ref07_Right_ai21_c0 x0 x1 x2 x3 x4 x5 x6 x7 x8 x9 x10 x11 x12 x13 x14 x15 x16 x17 x18 x19 x20)
  · intro g0
    exact absurd g0 ft
  · cases h2 : tb ((ref07_Fault_ai21_r0_0 x0 x1 x2 x3 x4 x5 x6 x7 x8 x9 x10 x11 x12 x13 x14 x15 x16 x17 x18 x19 x20).toList == (⟨#[]⟩ : ByteArray).toList)
    · intro g0
      exact w50 [.c (ref07_Right_ai21_t0 x0 x1 x2 x3 x4 x5 x6 x7 x8 x9 x10 x11 x12 x13 x14 x15 x16 x17 x18 x19 x20 (tbE h1)), .b (notF (tbE h2))] (by kernel_rfl)
    · cases h3 : tb (decide (x21 < 0))
      · cases h4 : tb (decide (1073741824 < x21))
        · cases h5 : tb (decide (x22 < 0))
          · cases h6 : tb (decide (1073741824 < x22))
            · cases h7 : tb (decide ((wi ((wi ((wi (2 * x21)) + (wi (2 * x10)))) + x12)) ≤ x9))
              · intro g0
                exact w50 [.c (ref07_Right_ai21_t0 x0 x1 x2 x3 x4 x5 x6 x7 x8 x9 x10 x11 x12 x13 x14 x15 x16 x17 x18 x19 x20 (tbE h1)), .b (notT (tbE h2)), .b (tbE h3), .b (tbE h4), .b (tbE h5), .b (tbE h6), .b (tbE h7)] (by kernel_rfl)
              · cases h8 : tb (decide ((wi (x22 + (wi (2 * x21)))) ≤ x4))
                · intro g0
                  exact w50 [.c (ref07_Right_ai21_t0 x0 x1 x2 x3 x4 x5 x6 x7 x8 x9 x10 x11 x12 x13 x14 x15 x16 x17 x18 x19 x20 (tbE h1)), .b (notT (tbE h2)), .b (tbE h3), .b (tbE h4), .b (tbE h5), .b (tbE h6), .b (tbE h7), .b (tbE h8)] (by kernel_rfl)
                · cases h9 : tb (decide ((wi (2 * x21)) ≤ x7))
                  · intro g0
                    exact w50 [.c (ref07_Right_ai21_t0 x0 x1 x2 x3 x4 x5 x6 x7 x8 x9 x10 x11 x12 x13 x14 x15 x16 x17 x18 x19 x20 (tbE h1)), .b (notT (tbE h2)), .b (tbE h3), .b (tbE h4), .b (tbE h5), .b (tbE h6), .b (tbE h7), .b (tbE h8), .b (tbE h9)] (by kernel_rfl)
                  · cases h10 : tb (decide ((ref07_Covers_ai21ii_e0 x10 x12 x21) ≤ x5))
                    · intro g0
                      exact w50 [.c (ref07_Right_ai21_t0 x0 x1 x2 x3 x4 x5 x6 x7 x8 x9 x10 x11 x12 x13 x14 x15 x16 x17 x18 x19 x20 (tbE h1)), .b (notT (tbE h2)), .b (tbE h3), .b (tbE h4), .b (tbE h5), .b (tbE h6), .b (tbE h7), .b (tbE h8), .b (tbE h9), .b (tbE h10)] (by kernel_rfl)
                    · intro g0
                      exact w50 [.c (ref07_Right_ai21_t0 x0 x1 x2 x3 x4 x5 x6 x7 x8 x9 x10 x11 x12 x13 x14 x15 x16 x17 x18 x19 x20 (tbE h1)), .b (notT (tbE h2)), .b (tbE h3), .b (tbE h4), .b (tbE h5), .b (tbE h6), .b (tbE h7), .b (tbE h8), .b (tbE h9), .b (tbE h10)] (by kernel_rfl)
            · intro g0
              exact w50 [.c (ref07_Right_ai21_t0 x0 x1 x2 x3 x4 x5 x6 x7 x8 x9 x10 x11 x12 x13 x14 x15 x16 x17 x18 x19 x20 (tbE h1)), .b (notT (tbE h2)), .b (tbE h3), .b (tbE h4), .b (tbE h5), .b (tbE h6)] (by kernel_rfl)
          · intro g0
            exact w50 [.c (ref07_Right_ai21_t0 x0 x1 x2 x3 x4 x5 x6 x7 x8 x9 x10 x11 x12 x13 x14 x15 x16 x17 x18 x19 x20 (tbE h1)), .b (notT (tbE h2)), .b (tbE h3), .b (tbE h4), .b (tbE h5)] (by kernel_rfl)
        · intro g0
          exact w50 [.c (ref07_Right_ai21_t0 x0 x1 x2 x3 x4 x5 x6 x7 x8 x9 x10 x11 x12 x13 x14 x15 x16 x17 x18 x19 x20 (tbE h1)), .b (notT (tbE h2)), .b (tbE h3), .b (tbE h4)] (by kernel_rfl)
      · intro g0
        exact w50 [.c (ref07_Right_ai21_t0 x0 x1 x2 x3 x4 x5 x6 x7 x8 x9 x10 x11 x12 x13 x14 x15 x16 x17 x18 x19 x20 (tbE h1)), .b (notT (tbE h2)), .b (tbE h3)] (by kernel_rfl)

end Go.Proofs.Ytgalchmjpfmemaa.Den

/- A type's data, opened cell by cell. -/
namespace Go.Proofs.Ytgalchmjpfmemaa.Den
open Go
set_option linter.unusedVariables false
set_option linter.unusedSimpArgs false

inductive CK where
  | b
  | i (k : IntKind)
  | s
  | l (e : TypeId)

def flatK (P : Program) : Nat → TypeId → Option (List CK)
  | 0, _ => none
  | n + 1, t => match P.underlying t with
    | some .bool => some [.b]
    | some (.int k) => some [.i k]
    | some .string => some [.s]
    | some (.slice e) => some [.l e]
    | some (.struct fs) => (fs.toList.mapM fun f => flatK P n f.type).map List.flatten
    | some (.array m e) => (flatK P n e).map fun l => (List.replicate m l).flatten
    | _ => none

def WfI (k : IntKind) (z : Int) : Prop := (Lit.int k z).wf = true

def CellK (P : Program) : CK → D → Prop
  | .b, d => ∃ b, d = .bool b
  | .i k, d => ∃ z, d = .int k z ∧ WfI k z
  | .s, d => ∃ s, d = .str s ∧ s.size ≤ maxLen
  | .l e, d => d = .nils ∨ ∃ rows, d = .rs (isFlat P e) (P.cellsOf e) rows false ∧ rows.length ≤ maxLen ∧ ∃ n, ∀ r, r ∈ rows → Ty P n e r

def CellsK (P : Program) : List CK → List D → Prop
  | [], ds => ds = []
  | k :: ks, ds => ∃ d r, ds = d :: r ∧ CellK P k d ∧ CellsK P ks r

theorem CellsK.append {P : Program} : ∀ {a b : List CK} {x y : List D}, CellsK P a x → CellsK P b y → CellsK P (a ++ b) (x ++ y)
  | [], _, _, _, h, h' => by simp only [CellsK] at h; subst h; simpa using h'
  | k :: a, b, x, y, h, h' => by
    simp only [CellsK] at h
    obtain ⟨d, r, rfl, h1, h2⟩ := h
    simp only [List.cons_append, CellsK]
    exact ⟨d, _, rfl, h1, CellsK.append h2 h'⟩

theorem flatK_fs {P : Program} {n : Nat} (ih : ∀ t ks ds, flatK P n t = some ks → Ty P n t ds → CellsK P ks ds) : ∀ (fs : List Field) (l : List (List CK)) (ds : List D), fs.mapM (fun f => flatK P n f.type) = some l → TyFs (Ty P n) fs ds → CellsK P l.flatten ds
  | [], l, ds, h, ht => by
    simp at h; subst h
    obtain rfl := tyfs_nil ht
    simp [CellsK]
  | f :: fs, l, ds, h, ht => by
    rw [List.mapM_cons] at h
    simp only [Option.bind_eq_bind, Option.bind_eq_some_iff, Option.pure_def, Option.some.injEq] at h
    obtain ⟨a, h1, b, h2, rfl⟩ := h
    obtain ⟨x, y, rfl, g1, g2⟩ := tyfs_cons ht
    simp only [List.flatten_cons]
    exact (ih _ _ _ h1 g1).append (flatK_fs ih fs b y h2 g2)

theorem flatK_ok {P : Program} : ∀ (n : Nat) (t : TypeId) (ks : List CK) (ds : List D), flatK P n t = some ks → Ty P n t ds → CellsK P ks ds
  | 0, _, _, _, h, _ => by simp [flatK] at h
  | n + 1, t, ks, ds, h, ht => by
    simp only [flatK] at h
    cases hu : P.underlying t with
    | none => simp [hu] at h
    | some u =>
      rw [hu] at h
      cases u with
      | bool => cases h; obtain ⟨b, rfl⟩ := ty_bool ht hu; exact ⟨_, [], rfl, ⟨b, rfl⟩, rfl⟩
      | int k => cases h; obtain ⟨z, rfl, hz⟩ := ty_int ht hu; exact ⟨_, [], rfl, ⟨z, rfl, hz⟩, rfl⟩
      | string => cases h; obtain ⟨z, rfl, hz⟩ := ty_str ht hu; exact ⟨_, [], rfl, ⟨z, rfl, hz⟩, rfl⟩
      | slice e =>
        cases h
        rcases ty_slice ht hu with rfl | ⟨rows, rfl, h1, h2⟩
        · exact ⟨_, [], rfl, .inl rfl, rfl⟩
        · exact ⟨_, [], rfl, .inr ⟨rows, rfl, h1, n, h2⟩, rfl⟩
      | struct fs =>
        obtain ⟨l, hl, rfl⟩ := Option.map_eq_some_iff.1 h
        exact flatK_fs (fun t ks ds => flatK_ok n t ks ds) fs.toList l ds hl (ty_struct ht hu)
      | array m e =>
        obtain ⟨l, hl, rfl⟩ := Option.map_eq_some_iff.1 h
        obtain ⟨rows, hr, rfl, hall⟩ := ty_arr ht hu
        have key : ∀ (rows : List (List D)), (∀ r, r ∈ rows → Ty P n e r) → CellsK P (List.replicate rows.length l).flatten rows.flatten := by
          intro rows
          induction rows with
          | nil => intro _; simp [CellsK]
          | cons r rows ih =>
            intro hall
            simp only [List.length_cons, List.replicate_succ, List.flatten_cons]
            exact (flatK_ok n e l r hl (hall r (by simp))).append (ih fun x hx => hall x (by simp [hx]))
        rw [← hr]; exact key rows hall
      | _ => simp at h

/-- The rows of a list, told by an encoding. -/
theorem rows_of {α : Type} {enc : α → List D} {wf : α → Prop} {T : List D → Prop} (h : ∀ r, T r → ∃ x, r = enc x ∧ wf x) : ∀ rows : List (List D), (∀ r, r ∈ rows → T r) → ∃ l : List α, rows = l.map enc ∧ ∀ x, x ∈ l → wf x
  | [], _ => ⟨[], rfl, fun _ h => by simp at h⟩
  | r :: rows, hr => by
    obtain ⟨x, rfl, hx⟩ := h r (hr r (by simp))
    obtain ⟨l, rfl, hl⟩ := rows_of h rows fun y hy => hr y (by simp [hy])
    refine ⟨x :: l, rfl, fun y hy => ?_⟩
    rcases List.mem_cons.1 hy with rfl | hy
    · exact hx
    · exact hl y hy

theorem ints_of {P : Program} {n : Nat} {e : TypeId} {k : IntKind} (hu : P.underlying e = some (.int k)) {rows : List (List D)} (h : ∀ r, r ∈ rows → Ty P n e r) : ∃ l : List Int, rows = l.map (encI k) ∧ ∀ z, z ∈ l → WfI k z :=
  rows_of (T := Ty P n e) (fun r hr => by
    cases n with
    | zero => simp [Ty] at hr
    | succ n => obtain ⟨z, rfl, hz⟩ := ty_int hr hu; exact ⟨z, rfl, hz⟩) rows h

theorem bools_of {P : Program} {n : Nat} {e : TypeId} (hu : P.underlying e = some .bool) {rows : List (List D)} (h : ∀ r, r ∈ rows → Ty P n e r) : ∃ l : List Bool, rows = l.map encB ∧ ∀ z, z ∈ l → True :=
  rows_of (T := Ty P n e) (fun r hr => by
    cases n with
    | zero => simp [Ty] at hr
    | succ n => obtain ⟨z, rfl⟩ := ty_bool hr hu; exact ⟨z, rfl, trivial⟩) rows h

theorem tyFs_mono {T T' : TypeId → List D → Prop} (h : ∀ t ds, T t ds → T' t ds) : ∀ (fs : List Field) (ds : List D), TyFs T fs ds → TyFs T' fs ds
  | [], ds, ht => ht
  | f :: fs, ds, ht => by
    obtain ⟨x, y, rfl, g1, g2⟩ := tyfs_cons ht
    simp only [TyFs]
    exact ⟨x, y, rfl, h _ _ g1, tyFs_mono h fs y g2⟩

theorem ty_mono {P : Program} : ∀ (n : Nat) (t : TypeId) (ds : List D), Ty P n t ds → Ty P (n + 1) t ds
  | 0, _, _, h => by simp [Ty] at h
  | n + 1, t, ds, h => by
    rw [Ty] at h ⊢
    cases hu : P.underlying t with
    | none => simp [hu] at h
    | some u =>
      rw [hu] at h
      cases u with
      | slice e =>
        rcases h with rfl | ⟨rows, rfl, h1, h2⟩
        · exact .inl rfl
        · exact .inr ⟨rows, rfl, h1, fun r hr => ty_mono n _ _ (h2 r hr)⟩
      | struct fs => exact tyFs_mono (fun t ds => ty_mono n t ds) _ _ h
      | array m e =>
        obtain ⟨rows, h1, rfl, h2⟩ := h
        exact ⟨rows, h1, rfl, fun r hr => ty_mono n _ _ (h2 r hr)⟩
      | _ => exact h

theorem mapM_mono {α β : Type} {f g : α → Option β} (h : ∀ a b, f a = some b → g a = some b) : ∀ (l : List α) (r : List β), l.mapM f = some r → l.mapM g = some r
  | [], r, hr => by simpa using hr
  | a :: l, r, hr => by
    rw [List.mapM_cons] at hr ⊢
    simp only [Option.bind_eq_bind, Option.bind_eq_some_iff, Option.pure_def, Option.some.injEq] at hr ⊢
    obtain ⟨x, h1, y, h2, rfl⟩ := hr
    exact ⟨x, h a x h1, y, mapM_mono h l y h2, rfl⟩

theorem flatK_mono {P : Program} : ∀ (n : Nat) (t : TypeId) (ks : List CK), flatK P n t = some ks → flatK P (n + 1) t = some ks
  | 0, _, _, h => by simp [flatK] at h
  | n + 1, t, ks, h => by
    rw [flatK] at h ⊢
    cases hu : P.underlying t with
    | none => simp [hu] at h
    | some u =>
      rw [hu] at h
      cases u with
      | struct fs =>
        obtain ⟨l, hl, rfl⟩ := Option.map_eq_some_iff.1 h
        simp only [mapM_mono (fun f b hb => flatK_mono n _ _ hb) _ _ hl, Option.map_some]
      | array m e =>
        obtain ⟨l, hl, rfl⟩ := Option.map_eq_some_iff.1 h
        simp only [flatK_mono n _ _ hl, Option.map_some]
      | _ => exact h

/-- The cells of an element's type, at any depth. -/
theorem flatK_any {P : Program} {k : Nat} {t : TypeId} {ks : List CK} {ds : List D} (h : flatK P k t = some ks) {n : Nat} (ht : Ty P n t ds) : CellsK P ks ds := by
  have h1 : ∀ j, flatK P (k + j) t = some ks := fun j => by
    induction j with
    | zero => exact h
    | succ j ih => exact flatK_mono _ _ _ ih
  have h2 : ∀ j, Ty P (n + j) t ds := fun j => by
    induction j with
    | zero => exact ht
    | succ j ih => exact ty_mono _ _ _ ih
  refine flatK_ok (k + n) t ks ds (h1 n) ?_
  rw [Nat.add_comm]; exact h2 k

theorem wfI_i64 {z : Int} (h : WfI .i64 z) : -9223372036854775808 ≤ z ∧ z ≤ 9223372036854775807 := by
  simp [WfI, Lit.wf, IntKind.min, IntKind.max, IntKind.signed, IntKind.bits] at h
  omega
end Go.Proofs.Ytgalchmjpfmemaa.Den

/- Plain laws on the words of the printed texts. -/
namespace Go.Proofs.Ytgalchmjpfmemaa.Den
open Go
set_option linter.unusedVariables false
set_option linter.unusedSimpArgs false

@[simp] theorem tb_eq (b : Bool) : tb b = b := rfl

theorem wrap64 {x : Int} (h1 : -9223372036854775808 ≤ x) (h2 : x ≤ 9223372036854775807) : IntKind.i64.wrap x = x := by
  unfold IntKind.wrap
  simp [IntKind.bits, IntKind.signed]
  omega

theorem wi_eq {x : Int} (h1 : -9223372036854775808 ≤ x) (h2 : x ≤ 9223372036854775807) : wi x = x := wrap64 h1 h2

theorem wfI_i32 {z : Int} (h : WfI .i32 z) : -2147483648 ≤ z ∧ z ≤ 2147483647 := by
  simp [WfI, Lit.wf, IntKind.min, IntKind.max, IntKind.signed, IntKind.bits] at h
  omega
theorem wfI_i16 {z : Int} (h : WfI .i16 z) : -32768 ≤ z ∧ z ≤ 32767 := by
  simp [WfI, Lit.wf, IntKind.min, IntKind.max, IntKind.signed, IntKind.bits] at h
  omega
theorem wfI_u8 {z : Int} (h : WfI .u8 z) : 0 ≤ z ∧ z ≤ 255 := by
  simp [WfI, Lit.wf, IntKind.min, IntKind.max, IntKind.signed, IntKind.bits] at h
  omega
theorem wfI_u16 {z : Int} (h : WfI .u16 z) : 0 ≤ z ∧ z ≤ 65535 := by
  simp [WfI, Lit.wf, IntKind.min, IntKind.max, IntKind.signed, IntKind.bits] at h
  omega
theorem wfI_u32 {z : Int} (h : WfI .u32 z) : 0 ≤ z ∧ z ≤ 4294967295 := by
  simp [WfI, Lit.wf, IntKind.min, IntKind.max, IntKind.signed, IntKind.bits] at h
  omega

theorem mxI_eq (a b : Int) : mxI a b = max a b := by unfold mxI; split <;> omega
theorem mnI_eq (a b : Int) : mnI a b = min a b := by unfold mnI; split <;> omega

theorem inb_iff {n : Nat} {i : Int} : inb n i = true ↔ 0 ≤ i ∧ i < n := by simp [inb]
theorem inb_of {n : Nat} {i : Int} (h1 : 0 ≤ i) (h2 : i < n) : inb n i = true := inb_iff.2 ⟨h1, h2⟩

theorem loop_inv {S : Type} {sel : S → Bool} {nx : S → S} (J : S → Prop) (μ : S → Nat) {s0 : S} (h0 : J s0) (hb : μ s0 < 1152921504606846976) (hn : ∀ s, J s → sel s = true → J (nx s) ∧ μ (nx s) < μ s) :
    ∃ s1, itS sel nx bound s0 = some s1 ∧ J s1 ∧ sel s1 = false := itS_inv J μ hn bound s0 h0 hb

/-- A loop told by a function of its states. -/
theorem loop_fun {S : Type} {sel : S → Bool} {nx : S → S} (J : S → Prop) (μ : S → Nat) (g : S → S) {s0 : S} (h0 : J s0) (hb : μ s0 < 1152921504606846976) (hs : ∀ s, J s → sel s = false → g s = s) (hn : ∀ s, J s → sel s = true → J (nx s) ∧ μ (nx s) < μ s ∧ g (nx s) = g s) :
    itS sel nx bound s0 = some (g s0) := itS_eq J μ g hs hn bound s0 h0 hb

theorem gt_mem {α : Type} [Inhabited α] {l : List α} {i : Int} (h1 : 0 ≤ i) (h2 : i < l.length) : gt l i ∈ l := by
  have h : i.toNat < l.length := by omega
  have : gt l i = l[i.toNat] := by simp [gt, List.getD, h]
  rw [this]; exact List.getElem_mem h

theorem gt_nat {α : Type} [Inhabited α] {l : List α} {k : Nat} (h : k < l.length) : gt l (k : Int) = l[k] := by simp [gt, List.getD, h]

theorem gt_getElem {α : Type} [Inhabited α] {l : List α} {i : Int} (h1 : 0 ≤ i) (h2 : i.toNat < l.length) : gt l i = l[i.toNat] := by simp [gt, List.getD, h2]

/-- A loop over a list by an index, that stops where a test fails. -/
theorem all_loop {S α : Type} [Inhabited α] {sel : S → Bool} {nx : S → S} {s0 : S} (l : List α) (ix : S → Int) (p : α → Bool) (J : S → Prop) (hl : l.length < 1152921504606846976) (h0 : ix s0 = 0) (hJ0 : J s0)
    (hnx : ∀ s, J s → 0 ≤ ix s → ix s < l.length → sel s = true → ix (nx s) = ix s + 1 ∧ J (nx s)) (hsel : ∀ s, J s → 0 ≤ ix s → ix s ≤ l.length → sel s = (decide (ix s < l.length) && p (gt l (ix s)))) :
    ∃ s1, itS sel nx bound s0 = some s1 ∧ J s1 ∧ 0 ≤ ix s1 ∧ ((ix s1 = l.length ∧ l.all p = true) ∨ (ix s1 < l.length ∧ p (gt l (ix s1)) = false ∧ l.all p = false)) := by
  obtain ⟨s1, e, ⟨hJ, a1, a2, a3⟩, hs⟩ := loop_inv (sel := sel) (nx := nx) (fun s => J s ∧ 0 ≤ ix s ∧ ix s ≤ l.length ∧ ∀ j : Nat, (j : Int) < ix s → p (gt l j) = true) (fun s => (l.length - ix s).toNat) (s0 := s0)
    ⟨hJ0, by omega, by omega, fun j hj => by omega⟩ (by omega) (fun s ⟨hJ, b1, b2, b3⟩ hs => by
      have h1 := hsel s hJ b1 b2
      rw [hs] at h1
      have h2 := (Bool.and_eq_true _ _).mp h1.symm
      have h3 : ix s < l.length := by simpa using h2.1
      obtain ⟨h4, h5⟩ := hnx s hJ b1 h3 hs
      refine ⟨⟨h5, by omega, by omega, fun j hj => ?_⟩, by omega⟩
      by_cases hjj : (j : Int) < ix s
      · exact b3 j hjj
      · have : (j : Int) = ix s := by omega
        rw [this]; exact h2.2)
  refine ⟨s1, e, hJ, a1, ?_⟩
  rcases Int.lt_or_eq_of_le a2 with h | h
  · have h1 := hsel s1 hJ a1 a2
    rw [hs] at h1
    have hp : p (gt l (ix s1)) = false := by simpa [h] using h1.symm
    refine .inr ⟨h, hp, ?_⟩
    rw [List.all_eq_false]
    exact ⟨_, gt_mem a1 h, by simp [hp]⟩
  · refine .inl ⟨h, ?_⟩
    rw [List.all_eq_true]
    intro x hx
    obtain ⟨j, hj, rfl⟩ := List.getElem_of_mem hx
    have := a3 j (by omega)
    rwa [gt_nat hj] at this

/-- A loop by an index that goes to its end. -/
theorem idx_loop {S : Type} {sel : S → Bool} {nx : S → S} {s0 : S} (n : Int) (ix : S → Int) (J : S → Prop) (hn : n < 1152921504606846976) (h0 : J s0) (h1 : 0 ≤ ix s0) (h2 : ix s0 ≤ n)
    (hr : ∀ s, J s → 0 ≤ ix s → ix s < n → sel s = true ∧ J (nx s) ∧ ix (nx s) = ix s + 1) (he : ∀ s, J s → ix s = n → sel s = false) : ∃ s1, itS sel nx bound s0 = some s1 ∧ J s1 ∧ ix s1 = n := by
  obtain ⟨s1, e, ⟨hJ, a1, a2⟩, hs⟩ := loop_inv (sel := sel) (nx := nx) (fun s => J s ∧ 0 ≤ ix s ∧ ix s ≤ n) (fun s => (n - ix s).toNat) (s0 := s0) ⟨h0, h1, h2⟩ (by omega) (fun s ⟨hJ, b1, b2⟩ hs => by
    by_cases h : ix s = n
    · rw [he s hJ h] at hs; cases hs
    · obtain ⟨_, g1, g2⟩ := hr s hJ b1 (by omega)
      exact ⟨⟨g1, by omega, by omega⟩, by omega⟩)
  refine ⟨s1, e, hJ, ?_⟩
  by_cases h : ix s1 = n
  · exact h
  · rw [(hr s1 hJ a1 (by omega)).1] at hs; cases hs

end Go.Proofs.Ytgalchmjpfmemaa.Den

/- The functions of layer 7 (config), told plainly. -/
namespace Go.Proofs.Ytgalchmjpfmemaa.Den
open Go
set_option linter.unusedVariables false
set_option linter.unusedSimpArgs false
set_option maxRecDepth 100000

def inR (n a b : Int) : Bool := decide (a ≤ n) && decide (n ≤ b)
theorem inR_iff {n a b : Int} : inR n a b = true ↔ a ≤ n ∧ n ≤ b := by simp [inR]

theorem within_eq (n a b : Int) : config_within_iii_r0_0 n a b = inR n a b := by
  simp only [config_within_iii_r0_0, tb_eq, inR]; cases decide (a ≤ n) <;> rfl

/-- A weight, at a place. -/
def wOk (n i w : Int) : Bool := if i < n then inR w 1 16 else decide (w = 0)

theorem itS_more {S : Type} {sel : S → Bool} {nx : S → S} {s : S} (k : Nat) : itS sel nx (Nat.succ k) s = bif sel s then itS sel nx k (nx s) else some s := by
  show itS sel nx (k + 1) s = _
  simp only [itS]; cases sel s <;> rfl

theorem b6 : ∃ k, bound = Nat.succ (Nat.succ (Nat.succ (Nat.succ (Nat.succ (Nat.succ k))))) := ⟨1152921504606846970, by decide⟩

theorem wt_sel (n i w : Int) : (bif tb (decide (i < n)) then (bif tb (config_within_iii_r0_0 w 1 16) then (bif tb (decide (n ≤ i)) then (bif tb ((w : Int) != 0) then false else true) else true) else false) else (bif tb (decide (n ≤ i)) then (bif tb ((w : Int) != 0) then false else true) else true)) = wOk n i w := by
  rw [within_eq]
  simp only [tb_eq, wOk]
  by_cases h : i < n
  · have : ¬ n ≤ i := by omega
    simp only [h, this, decide_true, decide_false, cond_true, cond_false, if_true]
    cases inR w 1 16 <;> rfl
  · have : n ≤ i := by omega
    simp only [h, this, decide_true, decide_false, cond_true, cond_false, if_false]
    by_cases hw : w = 0 <;> simp [hw]

theorem weights_eq (n a b c d : Int) : config_weights_ai21_c0 n a b c d = true ∧ config_weights_ai21_r0_0 n a b c d = (wOk n 0 a && (wOk n 1 b && (wOk n 2 c && wOk n 3 d))) := by
  obtain ⟨k, hk⟩ := b6
  have h0 := wt_sel n 0 a
  have h1 := wt_sel n 1 b
  have h2 := wt_sel n 2 c
  have h3 := wt_sel n 3 d
  simp only [config_weights_ai21_c0, config_weights_ai21_r0_0, config_weights_ai21_e0, config_weights_ai21_L0_1_ok, config_weights_ai21_L0_1_end, hk, itS_more, config_weights_ai21_L0_1_sel, config_weights_ai21_L0_1_h0_sel, config_weights_ai21_L0_1_nx, config_weights_ai21_L0_1_h0_nx,
    config_weights_ai21_L0_1_h1_sel, config_weights_ai21_L0_1_h2_sel, config_weights_ai21_L0_1_h3_sel, config_weights_ai21_L0_1_h4_sel, config_weights_ai21_L0_1_h1_nx, config_weights_ai21_L0_1_h2_nx, config_weights_ai21_L0_1_h3_nx, h0, h1, h2, h3, cond_false]
  cases wOk n 0 a <;> cases wOk n 1 b <;> cases wOk n 2 c <;> cases wOk n 3 d <;> simp [config_weights_ai21_L0_1_is0, config_weights_ai21_L0_1_is1, config_weights_ai21_L0_1_is2, config_weights_ai21_L0_1_is3]

/-! ### the first that is wrong -/

def firstBad : List R_str_bool → ByteArray
  | [] => ⟨#[]⟩
  | f :: r => bif f.c1 then firstBad r else f.c0

theorem firstBad_all : ∀ {l : List R_str_bool}, (∀ j : Nat, (h : j < l.length) → l[j].c1 = true) → firstBad l = ⟨#[]⟩
  | [], _ => rfl
  | f :: r, h => by
    have h0 := h 0 (by simp)
    simp only [List.getElem_cons_zero] at h0
    simp only [firstBad, h0, cond_true]
    exact firstBad_all fun j hj => h (j + 1) (by simpa using hj)

theorem firstBad_at : ∀ {l : List R_str_bool} {i : Nat} (hi : i < l.length), (∀ j : Nat, (h : j < i) → l[j].c1 = true) → l[i].c1 = false → firstBad l = l[i].c0
  | f :: r, 0, hi, _, h => by simp only [List.getElem_cons_zero] at h ⊢; simp only [firstBad, h, cond_false]
  | f :: r, i + 1, hi, ha, h => by
    have h0 := ha 0 (by omega)
    simp only [List.getElem_cons_zero] at h0
    simp only [firstBad, h0, cond_true, List.getElem_cons_succ]
    exact firstBad_at (by simpa using hi) (fun j hj => ha (j + 1) (by omega)) h

theorem fault_loop (l : List R_str_bool) (hl : l.length < 1152921504606846976) : ∃ s1, itS (config_Fault_ai21_L0_sel l l.length l.length) (config_Fault_ai21_L0_nx l l.length l.length) bound ⟨0⟩ = some s1 ∧ config_Fault_ai21_L0_c0 l l.length l.length s1 = true ∧ config_Fault_ai21_L0_r0_0 l ⟨#[]⟩ l.length s1 = firstBad l := by
  have hb : Nat.beq l.length l.length = true := Nat.beq_refl _
  obtain ⟨s1, e, ⟨a1, a2, a3⟩, hs⟩ := loop_inv (sel := config_Fault_ai21_L0_sel l l.length l.length) (nx := config_Fault_ai21_L0_nx l l.length l.length) (s0 := ⟨0⟩) (fun s => 0 ≤ s.c3 ∧ s.c3 ≤ l.length ∧ ∀ j : Nat, (h : j < l.length) → (j : Int) < s.c3 → l[j].c1 = true) (fun s => (l.length - s.c3).toNat)
    ⟨by simp, by simp, fun j hj h => by simp at h; omega⟩ (by simp; omega) (fun s ⟨b1, b2, b3⟩ hs => by
      by_cases h : s.c3 < l.length
      · have e : (wi (s.c3 + 1)) = s.c3 + 1 := wi_eq (by omega) (by omega)
        have hc : (gt l s.c3).c1 = true := by
          simp only [config_Fault_ai21_L0_sel, h, inb_of b1 h, hb, tb_eq, decide_true, cond_true] at hs
          cases hg : (gt l s.c3).c1 <;> simp [hg] at hs ⊢
        refine ⟨⟨by simp only [config_Fault_ai21_L0_nx, e]; omega, by simp only [config_Fault_ai21_L0_nx, e]; omega, fun j hj hlt => ?_⟩, by simp only [config_Fault_ai21_L0_nx, e]; omega⟩
        simp only [config_Fault_ai21_L0_nx, e] at hlt
        by_cases hjj : (j : Int) < s.c3
        · exact b3 j hj hjj
        · have : s.c3 = (j : Int) := by omega
          rw [this, gt_nat hj] at hc; exact hc
      · simp [config_Fault_ai21_L0_sel, h] at hs)
  refine ⟨s1, e, ?_⟩
  by_cases h : s1.c3 < l.length
  · have hi : s1.c3.toNat < l.length := by omega
    have hg : gt l s1.c3 = l[s1.c3.toNat] := gt_getElem a1 hi
    have hc : l[s1.c3.toNat].c1 = false := by
      simp only [config_Fault_ai21_L0_sel, h, inb_of a1 h, hb, tb_eq, decide_true, cond_true, hg] at hs
      cases hq : (l[s1.c3.toNat]).c1 <;> simp [hq] at hs ⊢
    constructor
    · simp only [config_Fault_ai21_L0_c0, h, inb_of a1 h, hb, tb_eq, decide_true, cond_true]
    · simp only [config_Fault_ai21_L0_r0_0, h, tb_eq, decide_true, cond_true, hg]
      exact (firstBad_at hi (fun j hj => a3 j (by omega) (by omega)) hc).symm
  · constructor
    · simp only [config_Fault_ai21_L0_c0, h, tb_eq, decide_false, cond_false]
    · simp only [config_Fault_ai21_L0_r0_0, h, tb_eq, decide_false, cond_false]
      exact (firstBad_all fun j hj => a3 j hj (by omega)).symm

end Go.Proofs.Ytgalchmjpfmemaa.Den

/- Layer 7 (config), told plainly: the fault, what is right, what is covered. -/
namespace Go.Proofs.Ytgalchmjpfmemaa.Den
open Go
set_option linter.unusedVariables false
set_option linter.unusedSimpArgs false
set_option linter.unusedSectionVars false
set_option maxRecDepth 100000
set_option maxHeartbeats 4000000

theorem range_of {α : Type} (x a b : Int) (A B : α) : (bif decide (x < a) then A else (bif decide (b < x) then A else B)) = bif inR x a b then B else A := by
  by_cases h1 : x < a
  · have : ¬ a ≤ x := by omega
    simp [inR, h1, this]
  · have h1' : a ≤ x := by omega
    by_cases h2 : b < x
    · have : ¬ x ≤ b := by omega
      simp [inR, h1, h1', h2, this]
    · have : x ≤ b := by omega
      simp [inR, h1, h1', h2, this]

theorem two_of {α : Type} (x : Int) (A B : α) : (bif ((x : Int) != 3) then (bif ((x : Int) != 4) then A else B) else B) = bif inR x 3 4 then B else A := by
  by_cases h3 : x = 3
  · subst h3; rfl
  · by_cases h4 : x = 4
    · subst h4; rfl
    · have : inR x 3 4 = false := by simp [inR]; omega
      rw [bne_iff_ne.2 h3, bne_iff_ne.2 h4, this]; rfl

theorem count_eq (x : Int) : ref07_count_i_r0_0 x = inR x 0 2147483647 := by
  simp only [ref07_count_i_r0_0, tb_eq, inR]; cases decide (0 ≤ x) <;> rfl
theorem rsmall_eq (x : Int) : ref07_small_i_r0_0 x = inR x (-2147483648) 2147483647 := by
  simp only [ref07_small_i_r0_0, tb_eq, inR]; cases decide (-2147483648 ≤ x) <;> rfl

theorem hi_of {α : Type} (x1 x2 : Int) (A B : α) : (bif inR x2 (-2147483648) 2147483647 then (bif decide (x2 < x1) then A else B) else A) = bif inR x2 (mxI x1 (-2147483648)) 2147483647 then B else A := by
  rw [mxI_eq]
  by_cases h1 : x2 < x1
  · have h2 : inR x2 (max x1 (-2147483648)) 2147483647 = false := by simp [inR]; omega
    rw [h2]; simp [h1]
  · by_cases h3 : inR x2 (-2147483648) 2147483647 = true
    · have h2 : inR x2 (max x1 (-2147483648)) 2147483647 = true := by rw [inR_iff] at h3 ⊢; omega
      rw [h2, h3]; simp [h1]
    · have h2 : inR x2 (max x1 (-2147483648)) 2147483647 = false := by
        rw [Bool.eq_false_iff]; intro h; apply h3; rw [inR_iff] at h ⊢; omega
      rw [Bool.eq_false_iff.2 h3, h2]; rfl

theorem rwt_sel (n i w : Int) : (bif tb (decide (i < n)) then (bif tb (decide (w < 1)) then false else (bif tb (decide (16 < w)) then false else (bif tb (decide (n ≤ i)) then (bif tb ((w : Int) != 0) then false else true) else true))) else (bif tb (decide (n ≤ i)) then (bif tb ((w : Int) != 0) then false else true) else true)) = wOk n i w := by
  rw [← wt_sel]
  simp only [tb_eq, range_of, within_eq]

theorem rtail_w (n a b c d : Int) : ref07_tail_ai21_L0_1_ok n a b c d (.h0 ⟨⟩ : ref07_tail_ai21_L0_1_S) = true ∧ ∀ {α : Type} (A B : α), (bif ref07_tail_ai21_L0_1_is0 (ref07_tail_ai21_e0 n a b c d) then A else (bif ref07_tail_ai21_L0_1_is1 (ref07_tail_ai21_e0 n a b c d) then A else (bif ref07_tail_ai21_L0_1_is2 (ref07_tail_ai21_e0 n a b c d) then A else (bif ref07_tail_ai21_L0_1_is3 (ref07_tail_ai21_e0 n a b c d) then A else B)))) = bif (wOk n 0 a && (wOk n 1 b && (wOk n 2 c && wOk n 3 d))) then B else A := by
  obtain ⟨k, hk⟩ := b6
  have h0 := rwt_sel n 0 a
  have h1 := rwt_sel n 1 b
  have h2 := rwt_sel n 2 c
  have h3 := rwt_sel n 3 d
  simp only [ref07_tail_ai21_e0, ref07_tail_ai21_L0_1_ok, ref07_tail_ai21_L0_1_end, hk, itS_more, ref07_tail_ai21_L0_1_sel, ref07_tail_ai21_L0_1_h0_sel, ref07_tail_ai21_L0_1_nx, ref07_tail_ai21_L0_1_h0_nx,
    ref07_tail_ai21_L0_1_h1_sel, ref07_tail_ai21_L0_1_h2_sel, ref07_tail_ai21_L0_1_h3_sel, ref07_tail_ai21_L0_1_h4_sel, ref07_tail_ai21_L0_1_h1_nx, ref07_tail_ai21_L0_1_h2_nx, ref07_tail_ai21_L0_1_h3_nx, h0, h1, h2, h3, cond_false]
  cases wOk n 0 a <;> cases wOk n 1 b <;> cases wOk n 2 c <;> cases wOk n 3 d <;> simp [ref07_tail_ai21_L0_1_is0, ref07_tail_ai21_L0_1_is1, ref07_tail_ai21_L0_1_is2, ref07_tail_ai21_L0_1_is3]

variable (x0 x1 x2 x3 x4 x5 x6 x7 x8 x9 x10 x11 x12 x13 x14 x15 x16 x17 x18 x19 x20 : Int)

theorem fault_eq : config_Fault_ai21_c0 x0 x1 x2 x3 x4 x5 x6 x7 x8 x9 x10 x11 x12 x13 x14 x15 x16 x17 x18 x19 x20 = true ∧ config_Fault_ai21_L0_r0_0 (config_Fault_ai21_e0 x0 x1 x2 x3 x4 x5 x6 x7 x8 x9 x10 x11 x12 x13 x14 x15 x16 x17 x18 x19 x20) ⟨#[]⟩ 18 (config_Fault_ai21_e1 x0 x1 x2 x3 x4 x5 x6 x7 x8 x9 x10 x11 x12 x13 x14 x15 x16 x17 x18 x19 x20) = firstBad (config_Fault_ai21_e0 x0 x1 x2 x3 x4 x5 x6 x7 x8 x9 x10 x11 x12 x13 x14 x15 x16 x17 x18 x19 x20) := by
  obtain ⟨s1, e, h1, h2⟩ := fault_loop (config_Fault_ai21_e0 x0 x1 x2 x3 x4 x5 x6 x7 x8 x9 x10 x11 x12 x13 x14 x15 x16 x17 x18 x19 x20) (by show 18 < _; omega)
  have e' : itS (config_Fault_ai21_L0_sel (config_Fault_ai21_e0 x0 x1 x2 x3 x4 x5 x6 x7 x8 x9 x10 x11 x12 x13 x14 x15 x16 x17 x18 x19 x20) 18 18) (config_Fault_ai21_L0_nx (config_Fault_ai21_e0 x0 x1 x2 x3 x4 x5 x6 x7 x8 x9 x10 x11 x12 x13 x14 x15 x16 x17 x18 x19 x20) 18 18) bound ⟨0⟩ = some s1 := e
  have h1' : config_Fault_ai21_L0_c0 (config_Fault_ai21_e0 x0 x1 x2 x3 x4 x5 x6 x7 x8 x9 x10 x11 x12 x13 x14 x15 x16 x17 x18 x19 x20) 18 18 s1 = true := h1
  have h2' : config_Fault_ai21_L0_r0_0 (config_Fault_ai21_e0 x0 x1 x2 x3 x4 x5 x6 x7 x8 x9 x10 x11 x12 x13 x14 x15 x16 x17 x18 x19 x20) ⟨#[]⟩ 18 s1 = firstBad (config_Fault_ai21_e0 x0 x1 x2 x3 x4 x5 x6 x7 x8 x9 x10 x11 x12 x13 x14 x15 x16 x17 x18 x19 x20) := h2
  have e1 : config_Fault_ai21_e1 x0 x1 x2 x3 x4 x5 x6 x7 x8 x9 x10 x11 x12 x13 x14 x15 x16 x17 x18 x19 x20 = s1 := by unfold config_Fault_ai21_e1 config_Fault_ai21_L0_end; rw [e']; rfl
  have ok : config_Fault_ai21_L0_ok (config_Fault_ai21_e0 x0 x1 x2 x3 x4 x5 x6 x7 x8 x9 x10 x11 x12 x13 x14 x15 x16 x17 x18 x19 x20) 18 18 ⟨0⟩ = true := by unfold config_Fault_ai21_L0_ok; rw [e']; rfl
  refine ⟨?_, by rw [e1, h2']⟩
  unfold config_Fault_ai21_c0 config_fields_ai21_c0
  rw [e1, ok, h1', (weights_eq x0 x17 x18 x19 x20).1]
  rfl

theorem rfault_c : ref07_Fault_ai21_c0 x0 x1 x2 x3 x4 x5 x6 x7 x8 x9 x10 x11 x12 x13 x14 x15 x16 x17 x18 x19 x20 = true := by
  simp only [ref07_Fault_ai21_c0, ref07_tail_ai21_c0, (rtail_w x0 x17 x18 x19 x20).1, tb_eq, cond_true, Bool.cond_self]

theorem rfault_eq : ref07_Fault_ai21_r0_0 x0 x1 x2 x3 x4 x5 x6 x7 x8 x9 x10 x11 x12 x13 x14 x15 x16 x17 x18 x19 x20 = firstBad (config_Fault_ai21_e0 x0 x1 x2 x3 x4 x5 x6 x7 x8 x9 x10 x11 x12 x13 x14 x15 x16 x17 x18 x19 x20) := by
  simp only [ref07_Fault_ai21_r0_0, ref07_tail_ai21_r0_0, tb_eq, rsmall_eq, count_eq, (rtail_w x0 x17 x18 x19 x20).2, two_of, range_of, hi_of, config_Fault_ai21_e0, firstBad, within_eq, (weights_eq x0 x17 x18 x19 x20).2]

/-- What may be. -/
def right : Bool := (config_Fault_ai21_e0 x0 x1 x2 x3 x4 x5 x6 x7 x8 x9 x10 x11 x12 x13 x14 x15 x16 x17 x18 x19 x20).all fun f => f.c1

theorem firstBad_right : ∀ {l : List R_str_bool}, (∀ f ∈ l, f.c0.toList ≠ (⟨#[]⟩ : ByteArray).toList) → ((firstBad l).toList == (⟨#[]⟩ : ByteArray).toList) = l.all fun f => f.c1
  | [], _ => by simp [firstBad]
  | f :: r, h => by
    have ih := firstBad_right (l := r) fun g hg => h g (by simp [hg])
    have h0 := h f (by simp)
    simp only [firstBad, List.all_cons]
    cases f.c1
    · simpa using h0
    · simpa using ih

theorem nonempty_names : ∀ f ∈ config_Fault_ai21_e0 x0 x1 x2 x3 x4 x5 x6 x7 x8 x9 x10 x11 x12 x13 x14 x15 x16 x17 x18 x19 x20, f.c0.toList ≠ (⟨#[]⟩ : ByteArray).toList := by
  intro f hf
  simp only [config_Fault_ai21_e0, List.mem_cons, List.not_mem_nil, or_false] at hf
  rcases hf with rfl | rfl | rfl | rfl | rfl | rfl | rfl | rfl | rfl | rfl | rfl | rfl | rfl | rfl | rfl | rfl | rfl | rfl <;> (simp only [ByteArray.toList_eq]; simp)

theorem right_eq : ((firstBad (config_Fault_ai21_e0 x0 x1 x2 x3 x4 x5 x6 x7 x8 x9 x10 x11 x12 x13 x14 x15 x16 x17 x18 x19 x20)).toList == (⟨#[]⟩ : ByteArray).toList) = right x0 x1 x2 x3 x4 x5 x6 x7 x8 x9 x10 x11 x12 x13 x14 x15 x16 x17 x18 x19 x20 := firstBad_right (nonempty_names x0 x1 x2 x3 x4 x5 x6 x7 x8 x9 x10 x11 x12 x13 x14 x15 x16 x17 x18 x19 x20)

theorem right_iff : right x0 x1 x2 x3 x4 x5 x6 x7 x8 x9 x10 x11 x12 x13 x14 x15 x16 x17 x18 x19 x20 = true ↔ (3 ≤ x0 ∧ x0 ≤ 4) ∧ (-2147483648 ≤ x1 ∧ x1 ≤ 2147483647) ∧ (max x1 (-2147483648) ≤ x2 ∧ x2 ≤ 2147483647) ∧ (x1 ≤ x3 ∧ x3 ≤ x2) ∧ (0 ≤ x4 ∧ x4 ≤ 2147483647) ∧ (0 ≤ x5 ∧ x5 ≤ 2147483647) ∧ (2 ≤ x6 ∧ x6 ≤ 16) ∧ (0 ≤ x7 ∧ x7 ≤ 2147483647) ∧ (0 ≤ x8 ∧ x8 ≤ 8) ∧ (0 ≤ x9 ∧ x9 ≤ 2147483647) ∧ (0 ≤ x10 ∧ x10 ≤ 2147483647) ∧ (0 ≤ x11 ∧ x11 ≤ 8) ∧ (0 ≤ x12 ∧ x12 ≤ 2147483647) ∧ (1 ≤ x13 ∧ x13 ≤ 100) ∧ (1 ≤ x14 ∧ x14 ≤ 1000) ∧ (0 ≤ x15 ∧ x15 ≤ 10) ∧ (1 ≤ x16 ∧ x16 ≤ 8) ∧ (wOk x0 0 x17 && (wOk x0 1 x18 && (wOk x0 2 x19 && wOk x0 3 x20))) = true := by
  simp only [right, config_Fault_ai21_e0, List.all_cons, List.all_nil, within_eq, (weights_eq x0 x17 x18 x19 x20).2, Bool.and_eq_true, inR_iff, mxI_eq, and_true]

end Go.Proofs.Ytgalchmjpfmemaa.Den

/- Layer 7 (config), told plainly: what is covered, and the default. -/
namespace Go.Proofs.Ytgalchmjpfmemaa.Den
open Go
set_option linter.unusedVariables false
set_option linter.unusedSimpArgs false
set_option linter.unusedSectionVars false
set_option maxRecDepth 100000
set_option maxHeartbeats 4000000

variable (x0 x1 x2 x3 x4 x5 x6 x7 x8 x9 x10 x11 x12 x13 x14 x15 x16 x17 x18 x19 x20 : Int)

theorem right_c : config_Right_ai21_c0 x0 x1 x2 x3 x4 x5 x6 x7 x8 x9 x10 x11 x12 x13 x14 x15 x16 x17 x18 x19 x20 = true := by simp only [config_Right_ai21_c0, (fault_eq x0 x1 x2 x3 x4 x5 x6 x7 x8 x9 x10 x11 x12 x13 x14 x15 x16 x17 x18 x19 x20).1, tb_eq, cond_true]
theorem most_c : config_Most_ai21i_c0 x0 x1 x2 x3 x4 x5 x6 x7 x8 x9 x10 x11 x12 x13 x14 x15 x16 x17 x18 x19 x20 = true := by simp only [config_Most_ai21i_c0, right_c x0 x1 x2 x3 x4 x5 x6 x7 x8 x9 x10 x11 x12 x13 x14 x15 x16 x17 x18 x19 x20, tb_eq, cond_true]
theorem covers_c (e : Int) : config_Covers_ai21ii_c0 x0 x1 x2 x3 x4 x5 x6 x7 x8 x9 x10 x11 x12 x13 x14 x15 x16 x17 x18 x19 x20 e = true := by simp only [config_Covers_ai21ii_c0, most_c x0 x1 x2 x3 x4 x5 x6 x7 x8 x9 x10 x11 x12 x13 x14 x15 x16 x17 x18 x19 x20, tb_eq, cond_true, Bool.cond_self]
theorem rright_c : ref07_Right_ai21_c0 x0 x1 x2 x3 x4 x5 x6 x7 x8 x9 x10 x11 x12 x13 x14 x15 x16 x17 x18 x19 x20 = true := by simp only [ref07_Right_ai21_c0, rfault_c x0 x1 x2 x3 x4 x5 x6 x7 x8 x9 x10 x11 x12 x13 x14 x15 x16 x17 x18 x19 x20, tb_eq, cond_true]
theorem rcovers_c : ref07_Covers_ai21ii_c0 x0 x1 x2 x3 x4 x5 x6 x7 x8 x9 x10 x11 x12 x13 x14 x15 x16 x17 x18 x19 x20 = true := by simp only [ref07_Covers_ai21ii_c0, rright_c x0 x1 x2 x3 x4 x5 x6 x7 x8 x9 x10 x11 x12 x13 x14 x15 x16 x17 x18 x19 x20, tb_eq, cond_true]

/-- Room, and what is left. -/
def room (r : Int) : Int := min (min (min (x9 - 2 * x10 - x12) (x4 - r)) x7) (x2 - x1)
def last : Int := x5 - 2 * x10 - 2 * x12

theorem most_wrong (r : Int) (h : right x0 x1 x2 x3 x4 x5 x6 x7 x8 x9 x10 x11 x12 x13 x14 x15 x16 x17 x18 x19 x20 = false) : config_Most_ai21i_r0_0 x0 x1 x2 x3 x4 x5 x6 x7 x8 x9 x10 x11 x12 x13 x14 x15 x16 x17 x18 x19 x20 r = -1 := by
  simp only [config_Most_ai21i_r0_0, (fault_eq x0 x1 x2 x3 x4 x5 x6 x7 x8 x9 x10 x11 x12 x13 x14 x15 x16 x17 x18 x19 x20).2, right_eq x0 x1 x2 x3 x4 x5 x6 x7 x8 x9 x10 x11 x12 x13 x14 x15 x16 x17 x18 x19 x20, h, tb_eq, cond_false]

theorem quo_nat (x : Int) {d : Int} (hd : 0 < d) (h : 0 ≤ x) (h2 : x ≤ 4611686018427387904) : quoI .i64 x d = x / d := by
  unfold quoI
  rw [Int.tdiv_eq_ediv_of_nonneg h]
  have h3 : 0 ≤ x / d := Int.ediv_nonneg h (by omega)
  have h4 : x / d ≤ x := Int.ediv_le_self d h
  exact wrap64 (by omega) (by omega)

theorem most_right (r : Int) (h : right x0 x1 x2 x3 x4 x5 x6 x7 x8 x9 x10 x11 x12 x13 x14 x15 x16 x17 x18 x19 x20 = true) : config_Most_ai21i_r0_0 x0 x1 x2 x3 x4 x5 x6 x7 x8 x9 x10 x11 x12 x13 x14 x15 x16 x17 x18 x19 x20 r = if 0 ≤ r ∧ r ≤ 1073741824 ∧ 0 ≤ room x1 x2 x4 x7 x9 x10 x12 r ∧ 0 ≤ last x5 x10 x12 then min (min (room x1 x2 x4 x7 x9 x10 x12 r / 2) (last x5 x10 x12 / 4)) 1073741824 else -1 := by
  simp only [config_Most_ai21i_r0_0, (fault_eq x0 x1 x2 x3 x4 x5 x6 x7 x8 x9 x10 x11 x12 x13 x14 x15 x16 x17 x18 x19 x20).2, right_eq x0 x1 x2 x3 x4 x5 x6 x7 x8 x9 x10 x11 x12 x13 x14 x15 x16 x17 x18 x19 x20, h, tb_eq, cond_true, within_eq]
  obtain ⟨-, b1, b2, -, b4, b5, -, b7, -, b9, b10, -, b12, -⟩ := (right_iff x0 x1 x2 x3 x4 x5 x6 x7 x8 x9 x10 x11 x12 x13 x14 x15 x16 x17 x18 x19 x20).1 h
  by_cases hr : inR r 0 1073741824 = true
  · rw [hr, cond_true]
    rw [inR_iff] at hr
    have w1 : wi (2 * x10) = 2 * x10 := wi_eq (by omega) (by omega)
    have w2 : wi (2 * x12) = 2 * x12 := wi_eq (by omega) (by omega)
    have w3 : wi (x9 - 2 * x10) = x9 - 2 * x10 := wi_eq (by omega) (by omega)
    have w4 : wi (x9 - 2 * x10 - x12) = x9 - 2 * x10 - x12 := wi_eq (by omega) (by omega)
    have w5 : wi (x4 - r) = x4 - r := wi_eq (by omega) (by omega)
    have w6 : wi (x2 - x1) = x2 - x1 := wi_eq (by omega) (by omega)
    have w7 : wi (x5 - 2 * x10) = x5 - 2 * x10 := wi_eq (by omega) (by omega)
    have w8 : wi (x5 - 2 * x10 - 2 * x12) = last x5 x10 x12 := wi_eq (by omega) (by omega)
    have e0 : config_Most_ai21i_e0 x1 x2 x4 x7 x9 x10 x12 r = room x1 x2 x4 x7 x9 x10 x12 r := by
      simp only [config_Most_ai21i_e0, w1, w3, w4, w5, w6, mnI_eq]; rfl
    have hr2 : room x1 x2 x4 x7 x9 x10 x12 r ≤ x7 := by unfold room; omega
    have hl2 : last x5 x10 x12 ≤ x5 := by unfold last; omega
    simp only [config_Most_ai21i_e3, config_Most_ai21i_e2, config_Most_ai21i_e1, e0, w1, w2, w7, w8, mnI_eq]
    generalize room x1 x2 x4 x7 x9 x10 x12 r = A at *
    generalize last x5 x10 x12 = B at *
    by_cases hA : A < 0
    · have : ¬ (0 ≤ r ∧ r ≤ 1073741824 ∧ 0 ≤ A ∧ 0 ≤ B) := by omega
      simp only [hA, this, decide_true, cond_true, if_false]
    · by_cases hB : B < 0
      · have : ¬ (0 ≤ r ∧ r ≤ 1073741824 ∧ 0 ≤ A ∧ 0 ≤ B) := by omega
        simp only [hA, hB, this, decide_true, decide_false, cond_true, cond_false, if_false]
      · have : (0 ≤ r ∧ r ≤ 1073741824 ∧ 0 ≤ A ∧ 0 ≤ B) := by omega
        simp only [hA, hB, this, decide_false, cond_false, if_true, and_self]
        rw [quo_nat A (by omega) (by omega) (by omega), quo_nat B (by omega) (by omega) (by omega)]
  · have : ¬ (0 ≤ r ∧ r ≤ 1073741824 ∧ 0 ≤ room x1 x2 x4 x7 x9 x10 x12 r ∧ 0 ≤ last x5 x10 x12) := by rw [inR_iff] at hr; omega
    rw [Bool.eq_false_iff.2 hr, if_neg this]; rfl

/-- What is covered. -/
def Cov (e r : Int) : Prop := right x0 x1 x2 x3 x4 x5 x6 x7 x8 x9 x10 x11 x12 x13 x14 x15 x16 x17 x18 x19 x20 = true ∧ 0 ≤ e ∧ e ≤ 1073741824 ∧ 0 ≤ r ∧ r ≤ 1073741824 ∧ 2 * e ≤ room x1 x2 x4 x7 x9 x10 x12 r ∧ 4 * e ≤ last x5 x10 x12

theorem min4 (a b c d e : Int) : 2 * e ≤ min (min (min a b) c) d ↔ 2 * e ≤ a ∧ 2 * e ≤ b ∧ 2 * e ≤ c ∧ 2 * e ≤ d := by omega

theorem most_cov (e r : Int) (he : 0 ≤ e) : e ≤ config_Most_ai21i_r0_0 x0 x1 x2 x3 x4 x5 x6 x7 x8 x9 x10 x11 x12 x13 x14 x15 x16 x17 x18 x19 x20 r ↔ Cov x0 x1 x2 x3 x4 x5 x6 x7 x8 x9 x10 x11 x12 x13 x14 x15 x16 x17 x18 x19 x20 e r := by
  cases h : right x0 x1 x2 x3 x4 x5 x6 x7 x8 x9 x10 x11 x12 x13 x14 x15 x16 x17 x18 x19 x20
  · rw [most_wrong x0 x1 x2 x3 x4 x5 x6 x7 x8 x9 x10 x11 x12 x13 x14 x15 x16 x17 x18 x19 x20 r h]
    constructor
    · intro; omega
    · intro hc; unfold Cov at hc; rw [h] at hc; cases hc.1
  · rw [most_right x0 x1 x2 x3 x4 x5 x6 x7 x8 x9 x10 x11 x12 x13 x14 x15 x16 x17 x18 x19 x20 r h]
    unfold Cov
    rw [h]
    generalize room x1 x2 x4 x7 x9 x10 x12 r = A
    generalize last x5 x10 x12 = B
    split <;> rename_i hq <;> constructor
    · intro h1; refine ⟨rfl, ?_⟩; omega
    · intro h1; omega
    · intro h1; omega
    · intro h1; omega

theorem covers_cov (e r : Int) : config_Covers_ai21ii_r0_0 x0 x1 x2 x3 x4 x5 x6 x7 x8 x9 x10 x11 x12 x13 x14 x15 x16 x17 x18 x19 x20 e r = true ↔ Cov x0 x1 x2 x3 x4 x5 x6 x7 x8 x9 x10 x11 x12 x13 x14 x15 x16 x17 x18 x19 x20 e r := by
  simp only [config_Covers_ai21ii_r0_0, tb_eq]
  by_cases he : 0 ≤ e
  · simp only [he, decide_true, cond_true, decide_eq_true_eq]
    exact most_cov x0 x1 x2 x3 x4 x5 x6 x7 x8 x9 x10 x11 x12 x13 x14 x15 x16 x17 x18 x19 x20 e r he
  · simp only [he, decide_false, cond_false]
    constructor
    · intro h; cases h
    · intro h; exact absurd h.2.1 he

theorem rcovers_cov (e r : Int) : ref07_Covers_ai21ii_r0_0 x0 x1 x2 x3 x4 x5 x6 x7 x8 x9 x10 x11 x12 x13 x14 x15 x16 x17 x18 x19 x20 e r = true ↔ Cov x0 x1 x2 x3 x4 x5 x6 x7 x8 x9 x10 x11 x12 x13 x14 x15 x16 x17 x18 x19 x20 e r := by
  simp only [ref07_Covers_ai21ii_r0_0, rfault_eq x0 x1 x2 x3 x4 x5 x6 x7 x8 x9 x10 x11 x12 x13 x14 x15 x16 x17 x18 x19 x20, right_eq x0 x1 x2 x3 x4 x5 x6 x7 x8 x9 x10 x11 x12 x13 x14 x15 x16 x17 x18 x19 x20, tb_eq, range_of, ref07_Covers_ai21ii_e0]
  unfold Cov
  cases h : right x0 x1 x2 x3 x4 x5 x6 x7 x8 x9 x10 x11 x12 x13 x14 x15 x16 x17 x18 x19 x20
  · simp
  simp only [cond_true, true_and]
  obtain ⟨-, b1, b2, -, b4, b5, -, b7, -, b9, b10, -, b12, -⟩ := (right_iff x0 x1 x2 x3 x4 x5 x6 x7 x8 x9 x10 x11 x12 x13 x14 x15 x16 x17 x18 x19 x20).1 h
  by_cases he : inR e 0 1073741824 = true
  case neg =>
    rw [Bool.eq_false_iff.2 he]
    rw [inR_iff] at he
    constructor
    · intro h; cases h
    · intro h; omega
  by_cases hr : inR r 0 1073741824 = true
  case neg =>
    rw [Bool.eq_false_iff.2 hr]
    rw [inR_iff] at hr
    cases inR e 0 1073741824 <;> constructor
    · intro h; cases h
    · intro h; omega
    · intro h; cases h
    · intro h; omega
  simp only [he, hr, cond_true]
  rw [inR_iff] at he hr
  have w1 : wi (2 * e) = 2 * e := wi_eq (by omega) (by omega)
  have w2 : wi (2 * x10) = 2 * x10 := wi_eq (by omega) (by omega)
  have w3 : wi (2 * e + 2 * x10) = 2 * e + 2 * x10 := wi_eq (by omega) (by omega)
  have w4 : wi (2 * e + 2 * x10 + x12) = 2 * e + 2 * x10 + x12 := wi_eq (by omega) (by omega)
  have w5 : wi (r + 2 * e) = r + 2 * e := wi_eq (by omega) (by omega)
  have w6 : wi (4 * e) = 4 * e := wi_eq (by omega) (by omega)
  have w7 : wi (4 * e + 2 * x10) = 4 * e + 2 * x10 := wi_eq (by omega) (by omega)
  have w8 : wi (2 * x12) = 2 * x12 := wi_eq (by omega) (by omega)
  have w9 : wi (4 * e + 2 * x10 + 2 * x12) = 4 * e + 2 * x10 + 2 * x12 := wi_eq (by omega) (by omega)
  have w10 : wi (x2 - x1) = x2 - x1 := wi_eq (by omega) (by omega)
  simp only [w1, w2, w3, w4, w5, w6, w7, w8, w9, w10]
  have tr : ∀ a b c d f : Prop, [Decidable a] → [Decidable b] → [Decidable c] → [Decidable d] → [Decidable f] → ((bif decide a then (bif decide b then (bif decide c then (bif decide d then decide f else false) else false) else false) else false) = true ↔ a ∧ b ∧ c ∧ d ∧ f) := by
    intro a b c d f _ _ _ _ _
    by_cases a <;> by_cases b <;> by_cases c <;> by_cases d <;> by_cases f <;> simp [*]
  rw [tr]
  unfold room last
  rw [min4]
  omega

end Go.Proofs.Ytgalchmjpfmemaa.Den

/- ConfigLess, told plainly. -/
namespace Go.Proofs.Ytgalchmjpfmemaa.Den
open Go
set_option linter.unusedVariables false
set_option linter.unusedSimpArgs false
set_option maxRecDepth 100000
set_option maxHeartbeats 4000000

theorem u16_wrap (z : Int) : 0 ≤ IntKind.u16.wrap z ∧ IntKind.u16.wrap z ≤ 65535 := by
  unfold IntKind.wrap; simp [IntKind.bits, IntKind.signed]; omega

theorem pure_ConfigLess (x0 : Int) (x1 : Int) (x2 : Int) (x3 : Int) (x4 : Int) (x5 : Int) (x6 : Int) (x7 : Int) (x8 : Int) (x9 : Int) (x10 : Int) (x11 : Int) (x12 : Int) (x13 : Int) (x14 : Int) (x15 : Int) (x16 : Int) (x17 : Int) (x18 : Int) (x19 : Int) (x20 : Int) (x21 : Int) (x22 : Int) (x23 : Int) (wx0 : WfI .i64 x0) (wx1 : WfI .i64 x1) (wx2 : WfI .i64 x2) (wx3 : WfI .i64 x3) (wx4 : WfI .i64 x4) (wx5 : WfI .i64 x5) (wx6 : WfI .i64 x6) (wx7 : WfI .i64 x7) (wx8 : WfI .i64 x8) (wx9 : WfI .i64 x9) (wx10 : WfI .i64 x10) (wx11 : WfI .i64 x11) (wx12 : WfI .i64 x12) (wx13 : WfI .i64 x13) (wx14 : WfI .i64 x14) (wx15 : WfI .i64 x15) (wx16 : WfI .i64 x16) (wx17 : WfI .i64 x17) (wx18 : WfI .i64 x18) (wx19 : WfI .i64 x19) (wx20 : WfI .i64 x20) (wx21 : WfI .i64 x21) (wx22 : WfI .i64 x22) (wx23 : WfI .i64 x23) : law07_ConfigLess_c0 x0 x1 x2 x3 x4 x5 x6 x7 x8 x9 x10 x11 x12 x13 x14 x15 x16 x17 x18 x19 x20 x21 x22 x23 = true ∧ (law07_ConfigLess_r0_0 x0 x1 x2 x3 x4 x5 x6 x7 x8 x9 x10 x11 x12 x13 x14 x15 x16 x17 x18 x19 x20 x21 x22 x23) = true := by
  have c0 : law07_ConfigLess_c0 x0 x1 x2 x3 x4 x5 x6 x7 x8 x9 x10 x11 x12 x13 x14 x15 x16 x17 x18 x19 x20 x21 x22 x23 = true := by
    simp only [law07_ConfigLess_c0, covers_c, right_c, (fault_eq x0 x1 x2 x3 x4 x5 x6 x7 x8 x9 x10 x11 x12 x13 x14 x15 x16 x17 x18 x19 x20).1, most_c, tb_eq, cond_true, Bool.cond_self]
  refine ⟨c0, ?_⟩
  simp only [law07_ConfigLess_r0_0, (fault_eq x0 x1 x2 x3 x4 x5 x6 x7 x8 x9 x10 x11 x12 x13 x14 x15 x16 x17 x18 x19 x20).2, right_eq x0 x1 x2 x3 x4 x5 x6 x7 x8 x9 x10 x11 x12 x13 x14 x15 x16 x17 x18 x19 x20, tb_eq]
  cases hcov : config_Covers_ai21ii_r0_0 x0 x1 x2 x3 x4 x5 x6 x7 x8 x9 x10 x11 x12 x13 x14 x15 x16 x17 x18 x19 x20 x21 x22
  · rfl
  rw [covers_cov] at hcov
  obtain ⟨hr, e0, e1, r0, r1, hroom, hlast⟩ := id hcov
  have hm : x21 ≤ config_Most_ai21i_r0_0 x0 x1 x2 x3 x4 x5 x6 x7 x8 x9 x10 x11 x12 x13 x14 x15 x16 x17 x18 x19 x20 x22 := (most_cov x0 x1 x2 x3 x4 x5 x6 x7 x8 x9 x10 x11 x12 x13 x14 x15 x16 x17 x18 x19 x20 x21 x22 e0).2 hcov
  have hR := (right_iff x0 x1 x2 x3 x4 x5 x6 x7 x8 x9 x10 x11 x12 x13 x14 x15 x16 x17 x18 x19 x20).1 hr
  obtain ⟨b0, b1, b2, b3, b4, b5, b6, b7, b8, b9, b10, b11, b12, b13, b14, b15, b16, bw⟩ := id hR
  obtain ⟨n0, n1⟩ := u16_wrap x23
  generalize IntKind.u16.wrap x23 = n at *
  have wn : wi n = n := wi_eq (by omega) (by omega)
  have we : wi (x21 - n) = x21 - n := wi_eq (by omega) (by omega)
  have wr : wi (x22 - n) = x22 - n := wi_eq (by omega) (by omega)
  have w9 : wi (x9 + n) = x9 + n := wi_eq (by omega) (by omega)
  have w4 : wi (x4 + n) = x4 + n := wi_eq (by omega) (by omega)
  have w7 : wi (x7 + n) = x7 + n := wi_eq (by omega) (by omega)
  have w5 : wi (x5 + n) = x5 + n := wi_eq (by omega) (by omega)
  unfold room at hroom
  rw [min4] at hroom
  unfold last at hlast
  have wl : wi (x1 + x21) = x1 + x21 := wi_eq (by omega) (by omega)
  have wh : wi (x2 - x21) = x2 - x21 := wi_eq (by omega) (by omega)
  have hmid : x1 + x21 ≤ x2 - x21 := by omega
  have less : config_Covers_ai21ii_r0_0 x0 x1 x2 x3 x4 x5 x6 x7 x8 x9 x10 x11 x12 x13 x14 x15 x16 x17 x18 x19 x20 (max 0 (x21 - n)) (max 0 (x22 - n)) = true := by
    rw [covers_cov]
    refine ⟨hr, by omega, by omega, by omega, by omega, ?_, ?_⟩
    · unfold room; rw [min4]; omega
    · unfold last; omega
  have m9 : config_Covers_ai21ii_r0_0 x0 x1 x2 x3 x4 x5 x6 x7 x8 (min (x9 + n) 2147483647) x10 x11 x12 x13 x14 x15 x16 x17 x18 x19 x20 x21 x22 = true := by
    rw [covers_cov]
    refine ⟨(right_iff x0 x1 x2 x3 x4 x5 x6 x7 x8 (min (x9 + n) 2147483647) x10 x11 x12 x13 x14 x15 x16 x17 x18 x19 x20).2 ⟨b0, b1, b2, b3, b4, b5, b6, b7, b8, by omega, b10, b11, b12, b13, b14, b15, b16, bw⟩, e0, e1, r0, r1, ?_, ?_⟩
    · unfold room; rw [min4]; omega
    · unfold last; omega
  have m4 : config_Covers_ai21ii_r0_0 x0 x1 x2 x3 (min (x4 + n) 2147483647) x5 x6 x7 x8 x9 x10 x11 x12 x13 x14 x15 x16 x17 x18 x19 x20 x21 x22 = true := by
    rw [covers_cov]
    refine ⟨(right_iff x0 x1 x2 x3 (min (x4 + n) 2147483647) x5 x6 x7 x8 x9 x10 x11 x12 x13 x14 x15 x16 x17 x18 x19 x20).2 ⟨b0, b1, b2, b3, by omega, b5, b6, b7, b8, b9, b10, b11, b12, b13, b14, b15, b16, bw⟩, e0, e1, r0, r1, ?_, ?_⟩
    · unfold room; rw [min4]; omega
    · unfold last; omega
  have m7 : config_Covers_ai21ii_r0_0 x0 x1 x2 x3 x4 x5 x6 (min (x7 + n) 2147483647) x8 x9 x10 x11 x12 x13 x14 x15 x16 x17 x18 x19 x20 x21 x22 = true := by
    rw [covers_cov]
    refine ⟨(right_iff x0 x1 x2 x3 x4 x5 x6 (min (x7 + n) 2147483647) x8 x9 x10 x11 x12 x13 x14 x15 x16 x17 x18 x19 x20).2 ⟨b0, b1, b2, b3, b4, b5, b6, by omega, b8, b9, b10, b11, b12, b13, b14, b15, b16, bw⟩, e0, e1, r0, r1, ?_, ?_⟩
    · unfold room; rw [min4]; omega
    · unfold last; omega
  have m5 : config_Covers_ai21ii_r0_0 x0 x1 x2 x3 x4 (min (x5 + n) 2147483647) x6 x7 x8 x9 x10 x11 x12 x13 x14 x15 x16 x17 x18 x19 x20 x21 x22 = true := by
    rw [covers_cov]
    refine ⟨(right_iff x0 x1 x2 x3 x4 (min (x5 + n) 2147483647) x6 x7 x8 x9 x10 x11 x12 x13 x14 x15 x16 x17 x18 x19 x20).2 ⟨b0, b1, b2, b3, b4, by omega, b6, b7, b8, b9, b10, b11, b12, b13, b14, b15, b16, bw⟩, e0, e1, r0, r1, ?_, ?_⟩
    · unfold room; rw [min4]; omega
    · unfold last; omega
  simp only [wn, we, wr, w9, w4, w7, w5, wl, wh, mxI_eq, mnI_eq, hr, less, m9, m4, m7, m5, hmid, hm, decide_true, cond_true, Bool.cond_self]

end Go.Proofs.Ytgalchmjpfmemaa.Den

/- What all rows of a seat rest on. -/
namespace Go.Proofs.Ytgalchmjpfmemaa.Den
open Go Go.Proofs
set_option maxRecDepth 100000

theorem own : ownKnob Try.prog.godebug = none := by kernel_rfl
theorem laidOut : laidOutB Try.prog = true := by kernel_rfl
theorem mixed : Try.prog.follows .mixedOrders = true := by kernel_rfl
theorem envOK : EnvOK Try.prog E0 := ⟨e0_cf, fun f args m r m' h => by simp [E0] at h⟩
theorem glOK (w : World) : GlOK E0 (cx0 w) := fun g cs h => by simp [E0] at h
end Go.Proofs.Ytgalchmjpfmemaa.Den

/- The row of ConfigLess. -/
namespace Go.Proofs.Ytgalchmjpfmemaa.Den
open Go Go.Proofs Go.ChangeShapes Go.WideShapes Go.ChangeAt Go.RowKit
open Go.Proofs.Ytgalchmjpfmemaa (Rows.configLessSpec Rows.configLessRow Rows.ConfigLessSaid)
set_option maxRecDepth 100000
set_option linter.unusedSimpArgs false
set_option linter.unusedVariables false

theorem row12 (rs : List (List D)) (h : TyAll Try.prog 20 Try.f12.params.toList rs) : ∃ k m', callD E0 k 12 (argsV Try.prog Try.f12.params.toList rs) [] = some ([.d (.bool true)], m') := by
  rw [Try.params12] at h ⊢
  simp only [TyAll] at h
  obtain ⟨_, _, rfl, q0, _, _, rfl, q1, rfl⟩ := h
  have k0 := flatK_ok 20 _ _ _ (show flatK Try.prog 20 69 = some [.i .i64, .i .i64, .i .i64, .i .i64, .i .i64, .i .i64, .i .i64, .i .i64, .i .i64, .i .i64, .i .i64, .i .i64, .i .i64, .i .i64, .i .i64, .i .i64, .i .i64, .i .i64, .i .i64, .i .i64, .i .i64] by kernel_rfl) q0
  simp only [CellsK, CellK] at k0
  obtain ⟨_, _, rfl, ⟨a0_0, rfl, w0_0⟩, _, _, rfl, ⟨a0_1, rfl, w0_1⟩, _, _, rfl, ⟨a0_2, rfl, w0_2⟩, _, _, rfl, ⟨a0_3, rfl, w0_3⟩, _, _, rfl, ⟨a0_4, rfl, w0_4⟩, _, _, rfl, ⟨a0_5, rfl, w0_5⟩, _, _, rfl, ⟨a0_6, rfl, w0_6⟩, _, _, rfl, ⟨a0_7, rfl, w0_7⟩, _, _, rfl, ⟨a0_8, rfl, w0_8⟩, _, _, rfl, ⟨a0_9, rfl, w0_9⟩, _, _, rfl, ⟨a0_10, rfl, w0_10⟩, _, _, rfl, ⟨a0_11, rfl, w0_11⟩, _, _, rfl, ⟨a0_12, rfl, w0_12⟩, _, _, rfl, ⟨a0_13, rfl, w0_13⟩, _, _, rfl, ⟨a0_14, rfl, w0_14⟩, _, _, rfl, ⟨a0_15, rfl, w0_15⟩, _, _, rfl, ⟨a0_16, rfl, w0_16⟩, _, _, rfl, ⟨a0_17, rfl, w0_17⟩, _, _, rfl, ⟨a0_18, rfl, w0_18⟩, _, _, rfl, ⟨a0_19, rfl, w0_19⟩, _, _, rfl, ⟨a0_20, rfl, w0_20⟩, rfl⟩ := k0
  have k1 := flatK_ok 20 _ _ _ (show flatK Try.prog 20 40 = some [.i .i64, .i .i64, .i .i64] by kernel_rfl) q1
  simp only [CellsK, CellK] at k1
  obtain ⟨_, _, rfl, ⟨a1_0, rfl, w1_0⟩, _, _, rfl, ⟨a1_1, rfl, w1_1⟩, _, _, rfl, ⟨a1_2, rfl, w1_2⟩, rfl⟩ := k1
  simp only [argsV, argV, Try.underlying40, Try.underlying69, List.map_cons, List.map_nil]
  obtain ⟨g1, g2⟩ := pure_ConfigLess a0_0 a0_1 a0_2 a0_3 a0_4 a0_5 a0_6 a0_7 a0_8 a0_9 a0_10 a0_11 a0_12 a0_13 a0_14 a0_15 a0_16 a0_17 a0_18 a0_19 a0_20 a1_0 a1_1 a1_2 w0_0 w0_1 w0_2 w0_3 w0_4 w0_5 w0_6 w0_7 w0_8 w0_9 w0_10 w0_11 w0_12 w0_13 w0_14 w0_15 w0_16 w0_17 w0_18 w0_19 w0_20 w1_0 w1_1 w1_2
  have hc := law07_ConfigLess_t0 a0_0 a0_1 a0_2 a0_3 a0_4 a0_5 a0_6 a0_7 a0_8 a0_9 a0_10 a0_11 a0_12 a0_13 a0_14 a0_15 a0_16 a0_17 a0_18 a0_19 a0_20 a1_0 a1_1 a1_2 g1
  rw [g2] at hc
  obtain ⟨k, hk⟩ := of_cl hc
  exact ⟨k, _, hk⟩

theorem configLess_lifted (os : Os) (started : os.Started) (H : Type) (enc : TypeId × Value → H) :
    ReturnsInHanded {} Try.checked os 12 .any (Rows.configLessSpec.pre6 enc Try.prog Try.f12 Rows.configLessRow.domain false) (Rows.configLessSpec.post enc Try.prog Try.f12 false true false false) :=
  law_lifted (C := Try.checked) (fn := Try.f12) mixed envOK glOK own started (by kernel_rfl) Try.func12 laidOut
    (ChangeSpec.witness6 (enc := enc) (C := Try.checked) false ⟨#[], #[.agg #[.int .i64 0, .int .i64 0, .int .i64 0, .int .i64 0, .int .i64 0, .int .i64 0, .int .i64 0, .int .i64 0, .int .i64 0, .int .i64 0, .int .i64 0, .int .i64 0, .int .i64 0, .int .i64 0, .int .i64 0, .int .i64 0, .int .i64 0, .int .i64 0, .int .i64 0, .int .i64 0, .int .i64 0], .agg #[.int .i64 0, .int .i64 0, .int .i64 0]], []⟩ 8 (by kernel_rfl) (by kernel_rfl) (by kernel_rfl) (by kernel_rfl))
    (by kernel_rfl) (rt := 4) rfl Try.underlying4 rfl
    (fun ds h => by
      match ds, h with
      | [_, _], _ => rfl)
    row12

theorem configLess_holds : Rows.ConfigLessSaid :=
  OpenClaim.holds_of_wide 12 Try.f12 rfl rfl rfl rfl rfl rfl rfl ⟨rfl, rfl, rfl, rfl, rfl⟩ rfl rfl rfl rfl rfl (by kernel_rfl) Try.func12 (by kernel_rfl)
    (of_decide_eq_true (by kernel_rfl)) (by unfold Func.isWrapper; first | (rw [if_pos (by decide +kernel)]; kernel_rfl) | (rw [if_neg (by decide +kernel)]; exact ⟨rfl, rfl⟩))
    (fun os started H enc _ => configLess_lifted os started H enc)

end Go.Proofs.Ytgalchmjpfmemaa.Den
