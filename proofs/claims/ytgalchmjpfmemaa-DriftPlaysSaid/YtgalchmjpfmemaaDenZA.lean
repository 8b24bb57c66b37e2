/- The rows of layer 10 (drift). -/
import Derived.Test.YtgalchmjpfmemaaRows
import Derived.Test.YtgalchmjpfmemaaDenDB
namespace Go.Proofs.Ytgalchmjpfmemaa.Den
open Go Go.Proofs Go.ChangeShapes Go.WideShapes Go.ChangeAt Go.RowKit
open Go.Proofs.Ytgalchmjpfmemaa (Rows.driftPlaysSpec Rows.driftPlaysRow Rows.DriftPlaysSaid)
set_option maxRecDepth 100000
set_option linter.unusedSimpArgs false
set_option linter.unusedVariables false

theorem own : ownKnob Try.prog.godebug = none := by kernel_rfl
theorem laidOut : laidOutB Try.prog = true := by kernel_rfl
theorem mixed : Try.prog.follows .mixedOrders = true := by kernel_rfl
theorem envOK : EnvOK Try.prog E0 := ⟨fun f F h => h, fun f args m r m' h => by simp [envOf] at h⟩
theorem glOK (w : World) : GlOK E0 (cx0 w) := fun g cs h => by simp [envOf] at h

theorem row3 (rs : List (List D)) (h : TyAll Try.prog 20 Try.f3.params.toList rs) : ∃ k m', callD E0 k 3 (argsV Try.prog Try.f3.params.toList rs) [] = some ([.d (.bool true)], m') := by
  rw [Try.params3] at h ⊢
  simp only [TyAll] at h
  obtain ⟨_, _, rfl, h1, _, _, rfl, h2, _, _, rfl, h3, rfl⟩ := h
  obtain ⟨g, rfl, _⟩ := ty_int h1 Try.underlying3
  obtain ⟨b, rfl, _⟩ := ty_int h2 Try.underlying3
  have hx := ty_slice h3 Try.underlying22
  simp only [argsV, argV, Try.underlying3, Try.underlying22]
  rcases hx with rfl | ⟨rows, rfl, _, hr⟩
  · obtain ⟨m', h⟩ := f3 0 g b (.d .nils) [] rfl (fun _ => rfl) (by simp)
    exact ⟨_, m', h⟩
  · have key : ∀ rows : List (List D), (∀ r, r ∈ rows → Ty Try.prog 19 30 r) → ∃ l, rows = comeRows l := by
      intro rows
      induction rows with
      | nil => intro _; exact ⟨[], rfl⟩
      | cons r rows ih =>
        intro hr
        obtain ⟨l, rfl⟩ := ih fun x hx => hr x (by simp [hx])
        have h0 := hr r (by simp)
        obtain ⟨_, _, rfl, q1, _, _, rfl, q2, q3⟩ := ty_struct h0 Try.underlying30
        obtain rfl := tyfs_nil q3
        obtain ⟨c, rfl⟩ := ty_bool q1 Try.underlying4
        obtain ⟨d, rfl, _⟩ := ty_int q2 Try.underlying3
        exact ⟨(c, d) :: l, rfl⟩
    obtain ⟨l, rfl⟩ := key rows hr
    have hs : Try.prog.cellsOf 30 = 2 := by kernel_rfl
    obtain ⟨m', h⟩ := f3 0 g b (.d (.rs (isFlat Try.prog 30) (Try.prog.cellsOf 30) (comeRows l) false)) l (by simp [lenV]) (fun _ => by simp [sizeOk, hs]) (fun i c hi => by simp [idxSV, hi])
    exact ⟨_, m', h⟩

theorem driftPlays_lifted (os : Os) (started : os.Started) (H : Type) (enc : TypeId × Value → H) :
    ReturnsInHanded {} Try.checked os 3 .any (Rows.driftPlaysSpec.pre6 enc Try.prog Try.f3 Rows.driftPlaysRow.domain false) (Rows.driftPlaysSpec.post enc Try.prog Try.f3 false true false false) :=
  law_lifted (C := Try.checked) (fn := Try.f3) mixed envOK glOK own started (by kernel_rfl) Try.func3 laidOut
    (ChangeSpec.witness6 (enc := enc) (C := Try.checked) false ⟨#[], #[.int .i64 0, .int .i64 0, .slice none 0 0], []⟩ 8 (by kernel_rfl) (by kernel_rfl) (by kernel_rfl) (by kernel_rfl))
    (by kernel_rfl) (rt := 4) rfl Try.underlying4 rfl
    (fun ds h => by
      match ds, h with
      | [_, _, _], _ => rfl)
    row3

theorem driftPlays_holds : Rows.DriftPlaysSaid :=
  OpenClaim.holds_of_wide 3 Try.f3 rfl rfl rfl rfl rfl rfl rfl ⟨rfl, rfl, rfl, rfl, rfl⟩ rfl rfl rfl rfl rfl (by kernel_rfl) Try.func3 (by kernel_rfl)
    (of_decide_eq_true (by kernel_rfl)) (by unfold Func.isWrapper; first | (rw [if_pos (by decide +kernel)]; kernel_rfl) | (rw [if_neg (by decide +kernel)]; exact ⟨rfl, rfl⟩))
    (fun os started H enc _ => driftPlays_lifted os started H enc)

end Go.Proofs.Ytgalchmjpfmemaa.Den
