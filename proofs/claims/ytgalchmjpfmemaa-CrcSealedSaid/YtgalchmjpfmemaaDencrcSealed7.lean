/- CrcSealed: part 7 of what its proof rests on: an evaluator of the program's code, proved sound; plain functions printed from the code by a program of this session, with proofs; plain laws. No condition. -/
import Derived.Test.YtgalchmjpfmemaaDencrcSealed6
import Derived.Test.YtgalchmjpfmemaaRows

/- What all rows of a seat rest on. -/
namespace Go.Proofs.Ytgalchmjpfmemaa.Den
open Go Go.Proofs
set_option maxRecDepth 100000

theorem own : ownKnob Try.prog.godebug = none := by kernel_rfl
theorem laidOut : laidOutB Try.prog = true := by kernel_rfl
theorem mixed : Try.prog.follows .mixedOrders = true := by kernel_rfl
theorem envOK : EnvOK Try.prog E0 := ⟨e0_cf, fun f args m r m' h => by simp [E0] at h⟩
theorem glOK (w : World) : GlOK E0 (cx0 w) := fun g cs h => by simp [E0] at h
end Go.Proofs.Ytgalchmjpfmemaa.Den

/- The row of CrcSealed. -/
namespace Go.Proofs.Ytgalchmjpfmemaa.Den
open Go Go.Proofs Go.ChangeShapes Go.WideShapes Go.ChangeAt Go.RowKit
open Go.Proofs.Ytgalchmjpfmemaa (Rows.crcSealedSpec Rows.crcSealedRow Rows.CrcSealedSaid)
set_option maxRecDepth 100000
set_option linter.unusedSimpArgs false
set_option linter.unusedVariables false

theorem row9 (rs : List (List D)) (h : TyAll Try.prog 20 Try.f9.params.toList rs) : ∃ k m', callD E0 k 9 (argsV Try.prog Try.f9.params.toList rs) [] = some ([.d (.bool true)], m') := by
  rw [Try.params9] at h ⊢
  simp only [TyAll] at h
  obtain ⟨_, _, rfl, q0, _, _, rfl, q1, _, _, rfl, q2, rfl⟩ := h
  have k0 := flatK_ok 20 _ _ _ (show flatK Try.prog 20 56 = some [.l 5] by kernel_rfl) q0
  simp only [CellsK, CellK] at k0
  obtain ⟨d0_0, _, rfl, y0_0, rfl⟩ := k0
  obtain ⟨n0_0, a0_0, rfl, v0_0⟩ : ∃ n l, d0_0 = slD (encI .u8) true 1 n l ∧ (l.length ≤ maxLen ∧ ∀ z ∈ l, WfI .u8 z) := by
    rcases y0_0 with rfl | ⟨rows1, rfl, hl1, m1, hr1⟩
    · exact ⟨true, [], rfl, by simp [maxLen], fun z hz => by simp at hz⟩
    · obtain ⟨l2, rfl, hw2⟩ : ∃ l : List Int, rows1 = l.map (encI .u8) ∧ ∀ z ∈ l, WfI .u8 z := rows_of (T := Ty Try.prog m1 5) (fun r hr => by
          have q := flatK_any (show flatK Try.prog 20 5 = some [.i .u8] by kernel_rfl) hr
          simp only [CellsK, CellK] at q
          obtain ⟨_, _, rfl, ⟨b0, rfl, w0⟩, rfl⟩ := q
          exact ⟨b0, rfl, w0⟩) rows1 hr1
      rw [show isFlat Try.prog 5 = true by kernel_rfl, show Try.prog.cellsOf 5 = 1 by kernel_rfl]
      exact ⟨false, l2, slD_rs _ _ _ _, by simpa using hl1, hw2⟩
  have k1 := flatK_ok 20 _ _ _ (show flatK Try.prog 20 54 = some [.i .u16] by kernel_rfl) q1
  simp only [CellsK, CellK] at k1
  obtain ⟨_, _, rfl, ⟨a1_0, rfl, w1_0⟩, rfl⟩ := k1
  have k2 := flatK_ok 20 _ _ _ (show flatK Try.prog 20 65 = some [.i .u8, .i .u8] by kernel_rfl) q2
  simp only [CellsK, CellK] at k2
  obtain ⟨_, _, rfl, ⟨a2_0, rfl, w2_0⟩, _, _, rfl, ⟨a2_1, rfl, w2_1⟩, rfl⟩ := k2
  simp only [argsV, argV, Try.underlying54, Try.underlying56, Try.underlying65, List.map_cons, List.map_nil]
  obtain ⟨g1, g2⟩ := pure_CrcSealed n0_0 a0_0 a1_0 a2_0 a2_1 v0_0 w1_0 w2_0 w2_1
  have hc := law03_CrcSealed_t0 n0_0 a0_0 a1_0 a2_0 a2_1 g1
  rw [g2] at hc
  obtain ⟨k, hk⟩ := of_cl hc
  exact ⟨k, _, hk⟩

theorem crcSealed_lifted (os : Os) (started : os.Started) (H : Type) (enc : TypeId × Value → H) :
    ReturnsInHanded {} Try.checked os 9 .any (Rows.crcSealedSpec.pre6 enc Try.prog Try.f9 Rows.crcSealedRow.domain false) (Rows.crcSealedSpec.post enc Try.prog Try.f9 false true false false) :=
  law_lifted (C := Try.checked) (fn := Try.f9) mixed envOK glOK own started (by kernel_rfl) Try.func9 laidOut
    (ChangeSpec.witness6 (enc := enc) (C := Try.checked) false ⟨#[], #[.slice none 0 0, .int .u16 0, .agg #[.int .u8 0, .int .u8 0]], []⟩ 8 (by kernel_rfl) (by kernel_rfl) (by kernel_rfl) (by kernel_rfl))
    (by kernel_rfl) (rt := 4) rfl Try.underlying4 rfl
    (fun ds h => by
      match ds, h with
      | [_, _, _], _ => rfl)
    row9

theorem crcSealed_holds : Rows.CrcSealedSaid :=
  OpenClaim.holds_of_wide 9 Try.f9 rfl rfl rfl rfl rfl rfl rfl ⟨rfl, rfl, rfl, rfl, rfl⟩ rfl rfl rfl rfl rfl (by kernel_rfl) Try.func9 (by kernel_rfl)
    (of_decide_eq_true (by kernel_rfl)) (by unfold Func.isWrapper; first | (rw [if_pos (by decide +kernel)]; kernel_rfl) | (rw [if_neg (by decide +kernel)]; exact ⟨rfl, rfl⟩))
    (fun os started H enc _ => crcSealed_lifted os started H enc)

end Go.Proofs.Ytgalchmjpfmemaa.Den
