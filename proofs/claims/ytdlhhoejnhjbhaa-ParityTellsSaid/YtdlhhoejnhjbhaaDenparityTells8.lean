/- ParityTells: part 8 of what its proof rests on: an evaluator of the program's code, proved sound; plain functions printed from the code by a program of this session, with proofs; plain laws. No condition. -/
import Derived.Test.YtdlhhoejnhjbhaaDenparityTells7
import Derived.Test.YtdlhhoejnhjbhaaRows

/- ParityTells: the plain law. -/
namespace Go.Proofs.Ytdlhhoejnhjbhaa.Den
open Go
set_option linter.unusedVariables false
set_option linter.unusedSimpArgs false
set_option maxRecDepth 100000

theorem pure_ParityTells (x0 : Bool) (x1 : List Int) (x2 : Int) (wx1 : (x1.length ≤ maxLen ∧ ∀ z ∈ x1, WfI .i64 z)) (wx2 : WfI .i64 x2) : law13_ParityTells_c0 x0 x1 x2 = true ∧ (law13_ParityTells_r0_0 x0 x1 x2) = true := by
  by_cases hbig : 40 < (x1.length : Int)
  · simp [law13_ParityTells_c0, law13_ParityTells_r0_0, hbig]
  have hl : x1.length < 1152921504606846976 := by omega
  obtain ⟨c0, c1⟩ := Res_c x0 hl
  obtain ⟨r0, r1⟩ := rRes_r hl
  obtain ⟨s0, s1⟩ := Sus_r x0 (b := x2) hl
  obtain ⟨t0, t1⟩ := rSus_r wx2 hl
  cases hp : par x1 with
  | false =>
    rw [hp] at c0
    have er : ref13_Residues_o_r0_1 x1 = [] := by rw [r1, hp]; rfl
    have hi := ints_eq (l := ([] : List Int)) (k := []) (by simp)
    simp [law13_ParityTells_c0, law13_ParityTells_r0_0, hbig, c0, r0, er, hi.1, hi.2, s0, s1, t0, t1]
  | true =>
    rw [hp] at c0
    have er : ref13_Residues_o_r0_1 x1 = resL x1 := by rw [r1, hp]; rfl
    have ee : law13_ParityTells_e0 x0 x1 = resL x1 := (Res_run x0 hp).2
    have ee' : (parity_Residues_o_S2_e0 (List.replicate x1.length (0 : Int)) x0 x1).c7 = resL x1 := by
      have := (Res_run x0 hp).2
      rwa [Int.toNat_natCast] at this
    have hi := ints_eq (l := resL x1) (k := resL x1) (by rw [resL_len]; exact hl)
    have hb : Nat.beq x1.length (resL x1).length = true := by rw [resL_len]; simp
    simp [law13_ParityTells_c0, law13_ParityTells_r0_0, hbig, c0, c1 hp, r0, er, ee, ee', resL_len, hi.1, hi.2, s0, s1, t0, t1]

end Go.Proofs.Ytdlhhoejnhjbhaa.Den

/- What all rows of a seat rest on. -/
namespace Go.Proofs.Ytdlhhoejnhjbhaa.Den
open Go Go.Proofs
set_option maxRecDepth 100000

theorem own : ownKnob Try.prog.godebug = none := by kernel_rfl
theorem laidOut : laidOutB Try.prog = true := by kernel_rfl
theorem mixed : Try.prog.follows .mixedOrders = true := by kernel_rfl
theorem envOK : EnvOK Try.prog E0 := ⟨e0_cf, fun f args m r m' h => by simp [E0] at h, e0_del⟩
theorem glOK (w : World) : GlOK E0 (cx0 w) := fun g cs h => by simp [E0] at h
end Go.Proofs.Ytdlhhoejnhjbhaa.Den

/- The row of ParityTells. -/
namespace Go.Proofs.Ytdlhhoejnhjbhaa.Den
open Go Go.Proofs Go.ChangeShapes Go.WideShapes Go.ChangeAt Go.RowKit
open Go.Proofs.Ytdlhhoejnhjbhaa (Rows.parityTellsSpec Rows.parityTellsRow Rows.ParityTellsSaid)
set_option maxRecDepth 100000
set_option linter.unusedSimpArgs false
set_option linter.unusedVariables false

theorem row12 (rs : List (List D)) (h : TyAll Try.prog 20 Try.f12.params.toList rs) : ∃ k m', callD E0 k 12 (argsV Try.prog Try.f12.params.toList rs) [] = some ([.d (.bool true)], m') := by
  rw [Try.params12] at h ⊢
  simp only [TyAll] at h
  obtain ⟨_, _, rfl, q0, _, _, rfl, q1, rfl⟩ := h
  have k0 := flatK_ok 20 _ _ _ (show flatK Try.prog 20 22 = some [.l 3] by kernel_rfl) q0
  simp only [CellsK, CellK] at k0
  obtain ⟨d0_0, _, rfl, y0_0, rfl⟩ := k0
  obtain ⟨n0_0, a0_0, rfl, v0_0⟩ : ∃ n l, d0_0 = slD (encI .i64) true 1 n l ∧ (l.length ≤ maxLen ∧ ∀ z ∈ l, WfI .i64 z) := by
    rcases y0_0 with rfl | ⟨rows1, rfl, hl1, m1, hr1⟩
    · exact ⟨true, [], rfl, by simp [maxLen], fun z hz => by simp at hz⟩
    · obtain ⟨l2, rfl, hw2⟩ : ∃ l : List Int, rows1 = l.map (encI .i64) ∧ ∀ z ∈ l, WfI .i64 z := rows_of (T := Ty Try.prog m1 3) (fun r hr => by
          have q := flatK_any (show flatK Try.prog 20 3 = some [.i .i64] by kernel_rfl) hr
          simp only [CellsK, CellK] at q
          obtain ⟨_, _, rfl, ⟨b0, rfl, w0⟩, rfl⟩ := q
          exact ⟨b0, rfl, w0⟩) rows1 hr1
      rw [show isFlat Try.prog 3 = true by kernel_rfl, show Try.prog.cellsOf 3 = 1 by kernel_rfl]
      exact ⟨false, l2, slD_rs _ _ _ _, by simpa using hl1, hw2⟩
  have k1 := flatK_ok 20 _ _ _ (show flatK Try.prog 20 3 = some [.i .i64] by kernel_rfl) q1
  simp only [CellsK, CellK] at k1
  obtain ⟨_, _, rfl, ⟨a1_0, rfl, w1_0⟩, rfl⟩ := k1
  simp only [argsV, argV, Try.underlying3, Try.underlying22, List.map_cons, List.map_nil]
  obtain ⟨g1, g2⟩ := pure_ParityTells n0_0 a0_0 a1_0 v0_0 w1_0
  have hc := law13_ParityTells_t0 n0_0 a0_0 a1_0 g1
  rw [g2] at hc
  obtain ⟨k, hk⟩ := of_cl hc
  exact ⟨k, _, hk⟩

theorem parityTells_lifted (os : Os) (started : os.Started) (H : Type) (enc : TypeId × Value → H) :
    ReturnsInHanded {} Try.checked os 12 .any (Rows.parityTellsSpec.pre6 enc Try.prog Try.f12 Rows.parityTellsRow.domain false) (Rows.parityTellsSpec.post enc Try.prog Try.f12 false true false false) :=
  law_lifted (C := Try.checked) (fn := Try.f12) mixed envOK glOK own started (by kernel_rfl) Try.func12 laidOut
    (ChangeSpec.witness6 (enc := enc) (C := Try.checked) false ⟨#[], #[.slice none 0 0, .int .i64 0], []⟩ 8 (by kernel_rfl) (by kernel_rfl) (by kernel_rfl) (by kernel_rfl))
    (by kernel_rfl) (rt := 4) rfl Try.underlying4 rfl
    (fun ds h => by
      match ds, h with
      | [_, _], _ => rfl)
    row12

theorem parityTells_holds : Rows.ParityTellsSaid :=
  OpenClaim.holds_of_wide 12 Try.f12 rfl rfl rfl rfl rfl rfl rfl ⟨rfl, rfl, rfl, rfl, rfl⟩ rfl rfl rfl rfl rfl (by kernel_rfl) Try.func12 (by kernel_rfl)
    (of_decide_eq_true (by kernel_rfl)) (by unfold Func.isWrapper; first | (rw [if_pos (by decide +kernel)]; kernel_rfl) | (rw [if_neg (by decide +kernel)]; exact ⟨rfl, rfl⟩))
    (fun os started H enc _ => parityTells_lifted os started H enc)

end Go.Proofs.Ytdlhhoejnhjbhaa.Den
