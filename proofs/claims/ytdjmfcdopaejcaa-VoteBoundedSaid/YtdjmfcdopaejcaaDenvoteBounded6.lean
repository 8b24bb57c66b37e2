/- VoteBounded: part 6 of what its proof rests on: an evaluator of the program's code, proved sound; plain functions printed from the code by a program of this session, with proofs; plain laws. No condition. -/
import Derived.Test.YtdjmfcdopaejcaaDenvoteBounded5
import Derived.Test.YtdjmfcdopaejcaaRows

namespace Go.Proofs.Ytdjmfcdopaejcaa.Den
open Go Go.Proofs
set_option linter.unusedVariables false
set_option linter.unusedSimpArgs false
set_option maxRecDepth 100000
theorem mid_more2 {l : List Int} {x a b : Int} (hl : l.length = 2 ∨ l.length = 3) (hb : ∀ z, z ∈ l → a ≤ z ∧ z ≤ b) : a ≤ midI (l ++ [x]) ∧ midI (l ++ [x]) ≤ b := by
  have hp := isort_perm (l ++ [x])
  have hs := isort_srt (l ++ [x])
  have hlen := isort_len (l ++ [x])
  have c1 : (l ++ [x]).countP (fun z => decide (z < a)) ≤ 1 := by
    rw [List.countP_append, List.countP_eq_zero.2 (fun z hz => by have := hb z hz; simp; omega)]
    rw [Nat.zero_add]; exact List.countP_le_length
  have c2 : (l ++ [x]).countP (fun z => decide (b < z)) ≤ 1 := by
    rw [List.countP_append, List.countP_eq_zero.2 (fun z hz => by have := hb z hz; simp; omega)]
    rw [Nat.zero_add]; exact List.countP_le_length
  rw [← hp.countP_eq] at c1 c2
  simp only [List.length_append, List.length_cons, List.length_nil] at hlen
  unfold midI
  simp only [List.length_append, List.length_cons, List.length_nil]
  unfold Srt at hs
  rcases hl with hl | hl
  · rw [hl] at hlen ⊢
    match isort (l ++ [x]), hlen, hs, c1, c2 with
    | [p, q, r], _, hs, c1, c2 =>
      simp only [List.pairwise_cons, List.mem_cons, List.not_mem_nil, or_false, forall_eq_or_imp, forall_eq] at hs
      simp only [List.countP_cons, List.countP_nil] at c1 c2
      have e1 : gt [p, q, r] (((2 + (0 + 1) : Nat) - 1 : Int) / 2) = q := rfl
      have e2 : gt [p, q, r] (((2 + (0 + 1) : Nat) : Int) / 2) = q := rfl
      rw [e1, e2]
      by_cases u1 : q < a
      · have : p < a := by omega
        simp [u1, this] at c1
      · by_cases u2 : b < q
        · have : b < r := by omega
          simp [u2, this] at c2; omega
        · omega
  · rw [hl] at hlen ⊢
    match isort (l ++ [x]), hlen, hs, c1, c2 with
    | [p, q, r, s], _, hs, c1, c2 =>
      simp only [List.pairwise_cons, List.mem_cons, List.not_mem_nil, or_false, forall_eq_or_imp, forall_eq] at hs
      simp only [List.countP_cons, List.countP_nil] at c1 c2
      have e1 : gt [p, q, r, s] (((3 + (0 + 1) : Nat) - 1 : Int) / 2) = q := rfl
      have e2 : gt [p, q, r, s] (((3 + (0 + 1) : Nat) : Int) / 2) = r := rfl
      rw [e1, e2]
      have v1 : a ≤ q := by
        by_cases u1 : q < a
        · have : p < a := by omega
          simp [u1, this] at c1
        · omega
      have v2 : r ≤ b := by
        by_cases u2 : b < r
        · have : b < s := by omega
          simp [u2, this] at c2; omega
        · omega
      omega
theorem leaf {x0 x1 x2 a b o : Int} {l V W : List Int} (hl : l.length = 2 ∨ l.length = 3) (hb : ∀ z, z ∈ l → a ≤ z ∧ z ≤ b) (hab : a ≤ b) (ha : -2147483648 ≤ a) (hbb : b ≤ 2147549182) (ho : -2147483648 ≤ o ∧ o ≤ 2147483647)
    (hV : V.Perm (l ++ [o])) (hW : W.length = V.length) (hwt : ∀ z, z ∈ W → 1 ≤ z ∧ z ≤ 16) :
    vote_Vote_ai3oo_c0 x0 x1 x2 V W = true ∧ (bif tb (law12_VoteBounded_S3_c0 (law12_VoteBounded_S2_r0_4 x0 x1 x2 a b)) then law12_VoteBounded_S4_r0_0 x0 x1 x2 a b (vote_Vote_ai3oo_r0_0 x0 x1 x2 V W) (vote_Vote_ai3oo_r0_1 x0 x1 x2 V W)
      else (false != ((vote_Vote_ai3oo_r0_1 x0 x1 x2 V W) == (vote_Right_ai3_r0_0 x0 x1 x2)))) = true := by
  have hVl : V.length = l.length + 1 := by rw [hV.length_eq]; simp
  obtain ⟨k0, k1, k2⟩ := vote_r (lo := x0) (hi := x1) (cl := x2) (v := V) (w := W) (by omega) (by omega)
  refine ⟨k0, ?_⟩
  by_cases hr : rp x0 x1 x2
  · have r1 := (vright x0 x1 x2).2 hr
    have hv : vok x0 x1 x2 V W := ⟨hr, hW, by omega, fun z hz => by
      rcases List.mem_append.1 (hV.mem_iff.1 hz) with h | h
      · have := hb z h; omega
      · simp at h; omega, hwt⟩
    obtain ⟨e0, e1⟩ := k1 hv
    have hm : a ≤ midI V ∧ midI V ≤ b := by
      have := mid_more2 (x := o) hl hb
      have e : midI V = midI (l ++ [o]) := by unfold midI; rw [hV.length_eq, isort_congr hV]
      rw [e]; exact this
    obtain ⟨f1, f2⟩ := vote_between hv (A := midI V - x2) (B := midI V + x2) (fun z hz => by have := hr.2.2.2; omega)
    rw [e0, e1]
    generalize flo (sums (midI V) x2 V W V.length).1 (sums (midI V) x2 V W V.length).2 = F at *
    obtain ⟨⟨l1, l2⟩, ⟨l3, l4⟩, l5, l6, l7⟩ := hr
    have w1 : wi (a - x2) = a - x2 := wi_eq (by omega) (by omega)
    have w2 : wi (b + x2) = b + x2 := wi_eq (by omega) (by omega)
    have fin : (x0 ≤ a ∧ a ≤ x1 ∨ x0 ≤ b ∧ b ≤ x1) → law12_VoteBounded_S4_r0_0 x0 x1 x2 a b (max x0 (min F x1)) true = true := fun h => by
      have n1 : decide (a - x2 ≤ max x0 (min F x1)) = true := decide_eq_true (by omega)
      have n2 : decide (max x0 (min F x1) ≤ b + x2) = true := decide_eq_true (by omega)
      have n3 : decide (x0 ≤ max x0 (min F x1)) = true := decide_eq_true (by omega)
      have n4 : decide (max x0 (min F x1) ≤ x1) = true := decide_eq_true (by omega)
      simp only [law12_VoteBounded_S4_r0_0, w1, w2, n1, n2, n3, n4, tb_eq, cond_true]
    simp only [law12_VoteBounded_S3_c0, law12_VoteBounded_S2_r0_4, r1, tb_eq, cond_true]
    by_cases q1 : x0 ≤ a <;> by_cases q2 : a ≤ x1 <;> by_cases q3 : x0 ≤ b <;> by_cases q4 : b ≤ x1 <;> simp [q1, q2, q3, q4] <;> exact fin (by omega)
  · have r1 : vote_Right_ai3_r0_0 x0 x1 x2 = false := by
      cases h : vote_Right_ai3_r0_0 x0 x1 x2 with
      | false => rfl
      | true => exact absurd ((vright x0 x1 x2).1 h) hr
    obtain ⟨e0, e1⟩ := k2 (fun h => hr h.1)
    simp [law12_VoteBounded_S3_c0, law12_VoteBounded_S2_r0_4, r1, e1]
def vbS : Nat → law12_VoteBounded_L0_1_S
  | 0 => .h0 ⟨⟩
  | 1 => .h1 ⟨⟩
  | 2 => .h2 ⟨⟩
  | _ => .h3 ⟨⟩
theorem vb_loop {x5 x13 : Int} {n : Nat} (h5 : 0 ≤ x5 ∧ x5 ≤ 65535) (hn : n = 2 ∨ n = 3) (h : x13 % 2 = n - 2) (h13 : 0 ≤ x13 ∧ x13 ≤ 255) : itS (law12_VoteBounded_L0_1_sel x5 x13) (law12_VoteBounded_L0_1_nx x5 x13) bound (.h0 ⟨⟩) = some (vbS n) := by
  have r : wi (remI .u8 x13 2) = x13 % 2 := by rw [show remI .u8 x13 2 = x13 % 2 from Int.tmod_eq_emod_of_nonneg h13.1]; exact wi_eq (by omega) (by omega)
  have w5 : wi x5 = x5 := wi_eq (by omega) (by omega)
  have w6 : wi (x5 + 1) = x5 + 1 := wi_eq (by omega) (by omega)
  have z : ((x5 + 1) == 0) = false := by rw [beq_eq_false_iff_ne]; omega
  rcases hn with rfl | rfl
  · have e : wi (2 + (x13 % 2)) = 2 := by rw [h]; rfl
    exact loop_seq (sel := law12_VoteBounded_L0_1_sel x5 x13) (nx := law12_VoteBounded_L0_1_nx x5 x13) vbS 2 (by omega) (fun k hk => by
      match k, hk with
      | 0, _ => exact ⟨by simp [vbS, law12_VoteBounded_L0_1_sel, law12_VoteBounded_L0_1_h0_sel, r, e, w5, w6, z], rfl⟩
      | 1, _ => exact ⟨by simp [vbS, law12_VoteBounded_L0_1_sel, law12_VoteBounded_L0_1_h1_sel, r, e, w5, w6, z], rfl⟩) (by simp [vbS, law12_VoteBounded_L0_1_sel, law12_VoteBounded_L0_1_h2_sel, r, e])
  · have e : wi (2 + (x13 % 2)) = 3 := by rw [h]; rfl
    exact loop_seq (sel := law12_VoteBounded_L0_1_sel x5 x13) (nx := law12_VoteBounded_L0_1_nx x5 x13) vbS 3 (by omega) (fun k hk => by
      match k, hk with
      | 0, _ => exact ⟨by simp [vbS, law12_VoteBounded_L0_1_sel, law12_VoteBounded_L0_1_h0_sel, r, e, w5, w6, z], rfl⟩
      | 1, _ => exact ⟨by simp [vbS, law12_VoteBounded_L0_1_sel, law12_VoteBounded_L0_1_h1_sel, r, e, w5, w6, z], rfl⟩
      | 2, _ => exact ⟨by simp [vbS, law12_VoteBounded_L0_1_sel, law12_VoteBounded_L0_1_h2_sel, r, e, w5, w6, z], rfl⟩) (by simp [vbS, law12_VoteBounded_L0_1_sel, law12_VoteBounded_L0_1_h3_sel])
theorem pure_VoteBounded (x0 : Int) (x1 : Int) (x2 : Int) (x3 : Int) (x4 : Int) (x5 : Int) (x6 : Int) (x7 : Int) (x8 : Int) (x9 : Int) (x10 : Int) (x11 : Int) (x12 : Int) (x13 : Int) (wx0 : WfI .i64 x0) (wx1 : WfI .i64 x1) (wx2 : WfI .i64 x2) (wx3 : WfI .i32 x3) (wx4 : WfI .i32 x4) (wx5 : WfI .u16 x5) (wx6 : WfI .u16 x6) (wx7 : WfI .u16 x7) (wx8 : WfI .u16 x8) (wx9 : WfI .u8 x9) (wx10 : WfI .u8 x10) (wx11 : WfI .u8 x11) (wx12 : WfI .u8 x12) (wx13 : WfI .u8 x13) : law12_VoteBounded_c0 x0 x1 x2 x3 x4 x5 x6 x7 x8 x9 x10 x11 x12 x13 = true ∧ (law12_VoteBounded_r0_0 x0 x1 x2 x3 x4 x5 x6 x7 x8 x9 x10 x11 x12 x13) = true := by
  have hx9 := wfI_u8 wx9
  have hx10 := wfI_u8 wx10
  have hx11 := wfI_u8 wx11
  have hx12 := wfI_u8 wx12
  have hx13 := wfI_u8 wx13
  simp [WfI, Lit.wf, IntKind.min, IntKind.max, IntKind.signed, IntKind.bits] at wx3 wx4 wx5 wx6 wx7 wx8
  have a3 : wi x3 = x3 := wi_eq (by omega) (by omega)
  have a4 : wi x4 = x4 := wi_eq (by omega) (by omega)
  have a5 : wi x5 = x5 := wi_eq (by omega) (by omega)
  have a6 : wi x6 = x6 := wi_eq (by omega) (by omega)
  have a7 : wi x7 = x7 := wi_eq (by omega) (by omega)
  have a8 : wi x8 = x8 := wi_eq (by omega) (by omega)
  have a13 : wi x13 = x13 := wi_eq (by omega) (by omega)
  have b5 : wi (x5 + 1) = x5 + 1 := wi_eq (by omega) (by omega)
  have c5 : wi (x3 + x5) = x3 + x5 := wi_eq (by omega) (by omega)
  have rm : ∀ (k : IntKind) (x y : Int), 0 ≤ x → remI k x y = x % y := fun k x y h => by unfold remI; exact Int.tmod_eq_emod_of_nonneg h
  have P : ∀ x : Int, 0 ≤ x → 0 ≤ x % (x5 + 1) ∧ x % (x5 + 1) ≤ x5 := fun x _ => ⟨Int.emod_nonneg _ (by omega), by have := Int.emod_lt_of_pos x (show 0 < x5 + 1 by omega); omega⟩
  have p6 := P x6 (by omega)
  have p7 := P x7 (by omega)
  have p8 := P x8 (by omega)
  have q6 : remI .i64 x6 (x5 + 1) = x6 % (x5 + 1) := rm _ _ _ (by omega)
  have q7 : remI .i64 x7 (x5 + 1) = x7 % (x5 + 1) := rm _ _ _ (by omega)
  have q8 : remI .i64 x8 (x5 + 1) = x8 % (x5 + 1) := rm _ _ _ (by omega)
  generalize x6 % (x5 + 1) = y6 at *
  generalize x7 % (x5 + 1) = y7 at *
  generalize x8 % (x5 + 1) = y8 at *
  have v6 : wi (x3 + y6) = x3 + y6 := wi_eq (by omega) (by omega)
  have v7 : wi (x3 + y7) = x3 + y7 := wi_eq (by omega) (by omega)
  have v8 : wi (x3 + y8) = x3 + y8 := wi_eq (by omega) (by omega)
  have Wt : ∀ x : Int, (0 ≤ x ∧ x ≤ 255) → 1 ≤ wi ((wi (remI .u8 x 16)) + 1) ∧ wi ((wi (remI .u8 x 16)) + 1) ≤ 16 := fun x h => by
    rw [rm _ _ _ h.1, wi_eq (x := x % 16) (by omega) (by omega), wi_eq (by omega) (by omega)]; omega
  have u9 := Wt x9 hx9
  have u10 := Wt x10 hx10
  have u11 := Wt x11 hx11
  have u12 := Wt x12 hx12
  generalize hg9 : wi ((wi (remI .u8 x9 16)) + 1) = g9 at *
  generalize hg10 : wi ((wi (remI .u8 x10 16)) + 1) = g10 at *
  generalize hg11 : wi ((wi (remI .u8 x11 16)) + 1) = g11 at *
  generalize hg12 : wi ((wi (remI .u8 x12 16)) + 1) = g12 at *
  have r3 : remI .i64 x13 3 = x13 % 3 := rm _ _ _ (by omega)
  have r4 : remI .i64 x13 4 = x13 % 4 := rm _ _ _ (by omega)
  have r2 : wi (remI .u8 x13 2) = x13 % 2 := by rw [rm _ _ _ hx13.1]; exact wi_eq (by omega) (by omega)
  have F := fun (l V W : List Int) hl hb hV hW hwt => leaf (x0 := x0) (x1 := x1) (x2 := x2) (a := x3) (b := x3 + x5) (o := x4) (l := l) (V := V) (W := W) hl hb (by omega) (by omega) (by omega) (by omega) hV hW hwt
  rcases (by omega : x13 % 2 = 0 ∨ x13 % 2 = 1) with hk | hk
  · have e := vb_loop (x5 := x5) (x13 := x13) (n := 2) (by omega) (.inl rfl) (by omega) hx13
    have E0' : law12_VoteBounded_S1_e0 x5 x13 = .h2 ⟨⟩ := by simp [law12_VoteBounded_S1_e0, law12_VoteBounded_L0_1_end, e, vbS]
    have hok : law12_VoteBounded_L0_1_ok x5 x13 (.h0 ⟨⟩ : law12_VoteBounded_L0_1_S) = true := by simp [law12_VoteBounded_L0_1_ok, e]
    have i0 : law12_VoteBounded_L0_1_is0 (law12_VoteBounded_S1_e0 x5 x13) = false := by rw [E0']; rfl
    have i1 : law12_VoteBounded_L0_1_is1 (law12_VoteBounded_S1_e0 x5 x13) = false := by rw [E0']; rfl
    have i2 : law12_VoteBounded_L0_1_is2 (law12_VoteBounded_S1_e0 x5 x13) = true := by rw [E0']; rfl
    have hc : law12_VoteBounded_L0_1_h2_c0 x13 = true := by simp [law12_VoteBounded_L0_1_h2_c0, r2, hk, show wi 2 = 2 from rfl]
    have S0 : law12_VoteBounded_S1_c0 x0 x1 x2 x4 x5 x6 x9 x12 x13 x3 = false := by simp only [law12_VoteBounded_S1_c0, hok, i0, i1, tb_eq, cond_true, cond_false]
    have hb : ∀ z, z ∈ [x3 + y6, x3 + y7] → x3 ≤ z ∧ z ≤ x3 + x5 := fun z hz => by
      simp only [List.mem_cons, List.not_mem_nil, or_false] at hz; omega
    obtain ⟨s1, t1⟩ := F [x3 + y6, x3 + y7] [x4, x3 + y6, x3 + y7] [g12, g9, g10] (.inl rfl) hb (List.perm_append_comm (l₁ := [x4])) rfl (fun z hz => by simp only [List.mem_cons, List.not_mem_nil, or_false] at hz; omega)
    obtain ⟨s2, t2⟩ := F [x3 + y6, x3 + y7] [x3 + y6, x4, x3 + y7] [g9, g12, g10] (.inl rfl) hb (List.Perm.cons _ (List.perm_append_comm (l₁ := [x4]))) rfl (fun z hz => by simp only [List.mem_cons, List.not_mem_nil, or_false] at hz; omega)
    obtain ⟨s3, t3⟩ := F [x3 + y6, x3 + y7] [x3 + y6, x3 + y7, x4] [g9, g10, g12] (.inl rfl) hb (List.Perm.refl _) rfl (fun z hz => by simp only [List.mem_cons, List.not_mem_nil, or_false] at hz; omega)
    have e8 : law12_VoteBounded_S1_e8 x4 x5 x6 x7 x3 = [x4, x3 + y6, x3 + y7] := by simp only [law12_VoteBounded_S1_e8, a4, a5, a6, a7, b5, q6, q7, v6, v7]
    have e9 : law12_VoteBounded_S1_e9 x9 x10 x12 = [g12, g9, g10] := by simp only [law12_VoteBounded_S1_e9, hg9, hg10, hg12]
    have e10 : law12_VoteBounded_S1_e10 x4 x5 x6 x7 x3 = [x3 + y6, x4, x3 + y7] := by simp only [law12_VoteBounded_S1_e10, a4, a5, a6, a7, b5, q6, q7, v6, v7]
    have e11 : law12_VoteBounded_S1_e11 x9 x10 x12 = [g9, g12, g10] := by simp only [law12_VoteBounded_S1_e11, hg9, hg10, hg12]
    have e12 : law12_VoteBounded_S1_e12 x4 x5 x6 x7 x3 = [x3 + y6, x3 + y7, x4] := by simp only [law12_VoteBounded_S1_e12, a4, a5, a6, a7, b5, q6, q7, v6, v7]
    have e13 : law12_VoteBounded_S1_e13 x9 x10 x12 = [g9, g10, g12] := by simp only [law12_VoteBounded_S1_e13, hg9, hg10, hg12]
    rcases (by omega : x13 % 3 = 0 ∨ x13 % 3 = 1 ∨ x13 % 3 = 2) with k | k | k
    · have S1 : law12_VoteBounded_S1_c1 x0 x1 x2 x4 x5 x6 x7 x9 x10 x12 x13 x3 = true := by simp [law12_VoteBounded_S1_c1, hok, i0, i1, i2, hc, a13, r3, k, e8, e9, s1]
      have R2 : law12_VoteBounded_S1_r1_2 x0 x1 x2 x4 x5 x6 x7 x9 x10 x12 x13 x3 = vote_Vote_ai3oo_r0_0 x0 x1 x2 [x4, x3 + y6, x3 + y7] [g12, g9, g10] := by simp [law12_VoteBounded_S1_r1_2, a13, r3, k, e8, e9]
      have R3 : law12_VoteBounded_S1_r1_3 x0 x1 x2 x4 x5 x6 x7 x9 x10 x12 x13 x3 = vote_Vote_ai3oo_r0_1 x0 x1 x2 [x4, x3 + y6, x3 + y7] [g12, g9, g10] := by simp [law12_VoteBounded_S1_r1_3, a13, r3, k, e8, e9]
      refine ⟨by simp only [law12_VoteBounded_c0, a3, S0, S1, tb_eq, cond_true, cond_false], ?_⟩
      simp only [law12_VoteBounded_r0_0, law12_VoteBounded_e9, law12_VoteBounded_e10, law12_VoteBounded_e7, law12_VoteBounded_e5, law12_VoteBounded_e11, law12_VoteBounded_e8, law12_VoteBounded_e6, a3, a5, c5, S0, S1, R2, R3, tb_eq, cond_true, cond_false]
      exact t1
    · have S1 : law12_VoteBounded_S1_c1 x0 x1 x2 x4 x5 x6 x7 x9 x10 x12 x13 x3 = true := by simp [law12_VoteBounded_S1_c1, hok, i0, i1, i2, hc, a13, r3, k, e10, e11, s2]
      have R2 : law12_VoteBounded_S1_r1_2 x0 x1 x2 x4 x5 x6 x7 x9 x10 x12 x13 x3 = vote_Vote_ai3oo_r0_0 x0 x1 x2 [x3 + y6, x4, x3 + y7] [g9, g12, g10] := by simp [law12_VoteBounded_S1_r1_2, a13, r3, k, e10, e11]
      have R3 : law12_VoteBounded_S1_r1_3 x0 x1 x2 x4 x5 x6 x7 x9 x10 x12 x13 x3 = vote_Vote_ai3oo_r0_1 x0 x1 x2 [x3 + y6, x4, x3 + y7] [g9, g12, g10] := by simp [law12_VoteBounded_S1_r1_3, a13, r3, k, e10, e11]
      refine ⟨by simp only [law12_VoteBounded_c0, a3, S0, S1, tb_eq, cond_true, cond_false], ?_⟩
      simp only [law12_VoteBounded_r0_0, law12_VoteBounded_e9, law12_VoteBounded_e10, law12_VoteBounded_e7, law12_VoteBounded_e5, law12_VoteBounded_e11, law12_VoteBounded_e8, law12_VoteBounded_e6, a3, a5, c5, S0, S1, R2, R3, tb_eq, cond_true, cond_false]
      exact t2
    · have S1 : law12_VoteBounded_S1_c1 x0 x1 x2 x4 x5 x6 x7 x9 x10 x12 x13 x3 = true := by simp [law12_VoteBounded_S1_c1, hok, i0, i1, i2, hc, a13, r3, k, e12, e13, s3]
      have R2 : law12_VoteBounded_S1_r1_2 x0 x1 x2 x4 x5 x6 x7 x9 x10 x12 x13 x3 = vote_Vote_ai3oo_r0_0 x0 x1 x2 [x3 + y6, x3 + y7, x4] [g9, g10, g12] := by simp [law12_VoteBounded_S1_r1_2, a13, r3, k, e12, e13]
      have R3 : law12_VoteBounded_S1_r1_3 x0 x1 x2 x4 x5 x6 x7 x9 x10 x12 x13 x3 = vote_Vote_ai3oo_r0_1 x0 x1 x2 [x3 + y6, x3 + y7, x4] [g9, g10, g12] := by simp [law12_VoteBounded_S1_r1_3, a13, r3, k, e12, e13]
      refine ⟨by simp only [law12_VoteBounded_c0, a3, S0, S1, tb_eq, cond_true, cond_false], ?_⟩
      simp only [law12_VoteBounded_r0_0, law12_VoteBounded_e9, law12_VoteBounded_e10, law12_VoteBounded_e7, law12_VoteBounded_e5, law12_VoteBounded_e11, law12_VoteBounded_e8, law12_VoteBounded_e6, a3, a5, c5, S0, S1, R2, R3, tb_eq, cond_true, cond_false]
      exact t3
  · have e := vb_loop (x5 := x5) (x13 := x13) (n := 3) (by omega) (.inr rfl) (by omega) hx13
    have E0' : law12_VoteBounded_S1_e0 x5 x13 = .h3 ⟨⟩ := by simp [law12_VoteBounded_S1_e0, law12_VoteBounded_L0_1_end, e, vbS]
    have hok : law12_VoteBounded_L0_1_ok x5 x13 (.h0 ⟨⟩ : law12_VoteBounded_L0_1_S) = true := by simp [law12_VoteBounded_L0_1_ok, e]
    have i0 : law12_VoteBounded_L0_1_is0 (law12_VoteBounded_S1_e0 x5 x13) = false := by rw [E0']; rfl
    have i1 : law12_VoteBounded_L0_1_is1 (law12_VoteBounded_S1_e0 x5 x13) = false := by rw [E0']; rfl
    have i2 : law12_VoteBounded_L0_1_is2 (law12_VoteBounded_S1_e0 x5 x13) = false := by rw [E0']; rfl
    have hc : law12_VoteBounded_L0_1_h3_c0 x13 = true := by simp [law12_VoteBounded_L0_1_h3_c0, r2, hk, show wi 3 = 3 from rfl]
    have S0 : law12_VoteBounded_S1_c0 x0 x1 x2 x4 x5 x6 x9 x12 x13 x3 = false := by simp only [law12_VoteBounded_S1_c0, hok, i0, i1, tb_eq, cond_true, cond_false]
    have S0' : law12_VoteBounded_S1_c1 x0 x1 x2 x4 x5 x6 x7 x9 x10 x12 x13 x3 = false := by simp only [law12_VoteBounded_S1_c1, hok, i0, i1, i2, tb_eq, cond_true, cond_false]
    have hb : ∀ z, z ∈ [x3 + y6, x3 + y7, x3 + y8] → x3 ≤ z ∧ z ≤ x3 + x5 := fun z hz => by
      simp only [List.mem_cons, List.not_mem_nil, or_false] at hz; omega
    obtain ⟨s1, t1⟩ := F [x3 + y6, x3 + y7, x3 + y8] [x4, x3 + y6, x3 + y7, x3 + y8] [g12, g9, g10, g11] (.inr rfl) hb (List.perm_append_comm (l₁ := [x4])) rfl (fun z hz => by simp only [List.mem_cons, List.not_mem_nil, or_false] at hz; omega)
    obtain ⟨s2, t2⟩ := F [x3 + y6, x3 + y7, x3 + y8] [x3 + y6, x4, x3 + y7, x3 + y8] [g9, g12, g10, g11] (.inr rfl) hb (List.Perm.cons _ (List.perm_append_comm (l₁ := [x4]))) rfl (fun z hz => by simp only [List.mem_cons, List.not_mem_nil, or_false] at hz; omega)
    obtain ⟨s3, t3⟩ := F [x3 + y6, x3 + y7, x3 + y8] [x3 + y6, x3 + y7, x4, x3 + y8] [g9, g10, g12, g11] (.inr rfl) hb (List.Perm.cons _ (List.Perm.cons _ (List.perm_append_comm (l₁ := [x4])))) rfl (fun z hz => by simp only [List.mem_cons, List.not_mem_nil, or_false] at hz; omega)
    obtain ⟨s4, t4⟩ := F [x3 + y6, x3 + y7, x3 + y8] [x3 + y6, x3 + y7, x3 + y8, x4] [g9, g10, g11, g12] (.inr rfl) hb (List.Perm.refl _) rfl (fun z hz => by simp only [List.mem_cons, List.not_mem_nil, or_false] at hz; omega)
    have e15 : law12_VoteBounded_S1_e15 x4 x5 x6 x7 x8 x3 = [x4, x3 + y6, x3 + y7, x3 + y8] := by simp only [law12_VoteBounded_S1_e15, a4, a5, a6, a7, a8, b5, q6, q7, q8, v6, v7, v8]
    have e16 : law12_VoteBounded_S1_e16 x9 x10 x11 x12 = [g12, g9, g10, g11] := by simp only [law12_VoteBounded_S1_e16, hg9, hg10, hg11, hg12]
    have e17 : law12_VoteBounded_S1_e17 x4 x5 x6 x7 x8 x3 = [x3 + y6, x4, x3 + y7, x3 + y8] := by simp only [law12_VoteBounded_S1_e17, a4, a5, a6, a7, a8, b5, q6, q7, q8, v6, v7, v8]
    have e18 : law12_VoteBounded_S1_e18 x9 x10 x11 x12 = [g9, g12, g10, g11] := by simp only [law12_VoteBounded_S1_e18, hg9, hg10, hg11, hg12]
    have e19 : law12_VoteBounded_S1_e19 x4 x5 x6 x7 x8 x3 = [x3 + y6, x3 + y7, x4, x3 + y8] := by simp only [law12_VoteBounded_S1_e19, a4, a5, a6, a7, a8, b5, q6, q7, q8, v6, v7, v8]
    have e20 : law12_VoteBounded_S1_e20 x9 x10 x11 x12 = [g9, g10, g12, g11] := by simp only [law12_VoteBounded_S1_e20, hg9, hg10, hg11, hg12]
    have e21 : law12_VoteBounded_S1_e21 x4 x5 x6 x7 x8 x3 = [x3 + y6, x3 + y7, x3 + y8, x4] := by simp only [law12_VoteBounded_S1_e21, a4, a5, a6, a7, a8, b5, q6, q7, q8, v6, v7, v8]
    have e22 : law12_VoteBounded_S1_e22 x9 x10 x11 x12 = [g9, g10, g11, g12] := by simp only [law12_VoteBounded_S1_e22, hg9, hg10, hg11, hg12]
    rcases (by omega : x13 % 4 = 0 ∨ x13 % 4 = 1 ∨ x13 % 4 = 2 ∨ x13 % 4 = 3) with k | k | k | k
    · omega
    · have S1 : law12_VoteBounded_S1_c2 x0 x1 x2 x4 x5 x6 x7 x8 x9 x10 x11 x12 x13 x3 = true := by simp [law12_VoteBounded_S1_c2, hok, i0, i1, i2, hc, a13, r4, k, e17, e18, s2]
      have R2 : law12_VoteBounded_S1_r2_2 x0 x1 x2 x4 x5 x6 x7 x8 x9 x10 x11 x12 x13 x3 = vote_Vote_ai3oo_r0_0 x0 x1 x2 [x3 + y6, x4, x3 + y7, x3 + y8] [g9, g12, g10, g11] := by simp [law12_VoteBounded_S1_r2_2, a13, r4, k, e17, e18]
      have R3 : law12_VoteBounded_S1_r2_3 x0 x1 x2 x4 x5 x6 x7 x8 x9 x10 x11 x12 x13 x3 = vote_Vote_ai3oo_r0_1 x0 x1 x2 [x3 + y6, x4, x3 + y7, x3 + y8] [g9, g12, g10, g11] := by simp [law12_VoteBounded_S1_r2_3, a13, r4, k, e17, e18]
      refine ⟨by simp only [law12_VoteBounded_c0, a3, S0, S0', S1, tb_eq, cond_true, cond_false], ?_⟩
      simp only [law12_VoteBounded_r0_0, law12_VoteBounded_e17, law12_VoteBounded_e18, law12_VoteBounded_e19, law12_VoteBounded_e15, law12_VoteBounded_e16, law12_VoteBounded_e13, law12_VoteBounded_e14, a3, a5, c5, S0, S0', S1, R2, R3, tb_eq, cond_true, cond_false]
      exact t2
    · omega
    · have S1 : law12_VoteBounded_S1_c2 x0 x1 x2 x4 x5 x6 x7 x8 x9 x10 x11 x12 x13 x3 = true := by simp [law12_VoteBounded_S1_c2, hok, i0, i1, i2, hc, a13, r4, k, e21, e22, s4]
      have R2 : law12_VoteBounded_S1_r2_2 x0 x1 x2 x4 x5 x6 x7 x8 x9 x10 x11 x12 x13 x3 = vote_Vote_ai3oo_r0_0 x0 x1 x2 [x3 + y6, x3 + y7, x3 + y8, x4] [g9, g10, g11, g12] := by simp [law12_VoteBounded_S1_r2_2, a13, r4, k, e21, e22]
      have R3 : law12_VoteBounded_S1_r2_3 x0 x1 x2 x4 x5 x6 x7 x8 x9 x10 x11 x12 x13 x3 = vote_Vote_ai3oo_r0_1 x0 x1 x2 [x3 + y6, x3 + y7, x3 + y8, x4] [g9, g10, g11, g12] := by simp [law12_VoteBounded_S1_r2_3, a13, r4, k, e21, e22]
      refine ⟨by simp only [law12_VoteBounded_c0, a3, S0, S0', S1, tb_eq, cond_true, cond_false], ?_⟩
      simp only [law12_VoteBounded_r0_0, law12_VoteBounded_e17, law12_VoteBounded_e18, law12_VoteBounded_e19, law12_VoteBounded_e15, law12_VoteBounded_e16, law12_VoteBounded_e13, law12_VoteBounded_e14, a3, a5, c5, S0, S0', S1, R2, R3, tb_eq, cond_true, cond_false]
      exact t4
end Go.Proofs.Ytdjmfcdopaejcaa.Den

namespace Go.Proofs.Ytdjmfcdopaejcaa.Den
open Go Go.Proofs
set_option maxRecDepth 100000
theorem own : ownKnob Try.prog.godebug = none := by kernel_rfl
theorem laidOut : laidOutB Try.prog = true := by kernel_rfl
theorem mixed : Try.prog.follows .mixedOrders = true := by kernel_rfl
theorem envOK : EnvOK Try.prog E0 := ⟨e0_cf, fun f args m r m' h => by simp [E0] at h, e0_del⟩
theorem glOK (w : World) : GlOK E0 (cx0 w) := fun g cs h => by simp [E0] at h
end Go.Proofs.Ytdjmfcdopaejcaa.Den

namespace Go.Proofs.Ytdjmfcdopaejcaa.Den
open Go Go.Proofs Go.ChangeShapes Go.WideShapes Go.ChangeAt Go.RowKit
open Go.Proofs.Ytdjmfcdopaejcaa (Rows.voteBoundedSpec Rows.voteBoundedRow Rows.VoteBoundedSaid)
set_option maxRecDepth 100000
set_option linter.unusedSimpArgs false
set_option linter.unusedVariables false
theorem row12 (rs : List (List D)) (h : TyAll Try.prog 20 Try.f12.params.toList rs) : ∃ k m', callD E0 k 12 (argsV Try.prog Try.f12.params.toList rs) [] = some ([.d (.bool true)], m') := by
  rw [Try.params12] at h ⊢
  simp only [TyAll] at h
  obtain ⟨_, _, rfl, q0, _, _, rfl, q1, rfl⟩ := h
  have k0 := flatK_ok 20 _ _ _ (show flatK Try.prog 20 65 = some [.i .i64, .i .i64, .i .i64] by kernel_rfl) q0
  simp only [CellsK, CellK] at k0
  obtain ⟨_, _, rfl, ⟨a0_0, rfl, w0_0⟩, _, _, rfl, ⟨a0_1, rfl, w0_1⟩, _, _, rfl, ⟨a0_2, rfl, w0_2⟩, rfl⟩ := k0
  have k1 := flatK_ok 20 _ _ _ (show flatK Try.prog 20 80 = some [.i .i32, .i .i32, .i .u16, .i .u16, .i .u16, .i .u16, .i .u8, .i .u8, .i .u8, .i .u8, .i .u8] by kernel_rfl) q1
  simp only [CellsK, CellK] at k1
  obtain ⟨_, _, rfl, ⟨a1_0, rfl, w1_0⟩, _, _, rfl, ⟨a1_1, rfl, w1_1⟩, _, _, rfl, ⟨a1_2, rfl, w1_2⟩, _, _, rfl, ⟨a1_3, rfl, w1_3⟩, _, _, rfl, ⟨a1_4, rfl, w1_4⟩, _, _, rfl, ⟨a1_5, rfl, w1_5⟩, _, _, rfl, ⟨a1_6, rfl, w1_6⟩, _, _, rfl, ⟨a1_7, rfl, w1_7⟩, _, _, rfl, ⟨a1_8, rfl, w1_8⟩, _, _, rfl, ⟨a1_9, rfl, w1_9⟩, _, _, rfl, ⟨a1_10, rfl, w1_10⟩, rfl⟩ := k1
  simp only [argsV, argV, Try.underlying65, Try.underlying80, List.map_cons, List.map_nil]
  obtain ⟨g1, g2⟩ := pure_VoteBounded a0_0 a0_1 a0_2 a1_0 a1_1 a1_2 a1_3 a1_4 a1_5 a1_6 a1_7 a1_8 a1_9 a1_10 w0_0 w0_1 w0_2 w1_0 w1_1 w1_2 w1_3 w1_4 w1_5 w1_6 w1_7 w1_8 w1_9 w1_10
  have hc := law12_VoteBounded_t0 a0_0 a0_1 a0_2 a1_0 a1_1 a1_2 a1_3 a1_4 a1_5 a1_6 a1_7 a1_8 a1_9 a1_10 g1
  rw [g2] at hc
  obtain ⟨k, hk⟩ := of_cl hc
  exact ⟨k, _, hk⟩
theorem voteBounded_lifted (os : Os) (started : os.Started) (H : Type) (enc : TypeId × Value → H) :
    ReturnsInHanded {} Try.checked os 12 .any (Rows.voteBoundedSpec.pre6 enc Try.prog Try.f12 Rows.voteBoundedRow.domain false) (Rows.voteBoundedSpec.post enc Try.prog Try.f12 false true false false) :=
  law_lifted (C := Try.checked) (fn := Try.f12) mixed envOK glOK own started (by kernel_rfl) Try.func12 laidOut
    (ChangeSpec.witness6 (enc := enc) (C := Try.checked) false ⟨#[], #[.agg #[.int .i64 0, .int .i64 0, .int .i64 0], .agg #[.int .i32 0, .int .i32 0, .int .u16 0, .int .u16 0, .int .u16 0, .int .u16 0, .int .u8 0, .int .u8 0, .int .u8 0, .int .u8 0, .int .u8 0]], []⟩ 8 (by kernel_rfl) (by kernel_rfl) (by kernel_rfl) (by kernel_rfl))
    (by kernel_rfl) (rt := 4) rfl Try.underlying4 rfl
    (fun ds h => by
      match ds, h with
      | [_, _], _ => rfl)
    row12
theorem voteBounded_holds : Rows.VoteBoundedSaid :=
  OpenClaim.holds_of_wide 12 Try.f12 rfl rfl rfl rfl rfl rfl rfl ⟨rfl, rfl, rfl, rfl, rfl⟩ rfl rfl rfl rfl rfl (by kernel_rfl) Try.func12 (by kernel_rfl)
    (of_decide_eq_true (by kernel_rfl)) (by unfold Func.isWrapper; first | (rw [if_pos (by decide +kernel)]; kernel_rfl) | (rw [if_neg (by decide +kernel)]; exact ⟨rfl, rfl⟩))
    (fun os started H enc _ => voteBounded_lifted os started H enc)
end Go.Proofs.Ytdjmfcdopaejcaa.Den
