/- VoteBounded: part 5 of what its proof rests on: an evaluator of the program's code, proved sound; plain functions printed from the code by a program of this session, with proofs; plain laws. No condition. -/
import Derived.Test.YtdjmfcdopaejcaaDenvoteBounded4

namespace Go.Proofs.Ytdjmfcdopaejcaa.Den
open Go
set_option linter.unusedVariables false
set_option linter.unusedSimpArgs false
theorem bigr (z : Int) : order_right_c1_i_r0_0 z = !sm z := by
  simp only [order_right_c1_i_r0_0, tb_eq, sm]
  by_cases h1 : z < -1099511627776
  · have : ¬ (-1099511627776 ≤ z) := by omega
    simp [h1, this]
  · have h2 : -1099511627776 ≤ z := by omega
    by_cases h3 : 1099511627776 < z
    · have : ¬ (z ≤ 1099511627776) := by omega
      simp [h1, h2, h3, this]
    · have : z ≤ 1099511627776 := by omega
      simp [h1, h2, h3, this]
theorem idx_big (l : List Int) (hl : l.length < 1152921504606846976) : slices_IndexFunc_int_o_order_right_c1_c0 l = true ∧ (decide (0 ≤ slices_IndexFunc_int_o_order_right_c1_r0_0 l)) = !(l.all sm) := by
  obtain ⟨s1, e, -, h0, h⟩ := all_loop (sel := slices_IndexFunc_int_o_order_right_c1_L0_sel l l.length) (nx := slices_IndexFunc_int_o_order_right_c1_L0_nx l l.length) (s0 := ⟨0⟩) l (fun s => s.c3) sm (fun _ => True) hl rfl trivial
    (fun s _ h1 h2 _ => ⟨by show wi _ = _; exact wi_eq (by omega) (by omega), trivial⟩)
    (fun s _ h1 h2 => by
      by_cases h : s.c3 < l.length
      · have hi := inb_of h1 h
        simp only [slices_IndexFunc_int_o_order_right_c1_L0_sel, h, hi, bigr, tb_eq, decide_true, cond_true, Bool.true_and]
        cases sm (gt l s.c3) <;> rfl
      · simp [slices_IndexFunc_int_o_order_right_c1_L0_sel, h])
  have hok : slices_IndexFunc_int_o_order_right_c1_L0_ok l l.length ⟨0⟩ = true := by simp [slices_IndexFunc_int_o_order_right_c1_L0_ok, e]
  have hend : slices_IndexFunc_int_o_order_right_c1_e0 l = s1 := by simp [slices_IndexFunc_int_o_order_right_c1_e0, slices_IndexFunc_int_o_order_right_c1_L0_end, e]
  simp only [slices_IndexFunc_int_o_order_right_c1_c0, slices_IndexFunc_int_o_order_right_c1_r0_0, hok, hend, tb_eq, cond_true]
  rcases h with ⟨h1, h2⟩ | ⟨h1, h2, h3⟩
  · simp [slices_IndexFunc_int_o_order_right_c1_L0_c0, slices_IndexFunc_int_o_order_right_c1_L0_c1, h1, h2]
  · have hi := inb_of h0 h1
    simp [slices_IndexFunc_int_o_order_right_c1_L0_c0, slices_IndexFunc_int_o_order_right_c1_L0_c1, h1, h3, hi, h0]
def lst16 (l : List Int) : Bool := decide (l.length ≤ 16) && l.all sm
theorem right_o (l : List Int) (hl : l.length < 1152921504606846976) : order_right_o_c0 l = true ∧ order_right_o_r0_0 l = lst16 l := by
  obtain ⟨h1, h2⟩ := idx_big l hl
  simp only [order_right_o_c0, order_right_o_r0_0, slices_ContainsFunc_int_o_order_right_c1_c0, h1, h2, tb_eq, lst16]
  by_cases h : l.length ≤ 16
  · have : ((l.length : Int) ≤ 16) := by omega
    simp [h, this]
  · have : ¬ ((l.length : Int) ≤ 16) := by omega
    simp [h, this]
theorem set_mid {q r : List Int} {a b : Int} : (q ++ a :: r).set q.length b = q ++ b :: r := by
  rw [List.set_append_right _ _ (Nat.le_refl _)]; simp
theorem gt_mid {q r : List Int} {a : Int} : gt (q ++ a :: r) (q.length : Int) = a := by
  rw [gt_nat (by simp)]; simp
theorem gt_mid1 {q r : List Int} {a b : Int} : gt (q ++ a :: b :: r) ((q.length : Int) + 1) = b := by
  have : ((q.length : Int) + 1) = ((q.length + 1 : Nat) : Int) := by omega
  rw [this, gt_nat (by simp)]
  rw [List.getElem_append_right (by omega)]; simp
theorem st_mid {q r : List Int} {a b : Int} : st (q ++ a :: r) (q.length : Int) b = q ++ b :: r := by
  unfold st; rw [Int.toNat_natCast]; exact set_mid
theorem st_mid1 {q r : List Int} {a b c : Int} : st (q ++ a :: b :: r) ((q.length : Int) + 1) c = q ++ a :: c :: r := by
  unfold st
  have : ((q.length : Int) + 1).toNat = (q ++ [a]).length := by simp
  rw [this]
  have e : q ++ a :: b :: r = (q ++ [a]) ++ b :: r := by simp
  rw [e, set_mid]; simp
def passSt (l : List Int) (i : Nat) : order_Sort_o_L1_s0 := ⟨!(bub (l.take i) == l.take i), i, bub (l.take i) ++ l.drop i⟩
theorem pass_run {l : List Int} (hl : 1 ≤ l.length) (hb : l.length ≤ 1000) : itS (order_Sort_o_L1_sel l.length) (order_Sort_o_L1_nx l.length) bound ⟨false, 1, l⟩ = some ⟨!(bub l == l), l.length, bub l⟩ := by
  have := loop_seq (sel := order_Sort_o_L1_sel l.length) (nx := order_Sort_o_L1_nx l.length) (fun k => passSt l (k + 1)) (l.length - 1) (by omega) (fun k hk => ?_) ?_
  · have e0 : passSt l (0 + 1) = ⟨false, 1, l⟩ := by
      cases l with
      | nil => simp at hl
      | cons a r => simp [passSt, bub, bubc]
    have e1 : passSt l (l.length - 1 + 1) = ⟨!(bub l == l), l.length, bub l⟩ := by
      rw [show l.length - 1 + 1 = l.length by omega]; simp [passSt]
    rw [e0, e1] at this; exact this
  · have hne : l.take (k + 1) ≠ [] := by
      intro h
      rw [List.take_eq_nil_iff] at h
      rcases h with h | h
      · omega
      · subst h; simp at hl
    obtain ⟨q, M, h1, h2, h3, h4⟩ := bub_snoc hne
    have hlk : (l.take (k + 1)).length = k + 1 := by simp; omega
    have hq : q.length = k := by omega
    have hdrop : l.drop (k + 1) = gt l ((k + 1 : Nat) : Int) :: l.drop (k + 2) := by
      rw [gt_nat (show k + 1 < l.length by omega)]; exact List.drop_eq_getElem_cons (by omega)
    have htake : l.take (k + 2) = l.take (k + 1) ++ [gt l ((k + 1 : Nat) : Int)] := take_succ_gt (by omega)
    generalize hx : gt l ((k + 1 : Nat) : Int) = x at *
    have h4x := h4 x
    have elist : bub (l.take (k + 1)) ++ l.drop (k + 1) = q ++ M :: x :: l.drop (k + 2) := by rw [h1, hdrop]; simp
    have w1 : wi (((k + 1 : Nat) : Int) - 1) = (q.length : Int) := by rw [wi_eq (by omega) (by omega)]; omega
    have ek : ((k + 1 : Nat) : Int) = (q.length : Int) + 1 := by omega
    have len : (q ++ M :: x :: l.drop (k + 2)).length = l.length := by simp; omega
    have b1 : inb l.length (q.length : Int) = true := inb_of (by omega) (by omega)
    have b2 : inb l.length ((q.length : Int) + 1) = true := inb_of (by omega) (by omega)
    have lt : ((q.length : Int) + 1) < (l.length : Int) := by omega
    have w2 : wi (((q.length : Int) + 1) - 1) = (q.length : Int) := by rw [wi_eq (by omega) (by omega)]; omega
    have w3 : wi (((q.length : Int) + 1) + 1) = ((k + 2 : Nat) : Int) := by rw [wi_eq (by omega) (by omega)]; omega
    have len1 : (q ++ x :: x :: l.drop (k + 2)).length = l.length := by simp; omega
    constructor
    · simp only [passSt, order_Sort_o_L1_sel, elist, ek, w2, gt_mid, gt_mid1, st_mid, b1, b2, lt, len, len1, Nat.beq_refl, tb_eq, decide_true, cond_true]
      cases decide (x < M) <;> rfl
    · simp only [passSt, order_Sort_o_L1_nx, order_Sort_o_L1_h0_e0, elist, ek, w2, w3, gt_mid, gt_mid1, st_mid, st_mid1, tb_eq]
      by_cases hlt : x < M
      · have hne2 : (bub (l.take (k + 2)) == l.take (k + 2)) = false := by
          rw [htake, h4x, if_pos hlt]
          rw [beq_eq_false_iff_ne]
          intro he
          have := congrArg List.getLast? he
          simp at this; omega
        simp only [hlt, decide_true, cond_true, hne2]
        rw [htake, h4x, if_pos hlt]; simp; omega
      · have heq : (bub (l.take (k + 2)) == l.take (k + 2)) = (bub (l.take (k + 1)) == l.take (k + 1)) := by
          rw [htake, h4x, if_neg hlt]
          have : q ++ [M, x] = bub (l.take (k + 1)) ++ [x] := by rw [h1]; simp
          rw [this, Bool.eq_iff_iff]; simp
        simp only [hlt, decide_false, cond_false]
        rw [heq, htake, h4x, if_neg hlt]; simp; omega
  · have : ¬ (((l.length - 1 + 1 : Nat) : Int) < (l.length : Int)) := by omega
    show (bif decide (((l.length - 1 + 1 : Nat) : Int) < (l.length : Int)) then _ else false) = false
    rw [decide_eq_false this]; rfl
theorem pass_all {l : List Int} (hl : 1 ≤ l.length) (hb : l.length ≤ 1000) : order_Sort_o_L1_ok l.length ⟨false, 1, l⟩ = true ∧ order_Sort_o_L1_end l.length ⟨false, 1, l⟩ = ⟨!(bub l == l), l.length, bub l⟩ ∧ order_Sort_o_L1_c0 l.length ⟨!(bub l == l), l.length, bub l⟩ = true := by
  have h := pass_run hl hb
  refine ⟨by simp only [order_Sort_o_L1_ok, h]; rfl, by simp only [order_Sort_o_L1_end, h]; rfl, by simp [order_Sort_o_L1_c0, tb_eq]⟩
theorem passes {l : List Int} (hb : l.length ≤ 1000) : order_Sort_o_S3_c0 l l.length = true ∧ order_Sort_o_L2_r0_3 l.length (l.length : Int) (order_Sort_o_S3_e0 l l.length) = isort l := by
  obtain ⟨n, hn, h1, h2, h3⟩ := bubn_stop l
  have hs : bubn l n = isort l := srt_isort h3 (bubn_perm l n)
  have hrun : itS (order_Sort_o_L2_sel l.length (l.length : Int)) (order_Sort_o_L2_nx l.length (l.length : Int)) bound ⟨0, l⟩ = some ⟨n, bubn l n⟩ := by
    have := loop_seq (sel := order_Sort_o_L2_sel l.length (l.length : Int)) (nx := order_Sort_o_L2_nx l.length (l.length : Int)) (fun k => ⟨(k : Int), bubn l k⟩) n (by omega) (fun k hk => ?_) ?_
    · exact this
    · have hlen := bubn_len l k
      obtain ⟨a1, a2, a3⟩ := pass_all (l := bubn l k) (by omega) (by omega)
      rw [hlen] at a1 a2 a3
      have hne : (bub (bubn l k) == bubn l k) = false := by rw [beq_eq_false_iff_ne]; exact h1 k hk
      have hlt : (k : Int) < (l.length : Int) := by omega
      rw [hne] at a2 a3
      constructor
      · simp only [order_Sort_o_L2_sel, order_Sort_o_L2_h0_e0, a1, a2, a3, hlt, tb_eq]; simp
      · simp only [order_Sort_o_L2_nx, order_Sort_o_L2_h0_e0, a2]
        rw [wi_eq (by omega) (by omega)]
        simp [bubn]
    · by_cases hlt : n < l.length
      · have hfix : bub (bubn l n) = bubn l n := by rcases h2 with h | h; omega; exact h
        have hlen := bubn_len l n
        obtain ⟨a1, a2, a3⟩ := pass_all (l := bubn l n) (by omega) (by omega)
        rw [hlen] at a1 a2 a3
        rw [hfix] at a2 a3
        have hlt' : (n : Int) < (l.length : Int) := by omega
        simp only [order_Sort_o_L2_sel, order_Sort_o_L2_h0_e0, a1, a2, a3, hlt', tb_eq]
        simp
      · have hlt' : ¬ (n : Int) < (l.length : Int) := by omega
        simp only [order_Sort_o_L2_sel, tb_eq]
        rw [decide_eq_false hlt']; rfl
  have he : order_Sort_o_S3_e0 l l.length = ⟨n, bubn l n⟩ := by simp only [order_Sort_o_S3_e0, order_Sort_o_L2_end, hrun]; rfl
  have hok : order_Sort_o_L2_ok l.length (l.length : Int) ⟨0, l⟩ = true := by simp only [order_Sort_o_L2_ok, hrun]; rfl
  by_cases hlt : n < l.length
  · have hfix : bub (bubn l n) = bubn l n := by rcases h2 with h | h; omega; exact h
    have hlen := bubn_len l n
    obtain ⟨a1, a2, a3⟩ := pass_all (l := bubn l n) (by omega) (by omega)
    rw [hlen] at a1 a2 a3
    rw [hfix] at a2 a3
    have hlt' : (n : Int) < (l.length : Int) := by omega
    constructor
    · simp only [order_Sort_o_S3_c0, hok, he, order_Sort_o_L2_c0, order_Sort_o_L2_h0_e0, a1, a2, a3, hlt', tb_eq]; simp
    · simp only [he, order_Sort_o_L2_r0_3, order_Sort_o_L2_h0_e0, a2, hlt', tb_eq, decide_true, cond_true]; exact hs
  · have hlt' : ¬ (n : Int) < (l.length : Int) := by omega
    constructor
    · simp only [order_Sort_o_S3_c0, hok, he, order_Sort_o_L2_c0, hlt', tb_eq]; simp
    · simp only [he, order_Sort_o_L2_r0_3, hlt', tb_eq, decide_false, cond_false]; exact hs
theorem cpL_rep (l : List Int) (z : Int) : cpL (List.replicate l.length z) l = l := by
  simp [cpL]
theorem Sort_r {l : List Int} (h : lst16 l = true) : order_Sort_o_c0 l = true := by
  have hl : l.length ≤ 16 := by simp [lst16] at h; exact h.1
  obtain ⟨a1, a2⟩ := right_o l (by omega)
  obtain ⟨b1, b2⟩ := passes (l := l) (by omega)
  have e1 : ((l.length : Nat) : Int).toNat = l.length := by omega
  have h0 : (0 : Int) ≤ (l.length : Int) := by omega
  have h1 : (l.length : Int) * 8 ≤ 140737488355328 := by omega
  simp only [order_Sort_o_c0, order_Sort_o_S0_c0, order_Sort_o_e0, order_Sort_o_e2, a1, a2, h, e1, List.length_replicate, cpL_rep, b1, h0, h1, tb_eq]; simp
def midI (l : List Int) : Int := (gt (isort l) (((l.length : Int) - 1) / 2) + gt (isort l) ((l.length : Int) / 2)) / 2
def mid4 (l : List Int) : Bool := lst16 l && (decide (1 ≤ l.length) && decide (l.length ≤ 4))
theorem isort_sm {l : List Int} (h : lst16 l = true) {i : Int} (h1 : 0 ≤ i) (h2 : i < l.length) : -1099511627776 ≤ gt (isort l) i ∧ gt (isort l) i ≤ 1099511627776 := by
  have hm := gt_mem (l := isort l) h1 (by rw [isort_len]; exact h2)
  have := (isort_perm l).mem_iff.1 hm
  simp only [lst16, Bool.and_eq_true, List.all_eq_true] at h
  exact sm_iff.1 (h.2 _ this)
theorem Mid_r (l : List Int) (hl : l.length < 1152921504606846976) : order_Mid_o_c0 l = true ∧ order_Mid_o_r0_1 l = mid4 l ∧ (mid4 l = true → order_Mid_o_r0_0 l = midI l) ∧ (mid4 l = false → order_Mid_o_r0_0 l = 0) := by
  obtain ⟨a1, a2⟩ := right_o l hl
  cases h : lst16 l with
  | false =>
    have hm : mid4 l = false := by simp [mid4, h]
    refine ⟨by simp [order_Mid_o_c0, a1, a2, h, tb_eq], by simp [order_Mid_o_r0_1, a2, h, tb_eq, hm], (fun e => by rw [hm] at e; cases e), fun _ => by simp [order_Mid_o_r0_0, a2, h, tb_eq]⟩
  | true =>
    by_cases h1 : l.length < 1
    · have hm : mid4 l = false := by simp [mid4]; omega
      have h1' : (l.length : Int) < 1 := by omega
      refine ⟨by simp only [order_Mid_o_c0, a1, a2, h, tb_eq, h1', decide_true, cond_true], by simp only [order_Mid_o_r0_1, a2, h, tb_eq, hm, h1', decide_true, cond_true], (fun e => by rw [hm] at e; cases e), fun _ => by simp only [order_Mid_o_r0_0, a2, h, tb_eq, h1', decide_true, cond_true]⟩
    · have h1' : ¬ (l.length : Int) < 1 := by omega
      by_cases h2 : 4 < l.length
      · have hm : mid4 l = false := by simp [mid4]; omega
        have h2' : (4 : Int) < (l.length : Int) := by omega
        refine ⟨by simp only [order_Mid_o_c0, a1, a2, h, tb_eq, h1', h2', decide_true, decide_false, cond_true, cond_false], by simp only [order_Mid_o_r0_1, a2, h, tb_eq, hm, h1', h2', decide_true, decide_false, cond_true, cond_false], (fun e => by rw [hm] at e; cases e), fun _ => by simp only [order_Mid_o_r0_0, a2, h, tb_eq, h1', h2', decide_true, decide_false, cond_true, cond_false]⟩
      · have hm : mid4 l = true := by simp [mid4, h]; omega
        have h2' : ¬ (4 : Int) < (l.length : Int) := by omega
        obtain ⟨b1, b2⟩ := passes (l := l) (by omega)
        have e1 : ((l.length : Nat) : Int).toNat = l.length := by omega
        have e0 : order_Sort_o_e0 l = l := by simp only [order_Sort_o_e0, e1, cpL_rep]
        have e2 : order_Sort_o_e2 l = l.length := by simp only [order_Sort_o_e2, e1, List.length_replicate]
        have w1 : wi (((l.length : Nat) : Int) - 1) = (l.length : Int) - 1 := wi_eq (by omega) (by omega)
        have q1 : quoI .i64 ((l.length : Int) - 1) 2 = ((l.length : Int) - 1) / 2 := quo_i64 (by omega) (by omega) (by omega)
        have q2 : quoI .i64 (l.length : Int) 2 = (l.length : Int) / 2 := quo_i64 (by omega) (by omega) (by omega)
        have i1 : inb l.length (((l.length : Int) - 1) / 2) = true := inb_of (by omega) (by omega)
        have i2 : inb l.length ((l.length : Int) / 2) = true := inb_of (by omega) (by omega)
        have m1 := isort_sm h (i := ((l.length : Int) - 1) / 2) (by omega) (by omega)
        have m2 := isort_sm h (i := (l.length : Int) / 2) (by omega) (by omega)
        refine ⟨?_, by simp only [order_Mid_o_r0_1, a2, h, tb_eq, hm, h1', h2', decide_false, cond_true, cond_false], fun _ => ?_, fun e => by rw [hm] at e; cases e⟩
        · simp only [order_Mid_o_c0, a1, a2, h, tb_eq, h1', h2', Sort_r h, e0, e2, w1, q1, q2, i1, i2, b2, isort_len, Nat.beq_refl, decide_false, cond_true, cond_false]
        · simp only [order_Mid_o_r0_0, order_Mid_o_e2, order_Mid_o_e0, order_Mid_o_e1, a2, h, tb_eq, h1', h2', e0, e2, w1, q1, q2, b2, decide_false, cond_true, cond_false, midI]
          rw [wi_eq (by omega) (by omega)]
          exact shr_i64 _ 1 (by omega)
end Go.Proofs.Ytdjmfcdopaejcaa.Den

namespace Go.Proofs.Ytdjmfcdopaejcaa.Den
open Go Go.Proofs
set_option maxRecDepth 100000
set_option maxHeartbeats 4000000
set_option linter.unusedVariables false
set_option linter.unusedSimpArgs false
structure ref01_All_o_L0_s0 where
  c2 : Int
  deriving Inhabited
end Go.Proofs.Ytdjmfcdopaejcaa.Den

namespace Go.Proofs.Ytdjmfcdopaejcaa.Den
open Go
set_option linter.unusedVariables false
set_option linter.unusedSimpArgs false
def flo (a b : Int) : Int := if sm a = true ∧ sm b = true ∧ 1 ≤ b then a.fdiv b else 0
end Go.Proofs.Ytdjmfcdopaejcaa.Den

namespace Go.Proofs.Ytdjmfcdopaejcaa.Den
open Go
set_option linter.unusedVariables false
set_option linter.unusedSimpArgs false
theorem ediv_is {a b k r : Int} (hb : 0 < b) (e : a = r + k * b) (h1 : 0 ≤ r) (h2 : r < b) : a / b = k := by
  rw [e, Int.add_mul_ediv_right _ _ (by omega), Int.ediv_eq_zero_of_lt h1 h2]; omega
theorem fFloor_c (a b : Int) : fix_Floor_ii_c0 a b = true := by
  simp only [fix_Floor_ii_c0, (small2 a b).1, (small2 a b).2, tb_eq, cond_true]
  cases sm a && sm b
  · rfl
  · by_cases h : b < 1
    · simp [h]
    · have : ((b : Int) == 0) = false := by simp; omega
      simp [h, this]
theorem fFloor_r (a b : Int) : fix_Floor_ii_r0_0 a b = flo a b := by
  simp only [fix_Floor_ii_r0_0, (small2 a b).2, tb_eq, flo]
  cases h1 : sm a <;> cases h2 : sm b <;> simp
  rw [sm_iff] at h1 h2
  by_cases hb : b < 1
  · have : ¬ (1 ≤ b) := by omega
    simp [hb, this]
  · have hb1 : 1 ≤ b := by omega
    have hf : a.fdiv b = a / b := Int.fdiv_eq_ediv_of_nonneg _ (by omega)
    have hdm := Int.mul_tdiv_add_tmod a b
    have q1 : -1099511627776 ≤ a.tdiv b ∧ a.tdiv b ≤ 1099511627776 := by
      by_cases ha : 0 ≤ a
      · rw [Int.tdiv_eq_ediv_of_nonneg ha]
        have := Int.ediv_nonneg ha (show 0 ≤ b by omega)
        have := Int.ediv_le_self b ha
        omega
      · have e : a.tdiv b = -((-a).tdiv b) := by rw [Int.neg_tdiv]; omega
        rw [e, Int.tdiv_eq_ediv_of_nonneg (show 0 ≤ -a by omega)]
        have := Int.ediv_nonneg (show 0 ≤ -a by omega) (show 0 ≤ b by omega)
        have := Int.ediv_le_self b (show 0 ≤ -a by omega)
        omega
    have e : quoI .i64 a b = a.tdiv b := by unfold quoI; exact wrap64 (by omega) (by omega)
    have w : wi (a.tdiv b - 1) = a.tdiv b - 1 := wi_eq (by omega) (by omega)
    have hm1 : a.tmod b < b := Int.tmod_lt_of_pos a (by omega)
    have hm2 : -b < a.tmod b := by
      have := Int.lt_tmod_of_pos a (show 0 < b by omega); omega
    simp only [hb, hb1, decide_false, cond_false, if_true, e, remI, w, hf]
    by_cases hneg : a.tmod b < 0
    · have : a / b = a.tdiv b - 1 := ediv_is (r := a.tmod b + b) (by omega) (by rw [Int.sub_mul, Int.mul_comm (a.tdiv b)]; omega) (by omega) (by omega)
      simp [hneg, this]
    · have : a / b = a.tdiv b := ediv_is (r := a.tmod b) (by omega) (by rw [Int.mul_comm (a.tdiv b)]; omega) (by omega) (by omega)
      simp [hneg, this]
end Go.Proofs.Ytdjmfcdopaejcaa.Den

namespace Go.Proofs.Ytdjmfcdopaejcaa.Den
open Go Go.Proofs
set_option maxRecDepth 100000
set_option maxHeartbeats 4000000
set_option linter.unusedVariables false
set_option linter.unusedSimpArgs false
structure ref02_Ints_oo_L0_s0 where
  c4 : Int
  deriving Inhabited
structure ref02_Sort_o_L2_s0 where
  c4 : Bool
  c5 : Bool
  c6 : Int
  c10 : List Int
  deriving Inhabited
structure ref02_Sort_o_L2_1_s0 where
  c4 : Bool
  c5 : Bool
  c6 : Int
  c12 : List Int
  deriving Inhabited
structure ref02_Sort_o_L3_s0 where mk ::
  deriving Inhabited
structure ref02_Sort_o_L3_s1 where
  c2 : Bool
  c3 : Int
  c7 : List Int
  deriving Inhabited
inductive ref02_Sort_o_L3_S where
  | h0 (v : ref02_Sort_o_L3_s0)
  | h1 (v : ref02_Sort_o_L3_s1)
  deriving Inhabited
end Go.Proofs.Ytdjmfcdopaejcaa.Den

namespace Go.Proofs.Ytdjmfcdopaejcaa.Den
open Go
set_option linter.unusedVariables false
set_option linter.unusedSimpArgs false
end Go.Proofs.Ytdjmfcdopaejcaa.Den

namespace Go.Proofs.Ytdjmfcdopaejcaa.Den
open Go Go.Proofs
set_option maxRecDepth 100000
set_option maxHeartbeats 4000000
set_option linter.unusedVariables false
set_option linter.unusedSimpArgs false
def vote_right_i_r0_0 (x0 : Int) : Bool := (bif tb (decide ((-2147483648) ≤ x0)) then (decide (x0 ≤ 2147483647)) else false)
theorem vote_right_i_t0 (x0 : Int) : cl E0 58 [(V.d (.int .i64 x0))] [] = some ([(V.d (.bool (vote_right_i_r0_0 x0)))], []) := by
  unfold vote_right_i_r0_0
  cases h1 : tb (decide ((-2147483648) ≤ x0))
  · exact w58 [.b (tbE h1)] (by kernel_rfl)
  · exact w58 [.b (tbE h1)] (by kernel_rfl)
def vote_Right_ai3_r0_0 (x0 : Int) (x1 : Int) (x2 : Int) : Bool := (bif tb (vote_right_i_r0_0 x0) then (bif tb (vote_right_i_r0_0 x1) then (bif tb (decide (x0 ≤ x1)) then (bif tb (decide (0 ≤ x2)) then (vote_right_i_r0_0 x2) else false) else false) else false) else false)
theorem vote_Right_ai3_t0 (x0 : Int) (x1 : Int) (x2 : Int) : cl E0 45 [(V.agg [(V.d (.int .i64 x0)), (V.d (.int .i64 x1)), (V.d (.int .i64 x2))])] [] = some ([(V.d (.bool (vote_Right_ai3_r0_0 x0 x1 x2)))], []) := by
  unfold vote_Right_ai3_r0_0
  cases h1 : tb (vote_right_i_r0_0 x0)
  · exact w45 [.c (vote_right_i_t0 x0), .b (tbE h1)] (by kernel_rfl)
  · cases h2 : tb (vote_right_i_r0_0 x1)
    · exact w45 [.c (vote_right_i_t0 x0), .b (tbE h1), .c (vote_right_i_t0 x1), .b (tbE h2)] (by kernel_rfl)
    · cases h3 : tb (decide (x0 ≤ x1))
      · exact w45 [.c (vote_right_i_t0 x0), .b (tbE h1), .c (vote_right_i_t0 x1), .b (tbE h2), .b (tbE h3)] (by kernel_rfl)
      · cases h4 : tb (decide (0 ≤ x2))
        · exact w45 [.c (vote_right_i_t0 x0), .b (tbE h1), .c (vote_right_i_t0 x1), .b (tbE h2), .b (tbE h3), .b (tbE h4)] (by kernel_rfl)
        · exact w45 [.c (vote_right_i_t0 x0), .b (tbE h1), .c (vote_right_i_t0 x1), .b (tbE h2), .b (tbE h3), .b (tbE h4), .c (vote_right_i_t0 x2)] (by kernel_rfl)
theorem vote_ones_oo_t0 (x0 : Bool) (x1 : List Int) (x2 : Bool) (x3 : List Int) : cl E0 53 [(V.d (slD (encI .i64) true 1 x0 x1)), (V.d (slD (encI .i64) true 1 x2 x3))] [] = some ([(V.fn (.func 62) [] [(V.ptr 0 1 0 0), (V.ptr 1 1 0 0)])], [(Blk.gen 26 1 [[(V.d (slD (encI .i64) true 1 x0 x1))]] false), (Blk.gen 26 1 [[(V.d (slD (encI .i64) true 1 x2 x3))]] false)]) := by
  exact w53 [] (by kernel_rfl)
def vote_Vote_Y1_ai2_Y43_1p6Fi3FiFbFiFiFi_e0 (x2 : Int) (x5 : Int) (x15 : Int) (x16 : Int) : Int := wi (x16 * (fix_Clamp_iii_r0_0 x15 (wi (x5 - x2)) (wi (x5 + x2))))
def vote_Vote_Y1_ai2_Y43_1p6Fi3FiFbFiFiFi_e1 (x2 : Int) (x5 : Int) (x6 : Int) (x15 : Int) (x16 : Int) : Int := wi (x6 + (vote_Vote_Y1_ai2_Y43_1p6Fi3FiFbFiFiFi_e0 x2 x5 x15 x16))
def vote_Vote_Y1_ai2_Y43_1p6Fi3FiFbFiFiFi_c0 (x15 : Int) (x16 : Int) : Bool := (bif tb (decide (x15 < (-4294967296))) then true else (bif tb (decide (4294967296 < x15)) then true else (bif tb (decide (x16 < 1)) then true else (bif tb (decide (16 < x16)) then true else false))))
def vote_Vote_Y1_ai2_Y43_1p6Fi3FiFbFiFiFi_c1 (x2 : Int) (x5 : Int) (x15 : Int) (x16 : Int) : Bool := (bif tb (decide (x15 < (-4294967296))) then false else (bif tb (decide (4294967296 < x15)) then false else (bif tb (decide (x16 < 1)) then false else (bif tb (decide (16 < x16)) then false else (bif tb (fix_Clamp_iii_c0 x15 (wi (x5 - x2)) (wi (x5 + x2))) then true else false)))))
theorem vote_Vote_Y1_ai2_Y43_1p6Fi3FiFbFiFiFi_t0 (x0 : Int) (x1 : Int) (x2 : Int) (x3 : Int) (x4 : Bool) (x5 : Int) (x6 : Int) (x7 : Int) (x9 : Bool) (x12 : Bool) (x15 : Int) (x16 : Int) : vote_Vote_Y1_ai2_Y43_1p6Fi3FiFbFiFiFi_c0 x15 x16 = true → cl E0 yfn [(V.yl 0), (V.agg [(V.d (.int .i64 x15)), (V.d (.int .i64 x16))])] [(Blk.loop .ready none [V.un, V.un, V.un, (V.ptr 1 1 0 0), V.un, V.un, (V.ptr 2 1 0 0), (V.ptr 3 1 0 0), (V.ptr 4 1 0 0), V.un, (V.ptr 5 1 0 0), (V.ptr 6 1 0 0), V.un, V.un, V.un, V.un, V.un, V.un, V.un, V.un, V.un, V.un, V.un, V.un, V.un, V.un, V.un, V.un, V.un, V.un, V.un, V.un, V.un, V.un, V.un, V.un, V.un, V.un, V.un, V.un, V.un, V.un, V.un, V.un, V.un, V.un, V.un, V.un, V.un, V.un, V.un, V.un, V.un, V.un, V.un, V.un, V.un, V.un, V.un, V.un, V.un, V.un, V.un, V.un, V.un, V.un, V.un, V.un, V.un, V.un, V.un, V.un, V.un, V.un, V.un, V.un, V.un, V.un, V.un, V.un, V.un, V.un] [35] L43_0 L43_1 false), (Blk.flat 65 3 [[(.int .i64 x0), (.int .i64 x1), (.int .i64 x2)]] x9), (Blk.flat 3 1 [[(.int .i64 x3)]] false), (Blk.flat 4 1 [[(.bool x4)]] false), (Blk.flat 3 1 [[(.int .i64 x5)]] x12), (Blk.flat 3 1 [[(.int .i64 x6)]] false), (Blk.flat 3 1 [[(.int .i64 x7)]] false)] = some ([(V.d (.bool false))], [(Blk.loop .done (some .ret) [V.un, V.un, V.un, (V.ptr 1 1 0 0), V.un, V.un, (V.ptr 2 1 0 0), (V.ptr 3 1 0 0), (V.ptr 4 1 0 0), V.un, (V.ptr 5 1 0 0), (V.ptr 6 1 0 0), V.un, V.un, V.un, V.un, V.un, V.un, V.un, V.un, V.un, V.un, V.un, V.un, V.un, V.un, V.un, V.un, V.un, V.un, V.un, V.un, V.un, V.un, V.un, V.un, V.un, V.un, V.un, V.un, V.un, V.un, V.un, V.un, V.un, V.un, V.un, V.un, V.un, V.un, V.un, V.un, V.un, V.un, V.un, V.un, V.un, V.un, V.un, V.un, V.un, V.un, V.un, V.un, V.un, V.un, V.un, V.un, V.un, V.un, V.un, V.un, V.un, V.un, V.un, V.un, V.un, V.un, V.un, V.un, V.un, V.un] [35] L43_0 L43_1 false), (Blk.flat 65 3 [[(.int .i64 x0), (.int .i64 x1), (.int .i64 x2)]] x9), (Blk.flat 3 1 [[(.int .i64 0)]] false), (Blk.flat 4 1 [[(.bool false)]] false), (Blk.flat 3 1 [[(.int .i64 x5)]] x12), (Blk.flat 3 1 [[(.int .i64 x6)]] false), (Blk.flat 3 1 [[(.int .i64 x7)]] false)]) := by
  unfold vote_Vote_Y1_ai2_Y43_1p6Fi3FiFbFiFiFi_c0
  cases h1 : tb (decide (x15 < (-4294967296)))
  · cases h2 : tb (decide (4294967296 < x15))
    · cases h3 : tb (decide (x16 < 1))
      · cases h4 : tb (decide (16 < x16))
        · cases h5 : tb (fix_Clamp_iii_c0 x15 (wi (x5 - x2)) (wi (x5 + x2)))
          · intro g0
            exact absurd g0 ft
          · intro g0
            exact absurd g0 ft
        · intro g0
          exact round_yield [.b (tbE h1), .b (tbE h2), .b (tbE h3), .b (tbE h4)] (by kernel_rfl)
      · intro g0
        exact round_yield [.b (tbE h1), .b (tbE h2), .b (tbE h3)] (by kernel_rfl)
    · intro g0
      exact round_yield [.b (tbE h1), .b (tbE h2)] (by kernel_rfl)
  · intro g0
    exact round_yield [.b (tbE h1)] (by kernel_rfl)
theorem vote_Vote_Y1_ai2_Y43_1p6Fi3FiFbFiFiFi_t1 (x0 : Int) (x1 : Int) (x2 : Int) (x3 : Int) (x4 : Bool) (x5 : Int) (x6 : Int) (x7 : Int) (x9 : Bool) (x12 : Bool) (x15 : Int) (x16 : Int) : vote_Vote_Y1_ai2_Y43_1p6Fi3FiFbFiFiFi_c0 x15 x16 = false → vote_Vote_Y1_ai2_Y43_1p6Fi3FiFbFiFiFi_c1 x2 x5 x15 x16 = true → cl E0 yfn [(V.yl 0), (V.agg [(V.d (.int .i64 x15)), (V.d (.int .i64 x16))])] [(Blk.loop .ready none [V.un, V.un, V.un, (V.ptr 1 1 0 0), V.un, V.un, (V.ptr 2 1 0 0), (V.ptr 3 1 0 0), (V.ptr 4 1 0 0), V.un, (V.ptr 5 1 0 0), (V.ptr 6 1 0 0), V.un, V.un, V.un, V.un, V.un, V.un, V.un, V.un, V.un, V.un, V.un, V.un, V.un, V.un, V.un, V.un, V.un, V.un, V.un, V.un, V.un, V.un, V.un, V.un, V.un, V.un, V.un, V.un, V.un, V.un, V.un, V.un, V.un, V.un, V.un, V.un, V.un, V.un, V.un, V.un, V.un, V.un, V.un, V.un, V.un, V.un, V.un, V.un, V.un, V.un, V.un, V.un, V.un, V.un, V.un, V.un, V.un, V.un, V.un, V.un, V.un, V.un, V.un, V.un, V.un, V.un, V.un, V.un, V.un, V.un] [35] L43_0 L43_1 false), (Blk.flat 65 3 [[(.int .i64 x0), (.int .i64 x1), (.int .i64 x2)]] x9), (Blk.flat 3 1 [[(.int .i64 x3)]] false), (Blk.flat 4 1 [[(.bool x4)]] false), (Blk.flat 3 1 [[(.int .i64 x5)]] x12), (Blk.flat 3 1 [[(.int .i64 x6)]] false), (Blk.flat 3 1 [[(.int .i64 x7)]] false)] = some ([(V.d (.bool true))], [(Blk.loop .ready none [V.un, V.un, V.un, (V.ptr 1 1 0 0), V.un, V.un, (V.ptr 2 1 0 0), (V.ptr 3 1 0 0), (V.ptr 4 1 0 0), V.un, (V.ptr 5 1 0 0), (V.ptr 6 1 0 0), V.un, V.un, V.un, V.un, V.un, V.un, V.un, V.un, V.un, V.un, V.un, V.un, V.un, V.un, V.un, V.un, V.un, V.un, V.un, V.un, V.un, V.un, V.un, V.un, V.un, V.un, V.un, V.un, V.un, V.un, V.un, V.un, V.un, V.un, V.un, V.un, V.un, V.un, V.un, V.un, V.un, V.un, V.un, V.un, V.un, V.un, V.un, V.un, V.un, V.un, V.un, V.un, V.un, V.un, V.un, V.un, V.un, V.un, V.un, V.un, V.un, V.un, V.un, V.un, V.un, V.un, V.un, V.un, V.un, V.un] [35] L43_0 L43_1 false), (Blk.flat 65 3 [[(.int .i64 x0), (.int .i64 x1), (.int .i64 x2)]] x9), (Blk.flat 3 1 [[(.int .i64 x3)]] false), (Blk.flat 4 1 [[(.bool x4)]] false), (Blk.flat 3 1 [[(.int .i64 x5)]] x12), (Blk.flat 3 1 [[(.int .i64 (vote_Vote_Y1_ai2_Y43_1p6Fi3FiFbFiFiFi_e1 x2 x5 x6 x15 x16))]] false), (Blk.flat 3 1 [[(.int .i64 (wi (x7 + x16)))]] false)]) := by
  unfold vote_Vote_Y1_ai2_Y43_1p6Fi3FiFbFiFiFi_c0 vote_Vote_Y1_ai2_Y43_1p6Fi3FiFbFiFiFi_c1
  cases h1 : tb (decide (x15 < (-4294967296)))
  · cases h2 : tb (decide (4294967296 < x15))
    · cases h3 : tb (decide (x16 < 1))
      · cases h4 : tb (decide (16 < x16))
        · cases h5 : tb (fix_Clamp_iii_c0 x15 (wi (x5 - x2)) (wi (x5 + x2)))
          · intro g0 g1
            exact absurd g1 ft
          · intro g0 g1
            exact round_yield [.b (tbE h1), .b (tbE h2), .b (tbE h3), .b (tbE h4), .c (fix_Clamp_iii_t0 x15 (wi (x5 - x2)) (wi (x5 + x2)) (tbE h5))] (by kernel_rfl)
        · intro g0 g1
          exact absurd g0 tf
      · intro g0 g1
        exact absurd g0 tf
    · intro g0 g1
      exact absurd g0 tf
  · intro g0 g1
    exact absurd g0 tf
structure vote_ones_c1_ypp_Y43_1p6Fi3FiFbFiFiFiGoGo_L0_s0 where
  c1 : Int
  c13 : Int
  c15 : Int
  deriving Inhabited
def vote_ones_c1_ypp_Y43_1p6Fi3FiFbFiFiFiGoGo_L0_enc (x0 : Int) (x1 : Int) (x2 : Int) (x3 : Int) (x4 : Bool) (x5 : Int) (x6 : Int) (x7 : Int) (x8 : Bool) (x9 : Bool) (x10 : Bool) (x11 : Bool) (x12 : Bool) (x13 : Bool) (x14 : Bool) (x15 : Bool) (x16 : List Int) (x17 : Bool) (x18 : Bool) (x19 : List Int) (x20 : Bool) (x21 : Int) (x22 : Int) (s0 : vote_ones_c1_ypp_Y43_1p6Fi3FiFbFiFiFiGoGo_L0_s0) : List V × Mem := ([(V.yl 0), (V.ptr 7 1 0 0), (V.ptr 8 1 0 0), (V.d (.int .i64 x21)), (V.d (.int .i64 s0.c1))], [(Blk.loop .ready none [V.un, V.un, V.un, (V.ptr 1 1 0 0), V.un, V.un, (V.ptr 2 1 0 0), (V.ptr 3 1 0 0), (V.ptr 4 1 0 0), V.un, (V.ptr 5 1 0 0), (V.ptr 6 1 0 0), V.un, V.un, V.un, V.un, V.un, V.un, V.un, V.un, V.un, V.un, V.un, V.un, V.un, V.un, V.un, V.un, V.un, V.un, V.un, V.un, V.un, V.un, V.un, V.un, V.un, V.un, V.un, V.un, V.un, V.un, V.un, V.un, V.un, V.un, V.un, V.un, V.un, V.un, V.un, V.un, V.un, V.un, V.un, V.un, V.un, V.un, V.un, V.un, V.un, V.un, V.un, V.un, V.un, V.un, V.un, V.un, V.un, V.un, V.un, V.un, V.un, V.un, V.un, V.un, V.un, V.un, V.un, V.un, V.un, V.un] [35] L43_0 L43_1 false), (Blk.flat 65 3 [[(.int .i64 x0), (.int .i64 x1), (.int .i64 x2)]] x9), (Blk.flat 3 1 [[(.int .i64 x3)]] false), (Blk.flat 4 1 [[(.bool x4)]] false), (Blk.flat 3 1 [[(.int .i64 x5)]] x12), (Blk.flat 3 1 [[(.int .i64 s0.c13)]] false), (Blk.flat 3 1 [[(.int .i64 s0.c15)]] false), (Blk.gen 26 1 [[(V.d (slD (encI .i64) true 1 x15 x16))]] x17), (Blk.gen 26 1 [[(V.d (slD (encI .i64) true 1 x18 x19))]] x20)])
def vote_ones_c1_ypp_Y43_1p6Fi3FiFbFiFiFiGoGo_L0_sel (x2 : Int) (x5 : Int) (x16 : List Int) (x19 : List Int) (x21 : Int) (s0 : vote_ones_c1_ypp_Y43_1p6Fi3FiFbFiFiFiGoGo_L0_s0) : Bool := (bif tb (decide (s0.c1 < x21)) then (bif tb (inb x16.length s0.c1) then (bif tb (inb x19.length s0.c1) then (bif tb (vote_Vote_Y1_ai2_Y43_1p6Fi3FiFbFiFiFi_c0 (gt x16 s0.c1) (gt x19 s0.c1)) then false else (bif tb (vote_Vote_Y1_ai2_Y43_1p6Fi3FiFbFiFiFi_c1 x2 x5 (gt x16 s0.c1) (gt x19 s0.c1)) then true else false)) else false) else false) else false)
def vote_ones_c1_ypp_Y43_1p6Fi3FiFbFiFiFiGoGo_L0_nx (x2 : Int) (x5 : Int) (x16 : List Int) (x19 : List Int) (x21 : Int) (s0 : vote_ones_c1_ypp_Y43_1p6Fi3FiFbFiFiFiGoGo_L0_s0) : vote_ones_c1_ypp_Y43_1p6Fi3FiFbFiFiFiGoGo_L0_s0 := ⟨(wi (s0.c1 + 1)), (vote_Vote_Y1_ai2_Y43_1p6Fi3FiFbFiFiFi_e1 x2 x5 s0.c13 (gt x16 s0.c1) (gt x19 s0.c1)), (wi (s0.c15 + (gt x19 s0.c1)))⟩
def vote_ones_c1_ypp_Y43_1p6Fi3FiFbFiFiFiGoGo_L0_ok (x2 : Int) (x5 : Int) (x16 : List Int) (x19 : List Int) (x21 : Int) (s0 : vote_ones_c1_ypp_Y43_1p6Fi3FiFbFiFiFiGoGo_L0_s0) : Bool := (itS (vote_ones_c1_ypp_Y43_1p6Fi3FiFbFiFiFiGoGo_L0_sel x2 x5 x16 x19 x21) (vote_ones_c1_ypp_Y43_1p6Fi3FiFbFiFiFiGoGo_L0_nx x2 x5 x16 x19 x21) bound s0).isSome
def vote_ones_c1_ypp_Y43_1p6Fi3FiFbFiFiFiGoGo_L0_end (x2 : Int) (x5 : Int) (x16 : List Int) (x19 : List Int) (x21 : Int) (s0 : vote_ones_c1_ypp_Y43_1p6Fi3FiFbFiFiFiGoGo_L0_s0) : vote_ones_c1_ypp_Y43_1p6Fi3FiFbFiFiFiGoGo_L0_s0 := (itS (vote_ones_c1_ypp_Y43_1p6Fi3FiFbFiFiFiGoGo_L0_sel x2 x5 x16 x19 x21) (vote_ones_c1_ypp_Y43_1p6Fi3FiFbFiFiFiGoGo_L0_nx x2 x5 x16 x19 x21) bound s0).getD default
theorem vote_ones_c1_ypp_Y43_1p6Fi3FiFbFiFiFiGoGo_L0_go (x0 : Int) (x1 : Int) (x2 : Int) (x3 : Int) (x4 : Bool) (x5 : Int) (x6 : Int) (x7 : Int) (x8 : Bool) (x9 : Bool) (x10 : Bool) (x11 : Bool) (x12 : Bool) (x13 : Bool) (x14 : Bool) (x15 : Bool) (x16 : List Int) (x17 : Bool) (x18 : Bool) (x19 : List Int) (x20 : Bool) (x21 : Int) (x22 : Int) (s0 : vote_ones_c1_ypp_Y43_1p6Fi3FiFbFiFiFiGoGo_L0_s0) : vote_ones_c1_ypp_Y43_1p6Fi3FiFbFiFiFiGoGo_L0_sel x2 x5 x16 x19 x21 s0 = true → (roundG (runC E0 (cl E0) L62_0) [0, 1, 2, 6, 7] [] 9) (vote_ones_c1_ypp_Y43_1p6Fi3FiFbFiFiFiGoGo_L0_enc x0 x1 x2 x3 x4 x5 x6 x7 x8 x9 x10 x11 x12 x13 x14 x15 x16 x17 x18 x19 x20 x21 x22 s0) = some (.normal, vote_ones_c1_ypp_Y43_1p6Fi3FiFbFiFiFiGoGo_L0_enc x0 x1 x2 x3 x4 x5 x6 x7 x8 x9 x10 x11 x12 x13 x14 x15 x16 x17 x18 x19 x20 x21 x22 (vote_ones_c1_ypp_Y43_1p6Fi3FiFbFiFiFiGoGo_L0_nx x2 x5 x16 x19 x21 s0)) := by
  unfold vote_ones_c1_ypp_Y43_1p6Fi3FiFbFiFiFiGoGo_L0_sel vote_ones_c1_ypp_Y43_1p6Fi3FiFbFiFiFiGoGo_L0_nx
  cases h1 : tb (decide (s0.c1 < x21))
  · intro g0
    exact absurd g0 ft
  · cases h2 : tb (inb x16.length s0.c1)
    · intro g0
      exact absurd g0 ft
    · cases h3 : tb (inb x19.length s0.c1)
      · intro g0
        exact absurd g0 ft
      · cases h4 : tb (vote_Vote_Y1_ai2_Y43_1p6Fi3FiFbFiFiFi_c0 (gt x16 s0.c1) (gt x19 s0.c1))
        · cases h5 : tb (vote_Vote_Y1_ai2_Y43_1p6Fi3FiFbFiFiFi_c1 x2 x5 (gt x16 s0.c1) (gt x19 s0.c1))
          · intro g0
            exact absurd g0 ft
          · intro _
            exact round_walk [.b (tbE h1), .o 13 (fun _ => o_idx_os (enc := (encI .i64)) (l := x16) (fl := true) (n := x15) (s := 1) (k := .i64) (tbE h2)), .o 17 (fun _ => o_idx_os (enc := (encI .i64)) (l := x19) (fl := true) (n := x18) (s := 1) (k := .i64) (tbE h3)), .c (vote_Vote_Y1_ai2_Y43_1p6Fi3FiFbFiFiFi_t1 x0 x1 x2 x3 x4 x5 s0.c13 s0.c15 x9 x12 (gt x16 s0.c1) (gt x19 s0.c1) (tbE h4) (tbE h5)), .k false] (by kernel_rfl)
        · intro g0
          exact absurd g0 ft
def vote_ones_c1_ypp_Y43_1p6Fi3FiFbFiFiFiGoGo_L0_c0 (x16 : List Int) (x19 : List Int) (x21 : Int) (s0 : vote_ones_c1_ypp_Y43_1p6Fi3FiFbFiFiFiGoGo_L0_s0) : Bool := (bif tb (decide (s0.c1 < x21)) then (bif tb (inb x16.length s0.c1) then (bif tb (inb x19.length s0.c1) then (bif tb (vote_Vote_Y1_ai2_Y43_1p6Fi3FiFbFiFiFi_c0 (gt x16 s0.c1) (gt x19 s0.c1)) then true else false) else false) else false) else false)
def vote_ones_c1_ypp_Y43_1p6Fi3FiFbFiFiFiGoGo_L0_c1 (x21 : Int) (s0 : vote_ones_c1_ypp_Y43_1p6Fi3FiFbFiFiFiGoGo_L0_s0) : Bool := (bif tb (decide (s0.c1 < x21)) then false else true)
theorem vote_ones_c1_ypp_Y43_1p6Fi3FiFbFiFiFiGoGo_L0_x0 (x0 : Int) (x1 : Int) (x2 : Int) (x3 : Int) (x4 : Bool) (x5 : Int) (x6 : Int) (x7 : Int) (x8 : Bool) (x9 : Bool) (x10 : Bool) (x11 : Bool) (x12 : Bool) (x13 : Bool) (x14 : Bool) (x15 : Bool) (x16 : List Int) (x17 : Bool) (x18 : Bool) (x19 : List Int) (x20 : Bool) (x21 : Int) (x22 : Int) (s0 : vote_ones_c1_ypp_Y43_1p6Fi3FiFbFiFiFiGoGo_L0_s0) : vote_ones_c1_ypp_Y43_1p6Fi3FiFbFiFiFiGoGo_L0_sel x2 x5 x16 x19 x21 s0 = false → vote_ones_c1_ypp_Y43_1p6Fi3FiFbFiFiFiGoGo_L0_c0 x16 x19 x21 s0 = true → (roundG (runC E0 (cl E0) L62_0) [0, 1, 2, 6, 7] [] 9) (vote_ones_c1_ypp_Y43_1p6Fi3FiFbFiFiFiGoGo_L0_enc x0 x1 x2 x3 x4 x5 x6 x7 x8 x9 x10 x11 x12 x13 x14 x15 x16 x17 x18 x19 x20 x21 x22 s0) = some (.ret, ([], [(Blk.loop .done (some .ret) [V.un, V.un, V.un, (V.ptr 1 1 0 0), V.un, V.un, (V.ptr 2 1 0 0), (V.ptr 3 1 0 0), (V.ptr 4 1 0 0), V.un, (V.ptr 5 1 0 0), (V.ptr 6 1 0 0), V.un, V.un, V.un, V.un, V.un, V.un, V.un, V.un, V.un, V.un, V.un, V.un, V.un, V.un, V.un, V.un, V.un, V.un, V.un, V.un, V.un, V.un, V.un, V.un, V.un, V.un, V.un, V.un, V.un, V.un, V.un, V.un, V.un, V.un, V.un, V.un, V.un, V.un, V.un, V.un, V.un, V.un, V.un, V.un, V.un, V.un, V.un, V.un, V.un, V.un, V.un, V.un, V.un, V.un, V.un, V.un, V.un, V.un, V.un, V.un, V.un, V.un, V.un, V.un, V.un, V.un, V.un, V.un, V.un, V.un] [35] L43_0 L43_1 false), (Blk.flat 65 3 [[(.int .i64 x0), (.int .i64 x1), (.int .i64 x2)]] x9), (Blk.flat 3 1 [[(.int .i64 0)]] false), (Blk.flat 4 1 [[(.bool false)]] false), (Blk.flat 3 1 [[(.int .i64 x5)]] x12), (Blk.flat 3 1 [[(.int .i64 s0.c13)]] false), (Blk.flat 3 1 [[(.int .i64 s0.c15)]] false), (Blk.gen 26 1 [[(V.d (slD (encI .i64) true 1 x15 x16))]] x17), (Blk.gen 26 1 [[(V.d (slD (encI .i64) true 1 x18 x19))]] x20)])) := by
  unfold vote_ones_c1_ypp_Y43_1p6Fi3FiFbFiFiFiGoGo_L0_sel vote_ones_c1_ypp_Y43_1p6Fi3FiFbFiFiFiGoGo_L0_c0
  cases h1 : tb (decide (s0.c1 < x21))
  · intro g0 g1
    exact absurd g1 ft
  · cases h2 : tb (inb x16.length s0.c1)
    · intro g0 g1
      exact absurd g1 ft
    · cases h3 : tb (inb x19.length s0.c1)
      · intro g0 g1
        exact absurd g1 ft
      · cases h4 : tb (vote_Vote_Y1_ai2_Y43_1p6Fi3FiFbFiFiFi_c0 (gt x16 s0.c1) (gt x19 s0.c1))
        · cases h5 : tb (vote_Vote_Y1_ai2_Y43_1p6Fi3FiFbFiFiFi_c1 x2 x5 (gt x16 s0.c1) (gt x19 s0.c1))
          · intro g0 g1
            exact absurd g1 ft
          · intro g0 g1
            exact absurd g0 tf
        · intro g0 g1
          exact round_walk [.b (tbE h1), .o 13 (fun _ => o_idx_os (enc := (encI .i64)) (l := x16) (fl := true) (n := x15) (s := 1) (k := .i64) (tbE h2)), .o 17 (fun _ => o_idx_os (enc := (encI .i64)) (l := x19) (fl := true) (n := x18) (s := 1) (k := .i64) (tbE h3)), .c (vote_Vote_Y1_ai2_Y43_1p6Fi3FiFbFiFiFi_t0 x0 x1 x2 x3 x4 x5 s0.c13 s0.c15 x9 x12 (gt x16 s0.c1) (gt x19 s0.c1) (tbE h4)), .k true] (by kernel_rfl)
theorem vote_ones_c1_ypp_Y43_1p6Fi3FiFbFiFiFiGoGo_L0_x1 (x0 : Int) (x1 : Int) (x2 : Int) (x3 : Int) (x4 : Bool) (x5 : Int) (x6 : Int) (x7 : Int) (x8 : Bool) (x9 : Bool) (x10 : Bool) (x11 : Bool) (x12 : Bool) (x13 : Bool) (x14 : Bool) (x15 : Bool) (x16 : List Int) (x17 : Bool) (x18 : Bool) (x19 : List Int) (x20 : Bool) (x21 : Int) (x22 : Int) (s0 : vote_ones_c1_ypp_Y43_1p6Fi3FiFbFiFiFiGoGo_L0_s0) : vote_ones_c1_ypp_Y43_1p6Fi3FiFbFiFiFiGoGo_L0_sel x2 x5 x16 x19 x21 s0 = false → vote_ones_c1_ypp_Y43_1p6Fi3FiFbFiFiFiGoGo_L0_c0 x16 x19 x21 s0 = false → vote_ones_c1_ypp_Y43_1p6Fi3FiFbFiFiFiGoGo_L0_c1 x21 s0 = true → (roundG (runC E0 (cl E0) L62_0) [0, 1, 2, 6, 7] [] 9) (vote_ones_c1_ypp_Y43_1p6Fi3FiFbFiFiFiGoGo_L0_enc x0 x1 x2 x3 x4 x5 x6 x7 x8 x9 x10 x11 x12 x13 x14 x15 x16 x17 x18 x19 x20 x21 x22 s0) = some ((.exit 0), ([], [(Blk.loop .ready none [V.un, V.un, V.un, (V.ptr 1 1 0 0), V.un, V.un, (V.ptr 2 1 0 0), (V.ptr 3 1 0 0), (V.ptr 4 1 0 0), V.un, (V.ptr 5 1 0 0), (V.ptr 6 1 0 0), V.un, V.un, V.un, V.un, V.un, V.un, V.un, V.un, V.un, V.un, V.un, V.un, V.un, V.un, V.un, V.un, V.un, V.un, V.un, V.un, V.un, V.un, V.un, V.un, V.un, V.un, V.un, V.un, V.un, V.un, V.un, V.un, V.un, V.un, V.un, V.un, V.un, V.un, V.un, V.un, V.un, V.un, V.un, V.un, V.un, V.un, V.un, V.un, V.un, V.un, V.un, V.un, V.un, V.un, V.un, V.un, V.un, V.un, V.un, V.un, V.un, V.un, V.un, V.un, V.un, V.un, V.un, V.un, V.un, V.un] [35] L43_0 L43_1 false), (Blk.flat 65 3 [[(.int .i64 x0), (.int .i64 x1), (.int .i64 x2)]] x9), (Blk.flat 3 1 [[(.int .i64 x3)]] false), (Blk.flat 4 1 [[(.bool x4)]] false), (Blk.flat 3 1 [[(.int .i64 x5)]] x12), (Blk.flat 3 1 [[(.int .i64 s0.c13)]] false), (Blk.flat 3 1 [[(.int .i64 s0.c15)]] false), (Blk.gen 26 1 [[(V.d (slD (encI .i64) true 1 x15 x16))]] x17), (Blk.gen 26 1 [[(V.d (slD (encI .i64) true 1 x18 x19))]] x20)])) := by
  unfold vote_ones_c1_ypp_Y43_1p6Fi3FiFbFiFiFiGoGo_L0_sel vote_ones_c1_ypp_Y43_1p6Fi3FiFbFiFiFiGoGo_L0_c0 vote_ones_c1_ypp_Y43_1p6Fi3FiFbFiFiFiGoGo_L0_c1
  cases h1 : tb (decide (s0.c1 < x21))
  · intro g0 g1 g2
    exact round_walk [.b (tbE h1)] (by kernel_rfl)
  · cases h2 : tb (inb x16.length s0.c1)
    · intro g0 g1 g2
      exact absurd g2 ft
    · cases h3 : tb (inb x19.length s0.c1)
      · intro g0 g1 g2
        exact absurd g2 ft
      · cases h4 : tb (vote_Vote_Y1_ai2_Y43_1p6Fi3FiFbFiFiFi_c0 (gt x16 s0.c1) (gt x19 s0.c1))
        · cases h5 : tb (vote_Vote_Y1_ai2_Y43_1p6Fi3FiFbFiFiFi_c1 x2 x5 (gt x16 s0.c1) (gt x19 s0.c1))
          · intro g0 g1 g2
            exact absurd g2 ft
          · intro g0 g1 g2
            exact absurd g0 tf
        · intro g0 g1 g2
          exact absurd g1 tf
theorem vote_ones_c1_ypp_Y43_1p6Fi3FiFbFiFiFiGoGo_L0_f0_0 (x0 : Int) (x1 : Int) (x2 : Int) (x3 : Int) (x4 : Bool) (x5 : Int) (x6 : Int) (x7 : Int) (x8 : Bool) (x9 : Bool) (x10 : Bool) (x11 : Bool) (x12 : Bool) (x13 : Bool) (x14 : Bool) (x15 : Bool) (x16 : List Int) (x17 : Bool) (x18 : Bool) (x19 : List Int) (x20 : Bool) (x21 : Int) (x22 : Int) (s : vote_ones_c1_ypp_Y43_1p6Fi3FiFbFiFiFiGoGo_L0_s0) (hok : vote_ones_c1_ypp_Y43_1p6Fi3FiFbFiFiFiGoGo_L0_ok x2 x5 x16 x19 x21 s = true) (c0 : vote_ones_c1_ypp_Y43_1p6Fi3FiFbFiFiFiGoGo_L0_c0 x16 x19 x21 (vote_ones_c1_ypp_Y43_1p6Fi3FiFbFiFiFiGoGo_L0_end x2 x5 x16 x19 x21 s) = true) : loopG (roundG (runC E0 (cl E0) L62_0) [0, 1, 2, 6, 7] [] 9) bound (vote_ones_c1_ypp_Y43_1p6Fi3FiFbFiFiFiGoGo_L0_enc x0 x1 x2 x3 x4 x5 x6 x7 x8 x9 x10 x11 x12 x13 x14 x15 x16 x17 x18 x19 x20 x21 x22 s) = some (.ret, ([], [(Blk.loop .done (some .ret) [V.un, V.un, V.un, (V.ptr 1 1 0 0), V.un, V.un, (V.ptr 2 1 0 0), (V.ptr 3 1 0 0), (V.ptr 4 1 0 0), V.un, (V.ptr 5 1 0 0), (V.ptr 6 1 0 0), V.un, V.un, V.un, V.un, V.un, V.un, V.un, V.un, V.un, V.un, V.un, V.un, V.un, V.un, V.un, V.un, V.un, V.un, V.un, V.un, V.un, V.un, V.un, V.un, V.un, V.un, V.un, V.un, V.un, V.un, V.un, V.un, V.un, V.un, V.un, V.un, V.un, V.un, V.un, V.un, V.un, V.un, V.un, V.un, V.un, V.un, V.un, V.un, V.un, V.un, V.un, V.un, V.un, V.un, V.un, V.un, V.un, V.un, V.un, V.un, V.un, V.un, V.un, V.un, V.un, V.un, V.un, V.un, V.un, V.un] [35] L43_0 L43_1 false), (Blk.flat 65 3 [[(.int .i64 x0), (.int .i64 x1), (.int .i64 x2)]] x9), (Blk.flat 3 1 [[(.int .i64 0)]] false), (Blk.flat 4 1 [[(.bool false)]] false), (Blk.flat 3 1 [[(.int .i64 x5)]] x12), (Blk.flat 3 1 [[(.int .i64 ((vote_ones_c1_ypp_Y43_1p6Fi3FiFbFiFiFiGoGo_L0_end x2 x5 x16 x19 x21 s).c13))]] false), (Blk.flat 3 1 [[(.int .i64 ((vote_ones_c1_ypp_Y43_1p6Fi3FiFbFiFiFiGoGo_L0_end x2 x5 x16 x19 x21 s).c15))]] false), (Blk.gen 26 1 [[(V.d (slD (encI .i64) true 1 x15 x16))]] x17), (Blk.gen 26 1 [[(V.d (slD (encI .i64) true 1 x18 x19))]] x20)])) := by
  have e : itS (vote_ones_c1_ypp_Y43_1p6Fi3FiFbFiFiFiGoGo_L0_sel x2 x5 x16 x19 x21) (vote_ones_c1_ypp_Y43_1p6Fi3FiFbFiFiFiGoGo_L0_nx x2 x5 x16 x19 x21) bound s = some (vote_ones_c1_ypp_Y43_1p6Fi3FiFbFiFiFiGoGo_L0_end x2 x5 x16 x19 x21 s) := itS_get hok
  have f := itS_false e
  exact loop_it (vote_ones_c1_ypp_Y43_1p6Fi3FiFbFiFiFiGoGo_L0_go x0 x1 x2 x3 x4 x5 x6 x7 x8 x9 x10 x11 x12 x13 x14 x15 x16 x17 x18 x19 x20 x21 x22) bound s _ _ _ e (fun h => by cases h) (vote_ones_c1_ypp_Y43_1p6Fi3FiFbFiFiFiGoGo_L0_x0 x0 x1 x2 x3 x4 x5 x6 x7 x8 x9 x10 x11 x12 x13 x14 x15 x16 x17 x18 x19 x20 x21 x22 (vote_ones_c1_ypp_Y43_1p6Fi3FiFbFiFiFiGoGo_L0_end x2 x5 x16 x19 x21 s) f c0)
theorem vote_ones_c1_ypp_Y43_1p6Fi3FiFbFiFiFiGoGo_L0_f0_1 (x0 : Int) (x1 : Int) (x2 : Int) (x3 : Int) (x4 : Bool) (x5 : Int) (x6 : Int) (x7 : Int) (x8 : Bool) (x9 : Bool) (x10 : Bool) (x11 : Bool) (x12 : Bool) (x13 : Bool) (x14 : Bool) (x15 : Bool) (x16 : List Int) (x17 : Bool) (x18 : Bool) (x19 : List Int) (x20 : Bool) (x21 : Int) (x22 : Int) (s : vote_ones_c1_ypp_Y43_1p6Fi3FiFbFiFiFiGoGo_L0_s0) (hok : vote_ones_c1_ypp_Y43_1p6Fi3FiFbFiFiFiGoGo_L0_ok x2 x5 x16 x19 x21 s = true) (c0 : vote_ones_c1_ypp_Y43_1p6Fi3FiFbFiFiFiGoGo_L0_c0 x16 x19 x21 (vote_ones_c1_ypp_Y43_1p6Fi3FiFbFiFiFiGoGo_L0_end x2 x5 x16 x19 x21 s) = false) (c1 : vote_ones_c1_ypp_Y43_1p6Fi3FiFbFiFiFiGoGo_L0_c1 x21 (vote_ones_c1_ypp_Y43_1p6Fi3FiFbFiFiFiGoGo_L0_end x2 x5 x16 x19 x21 s) = true) : loopG (roundG (runC E0 (cl E0) L62_0) [0, 1, 2, 6, 7] [] 9) bound (vote_ones_c1_ypp_Y43_1p6Fi3FiFbFiFiFiGoGo_L0_enc x0 x1 x2 x3 x4 x5 x6 x7 x8 x9 x10 x11 x12 x13 x14 x15 x16 x17 x18 x19 x20 x21 x22 s) = some ((.exit 0), ([], [(Blk.loop .ready none [V.un, V.un, V.un, (V.ptr 1 1 0 0), V.un, V.un, (V.ptr 2 1 0 0), (V.ptr 3 1 0 0), (V.ptr 4 1 0 0), V.un, (V.ptr 5 1 0 0), (V.ptr 6 1 0 0), V.un, V.un, V.un, V.un, V.un, V.un, V.un, V.un, V.un, V.un, V.un, V.un, V.un, V.un, V.un, V.un, V.un, V.un, V.un, V.un, V.un, V.un, V.un, V.un, V.un, V.un, V.un, V.un, V.un, V.un, V.un, V.un, V.un, V.un, V.un, V.un, V.un, V.un, V.un, V.un, V.un, V.un, V.un, V.un, V.un, V.un, V.un, V.un, V.un, V.un, V.un, V.un, V.un, V.un, V.un, V.un, V.un, V.un, V.un, V.un, V.un, V.un, V.un, V.un, V.un, V.un, V.un, V.un, V.un, V.un] [35] L43_0 L43_1 false), (Blk.flat 65 3 [[(.int .i64 x0), (.int .i64 x1), (.int .i64 x2)]] x9), (Blk.flat 3 1 [[(.int .i64 x3)]] false), (Blk.flat 4 1 [[(.bool x4)]] false), (Blk.flat 3 1 [[(.int .i64 x5)]] x12), (Blk.flat 3 1 [[(.int .i64 ((vote_ones_c1_ypp_Y43_1p6Fi3FiFbFiFiFiGoGo_L0_end x2 x5 x16 x19 x21 s).c13))]] false), (Blk.flat 3 1 [[(.int .i64 ((vote_ones_c1_ypp_Y43_1p6Fi3FiFbFiFiFiGoGo_L0_end x2 x5 x16 x19 x21 s).c15))]] false), (Blk.gen 26 1 [[(V.d (slD (encI .i64) true 1 x15 x16))]] x17), (Blk.gen 26 1 [[(V.d (slD (encI .i64) true 1 x18 x19))]] x20)])) := by
  have e : itS (vote_ones_c1_ypp_Y43_1p6Fi3FiFbFiFiFiGoGo_L0_sel x2 x5 x16 x19 x21) (vote_ones_c1_ypp_Y43_1p6Fi3FiFbFiFiFiGoGo_L0_nx x2 x5 x16 x19 x21) bound s = some (vote_ones_c1_ypp_Y43_1p6Fi3FiFbFiFiFiGoGo_L0_end x2 x5 x16 x19 x21 s) := itS_get hok
  have f := itS_false e
  exact loop_it (vote_ones_c1_ypp_Y43_1p6Fi3FiFbFiFiFiGoGo_L0_go x0 x1 x2 x3 x4 x5 x6 x7 x8 x9 x10 x11 x12 x13 x14 x15 x16 x17 x18 x19 x20 x21 x22) bound s _ _ _ e (fun h => by cases h) (vote_ones_c1_ypp_Y43_1p6Fi3FiFbFiFiFiGoGo_L0_x1 x0 x1 x2 x3 x4 x5 x6 x7 x8 x9 x10 x11 x12 x13 x14 x15 x16 x17 x18 x19 x20 x21 x22 (vote_ones_c1_ypp_Y43_1p6Fi3FiFbFiFiFiGoGo_L0_end x2 x5 x16 x19 x21 s) f c0 c1)
def vote_ones_c1_ypp_Y43_1p6Fi3FiFbFiFiFiGoGo_e0 (x2 : Int) (x5 : Int) (x6 : Int) (x7 : Int) (x16 : List Int) (x19 : List Int) : vote_ones_c1_ypp_Y43_1p6Fi3FiFbFiFiFiGoGo_L0_s0 := vote_ones_c1_ypp_Y43_1p6Fi3FiFbFiFiFiGoGo_L0_end x2 x5 x16 x19 ((x16.length : Nat) : Int) (⟨0, x6, x7⟩ : vote_ones_c1_ypp_Y43_1p6Fi3FiFbFiFiFiGoGo_L0_s0)
def vote_ones_c1_ypp_Y43_1p6Fi3FiFbFiFiFiGoGo_c0 (x2 : Int) (x5 : Int) (x6 : Int) (x7 : Int) (x16 : List Int) (x19 : List Int) : Bool := (bif tb (vote_ones_c1_ypp_Y43_1p6Fi3FiFbFiFiFiGoGo_L0_ok x2 x5 x16 x19 ((x16.length : Nat) : Int) (⟨0, x6, x7⟩ : vote_ones_c1_ypp_Y43_1p6Fi3FiFbFiFiFiGoGo_L0_s0)) then (bif tb (vote_ones_c1_ypp_Y43_1p6Fi3FiFbFiFiFiGoGo_L0_c0 x16 x19 ((x16.length : Nat) : Int) (vote_ones_c1_ypp_Y43_1p6Fi3FiFbFiFiFiGoGo_e0 x2 x5 x6 x7 x16 x19)) then true else false) else false)
def vote_ones_c1_ypp_Y43_1p6Fi3FiFbFiFiFiGoGo_c1 (x2 : Int) (x5 : Int) (x6 : Int) (x7 : Int) (x16 : List Int) (x19 : List Int) : Bool := (bif tb (vote_ones_c1_ypp_Y43_1p6Fi3FiFbFiFiFiGoGo_L0_ok x2 x5 x16 x19 ((x16.length : Nat) : Int) (⟨0, x6, x7⟩ : vote_ones_c1_ypp_Y43_1p6Fi3FiFbFiFiFiGoGo_L0_s0)) then (bif tb (vote_ones_c1_ypp_Y43_1p6Fi3FiFbFiFiFiGoGo_L0_c0 x16 x19 ((x16.length : Nat) : Int) (vote_ones_c1_ypp_Y43_1p6Fi3FiFbFiFiFiGoGo_e0 x2 x5 x6 x7 x16 x19)) then false else (bif tb (vote_ones_c1_ypp_Y43_1p6Fi3FiFbFiFiFiGoGo_L0_c1 ((x16.length : Nat) : Int) (vote_ones_c1_ypp_Y43_1p6Fi3FiFbFiFiFiGoGo_e0 x2 x5 x6 x7 x16 x19)) then true else false)) else false)
theorem vote_ones_c1_ypp_Y43_1p6Fi3FiFbFiFiFiGoGo_t0 (x0 : Int) (x1 : Int) (x2 : Int) (x3 : Int) (x4 : Bool) (x5 : Int) (x6 : Int) (x7 : Int) (x9 : Bool) (x12 : Bool) (x15 : Bool) (x16 : List Int) (x17 : Bool) (x18 : Bool) (x19 : List Int) (x20 : Bool) : vote_ones_c1_ypp_Y43_1p6Fi3FiFbFiFiFiGoGo_c0 x2 x5 x6 x7 x16 x19 = true → cl E0 62 [(V.yl 0), (V.ptr 7 1 0 0), (V.ptr 8 1 0 0)] [(Blk.loop .ready none [V.un, V.un, V.un, (V.ptr 1 1 0 0), V.un, V.un, (V.ptr 2 1 0 0), (V.ptr 3 1 0 0), (V.ptr 4 1 0 0), V.un, (V.ptr 5 1 0 0), (V.ptr 6 1 0 0), V.un, V.un, V.un, V.un, V.un, V.un, V.un, V.un, V.un, V.un, V.un, V.un, V.un, V.un, V.un, V.un, V.un, V.un, V.un, V.un, V.un, V.un, V.un, V.un, V.un, V.un, V.un, V.un, V.un, V.un, V.un, V.un, V.un, V.un, V.un, V.un, V.un, V.un, V.un, V.un, V.un, V.un, V.un, V.un, V.un, V.un, V.un, V.un, V.un, V.un, V.un, V.un, V.un, V.un, V.un, V.un, V.un, V.un, V.un, V.un, V.un, V.un, V.un, V.un, V.un, V.un, V.un, V.un, V.un, V.un] [35] L43_0 L43_1 false), (Blk.flat 65 3 [[(.int .i64 x0), (.int .i64 x1), (.int .i64 x2)]] x9), (Blk.flat 3 1 [[(.int .i64 x3)]] false), (Blk.flat 4 1 [[(.bool x4)]] false), (Blk.flat 3 1 [[(.int .i64 x5)]] x12), (Blk.flat 3 1 [[(.int .i64 x6)]] false), (Blk.flat 3 1 [[(.int .i64 x7)]] false), (Blk.gen 26 1 [[(V.d (slD (encI .i64) true 1 x15 x16))]] x17), (Blk.gen 26 1 [[(V.d (slD (encI .i64) true 1 x18 x19))]] x20)] = some ([], [(Blk.loop .done (some .ret) [V.un, V.un, V.un, (V.ptr 1 1 0 0), V.un, V.un, (V.ptr 2 1 0 0), (V.ptr 3 1 0 0), (V.ptr 4 1 0 0), V.un, (V.ptr 5 1 0 0), (V.ptr 6 1 0 0), V.un, V.un, V.un, V.un, V.un, V.un, V.un, V.un, V.un, V.un, V.un, V.un, V.un, V.un, V.un, V.un, V.un, V.un, V.un, V.un, V.un, V.un, V.un, V.un, V.un, V.un, V.un, V.un, V.un, V.un, V.un, V.un, V.un, V.un, V.un, V.un, V.un, V.un, V.un, V.un, V.un, V.un, V.un, V.un, V.un, V.un, V.un, V.un, V.un, V.un, V.un, V.un, V.un, V.un, V.un, V.un, V.un, V.un, V.un, V.un, V.un, V.un, V.un, V.un, V.un, V.un, V.un, V.un, V.un, V.un] [35] L43_0 L43_1 false), (Blk.flat 65 3 [[(.int .i64 x0), (.int .i64 x1), (.int .i64 x2)]] x9), (Blk.flat 3 1 [[(.int .i64 0)]] false), (Blk.flat 4 1 [[(.bool false)]] false), (Blk.flat 3 1 [[(.int .i64 x5)]] x12), (Blk.flat 3 1 [[(.int .i64 ((vote_ones_c1_ypp_Y43_1p6Fi3FiFbFiFiFiGoGo_e0 x2 x5 x6 x7 x16 x19).c13))]] false), (Blk.flat 3 1 [[(.int .i64 ((vote_ones_c1_ypp_Y43_1p6Fi3FiFbFiFiFiGoGo_e0 x2 x5 x6 x7 x16 x19).c15))]] false), (Blk.gen 26 1 [[(V.d (slD (encI .i64) true 1 x15 x16))]] x17), (Blk.gen 26 1 [[(V.d (slD (encI .i64) true 1 x18 x19))]] x20)]) := by
  unfold vote_ones_c1_ypp_Y43_1p6Fi3FiFbFiFiFiGoGo_c0
  cases h1 : tb (vote_ones_c1_ypp_Y43_1p6Fi3FiFbFiFiFiGoGo_L0_ok x2 x5 x16 x19 ((x16.length : Nat) : Int) (⟨0, x6, x7⟩ : vote_ones_c1_ypp_Y43_1p6Fi3FiFbFiFiFiGoGo_L0_s0))
  · intro g0
    exact absurd g0 ft
  · cases h2 : tb (vote_ones_c1_ypp_Y43_1p6Fi3FiFbFiFiFiGoGo_L0_c0 x16 x19 ((x16.length : Nat) : Int) (vote_ones_c1_ypp_Y43_1p6Fi3FiFbFiFiFiGoGo_e0 x2 x5 x6 x7 x16 x19))
    · cases h3 : tb (vote_ones_c1_ypp_Y43_1p6Fi3FiFbFiFiFiGoGo_L0_c1 ((x16.length : Nat) : Int) (vote_ones_c1_ypp_Y43_1p6Fi3FiFbFiFiFiGoGo_e0 x2 x5 x6 x7 x16 x19))
      · intro g0
        exact absurd g0 ft
      · intro g0
        exact absurd g0 ft
    · intro g0
      exact w62 [.o 6 (fun _ => o_len_os (enc := (encI .i64)) (l := x16) (fl := true) (n := x15) (s := 1)), .l (vote_ones_c1_ypp_Y43_1p6Fi3FiFbFiFiFiGoGo_L0_f0_0 x0 x1 x2 x3 x4 x5 x6 x7 false x9 false false x12 false false x15 x16 x17 x18 x19 x20 ((x16.length : Nat) : Int) 0 (⟨0, x6, x7⟩ : vote_ones_c1_ypp_Y43_1p6Fi3FiFbFiFiFiGoGo_L0_s0) (tbE h1) (tbE h2))] (by kernel_rfl)
theorem vote_ones_c1_ypp_Y43_1p6Fi3FiFbFiFiFiGoGo_t1 (x0 : Int) (x1 : Int) (x2 : Int) (x3 : Int) (x4 : Bool) (x5 : Int) (x6 : Int) (x7 : Int) (x9 : Bool) (x12 : Bool) (x15 : Bool) (x16 : List Int) (x17 : Bool) (x18 : Bool) (x19 : List Int) (x20 : Bool) : vote_ones_c1_ypp_Y43_1p6Fi3FiFbFiFiFiGoGo_c0 x2 x5 x6 x7 x16 x19 = false → vote_ones_c1_ypp_Y43_1p6Fi3FiFbFiFiFiGoGo_c1 x2 x5 x6 x7 x16 x19 = true → cl E0 62 [(V.yl 0), (V.ptr 7 1 0 0), (V.ptr 8 1 0 0)] [(Blk.loop .ready none [V.un, V.un, V.un, (V.ptr 1 1 0 0), V.un, V.un, (V.ptr 2 1 0 0), (V.ptr 3 1 0 0), (V.ptr 4 1 0 0), V.un, (V.ptr 5 1 0 0), (V.ptr 6 1 0 0), V.un, V.un, V.un, V.un, V.un, V.un, V.un, V.un, V.un, V.un, V.un, V.un, V.un, V.un, V.un, V.un, V.un, V.un, V.un, V.un, V.un, V.un, V.un, V.un, V.un, V.un, V.un, V.un, V.un, V.un, V.un, V.un, V.un, V.un, V.un, V.un, V.un, V.un, V.un, V.un, V.un, V.un, V.un, V.un, V.un, V.un, V.un, V.un, V.un, V.un, V.un, V.un, V.un, V.un, V.un, V.un, V.un, V.un, V.un, V.un, V.un, V.un, V.un, V.un, V.un, V.un, V.un, V.un, V.un, V.un] [35] L43_0 L43_1 false), (Blk.flat 65 3 [[(.int .i64 x0), (.int .i64 x1), (.int .i64 x2)]] x9), (Blk.flat 3 1 [[(.int .i64 x3)]] false), (Blk.flat 4 1 [[(.bool x4)]] false), (Blk.flat 3 1 [[(.int .i64 x5)]] x12), (Blk.flat 3 1 [[(.int .i64 x6)]] false), (Blk.flat 3 1 [[(.int .i64 x7)]] false), (Blk.gen 26 1 [[(V.d (slD (encI .i64) true 1 x15 x16))]] x17), (Blk.gen 26 1 [[(V.d (slD (encI .i64) true 1 x18 x19))]] x20)] = some ([], [(Blk.loop .ready none [V.un, V.un, V.un, (V.ptr 1 1 0 0), V.un, V.un, (V.ptr 2 1 0 0), (V.ptr 3 1 0 0), (V.ptr 4 1 0 0), V.un, (V.ptr 5 1 0 0), (V.ptr 6 1 0 0), V.un, V.un, V.un, V.un, V.un, V.un, V.un, V.un, V.un, V.un, V.un, V.un, V.un, V.un, V.un, V.un, V.un, V.un, V.un, V.un, V.un, V.un, V.un, V.un, V.un, V.un, V.un, V.un, V.un, V.un, V.un, V.un, V.un, V.un, V.un, V.un, V.un, V.un, V.un, V.un, V.un, V.un, V.un, V.un, V.un, V.un, V.un, V.un, V.un, V.un, V.un, V.un, V.un, V.un, V.un, V.un, V.un, V.un, V.un, V.un, V.un, V.un, V.un, V.un, V.un, V.un, V.un, V.un, V.un, V.un] [35] L43_0 L43_1 false), (Blk.flat 65 3 [[(.int .i64 x0), (.int .i64 x1), (.int .i64 x2)]] x9), (Blk.flat 3 1 [[(.int .i64 x3)]] false), (Blk.flat 4 1 [[(.bool x4)]] false), (Blk.flat 3 1 [[(.int .i64 x5)]] x12), (Blk.flat 3 1 [[(.int .i64 ((vote_ones_c1_ypp_Y43_1p6Fi3FiFbFiFiFiGoGo_e0 x2 x5 x6 x7 x16 x19).c13))]] false), (Blk.flat 3 1 [[(.int .i64 ((vote_ones_c1_ypp_Y43_1p6Fi3FiFbFiFiFiGoGo_e0 x2 x5 x6 x7 x16 x19).c15))]] false), (Blk.gen 26 1 [[(V.d (slD (encI .i64) true 1 x15 x16))]] x17), (Blk.gen 26 1 [[(V.d (slD (encI .i64) true 1 x18 x19))]] x20)]) := by
  unfold vote_ones_c1_ypp_Y43_1p6Fi3FiFbFiFiFiGoGo_c0 vote_ones_c1_ypp_Y43_1p6Fi3FiFbFiFiFiGoGo_c1
  cases h1 : tb (vote_ones_c1_ypp_Y43_1p6Fi3FiFbFiFiFiGoGo_L0_ok x2 x5 x16 x19 ((x16.length : Nat) : Int) (⟨0, x6, x7⟩ : vote_ones_c1_ypp_Y43_1p6Fi3FiFbFiFiFiGoGo_L0_s0))
  · intro g0 g1
    exact absurd g1 ft
  · cases h2 : tb (vote_ones_c1_ypp_Y43_1p6Fi3FiFbFiFiFiGoGo_L0_c0 x16 x19 ((x16.length : Nat) : Int) (vote_ones_c1_ypp_Y43_1p6Fi3FiFbFiFiFiGoGo_e0 x2 x5 x6 x7 x16 x19))
    · cases h3 : tb (vote_ones_c1_ypp_Y43_1p6Fi3FiFbFiFiFiGoGo_L0_c1 ((x16.length : Nat) : Int) (vote_ones_c1_ypp_Y43_1p6Fi3FiFbFiFiFiGoGo_e0 x2 x5 x6 x7 x16 x19))
      · intro g0 g1
        exact absurd g1 ft
      · intro g0 g1
        exact w62 [.o 6 (fun _ => o_len_os (enc := (encI .i64)) (l := x16) (fl := true) (n := x15) (s := 1)), .l (vote_ones_c1_ypp_Y43_1p6Fi3FiFbFiFiFiGoGo_L0_f0_1 x0 x1 x2 x3 x4 x5 x6 x7 false x9 false false x12 false false x15 x16 x17 x18 x19 x20 ((x16.length : Nat) : Int) 0 (⟨0, x6, x7⟩ : vote_ones_c1_ypp_Y43_1p6Fi3FiFbFiFiFiGoGo_L0_s0) (tbE h1) (tbE h2) (tbE h3))] (by kernel_rfl)
    · intro g0 g1
      exact absurd g0 tf
def vote_Vote_ai3oo_S2_e0 (x2 : Int) (x7 : List Int) (x9 : List Int) : Int := ((vote_ones_c1_ypp_Y43_1p6Fi3FiFbFiFiFiGoGo_e0 x2 (order_Mid_o_r0_0 x7) 0 0 x7 x9).c13)
def vote_Vote_ai3oo_S2_e1 (x2 : Int) (x7 : List Int) (x9 : List Int) : Int := ((vote_ones_c1_ypp_Y43_1p6Fi3FiFbFiFiFiGoGo_e0 x2 (order_Mid_o_r0_0 x7) 0 0 x7 x9).c15)
def vote_Vote_ai3oo_S2_e2 (x2 : Int) (x7 : List Int) (x9 : List Int) : Int := (fix_Floor_ii_r0_0 (vote_Vote_ai3oo_S2_e0 x2 x7 x9) (vote_Vote_ai3oo_S2_e1 x2 x7 x9))
def vote_Vote_ai3oo_S2_c0 (x0 : Int) (x1 : Int) (x2 : Int) (x7 : List Int) (x9 : List Int) : Bool := (bif tb (order_Mid_o_c0 x7) then (bif tb (vote_Right_ai3_r0_0 x0 x1 x2) then (bif tb (order_Mid_o_r0_1 x7) then (bif tb ((((x9.length : Nat) : Int) : Int) != ((x7.length : Nat) : Int)) then true else (bif tb (vote_ones_c1_ypp_Y43_1p6Fi3FiFbFiFiFiGoGo_c0 x2 (order_Mid_o_r0_0 x7) 0 0 x7 x9) then true else false)) else true) else true) else false)
def vote_Vote_ai3oo_S2_c1 (x0 : Int) (x1 : Int) (x2 : Int) (x7 : List Int) (x9 : List Int) : Bool := (bif tb (order_Mid_o_c0 x7) then (bif tb (vote_Right_ai3_r0_0 x0 x1 x2) then (bif tb (order_Mid_o_r0_1 x7) then (bif tb ((((x9.length : Nat) : Int) : Int) != ((x7.length : Nat) : Int)) then false else (bif tb (vote_ones_c1_ypp_Y43_1p6Fi3FiFbFiFiFiGoGo_c0 x2 (order_Mid_o_r0_0 x7) 0 0 x7 x9) then false else (bif tb (vote_ones_c1_ypp_Y43_1p6Fi3FiFbFiFiFiGoGo_c1 x2 (order_Mid_o_r0_0 x7) 0 0 x7 x9) then (bif tb (fix_Floor_ii_c0 (vote_Vote_ai3oo_S2_e0 x2 x7 x9) (vote_Vote_ai3oo_S2_e1 x2 x7 x9)) then (bif tb (fix_Clamp_iii_c0 (vote_Vote_ai3oo_S2_e2 x2 x7 x9) x0 x1) then true else false) else false) else false))) else false) else false) else false)
theorem vote_Vote_ai3oo_S2_t0 (x0 : Int) (x1 : Int) (x2 : Int) (x3 : Bool) (x6 : Bool) (x7 : List Int) (x8 : Bool) (x9 : List Int) : vote_Vote_ai3oo_S2_c0 x0 x1 x2 x7 x9 = true → segG (runC E0 (cl E0) S43_2) [1, 2, 3, 6, 7] [6, 7] [6, 7] 3 ([(V.d (slD (encI .i64) true 1 x6 x7)), (V.d (slD (encI .i64) true 1 x8 x9)), (V.ptr 0 1 0 0), (V.ptr 1 1 0 0), (V.ptr 2 1 0 0)], [(Blk.flat 65 3 [[(.int .i64 x0), (.int .i64 x1), (.int .i64 x2)]] x3), (Blk.flat 3 1 [[(.int .i64 0)]] false), (Blk.flat 4 1 [[(.bool false)]] false)]) = some (.ret, ([(V.ptr 1 1 0 0), (V.ptr 2 1 0 0)], [(Blk.flat 65 3 [[(.int .i64 x0), (.int .i64 x1), (.int .i64 x2)]] x3), (Blk.flat 3 1 [[(.int .i64 0)]] false), (Blk.flat 4 1 [[(.bool false)]] false)])) := by
  unfold vote_Vote_ai3oo_S2_c0
  cases h1 : tb (order_Mid_o_c0 x7)
  · intro g0
    exact absurd g0 ft
  · cases h2 : tb (vote_Right_ai3_r0_0 x0 x1 x2)
    · intro g0
      exact seg_walk [.c (order_Mid_o_t0 x6 x7 (tbE h1)), .c (vote_Right_ai3_t0 x0 x1 x2), .b (notF (tbE h2))] (by kernel_rfl)
    · cases h3 : tb (order_Mid_o_r0_1 x7)
      · intro g0
        exact seg_walk [.c (order_Mid_o_t0 x6 x7 (tbE h1)), .c (vote_Right_ai3_t0 x0 x1 x2), .b (notT (tbE h2)), .b (notF (tbE h3))] (by kernel_rfl)
      · cases h4 : tb ((((x9.length : Nat) : Int) : Int) != ((x7.length : Nat) : Int))
        · cases h5 : tb (vote_ones_c1_ypp_Y43_1p6Fi3FiFbFiFiFiGoGo_c0 x2 (order_Mid_o_r0_0 x7) 0 0 x7 x9)
          · cases h6 : tb (vote_ones_c1_ypp_Y43_1p6Fi3FiFbFiFiFiGoGo_c1 x2 (order_Mid_o_r0_0 x7) 0 0 x7 x9)
            · intro g0
              exact absurd g0 ft
            · cases h7 : tb (fix_Floor_ii_c0 (vote_Vote_ai3oo_S2_e0 x2 x7 x9) (vote_Vote_ai3oo_S2_e1 x2 x7 x9))
              · intro g0
                exact absurd g0 ft
              · cases h8 : tb (fix_Clamp_iii_c0 (vote_Vote_ai3oo_S2_e2 x2 x7 x9) x0 x1)
                · intro g0
                  exact absurd g0 ft
                · intro g0
                  exact absurd g0 ft
          · intro g0
            exact seg_walk [.c (order_Mid_o_t0 x6 x7 (tbE h1)), .c (vote_Right_ai3_t0 x0 x1 x2), .b (notT (tbE h2)), .b (notT (tbE h3)), .o 27 (fun _ => o_len_os (enc := (encI .i64)) (l := x9) (fl := true) (n := x8) (s := 1)), .o 29 (fun _ => o_len_os (enc := (encI .i64)) (l := x7) (fl := true) (n := x6) (s := 1)), .b (tbE h4), .c (vote_ones_oo_t0 x6 x7 x8 x9), .c (vote_ones_c1_ypp_Y43_1p6Fi3FiFbFiFiFiGoGo_t0 x0 x1 x2 0 false (order_Mid_o_r0_0 x7) 0 0 x3 false x6 x7 false x8 x9 false (tbE h5))] (by kernel_rfl)
        · intro g0
          exact seg_walk [.c (order_Mid_o_t0 x6 x7 (tbE h1)), .c (vote_Right_ai3_t0 x0 x1 x2), .b (notT (tbE h2)), .b (notT (tbE h3)), .o 27 (fun _ => o_len_os (enc := (encI .i64)) (l := x9) (fl := true) (n := x8) (s := 1)), .o 29 (fun _ => o_len_os (enc := (encI .i64)) (l := x7) (fl := true) (n := x6) (s := 1)), .b (tbE h4)] (by kernel_rfl)
theorem vote_Vote_ai3oo_S2_t1 (x0 : Int) (x1 : Int) (x2 : Int) (x3 : Bool) (x6 : Bool) (x7 : List Int) (x8 : Bool) (x9 : List Int) : vote_Vote_ai3oo_S2_c0 x0 x1 x2 x7 x9 = false → vote_Vote_ai3oo_S2_c1 x0 x1 x2 x7 x9 = true → segG (runC E0 (cl E0) S43_2) [1, 2, 3, 6, 7] [6, 7] [6, 7] 3 ([(V.d (slD (encI .i64) true 1 x6 x7)), (V.d (slD (encI .i64) true 1 x8 x9)), (V.ptr 0 1 0 0), (V.ptr 1 1 0 0), (V.ptr 2 1 0 0)], [(Blk.flat 65 3 [[(.int .i64 x0), (.int .i64 x1), (.int .i64 x2)]] x3), (Blk.flat 3 1 [[(.int .i64 0)]] false), (Blk.flat 4 1 [[(.bool false)]] false)]) = some (.normal, ([(V.ptr 1 1 0 0), (V.ptr 2 1 0 0)], [(Blk.flat 65 3 [[(.int .i64 x0), (.int .i64 x1), (.int .i64 x2)]] x3), (Blk.flat 3 1 [[(.int .i64 (fix_Clamp_iii_r0_0 (vote_Vote_ai3oo_S2_e2 x2 x7 x9) x0 x1))]] false), (Blk.flat 4 1 [[(.bool true)]] false)])) := by
  unfold vote_Vote_ai3oo_S2_c0 vote_Vote_ai3oo_S2_c1
  cases h1 : tb (order_Mid_o_c0 x7)
  · intro g0 g1
    exact absurd g1 ft
  · cases h2 : tb (vote_Right_ai3_r0_0 x0 x1 x2)
    · intro g0 g1
      exact absurd g0 tf
    · cases h3 : tb (order_Mid_o_r0_1 x7)
      · intro g0 g1
        exact absurd g0 tf
      · cases h4 : tb ((((x9.length : Nat) : Int) : Int) != ((x7.length : Nat) : Int))
        · cases h5 : tb (vote_ones_c1_ypp_Y43_1p6Fi3FiFbFiFiFiGoGo_c0 x2 (order_Mid_o_r0_0 x7) 0 0 x7 x9)
          · cases h6 : tb (vote_ones_c1_ypp_Y43_1p6Fi3FiFbFiFiFiGoGo_c1 x2 (order_Mid_o_r0_0 x7) 0 0 x7 x9)
            · intro g0 g1
              exact absurd g1 ft
            · cases h7 : tb (fix_Floor_ii_c0 (vote_Vote_ai3oo_S2_e0 x2 x7 x9) (vote_Vote_ai3oo_S2_e1 x2 x7 x9))
              · intro g0 g1
                exact absurd g1 ft
              · cases h8 : tb (fix_Clamp_iii_c0 (vote_Vote_ai3oo_S2_e2 x2 x7 x9) x0 x1)
                · intro g0 g1
                  exact absurd g1 ft
                · intro g0 g1
                  exact seg_walk [.c (order_Mid_o_t0 x6 x7 (tbE h1)), .c (vote_Right_ai3_t0 x0 x1 x2), .b (notT (tbE h2)), .b (notT (tbE h3)), .o 27 (fun _ => o_len_os (enc := (encI .i64)) (l := x9) (fl := true) (n := x8) (s := 1)), .o 29 (fun _ => o_len_os (enc := (encI .i64)) (l := x7) (fl := true) (n := x6) (s := 1)), .b (tbE h4), .c (vote_ones_oo_t0 x6 x7 x8 x9), .c (vote_ones_c1_ypp_Y43_1p6Fi3FiFbFiFiFiGoGo_t1 x0 x1 x2 0 false (order_Mid_o_r0_0 x7) 0 0 x3 false x6 x7 false x8 x9 false (tbE h5) (tbE h6)), .c (fix_Floor_ii_t0 (vote_Vote_ai3oo_S2_e0 x2 x7 x9) (vote_Vote_ai3oo_S2_e1 x2 x7 x9) (tbE h7)), .c (fix_Clamp_iii_t0 (vote_Vote_ai3oo_S2_e2 x2 x7 x9) x0 x1 (tbE h8))] (by kernel_rfl)
          · intro g0 g1
            exact absurd g0 tf
        · intro g0 g1
          exact absurd g0 tf
def vote_Vote_ai3oo_c0 (x0 : Int) (x1 : Int) (x2 : Int) (x4 : List Int) (x6 : List Int) : Bool := (bif tb (vote_Vote_ai3oo_S2_c0 x0 x1 x2 x4 x6) then true else (bif tb (vote_Vote_ai3oo_S2_c1 x0 x1 x2 x4 x6) then true else false))
def vote_Vote_ai3oo_r0_0 (x0 : Int) (x1 : Int) (x2 : Int) (x4 : List Int) (x6 : List Int) : Int := (bif tb (vote_Vote_ai3oo_S2_c0 x0 x1 x2 x4 x6) then 0 else (fix_Clamp_iii_r0_0 (vote_Vote_ai3oo_S2_e2 x2 x4 x6) x0 x1))
def vote_Vote_ai3oo_r0_1 (x0 : Int) (x1 : Int) (x2 : Int) (x4 : List Int) (x6 : List Int) : Bool := (bif tb (vote_Vote_ai3oo_S2_c0 x0 x1 x2 x4 x6) then false else true)
theorem vote_Vote_ai3oo_t0 (x0 : Int) (x1 : Int) (x2 : Int) (x3 : Bool) (x4 : List Int) (x5 : Bool) (x6 : List Int) : vote_Vote_ai3oo_c0 x0 x1 x2 x4 x6 = true → cl E0 43 [(V.agg [(V.d (.int .i64 x0)), (V.d (.int .i64 x1)), (V.d (.int .i64 x2))]), (V.d (slD (encI .i64) true 1 x3 x4)), (V.d (slD (encI .i64) true 1 x5 x6))] [] = some ([(V.d (.int .i64 (vote_Vote_ai3oo_r0_0 x0 x1 x2 x4 x6))), (V.d (.bool (vote_Vote_ai3oo_r0_1 x0 x1 x2 x4 x6)))], []) := by
  unfold vote_Vote_ai3oo_c0 vote_Vote_ai3oo_r0_0 vote_Vote_ai3oo_r0_1
  cases h1 : tb (vote_Vote_ai3oo_S2_c0 x0 x1 x2 x4 x6)
  · cases h2 : tb (vote_Vote_ai3oo_S2_c1 x0 x1 x2 x4 x6)
    · intro g0
      exact absurd g0 ft
    · intro g0
      exact w43 [.s (vote_Vote_ai3oo_S2_t1 x0 x1 x2 false x3 x4 x5 x6 (tbE h1) (tbE h2))] (by kernel_rfl)
  · intro g0
    exact w43 [.s (vote_Vote_ai3oo_S2_t0 x0 x1 x2 false x3 x4 x5 x6 (tbE h1))] (by kernel_rfl)
end Go.Proofs.Ytdjmfcdopaejcaa.Den

namespace Go.Proofs.Ytdjmfcdopaejcaa.Den
open Go Go.Proofs
set_option maxRecDepth 100000
set_option maxHeartbeats 4000000
set_option linter.unusedVariables false
set_option linter.unusedSimpArgs false
end Go.Proofs.Ytdjmfcdopaejcaa.Den

namespace Go.Proofs.Ytdjmfcdopaejcaa.Den
open Go Go.Proofs
set_option maxRecDepth 100000
set_option maxHeartbeats 4000000
set_option linter.unusedVariables false
set_option linter.unusedSimpArgs false
structure ref12_Vote_ai3oo_L1_s0 where
  c4 : Int
  deriving Inhabited
structure ref12_Vote_ai3oo_L4_s0 where
  c5 : Int
  c6 : Int
  c7 : Int
  deriving Inhabited
end Go.Proofs.Ytdjmfcdopaejcaa.Den

namespace Go.Proofs.Ytdjmfcdopaejcaa.Den
open Go
set_option linter.unusedVariables false
set_option linter.unusedSimpArgs false
theorem mid_within {l : List Int} (h : mid4 l = true) {b : Int} (hb : ∀ z, z ∈ l → -b ≤ z ∧ z ≤ b) : -b ≤ midI l ∧ midI l ≤ b := by
  simp only [mid4, Bool.and_eq_true, decide_eq_true_eq] at h
  obtain ⟨h16, h1, h2⟩ := h
  have g := fun (i : Int) (x : 0 ≤ i) (y : i < l.length) => hb _ ((isort_perm l).mem_iff.1 (gt_mem (l := isort l) x (by rw [isort_len]; exact y)))
  have m1 := g (((l.length : Int) - 1) / 2) (by omega) (by omega)
  have m2 := g ((l.length : Int) / 2) (by omega) (by omega)
  unfold midI; omega
end Go.Proofs.Ytdjmfcdopaejcaa.Den

namespace Go.Proofs.Ytdjmfcdopaejcaa.Den
open Go Go.Proofs
set_option maxRecDepth 100000
set_option maxHeartbeats 4000000
set_option linter.unusedVariables false
set_option linter.unusedSimpArgs false
theorem law12_alive_t0 : cl E0 42 [] [] = some ([(V.d (.bool true))], []) := cl_of (n := 60) (by kernel_rfl)
end Go.Proofs.Ytdjmfcdopaejcaa.Den

namespace Go.Proofs.Ytdjmfcdopaejcaa.Den
open Go Go.Proofs
set_option maxRecDepth 100000
set_option maxHeartbeats 4000000
set_option linter.unusedVariables false
set_option linter.unusedSimpArgs false
end Go.Proofs.Ytdjmfcdopaejcaa.Den

namespace Go.Proofs.Ytdjmfcdopaejcaa.Den
open Go Go.Proofs
set_option linter.unusedVariables false
set_option linter.unusedSimpArgs false
def rp (lo hi cl : Int) : Prop := (-2147483648 ≤ lo ∧ lo ≤ 2147483647) ∧ (-2147483648 ≤ hi ∧ hi ≤ 2147483647) ∧ lo ≤ hi ∧ 0 ≤ cl ∧ cl ≤ 2147483647
theorem vright (lo hi cl : Int) : vote_Right_ai3_r0_0 lo hi cl = true ↔ rp lo hi cl := by
  simp only [vote_Right_ai3_r0_0, vote_right_i_r0_0, tb_eq, Bool.cond_eq_ite, rp]
  by_cases h1 : -2147483648 ≤ lo <;> by_cases h2 : lo ≤ 2147483647 <;> by_cases h3 : -2147483648 ≤ hi <;> by_cases h4 : hi ≤ 2147483647 <;> by_cases h5 : lo ≤ hi <;> by_cases h6 : 0 ≤ cl <;> simp [h1, h2, h3, h4, h5, h6] <;> omega
def goodP (v w : Int) : Bool := (decide (-4294967296 ≤ v) && decide (v ≤ 4294967296)) && (decide (1 ≤ w) && decide (w ≤ 16))
theorem yc0 (v w : Int) : vote_Vote_Y1_ai2_Y43_1p6Fi3FiFbFiFiFi_c0 v w = !goodP v w := by
  simp only [vote_Vote_Y1_ai2_Y43_1p6Fi3FiFbFiFiFi_c0, goodP, tb_eq]
  by_cases h1 : v < -4294967296
  · have : ¬ -4294967296 ≤ v := by omega
    simp [h1, this]
  · have g1 : -4294967296 ≤ v := by omega
    by_cases h2 : 4294967296 < v
    · have : ¬ v ≤ 4294967296 := by omega
      simp [h1, h2, g1, this]
    · have g2 : v ≤ 4294967296 := by omega
      by_cases h3 : w < 1
      · have : ¬ 1 ≤ w := by omega
        simp [h1, h2, h3, g1, g2, this]
      · have g3 : 1 ≤ w := by omega
        by_cases h4 : 16 < w
        · have : ¬ w ≤ 16 := by omega
          simp [h1, h2, h3, h4, g1, g2, g3, this]
        · have g4 : w ≤ 16 := by omega
          simp [h1, h2, h3, h4, g1, g2, g3, g4]
theorem yc1 (a b v w : Int) : vote_Vote_Y1_ai2_Y43_1p6Fi3FiFbFiFiFi_c1 a b v w = goodP v w := by
  have h := yc0 v w
  have : vote_Vote_Y1_ai2_Y43_1p6Fi3FiFbFiFiFi_c1 a b v w = !vote_Vote_Y1_ai2_Y43_1p6Fi3FiFbFiFiFi_c0 v w := by
    simp only [vote_Vote_Y1_ai2_Y43_1p6Fi3FiFbFiFiFi_c0, vote_Vote_Y1_ai2_Y43_1p6Fi3FiFbFiFiFi_c1, Clamp_c, tb_eq]
    cases decide (v < -4294967296) <;> cases decide (4294967296 < v) <;> cases decide (w < 1) <;> cases decide (16 < w) <;> rfl
  rw [this, h, Bool.not_not]
theorem first_not (g : Nat → Bool) : ∀ n, (∀ k, k < n → g k = true) ∨ ∃ j, j < n ∧ (∀ k, k < j → g k = true) ∧ g j = false
  | 0 => .inl fun k hk => by omega
  | n + 1 => by
    rcases first_not g n with h | ⟨j, h1, h2, h3⟩
    · cases hn : g n with
      | true => left; intro k hk; by_cases e : k = n; subst e; exact hn; exact h k (by omega)
      | false => exact .inr ⟨n, by omega, h, hn⟩
    · exact .inr ⟨j, by omega, h2, h3⟩
def sums (m cl : Int) (v w : List Int) : Nat → Int × Int
  | 0 => (0, 0)
  | k + 1 => ((sums m cl v w k).1 + gt w (k : Int) * max (m - cl) (min (gt v (k : Int)) (m + cl)), (sums m cl v w k).2 + gt w (k : Int))
def vit (cl m : Int) (v w : List Int) : Nat → vote_ones_c1_ypp_Y43_1p6Fi3FiFbFiFiFiGoGo_L0_s0
  | 0 => ⟨0, 0, 0⟩
  | k + 1 => vote_ones_c1_ypp_Y43_1p6Fi3FiFbFiFiFiGoGo_L0_nx cl m v w (v.length : Int) (vit cl m v w k)
theorem vit_ix (cl m : Int) (v w : List Int) : ∀ k, k ≤ 1000 → (vit cl m v w k).c1 = (k : Int)
  | 0, _ => rfl
  | k + 1, h => by
    show wi ((vit cl m v w k).c1 + 1) = _
    rw [vit_ix cl m v w k (by omega), wi_eq (by omega) (by omega)]; simp
theorem ones_sel (cl m : Int) {v w : List Int} (hw : w.length = v.length) (hl : v.length ≤ 900) {k : Nat} (hk : k < v.length) : vote_ones_c1_ypp_Y43_1p6Fi3FiFbFiFiFiGoGo_L0_sel cl m v w (v.length : Int) (vit cl m v w k) = goodP (gt v (k : Int)) (gt w (k : Int)) := by
  have b1 : inb v.length (k : Int) = true := inb_of (by omega) (by omega)
  have b2 : inb w.length (k : Int) = true := inb_of (by omega) (by omega)
  have hlt : (k : Int) < (v.length : Int) := by omega
  simp only [vote_ones_c1_ypp_Y43_1p6Fi3FiFbFiFiFiGoGo_L0_sel, vit_ix cl m v w k (by omega), b1, b2, hlt, yc0, yc1, tb_eq, decide_true, cond_true]
  cases goodP (gt v (k : Int)) (gt w (k : Int)) <;> rfl
theorem ones_run (cl m : Int) {v w : List Int} (hw : w.length = v.length) (hl : v.length ≤ 900) {n : Nat} (hn : n ≤ v.length) (hg : ∀ (k : Nat), k < n → goodP (gt v (k : Int)) (gt w (k : Int)) = true) (he : n = v.length ∨ goodP (gt v (n : Int)) (gt w (n : Int)) = false) :
    itS (vote_ones_c1_ypp_Y43_1p6Fi3FiFbFiFiFiGoGo_L0_sel cl m v w (v.length : Int)) (vote_ones_c1_ypp_Y43_1p6Fi3FiFbFiFiFiGoGo_L0_nx cl m v w (v.length : Int)) bound ⟨0, 0, 0⟩ = some (vit cl m v w n) := by
  have := loop_seq (sel := vote_ones_c1_ypp_Y43_1p6Fi3FiFbFiFiFiGoGo_L0_sel cl m v w (v.length : Int)) (nx := vote_ones_c1_ypp_Y43_1p6Fi3FiFbFiFiFiGoGo_L0_nx cl m v w (v.length : Int)) (vit cl m v w) n (by omega) (fun k hk => ⟨by rw [ones_sel cl m hw hl (by omega)]; exact hg k hk, rfl⟩) ?_
  · exact this
  · by_cases h : n < v.length
    · rw [ones_sel cl m hw hl h]
      rcases he with e | e
      · omega
      · exact e
    · have : ¬ (n : Int) < (v.length : Int) := by omega
      simp only [vote_ones_c1_ypp_Y43_1p6Fi3FiFbFiFiFiGoGo_L0_sel, vit_ix cl m v w n (by omega), tb_eq]
      rw [decide_eq_false this]; rfl
theorem goodP_iff {v w : Int} : goodP v w = true ↔ (-4294967296 ≤ v ∧ v ≤ 4294967296) ∧ (1 ≤ w ∧ w ≤ 16) := by simp [goodP]
theorem sums_bound {m cl : Int} {v w : List Int} (hm : -4294967296 ≤ m ∧ m ≤ 4294967296) (hc : 0 ≤ cl ∧ cl ≤ 2147483647) : ∀ (k : Nat), k ≤ 4 → (∀ (j : Nat), j < k → goodP (gt v (j : Int)) (gt w (j : Int)) = true) →
    -(103079215104 * (k : Int)) ≤ (sums m cl v w k).1 ∧ (sums m cl v w k).1 ≤ 103079215104 * (k : Int) ∧ (k : Int) ≤ (sums m cl v w k).2 ∧ (sums m cl v w k).2 ≤ 16 * (k : Int)
  | 0, _, _ => by simp [sums]
  | k + 1, hk, hg => by
    obtain ⟨h1, h2, h3, h4⟩ := sums_bound hm hc k (by omega) fun j hj => hg j (by omega)
    obtain ⟨g1, g2⟩ := goodP_iff.1 (hg k (by omega))
    simp only [sums]
    have hx : -6442450944 ≤ max (m - cl) (min (gt v (k : Int)) (m + cl)) ∧ max (m - cl) (min (gt v (k : Int)) (m + cl)) ≤ 6442450944 := by omega
    generalize max (m - cl) (min (gt v (k : Int)) (m + cl)) = x at *
    generalize gt w (k : Int) = y at *
    have hp : -103079215104 ≤ y * x ∧ y * x ≤ 103079215104 := by
      have a1 : y * x ≤ y * 6442450944 := Int.mul_le_mul_of_nonneg_left hx.2 (by omega)
      have a2 : y * (-6442450944) ≤ y * x := Int.mul_le_mul_of_nonneg_left hx.1 (by omega)
      omega
    have e : ((k + 1 : Nat) : Int) = (k : Int) + 1 := by omega
    rw [e]
    omega
theorem vit_sums {m cl : Int} {v w : List Int} (hm : -4294967296 ≤ m ∧ m ≤ 4294967296) (hc : 0 ≤ cl ∧ cl ≤ 2147483647) : ∀ (k : Nat), k ≤ 4 → (∀ (j : Nat), j < k → goodP (gt v (j : Int)) (gt w (j : Int)) = true) → vit cl m v w k = ⟨(k : Int), (sums m cl v w k).1, (sums m cl v w k).2⟩
  | 0, _, _ => rfl
  | k + 1, hk, hg => by
    have ih := vit_sums hm hc k (by omega) fun j hj => hg j (by omega)
    obtain ⟨h1, h2, h3, h4⟩ := sums_bound hm hc k (by omega) fun j hj => hg j (by omega)
    have hb := sums_bound hm hc (k + 1) hk hg
    obtain ⟨g1, g2⟩ := goodP_iff.1 (hg k (by omega))
    have w1 : wi (m - cl) = m - cl := wi_eq (by omega) (by omega)
    have w2 : wi (m + cl) = m + cl := wi_eq (by omega) (by omega)
    have c1 : sm (gt v (k : Int)) = true := sm_iff.2 (by omega)
    have c2 : sm (m - cl) = true := sm_iff.2 (by omega)
    have c3 : sm (m + cl) = true := sm_iff.2 (by omega)
    show vote_ones_c1_ypp_Y43_1p6Fi3FiFbFiFiFiGoGo_L0_nx cl m v w (v.length : Int) (vit cl m v w k) = _
    rw [ih]
    simp only [vote_ones_c1_ypp_Y43_1p6Fi3FiFbFiFiFiGoGo_L0_nx, vote_Vote_Y1_ai2_Y43_1p6Fi3FiFbFiFiFi_e1, vote_Vote_Y1_ai2_Y43_1p6Fi3FiFbFiFiFi_e0, w1, w2, Clamp_r, c1, c2, c3, and_self, if_true]
    simp only [sums] at hb ⊢
    have hx : -6442450944 ≤ max (m - cl) (min (gt v (k : Int)) (m + cl)) ∧ max (m - cl) (min (gt v (k : Int)) (m + cl)) ≤ 6442450944 := by omega
    generalize max (m - cl) (min (gt v (k : Int)) (m + cl)) = x at *
    generalize gt w (k : Int) = y at *
    have hp : -103079215104 ≤ y * x ∧ y * x ≤ 103079215104 := by
      have a1 : y * x ≤ y * 6442450944 := Int.mul_le_mul_of_nonneg_left hx.2 (by omega)
      have a2 : y * (-6442450944) ≤ y * x := Int.mul_le_mul_of_nonneg_left hx.1 (by omega)
      omega
    rw [wi_eq (x := y * x) (by omega) (by omega), wi_eq (x := (k : Int) + 1) (by omega) (by omega), wi_eq (by omega) (by omega), wi_eq (by omega) (by omega)]
    simp
theorem flo_bound {a b : Int} (ha : -412316860416 ≤ a ∧ a ≤ 412316860416) (hb : 1 ≤ b ∧ b ≤ 64) : -412316860416 ≤ flo a b ∧ flo a b ≤ 412316860416 := by
  have s1 : sm a = true := sm_iff.2 (by omega)
  have s2 : sm b = true := sm_iff.2 (by omega)
  simp only [flo, s1, s2, hb.1, and_self, if_true]
  rw [Int.fdiv_eq_ediv_of_nonneg _ (by omega)]
  constructor
  · rw [Int.le_ediv_iff_mul_le (by omega)]
    have : -412316860416 * b ≤ -412316860416 * 1 := by omega
    omega
  · have : a / b < 412316860416 + 1 := by
      rw [Int.ediv_lt_iff_lt_mul (by omega)]
      omega
    omega
end Go.Proofs.Ytdjmfcdopaejcaa.Den

namespace Go.Proofs.Ytdjmfcdopaejcaa.Den
open Go Go.Proofs
set_option linter.unusedVariables false
set_option linter.unusedSimpArgs false
def vok (lo hi cl : Int) (v w : List Int) : Prop :=
  rp lo hi cl ∧ w.length = v.length ∧ (1 ≤ v.length ∧ v.length ≤ 4) ∧ (∀ z, z ∈ v → -4294967296 ≤ z ∧ z ≤ 4294967296) ∧ ∀ z, z ∈ w → 1 ≤ z ∧ z ≤ 16
theorem vote_r {lo hi cl : Int} {v w : List Int} (hv : v.length ≤ 40) (hw : w.length ≤ 40) : vote_Vote_ai3oo_c0 lo hi cl v w = true ∧
    (vok lo hi cl v w → vote_Vote_ai3oo_r0_0 lo hi cl v w = max lo (min (flo (sums (midI v) cl v w v.length).1 (sums (midI v) cl v w v.length).2) hi) ∧ vote_Vote_ai3oo_r0_1 lo hi cl v w = true) ∧
    (¬ vok lo hi cl v w → vote_Vote_ai3oo_r0_0 lo hi cl v w = 0 ∧ vote_Vote_ai3oo_r0_1 lo hi cl v w = false) := by
  have fin : (¬ vok lo hi cl v w) → vote_Vote_ai3oo_S2_c0 lo hi cl v w = true → vote_Vote_ai3oo_c0 lo hi cl v w = true ∧
    (vok lo hi cl v w → vote_Vote_ai3oo_r0_0 lo hi cl v w = max lo (min (flo (sums (midI v) cl v w v.length).1 (sums (midI v) cl v w v.length).2) hi) ∧ vote_Vote_ai3oo_r0_1 lo hi cl v w = true) ∧
    (¬ vok lo hi cl v w → vote_Vote_ai3oo_r0_0 lo hi cl v w = 0 ∧ vote_Vote_ai3oo_r0_1 lo hi cl v w = false) := fun hn hc =>
    ⟨by simp only [vote_Vote_ai3oo_c0, hc, tb_eq]; rfl, fun h => absurd h hn, fun _ => ⟨by simp only [vote_Vote_ai3oo_r0_0, hc, tb_eq]; rfl, by simp only [vote_Vote_ai3oo_r0_1, hc, tb_eq]; rfl⟩⟩
  obtain ⟨a1, a2, a3, a4⟩ := Mid_r v (by omega)
  by_cases hr : rp lo hi cl
  · have r1 := (vright lo hi cl).2 hr
    unfold rp at hr
    by_cases hlen : w.length = v.length
    · have hne : (((w.length : Int)) != (v.length : Int)) = false := by simp; omega
      rcases first_not (fun k => goodP (gt v (k : Int)) (gt w (k : Int))) v.length with hg | ⟨j, hj, hg, hbad⟩
      ·
        have hall : ∀ z, z ∈ v → -4294967296 ≤ z ∧ z ≤ 4294967296 := fun z hz => by
          obtain ⟨i, hi, rfl⟩ := List.mem_iff_getElem.1 hz
          have := (goodP_iff.1 (hg i hi)).1
          rw [gt_nat hi] at this; exact this
        have hsm : v.all sm = true := List.all_eq_true.2 fun z hz => sm_iff.2 (by have := hall z hz; omega)
        by_cases h4 : 1 ≤ v.length ∧ v.length ≤ 4
        · have hm4 : mid4 v = true := by simp [mid4, lst16, hsm]; omega
          have hmb := mid_within hm4 hall
          have hcl : 0 ≤ cl ∧ cl ≤ 2147483647 := hr.2.2.2
          have e1 := ones_run cl (midI v) hlen (by omega) (Nat.le_refl _) hg (.inl rfl)
          rw [vit_sums hmb hcl v.length h4.2 hg] at e1
          obtain ⟨s1, s2, s3, s4⟩ := sums_bound hmb hcl v.length h4.2 hg
          have o1 : vote_ones_c1_ypp_Y43_1p6Fi3FiFbFiFiFiGoGo_e0 cl (midI v) 0 0 v w = ⟨(v.length : Int), (sums (midI v) cl v w v.length).1, (sums (midI v) cl v w v.length).2⟩ := by
            simp only [vote_ones_c1_ypp_Y43_1p6Fi3FiFbFiFiFiGoGo_e0, vote_ones_c1_ypp_Y43_1p6Fi3FiFbFiFiFiGoGo_L0_end, e1]; rfl
          have hnn : ¬ (v.length : Int) < (v.length : Int) := by omega
          have o2 : vote_ones_c1_ypp_Y43_1p6Fi3FiFbFiFiFiGoGo_c0 cl (midI v) 0 0 v w = false := by
            simp only [vote_ones_c1_ypp_Y43_1p6Fi3FiFbFiFiFiGoGo_c0, o1, vote_ones_c1_ypp_Y43_1p6Fi3FiFbFiFiFiGoGo_L0_c0, tb_eq]
            rw [decide_eq_false hnn]
            cases vote_ones_c1_ypp_Y43_1p6Fi3FiFbFiFiFiGoGo_L0_ok cl (midI v) v w (v.length : Int) ⟨0, 0, 0⟩ <;> rfl
          have o3 : vote_ones_c1_ypp_Y43_1p6Fi3FiFbFiFiFiGoGo_c1 cl (midI v) 0 0 v w = true := by
            simp only [vote_ones_c1_ypp_Y43_1p6Fi3FiFbFiFiFiGoGo_c1, o1, vote_ones_c1_ypp_Y43_1p6Fi3FiFbFiFiFiGoGo_L0_c0, vote_ones_c1_ypp_Y43_1p6Fi3FiFbFiFiFiGoGo_L0_c1, vote_ones_c1_ypp_Y43_1p6Fi3FiFbFiFiFiGoGo_L0_ok, e1, tb_eq]
            rw [decide_eq_false hnn]; rfl
          have am := a3 hm4
          have g1 : ¬ (v.length : Int) < 1 := by omega
          have g2 : ¬ (4 : Int) < (v.length : Int) := by omega
          have S2c0 : vote_Vote_ai3oo_S2_c0 lo hi cl v w = false := by
            simp only [vote_Vote_ai3oo_S2_c0, a1, r1, a2, hm4, hne, am, o2, tb_eq]; rfl
          have x0 : vote_Vote_ai3oo_S2_e0 cl v w = (sums (midI v) cl v w v.length).1 := by simp only [vote_Vote_ai3oo_S2_e0, am, o1]
          have x1 : vote_Vote_ai3oo_S2_e1 cl v w = (sums (midI v) cl v w v.length).2 := by simp only [vote_Vote_ai3oo_S2_e1, am, o1]
          have x2 : vote_Vote_ai3oo_S2_e2 cl v w = flo (sums (midI v) cl v w v.length).1 (sums (midI v) cl v w v.length).2 := by simp only [vote_Vote_ai3oo_S2_e2, x0, x1, fFloor_r]
          have S2c1 : vote_Vote_ai3oo_S2_c1 lo hi cl v w = true := by
            simp only [vote_Vote_ai3oo_S2_c1, a1, r1, a2, hm4, hne, am, o2, o3, fFloor_c, Clamp_c, tb_eq]; rfl
          have fb := flo_bound (a := (sums (midI v) cl v w v.length).1) (b := (sums (midI v) cl v w v.length).2) (by omega) (by omega)
          refine ⟨by simp only [vote_Vote_ai3oo_c0, S2c0, S2c1, tb_eq]; rfl, fun _ => ⟨?_, by simp only [vote_Vote_ai3oo_r0_1, S2c0, tb_eq]; rfl⟩, fun hn => absurd ⟨hr, hlen, h4, hall, fun z hz => ?_⟩ hn⟩
          · simp only [vote_Vote_ai3oo_r0_0, S2c0, x2, Clamp_r, tb_eq, cond_false]
            have k1 : sm (flo (sums (midI v) cl v w v.length).1 (sums (midI v) cl v w v.length).2) = true := sm_iff.2 (by omega)
            have k2 : sm lo = true := sm_iff.2 (by omega)
            have k3 : sm hi = true := sm_iff.2 (by omega)
            rw [if_pos ⟨k1, k2, k3⟩]
          · obtain ⟨i, hi, rfl⟩ := List.mem_iff_getElem.1 hz
            have := (goodP_iff.1 (hg i (by omega))).2
            rw [gt_nat hi] at this; exact this
        · have hm4 : mid4 v = false := by simp [mid4]; intro _ _; omega
          have S2c0 : vote_Vote_ai3oo_S2_c0 lo hi cl v w = true := by simp only [vote_Vote_ai3oo_S2_c0, a1, r1, a2, hm4, tb_eq]; rfl
          exact fin (fun h => h4 h.2.2.1) S2c0
      ·
        have hlt : (j : Int) < (v.length : Int) := by omega
        have i1 : inb v.length (j : Int) = true := inb_of (by omega) (by omega)
        have i2 : inb w.length (j : Int) = true := inb_of (by omega) (by omega)
        have S2c0 : vote_Vote_ai3oo_S2_c0 lo hi cl v w = true := by
          simp only [vote_Vote_ai3oo_S2_c0, a1, r1, a2, hne, tb_eq]
          cases h4 : mid4 v with
          | false => rfl
          | true =>
            have e1 := ones_run cl (midI v) hlen (by omega) (by omega : j ≤ v.length) hg (.inr hbad)
            have o1 : vote_ones_c1_ypp_Y43_1p6Fi3FiFbFiFiFiGoGo_e0 cl (midI v) 0 0 v w = vit cl (midI v) v w j := by
              simp only [vote_ones_c1_ypp_Y43_1p6Fi3FiFbFiFiFiGoGo_e0, vote_ones_c1_ypp_Y43_1p6Fi3FiFbFiFiFiGoGo_L0_end, e1]; rfl
            have o2 : vote_ones_c1_ypp_Y43_1p6Fi3FiFbFiFiFiGoGo_c0 cl (midI v) 0 0 v w = true := by
              have hbad' : goodP (gt v (j : Int)) (gt w (j : Int)) = false := hbad
              simp only [vote_ones_c1_ypp_Y43_1p6Fi3FiFbFiFiFiGoGo_c0, o1, vote_ones_c1_ypp_Y43_1p6Fi3FiFbFiFiFiGoGo_L0_c0, vote_ones_c1_ypp_Y43_1p6Fi3FiFbFiFiFiGoGo_L0_ok, e1, vit_ix cl (midI v) v w j (by omega), i1, i2, hlt, yc0, hbad', tb_eq]
              simp
            simp only [a3 h4, o2]; rfl
        refine fin (fun h => ?_) S2c0
        have hbad' : goodP (gt v (j : Int)) (gt w (j : Int)) = false := hbad
        have : goodP (gt v (j : Int)) (gt w (j : Int)) = true := goodP_iff.2 ⟨h.2.2.2.1 _ (gt_mem (by omega) (by omega)), h.2.2.2.2 _ (gt_mem (by omega) (by omega))⟩
        rw [hbad'] at this; cases this
    · have hne : (((w.length : Int)) != (v.length : Int)) = true := by simp; omega
      have S2c0 : vote_Vote_ai3oo_S2_c0 lo hi cl v w = true := by
        simp only [vote_Vote_ai3oo_S2_c0, a1, r1, a2, hne, tb_eq]
        cases mid4 v <;> rfl
      exact fin (fun h => hlen h.2.1) S2c0
  · have r1 : vote_Right_ai3_r0_0 lo hi cl = false := by
      cases h : vote_Right_ai3_r0_0 lo hi cl with
      | false => rfl
      | true => exact absurd ((vright lo hi cl).1 h) hr
    have S2c0 : vote_Vote_ai3oo_S2_c0 lo hi cl v w = true := by simp only [vote_Vote_ai3oo_S2_c0, a1, r1, tb_eq]; rfl
    exact fin (fun h => hr h.1) S2c0
theorem vok_good {lo hi cl : Int} {v w : List Int} (h : vok lo hi cl v w) {k : Nat} (hk : k < v.length) : goodP (gt v (k : Int)) (gt w (k : Int)) = true := by
  have := h.2.1
  exact goodP_iff.2 ⟨h.2.2.2.1 _ (gt_mem (by omega) (by omega)), h.2.2.2.2 _ (gt_mem (by omega) (by omega))⟩
theorem vok_mid {lo hi cl : Int} {v w : List Int} (h : vok lo hi cl v w) : mid4 v = true := by
  have hsm : v.all sm = true := List.all_eq_true.2 fun z hz => sm_iff.2 (by have := h.2.2.2.1 z hz; omega)
  have := h.2.2.1
  simp [mid4, lst16, hsm]; omega
theorem sums_between {m cl A B : Int} {v w : List Int} : ∀ (n : Nat), (∀ k : Nat, k < n → 1 ≤ gt w (k : Int)) → (∀ k : Nat, k < n → A ≤ max (m - cl) (min (gt v (k : Int)) (m + cl)) ∧ max (m - cl) (min (gt v (k : Int)) (m + cl)) ≤ B) →
    A * (sums m cl v w n).2 ≤ (sums m cl v w n).1 ∧ (sums m cl v w n).1 ≤ B * (sums m cl v w n).2
  | 0, _, _ => by simp [sums]
  | n + 1, hw, h => by
    obtain ⟨h1, h2⟩ := sums_between n (fun k hk => hw k (by omega)) (fun k hk => h k (by omega))
    have h3 := h n (by omega)
    have h4 := hw n (by omega)
    simp only [sums, Int.mul_add]
    generalize max (m - cl) (min (gt v (n : Int)) (m + cl)) = x at *
    generalize gt w (n : Int) = y at *
    have a1 : y * A ≤ y * x := Int.mul_le_mul_of_nonneg_left h3.1 (by omega)
    have a2 : y * x ≤ y * B := Int.mul_le_mul_of_nonneg_left h3.2 (by omega)
    rw [Int.mul_comm y A] at a1
    rw [Int.mul_comm y B] at a2
    omega
theorem flo_between {a b A B : Int} (ha : -412316860416 ≤ a ∧ a ≤ 412316860416) (hb : 1 ≤ b ∧ b ≤ 64) (h1 : A * b ≤ a) (h2 : a ≤ B * b) : A ≤ flo a b ∧ flo a b ≤ B := by
  have s1 : sm a = true := sm_iff.2 (by omega)
  have s2 : sm b = true := sm_iff.2 (by omega)
  simp only [flo, s1, s2, hb.1, and_self, if_true]
  rw [Int.fdiv_eq_ediv_of_nonneg _ (by omega)]
  constructor
  · rw [Int.le_ediv_iff_mul_le (by omega)]; exact h1
  · have : a / b < B + 1 := by
      rw [Int.ediv_lt_iff_lt_mul (by omega), Int.add_mul]
      omega
    omega
theorem vote_between {lo hi cl A B : Int} {v w : List Int} (h : vok lo hi cl v w) (hp : ∀ z, z ∈ v → A ≤ max (midI v - cl) (min z (midI v + cl)) ∧ max (midI v - cl) (min z (midI v + cl)) ≤ B) :
    A ≤ flo (sums (midI v) cl v w v.length).1 (sums (midI v) cl v w v.length).2 ∧ flo (sums (midI v) cl v w v.length).1 (sums (midI v) cl v w v.length).2 ≤ B := by
  have hm := mid_within (vok_mid h) h.2.2.2.1
  have hc : 0 ≤ cl ∧ cl ≤ 2147483647 := h.1.2.2.2
  have hn := h.2.2.1
  have hg : ∀ (j : Nat), j < v.length → goodP (gt v (j : Int)) (gt w (j : Int)) = true := fun j hj => vok_good h hj
  obtain ⟨s1, s2, s3, s4⟩ := sums_bound hm hc v.length hn.2 hg
  obtain ⟨t1, t2⟩ := sums_between (m := midI v) (cl := cl) (A := A) (B := B) (v := v) (w := w) v.length (fun k hk => (goodP_iff.1 (hg k hk)).2.1) (fun k hk => hp _ (gt_mem (by omega) (by omega)))
  exact flo_between (by omega) (by omega) t1 t2
end Go.Proofs.Ytdjmfcdopaejcaa.Den

namespace Go.Proofs.Ytdjmfcdopaejcaa.Den
open Go
set_option linter.unusedVariables false
set_option linter.unusedSimpArgs false
set_option maxRecDepth 100000
end Go.Proofs.Ytdjmfcdopaejcaa.Den

namespace Go.Proofs.Ytdjmfcdopaejcaa.Den
open Go Go.Proofs
set_option maxRecDepth 100000
set_option maxHeartbeats 4000000
set_option linter.unusedVariables false
set_option linter.unusedSimpArgs false
structure law12_VoteBounded_L0_1_s0 where mk ::
  deriving Inhabited
structure law12_VoteBounded_L0_1_s1 where mk ::
  deriving Inhabited
structure law12_VoteBounded_L0_1_s2 where mk ::
  deriving Inhabited
structure law12_VoteBounded_L0_1_s3 where mk ::
  deriving Inhabited
inductive law12_VoteBounded_L0_1_S where
  | h0 (v : law12_VoteBounded_L0_1_s0)
  | h1 (v : law12_VoteBounded_L0_1_s1)
  | h2 (v : law12_VoteBounded_L0_1_s2)
  | h3 (v : law12_VoteBounded_L0_1_s3)
  deriving Inhabited
def law12_VoteBounded_L0_1_is0 : law12_VoteBounded_L0_1_S → Bool
  | .h0 _ => true
  | _ => false
def law12_VoteBounded_L0_1_is1 : law12_VoteBounded_L0_1_S → Bool
  | .h1 _ => true
  | _ => false
def law12_VoteBounded_L0_1_get1 : law12_VoteBounded_L0_1_S → law12_VoteBounded_L0_1_s1
  | .h1 v => v
  | _ => default
theorem law12_VoteBounded_L0_1_at1 {s : law12_VoteBounded_L0_1_S} (h : law12_VoteBounded_L0_1_is1 s = true) : s = .h1 (law12_VoteBounded_L0_1_get1 s) := by cases s <;> first | rfl | cases h
def law12_VoteBounded_L0_1_is2 : law12_VoteBounded_L0_1_S → Bool
  | .h2 _ => true
  | _ => false
def law12_VoteBounded_L0_1_get2 : law12_VoteBounded_L0_1_S → law12_VoteBounded_L0_1_s2
  | .h2 v => v
  | _ => default
theorem law12_VoteBounded_L0_1_at2 {s : law12_VoteBounded_L0_1_S} (h : law12_VoteBounded_L0_1_is2 s = true) : s = .h2 (law12_VoteBounded_L0_1_get2 s) := by cases s <;> first | rfl | cases h
def law12_VoteBounded_L0_1_get3 : law12_VoteBounded_L0_1_S → law12_VoteBounded_L0_1_s3
  | .h3 v => v
  | _ => default
def law12_VoteBounded_L0_1_enc (x0 : Int) (x1 : Int) (x2 : Int) (x3 : Int) (x4 : Int) (x5 : Int) (x6 : Int) (x7 : Int) (x8 : Int) (x9 : Int) (x10 : Int) (x11 : Int) (x12 : Int) (x13 : Int) (x14 : Bool) (x15 : Bool) (x16 : Bool) (x17 : Bool) (x18 : Int) (x19 : Int) (x20 : Bool) (x21 : Bool) : law12_VoteBounded_L0_1_S → List V × Mem
  | .h0 s0 => ([(V.ptr 0 1 0 0), (V.ptr 1 1 0 0), (V.d (.int .i64 x18)), (V.d (.int .i64 x19)), (V.so x20 2 0), (V.so x21 3 0), (V.d (.int .i64 0))], [(Blk.flat 65 3 [[(.int .i64 x0), (.int .i64 x1), (.int .i64 x2)]] x14), (Blk.flat 80 11 [[(.int .i32 x3), (.int .i32 x4), (.int .u16 x5), (.int .u16 x6), (.int .u16 x7), (.int .u16 x8), (.int .u8 x9), (.int .u8 x10), (.int .u8 x11), (.int .u8 x12), (.int .u8 x13)]] x15), (Blk.flat 3 1 [] false), (Blk.flat 3 1 [] false)])
  | .h1 s0 => ([(V.ptr 0 1 0 0), (V.ptr 1 1 0 0), (V.d (.int .i64 x18)), (V.d (.int .i64 x19)), (V.so false 2 1), (V.so false 3 1), (V.d (.int .i64 1))], [(Blk.flat 65 3 [[(.int .i64 x0), (.int .i64 x1), (.int .i64 x2)]] x14), (Blk.flat 80 11 [[(.int .i32 x3), (.int .i32 x4), (.int .u16 x5), (.int .u16 x6), (.int .u16 x7), (.int .u16 x8), (.int .u8 x9), (.int .u8 x10), (.int .u8 x11), (.int .u8 x12), (.int .u8 x13)]] x15), (Blk.flat 3 1 [[(.int .i64 (wi (x18 + (remI .i64 (wi (x6)) (wi ((wi (x5)) + 1))))))]] false), (Blk.flat 3 1 [[(.int .i64 (wi ((wi (remI .u8 x9 16)) + 1)))]] false)])
  | .h2 s0 => ([(V.ptr 0 1 0 0), (V.ptr 1 1 0 0), (V.d (.int .i64 x18)), (V.d (.int .i64 x19)), (V.so false 2 2), (V.so false 3 2), (V.d (.int .i64 2))], [(Blk.flat 65 3 [[(.int .i64 x0), (.int .i64 x1), (.int .i64 x2)]] x14), (Blk.flat 80 11 [[(.int .i32 x3), (.int .i32 x4), (.int .u16 x5), (.int .u16 x6), (.int .u16 x7), (.int .u16 x8), (.int .u8 x9), (.int .u8 x10), (.int .u8 x11), (.int .u8 x12), (.int .u8 x13)]] x15), (Blk.flat 3 1 [[(.int .i64 (wi (x18 + (remI .i64 (wi (x6)) (wi ((wi (x5)) + 1))))))], [(.int .i64 (wi (x18 + (remI .i64 (wi (x7)) (wi ((wi (x5)) + 1))))))]] false), (Blk.flat 3 1 [[(.int .i64 (wi ((wi (remI .u8 x9 16)) + 1)))], [(.int .i64 (wi ((wi (remI .u8 x10 16)) + 1)))]] false)])
  | .h3 s0 => ([(V.ptr 0 1 0 0), (V.ptr 1 1 0 0), (V.d (.int .i64 x18)), (V.d (.int .i64 x19)), (V.so false 2 3), (V.so false 3 3), (V.d (.int .i64 3))], [(Blk.flat 65 3 [[(.int .i64 x0), (.int .i64 x1), (.int .i64 x2)]] x14), (Blk.flat 80 11 [[(.int .i32 x3), (.int .i32 x4), (.int .u16 x5), (.int .u16 x6), (.int .u16 x7), (.int .u16 x8), (.int .u8 x9), (.int .u8 x10), (.int .u8 x11), (.int .u8 x12), (.int .u8 x13)]] x15), (Blk.flat 3 1 [[(.int .i64 (wi (x18 + (remI .i64 (wi (x6)) (wi ((wi (x5)) + 1))))))], [(.int .i64 (wi (x18 + (remI .i64 (wi (x7)) (wi ((wi (x5)) + 1))))))], [(.int .i64 (wi (x18 + (remI .i64 (wi (x8)) (wi ((wi (x5)) + 1))))))]] false), (Blk.flat 3 1 [[(.int .i64 (wi ((wi (remI .u8 x9 16)) + 1)))], [(.int .i64 (wi ((wi (remI .u8 x10 16)) + 1)))], [(.int .i64 (wi ((wi (remI .u8 x11 16)) + 1)))]] false)])
def law12_VoteBounded_L0_1_h0_sel (x5 : Int) (x13 : Int) (s0 : law12_VoteBounded_L0_1_s0) : Bool := (bif tb (decide (0 < (wi (2 + (wi (remI .u8 x13 2)))))) then (bif tb (((wi ((wi (x5)) + 1)) : Int) == 0) then false else true) else false)
def law12_VoteBounded_L0_1_h0_nx (x5 : Int) (x13 : Int) (s0 : law12_VoteBounded_L0_1_s0) : law12_VoteBounded_L0_1_S := .h1 ⟨⟩
def law12_VoteBounded_L0_1_h1_sel (x5 : Int) (x13 : Int) (s0 : law12_VoteBounded_L0_1_s1) : Bool := (bif tb (decide (1 < (wi (2 + (wi (remI .u8 x13 2)))))) then (bif tb (((wi ((wi (x5)) + 1)) : Int) == 0) then false else true) else false)
def law12_VoteBounded_L0_1_h1_nx (x5 : Int) (x13 : Int) (s0 : law12_VoteBounded_L0_1_s1) : law12_VoteBounded_L0_1_S := .h2 ⟨⟩
def law12_VoteBounded_L0_1_h2_sel (x5 : Int) (x13 : Int) (s0 : law12_VoteBounded_L0_1_s2) : Bool := (bif tb (decide (2 < (wi (2 + (wi (remI .u8 x13 2)))))) then (bif tb (((wi ((wi (x5)) + 1)) : Int) == 0) then false else true) else false)
def law12_VoteBounded_L0_1_h2_nx (x5 : Int) (x13 : Int) (s0 : law12_VoteBounded_L0_1_s2) : law12_VoteBounded_L0_1_S := .h3 ⟨⟩
def law12_VoteBounded_L0_1_h3_sel (x5 : Int) (x13 : Int) (s0 : law12_VoteBounded_L0_1_s3) : Bool := false
def law12_VoteBounded_L0_1_h3_nx (x5 : Int) (x13 : Int) (s0 : law12_VoteBounded_L0_1_s3) : law12_VoteBounded_L0_1_S := default
def law12_VoteBounded_L0_1_sel (x5 : Int) (x13 : Int) : law12_VoteBounded_L0_1_S → Bool
  | .h0 v => law12_VoteBounded_L0_1_h0_sel x5 x13 v
  | .h1 v => law12_VoteBounded_L0_1_h1_sel x5 x13 v
  | .h2 v => law12_VoteBounded_L0_1_h2_sel x5 x13 v
  | .h3 v => law12_VoteBounded_L0_1_h3_sel x5 x13 v
def law12_VoteBounded_L0_1_nx (x5 : Int) (x13 : Int) : law12_VoteBounded_L0_1_S → law12_VoteBounded_L0_1_S
  | .h0 v => law12_VoteBounded_L0_1_h0_nx x5 x13 v
  | .h1 v => law12_VoteBounded_L0_1_h1_nx x5 x13 v
  | .h2 v => law12_VoteBounded_L0_1_h2_nx x5 x13 v
  | .h3 v => law12_VoteBounded_L0_1_h3_nx x5 x13 v
def law12_VoteBounded_L0_1_ok (x5 : Int) (x13 : Int) (s0 : law12_VoteBounded_L0_1_S) : Bool := (itS (law12_VoteBounded_L0_1_sel x5 x13) (law12_VoteBounded_L0_1_nx x5 x13) bound s0).isSome
def law12_VoteBounded_L0_1_end (x5 : Int) (x13 : Int) (s0 : law12_VoteBounded_L0_1_S) : law12_VoteBounded_L0_1_S := (itS (law12_VoteBounded_L0_1_sel x5 x13) (law12_VoteBounded_L0_1_nx x5 x13) bound s0).getD default
theorem law12_VoteBounded_L0_1_h0_go (x0 : Int) (x1 : Int) (x2 : Int) (x3 : Int) (x4 : Int) (x5 : Int) (x6 : Int) (x7 : Int) (x8 : Int) (x9 : Int) (x10 : Int) (x11 : Int) (x12 : Int) (x13 : Int) (x14 : Bool) (x15 : Bool) (x16 : Bool) (x17 : Bool) (x18 : Int) (x19 : Int) (x20 : Bool) (x21 : Bool) (s0 : law12_VoteBounded_L0_1_s0) : law12_VoteBounded_L0_1_h0_sel x5 x13 s0 = true → (roundG (runC E0 (cl E0) L12_0) [2, 3, 5, 6, 7, 8, 9] [2, 3, 5, 6, 7, 8] 4) (law12_VoteBounded_L0_1_enc x0 x1 x2 x3 x4 x5 x6 x7 x8 x9 x10 x11 x12 x13 x14 x15 x16 x17 x18 x19 x20 x21 (.h0 s0)) = some (.normal, law12_VoteBounded_L0_1_enc x0 x1 x2 x3 x4 x5 x6 x7 x8 x9 x10 x11 x12 x13 x14 x15 x16 x17 x18 x19 x20 x21 (law12_VoteBounded_L0_1_h0_nx x5 x13 s0)) := by
  unfold law12_VoteBounded_L0_1_h0_sel law12_VoteBounded_L0_1_h0_nx
  cases h1 : tb (decide (0 < (wi (2 + (wi (remI .u8 x13 2))))))
  · intro g0
    exact absurd g0 ft
  · cases h2 : tb (((wi ((wi (x5)) + 1)) : Int) == 0)
    · intro _
      exact round_walk [.b (tbE h1), .o 45 (fun _ => o_rem (k := .i64) (x := (wi (x6))) (y := (wi ((wi (x5)) + 1))) (tbE h2))] (by kernel_rfl)
    · intro g0
      exact absurd g0 ft
def law12_VoteBounded_L0_1_h0_c0 (x13 : Int) : Bool := (bif tb (decide (0 < (wi (2 + (wi (remI .u8 x13 2)))))) then false else true)
theorem law12_VoteBounded_L0_1_h1_go (x0 : Int) (x1 : Int) (x2 : Int) (x3 : Int) (x4 : Int) (x5 : Int) (x6 : Int) (x7 : Int) (x8 : Int) (x9 : Int) (x10 : Int) (x11 : Int) (x12 : Int) (x13 : Int) (x14 : Bool) (x15 : Bool) (x16 : Bool) (x17 : Bool) (x18 : Int) (x19 : Int) (x20 : Bool) (x21 : Bool) (s0 : law12_VoteBounded_L0_1_s1) : law12_VoteBounded_L0_1_h1_sel x5 x13 s0 = true → (roundG (runC E0 (cl E0) L12_0) [2, 3, 5, 6, 7, 8, 9] [2, 3, 5, 6, 7, 8] 4) (law12_VoteBounded_L0_1_enc x0 x1 x2 x3 x4 x5 x6 x7 x8 x9 x10 x11 x12 x13 x14 x15 x16 x17 x18 x19 x20 x21 (.h1 s0)) = some (.normal, law12_VoteBounded_L0_1_enc x0 x1 x2 x3 x4 x5 x6 x7 x8 x9 x10 x11 x12 x13 x14 x15 x16 x17 x18 x19 x20 x21 (law12_VoteBounded_L0_1_h1_nx x5 x13 s0)) := by
  unfold law12_VoteBounded_L0_1_h1_sel law12_VoteBounded_L0_1_h1_nx
  cases h1 : tb (decide (1 < (wi (2 + (wi (remI .u8 x13 2))))))
  · intro g0
    exact absurd g0 ft
  · cases h2 : tb (((wi ((wi (x5)) + 1)) : Int) == 0)
    · intro _
      exact round_walk [.b (tbE h1), .o 45 (fun _ => o_rem (k := .i64) (x := (wi (x7))) (y := (wi ((wi (x5)) + 1))) (tbE h2))] (by kernel_rfl)
    · intro g0
      exact absurd g0 ft
def law12_VoteBounded_L0_1_h1_c0 (x13 : Int) : Bool := (bif tb (decide (1 < (wi (2 + (wi (remI .u8 x13 2)))))) then false else true)
theorem law12_VoteBounded_L0_1_h1_x0 (x0 : Int) (x1 : Int) (x2 : Int) (x3 : Int) (x4 : Int) (x5 : Int) (x6 : Int) (x7 : Int) (x8 : Int) (x9 : Int) (x10 : Int) (x11 : Int) (x12 : Int) (x13 : Int) (x14 : Bool) (x15 : Bool) (x16 : Bool) (x17 : Bool) (x18 : Int) (x19 : Int) (x20 : Bool) (x21 : Bool) (s0 : law12_VoteBounded_L0_1_s1) : law12_VoteBounded_L0_1_h1_sel x5 x13 s0 = false → law12_VoteBounded_L0_1_h1_c0 x13 = true → (roundG (runC E0 (cl E0) L12_0) [2, 3, 5, 6, 7, 8, 9] [2, 3, 5, 6, 7, 8] 4) (law12_VoteBounded_L0_1_enc x0 x1 x2 x3 x4 x5 x6 x7 x8 x9 x10 x11 x12 x13 x14 x15 x16 x17 x18 x19 x20 x21 (.h1 s0)) = some ((.exit 0), ([(V.ptr 0 1 0 0), (V.ptr 1 1 0 0), (V.d (.int .i64 x18)), (V.d (.int .i64 x19)), (V.so false 2 1), (V.so false 3 1)], [(Blk.flat 65 3 [[(.int .i64 x0), (.int .i64 x1), (.int .i64 x2)]] x14), (Blk.flat 80 11 [[(.int .i32 x3), (.int .i32 x4), (.int .u16 x5), (.int .u16 x6), (.int .u16 x7), (.int .u16 x8), (.int .u8 x9), (.int .u8 x10), (.int .u8 x11), (.int .u8 x12), (.int .u8 x13)]] x15), (Blk.flat 3 1 [[(.int .i64 (wi (x18 + (remI .i64 (wi (x6)) (wi ((wi (x5)) + 1))))))]] false), (Blk.flat 3 1 [[(.int .i64 (wi ((wi (remI .u8 x9 16)) + 1)))]] false)])) := by
  unfold law12_VoteBounded_L0_1_h1_sel law12_VoteBounded_L0_1_h1_c0
  cases h1 : tb (decide (1 < (wi (2 + (wi (remI .u8 x13 2))))))
  · intro g0 g1
    exact round_walk [.b (tbE h1)] (by kernel_rfl)
  · cases h2 : tb (((wi ((wi (x5)) + 1)) : Int) == 0)
    · intro g0 g1
      exact absurd g0 tf
    · intro g0 g1
      exact absurd g1 ft
theorem law12_VoteBounded_L0_1_h2_go (x0 : Int) (x1 : Int) (x2 : Int) (x3 : Int) (x4 : Int) (x5 : Int) (x6 : Int) (x7 : Int) (x8 : Int) (x9 : Int) (x10 : Int) (x11 : Int) (x12 : Int) (x13 : Int) (x14 : Bool) (x15 : Bool) (x16 : Bool) (x17 : Bool) (x18 : Int) (x19 : Int) (x20 : Bool) (x21 : Bool) (s0 : law12_VoteBounded_L0_1_s2) : law12_VoteBounded_L0_1_h2_sel x5 x13 s0 = true → (roundG (runC E0 (cl E0) L12_0) [2, 3, 5, 6, 7, 8, 9] [2, 3, 5, 6, 7, 8] 4) (law12_VoteBounded_L0_1_enc x0 x1 x2 x3 x4 x5 x6 x7 x8 x9 x10 x11 x12 x13 x14 x15 x16 x17 x18 x19 x20 x21 (.h2 s0)) = some (.normal, law12_VoteBounded_L0_1_enc x0 x1 x2 x3 x4 x5 x6 x7 x8 x9 x10 x11 x12 x13 x14 x15 x16 x17 x18 x19 x20 x21 (law12_VoteBounded_L0_1_h2_nx x5 x13 s0)) := by
  unfold law12_VoteBounded_L0_1_h2_sel law12_VoteBounded_L0_1_h2_nx
  cases h1 : tb (decide (2 < (wi (2 + (wi (remI .u8 x13 2))))))
  · intro g0
    exact absurd g0 ft
  · cases h2 : tb (((wi ((wi (x5)) + 1)) : Int) == 0)
    · intro _
      exact round_walk [.b (tbE h1), .o 45 (fun _ => o_rem (k := .i64) (x := (wi (x8))) (y := (wi ((wi (x5)) + 1))) (tbE h2))] (by kernel_rfl)
    · intro g0
      exact absurd g0 ft
def law12_VoteBounded_L0_1_h2_c0 (x13 : Int) : Bool := (bif tb (decide (2 < (wi (2 + (wi (remI .u8 x13 2)))))) then false else true)
theorem law12_VoteBounded_L0_1_h2_x0 (x0 : Int) (x1 : Int) (x2 : Int) (x3 : Int) (x4 : Int) (x5 : Int) (x6 : Int) (x7 : Int) (x8 : Int) (x9 : Int) (x10 : Int) (x11 : Int) (x12 : Int) (x13 : Int) (x14 : Bool) (x15 : Bool) (x16 : Bool) (x17 : Bool) (x18 : Int) (x19 : Int) (x20 : Bool) (x21 : Bool) (s0 : law12_VoteBounded_L0_1_s2) : law12_VoteBounded_L0_1_h2_sel x5 x13 s0 = false → law12_VoteBounded_L0_1_h2_c0 x13 = true → (roundG (runC E0 (cl E0) L12_0) [2, 3, 5, 6, 7, 8, 9] [2, 3, 5, 6, 7, 8] 4) (law12_VoteBounded_L0_1_enc x0 x1 x2 x3 x4 x5 x6 x7 x8 x9 x10 x11 x12 x13 x14 x15 x16 x17 x18 x19 x20 x21 (.h2 s0)) = some ((.exit 0), ([(V.ptr 0 1 0 0), (V.ptr 1 1 0 0), (V.d (.int .i64 x18)), (V.d (.int .i64 x19)), (V.so false 2 2), (V.so false 3 2)], [(Blk.flat 65 3 [[(.int .i64 x0), (.int .i64 x1), (.int .i64 x2)]] x14), (Blk.flat 80 11 [[(.int .i32 x3), (.int .i32 x4), (.int .u16 x5), (.int .u16 x6), (.int .u16 x7), (.int .u16 x8), (.int .u8 x9), (.int .u8 x10), (.int .u8 x11), (.int .u8 x12), (.int .u8 x13)]] x15), (Blk.flat 3 1 [[(.int .i64 (wi (x18 + (remI .i64 (wi (x6)) (wi ((wi (x5)) + 1))))))], [(.int .i64 (wi (x18 + (remI .i64 (wi (x7)) (wi ((wi (x5)) + 1))))))]] false), (Blk.flat 3 1 [[(.int .i64 (wi ((wi (remI .u8 x9 16)) + 1)))], [(.int .i64 (wi ((wi (remI .u8 x10 16)) + 1)))]] false)])) := by
  unfold law12_VoteBounded_L0_1_h2_sel law12_VoteBounded_L0_1_h2_c0
  cases h1 : tb (decide (2 < (wi (2 + (wi (remI .u8 x13 2))))))
  · intro g0 g1
    exact round_walk [.b (tbE h1)] (by kernel_rfl)
  · cases h2 : tb (((wi ((wi (x5)) + 1)) : Int) == 0)
    · intro g0 g1
      exact absurd g0 tf
    · intro g0 g1
      exact absurd g1 ft
theorem law12_VoteBounded_L0_1_h3_go (x0 : Int) (x1 : Int) (x2 : Int) (x3 : Int) (x4 : Int) (x5 : Int) (x6 : Int) (x7 : Int) (x8 : Int) (x9 : Int) (x10 : Int) (x11 : Int) (x12 : Int) (x13 : Int) (x14 : Bool) (x15 : Bool) (x16 : Bool) (x17 : Bool) (x18 : Int) (x19 : Int) (x20 : Bool) (x21 : Bool) (s0 : law12_VoteBounded_L0_1_s3) : law12_VoteBounded_L0_1_h3_sel x5 x13 s0 = true → (roundG (runC E0 (cl E0) L12_0) [2, 3, 5, 6, 7, 8, 9] [2, 3, 5, 6, 7, 8] 4) (law12_VoteBounded_L0_1_enc x0 x1 x2 x3 x4 x5 x6 x7 x8 x9 x10 x11 x12 x13 x14 x15 x16 x17 x18 x19 x20 x21 (.h3 s0)) = some (.normal, law12_VoteBounded_L0_1_enc x0 x1 x2 x3 x4 x5 x6 x7 x8 x9 x10 x11 x12 x13 x14 x15 x16 x17 x18 x19 x20 x21 (law12_VoteBounded_L0_1_h3_nx x5 x13 s0)) := by
  unfold law12_VoteBounded_L0_1_h3_sel law12_VoteBounded_L0_1_h3_nx
  cases h1 : tb (decide (3 < (wi (2 + (wi (remI .u8 x13 2))))))
  · intro g0
    exact absurd g0 ft
  · intro g0
    exact absurd g0 ft
def law12_VoteBounded_L0_1_h3_c0 (x13 : Int) : Bool := (bif tb (decide (3 < (wi (2 + (wi (remI .u8 x13 2)))))) then false else true)
theorem law12_VoteBounded_L0_1_h3_x0 (x0 : Int) (x1 : Int) (x2 : Int) (x3 : Int) (x4 : Int) (x5 : Int) (x6 : Int) (x7 : Int) (x8 : Int) (x9 : Int) (x10 : Int) (x11 : Int) (x12 : Int) (x13 : Int) (x14 : Bool) (x15 : Bool) (x16 : Bool) (x17 : Bool) (x18 : Int) (x19 : Int) (x20 : Bool) (x21 : Bool) (s0 : law12_VoteBounded_L0_1_s3) : law12_VoteBounded_L0_1_h3_sel x5 x13 s0 = false → law12_VoteBounded_L0_1_h3_c0 x13 = true → (roundG (runC E0 (cl E0) L12_0) [2, 3, 5, 6, 7, 8, 9] [2, 3, 5, 6, 7, 8] 4) (law12_VoteBounded_L0_1_enc x0 x1 x2 x3 x4 x5 x6 x7 x8 x9 x10 x11 x12 x13 x14 x15 x16 x17 x18 x19 x20 x21 (.h3 s0)) = some ((.exit 0), ([(V.ptr 0 1 0 0), (V.ptr 1 1 0 0), (V.d (.int .i64 x18)), (V.d (.int .i64 x19)), (V.so false 2 3), (V.so false 3 3)], [(Blk.flat 65 3 [[(.int .i64 x0), (.int .i64 x1), (.int .i64 x2)]] x14), (Blk.flat 80 11 [[(.int .i32 x3), (.int .i32 x4), (.int .u16 x5), (.int .u16 x6), (.int .u16 x7), (.int .u16 x8), (.int .u8 x9), (.int .u8 x10), (.int .u8 x11), (.int .u8 x12), (.int .u8 x13)]] x15), (Blk.flat 3 1 [[(.int .i64 (wi (x18 + (remI .i64 (wi (x6)) (wi ((wi (x5)) + 1))))))], [(.int .i64 (wi (x18 + (remI .i64 (wi (x7)) (wi ((wi (x5)) + 1))))))], [(.int .i64 (wi (x18 + (remI .i64 (wi (x8)) (wi ((wi (x5)) + 1))))))]] false), (Blk.flat 3 1 [[(.int .i64 (wi ((wi (remI .u8 x9 16)) + 1)))], [(.int .i64 (wi ((wi (remI .u8 x10 16)) + 1)))], [(.int .i64 (wi ((wi (remI .u8 x11 16)) + 1)))]] false)])) := by
  unfold law12_VoteBounded_L0_1_h3_sel law12_VoteBounded_L0_1_h3_c0
  cases h1 : tb (decide (3 < (wi (2 + (wi (remI .u8 x13 2))))))
  · intro g0 g1
    exact round_walk [.b (tbE h1)] (by kernel_rfl)
  · intro g0 g1
    exact absurd g1 ft
theorem law12_VoteBounded_L0_1_go (x0 : Int) (x1 : Int) (x2 : Int) (x3 : Int) (x4 : Int) (x5 : Int) (x6 : Int) (x7 : Int) (x8 : Int) (x9 : Int) (x10 : Int) (x11 : Int) (x12 : Int) (x13 : Int) (x14 : Bool) (x15 : Bool) (x16 : Bool) (x17 : Bool) (x18 : Int) (x19 : Int) (x20 : Bool) (x21 : Bool) : ∀ s, law12_VoteBounded_L0_1_sel x5 x13 s = true → (roundG (runC E0 (cl E0) L12_0) [2, 3, 5, 6, 7, 8, 9] [2, 3, 5, 6, 7, 8] 4) (law12_VoteBounded_L0_1_enc x0 x1 x2 x3 x4 x5 x6 x7 x8 x9 x10 x11 x12 x13 x14 x15 x16 x17 x18 x19 x20 x21 s) = some (.normal, law12_VoteBounded_L0_1_enc x0 x1 x2 x3 x4 x5 x6 x7 x8 x9 x10 x11 x12 x13 x14 x15 x16 x17 x18 x19 x20 x21 (law12_VoteBounded_L0_1_nx x5 x13 s))
  | .h0 s0, h => law12_VoteBounded_L0_1_h0_go x0 x1 x2 x3 x4 x5 x6 x7 x8 x9 x10 x11 x12 x13 x14 x15 x16 x17 x18 x19 x20 x21 s0 h
  | .h1 s0, h => law12_VoteBounded_L0_1_h1_go x0 x1 x2 x3 x4 x5 x6 x7 x8 x9 x10 x11 x12 x13 x14 x15 x16 x17 x18 x19 x20 x21 s0 h
  | .h2 s0, h => law12_VoteBounded_L0_1_h2_go x0 x1 x2 x3 x4 x5 x6 x7 x8 x9 x10 x11 x12 x13 x14 x15 x16 x17 x18 x19 x20 x21 s0 h
  | .h3 s0, h => law12_VoteBounded_L0_1_h3_go x0 x1 x2 x3 x4 x5 x6 x7 x8 x9 x10 x11 x12 x13 x14 x15 x16 x17 x18 x19 x20 x21 s0 h
theorem law12_VoteBounded_L0_1_f1_0 (x0 : Int) (x1 : Int) (x2 : Int) (x3 : Int) (x4 : Int) (x5 : Int) (x6 : Int) (x7 : Int) (x8 : Int) (x9 : Int) (x10 : Int) (x11 : Int) (x12 : Int) (x13 : Int) (x14 : Bool) (x15 : Bool) (x16 : Bool) (x17 : Bool) (x18 : Int) (x19 : Int) (x20 : Bool) (x21 : Bool) (s : law12_VoteBounded_L0_1_S) (hok : law12_VoteBounded_L0_1_ok x5 x13 s = true) (k0 : law12_VoteBounded_L0_1_is0 (law12_VoteBounded_L0_1_end x5 x13 s) = false) (k1 : law12_VoteBounded_L0_1_is1 (law12_VoteBounded_L0_1_end x5 x13 s) = true) (c0 : law12_VoteBounded_L0_1_h1_c0 x13 = true) : loopG (roundG (runC E0 (cl E0) L12_0) [2, 3, 5, 6, 7, 8, 9] [2, 3, 5, 6, 7, 8] 4) bound (law12_VoteBounded_L0_1_enc x0 x1 x2 x3 x4 x5 x6 x7 x8 x9 x10 x11 x12 x13 x14 x15 x16 x17 x18 x19 x20 x21 s) = some ((.exit 0), ([(V.ptr 0 1 0 0), (V.ptr 1 1 0 0), (V.d (.int .i64 x18)), (V.d (.int .i64 x19)), (V.so false 2 1), (V.so false 3 1)], [(Blk.flat 65 3 [[(.int .i64 x0), (.int .i64 x1), (.int .i64 x2)]] x14), (Blk.flat 80 11 [[(.int .i32 x3), (.int .i32 x4), (.int .u16 x5), (.int .u16 x6), (.int .u16 x7), (.int .u16 x8), (.int .u8 x9), (.int .u8 x10), (.int .u8 x11), (.int .u8 x12), (.int .u8 x13)]] x15), (Blk.flat 3 1 [[(.int .i64 (wi (x18 + (remI .i64 (wi (x6)) (wi ((wi (x5)) + 1))))))]] false), (Blk.flat 3 1 [[(.int .i64 (wi ((wi (remI .u8 x9 16)) + 1)))]] false)])) := by
  have e : itS (law12_VoteBounded_L0_1_sel x5 x13) (law12_VoteBounded_L0_1_nx x5 x13) bound s = some (law12_VoteBounded_L0_1_end x5 x13 s) := itS_get hok
  have f := itS_false e
  have a := law12_VoteBounded_L0_1_at1 k1
  have g := law12_VoteBounded_L0_1_h1_x0 x0 x1 x2 x3 x4 x5 x6 x7 x8 x9 x10 x11 x12 x13 x14 x15 x16 x17 x18 x19 x20 x21 (law12_VoteBounded_L0_1_get1 (law12_VoteBounded_L0_1_end x5 x13 s)) (by rw [a] at f; exact f) c0
  exact loop_it (law12_VoteBounded_L0_1_go x0 x1 x2 x3 x4 x5 x6 x7 x8 x9 x10 x11 x12 x13 x14 x15 x16 x17 x18 x19 x20 x21) bound s _ _ _ e (fun h => by cases h) (by rw [a]; exact g)
theorem law12_VoteBounded_L0_1_f2_0 (x0 : Int) (x1 : Int) (x2 : Int) (x3 : Int) (x4 : Int) (x5 : Int) (x6 : Int) (x7 : Int) (x8 : Int) (x9 : Int) (x10 : Int) (x11 : Int) (x12 : Int) (x13 : Int) (x14 : Bool) (x15 : Bool) (x16 : Bool) (x17 : Bool) (x18 : Int) (x19 : Int) (x20 : Bool) (x21 : Bool) (s : law12_VoteBounded_L0_1_S) (hok : law12_VoteBounded_L0_1_ok x5 x13 s = true) (k0 : law12_VoteBounded_L0_1_is0 (law12_VoteBounded_L0_1_end x5 x13 s) = false) (k1 : law12_VoteBounded_L0_1_is1 (law12_VoteBounded_L0_1_end x5 x13 s) = false) (k2 : law12_VoteBounded_L0_1_is2 (law12_VoteBounded_L0_1_end x5 x13 s) = true) (c0 : law12_VoteBounded_L0_1_h2_c0 x13 = true) : loopG (roundG (runC E0 (cl E0) L12_0) [2, 3, 5, 6, 7, 8, 9] [2, 3, 5, 6, 7, 8] 4) bound (law12_VoteBounded_L0_1_enc x0 x1 x2 x3 x4 x5 x6 x7 x8 x9 x10 x11 x12 x13 x14 x15 x16 x17 x18 x19 x20 x21 s) = some ((.exit 0), ([(V.ptr 0 1 0 0), (V.ptr 1 1 0 0), (V.d (.int .i64 x18)), (V.d (.int .i64 x19)), (V.so false 2 2), (V.so false 3 2)], [(Blk.flat 65 3 [[(.int .i64 x0), (.int .i64 x1), (.int .i64 x2)]] x14), (Blk.flat 80 11 [[(.int .i32 x3), (.int .i32 x4), (.int .u16 x5), (.int .u16 x6), (.int .u16 x7), (.int .u16 x8), (.int .u8 x9), (.int .u8 x10), (.int .u8 x11), (.int .u8 x12), (.int .u8 x13)]] x15), (Blk.flat 3 1 [[(.int .i64 (wi (x18 + (remI .i64 (wi (x6)) (wi ((wi (x5)) + 1))))))], [(.int .i64 (wi (x18 + (remI .i64 (wi (x7)) (wi ((wi (x5)) + 1))))))]] false), (Blk.flat 3 1 [[(.int .i64 (wi ((wi (remI .u8 x9 16)) + 1)))], [(.int .i64 (wi ((wi (remI .u8 x10 16)) + 1)))]] false)])) := by
  have e : itS (law12_VoteBounded_L0_1_sel x5 x13) (law12_VoteBounded_L0_1_nx x5 x13) bound s = some (law12_VoteBounded_L0_1_end x5 x13 s) := itS_get hok
  have f := itS_false e
  have a := law12_VoteBounded_L0_1_at2 k2
  have g := law12_VoteBounded_L0_1_h2_x0 x0 x1 x2 x3 x4 x5 x6 x7 x8 x9 x10 x11 x12 x13 x14 x15 x16 x17 x18 x19 x20 x21 (law12_VoteBounded_L0_1_get2 (law12_VoteBounded_L0_1_end x5 x13 s)) (by rw [a] at f; exact f) c0
  exact loop_it (law12_VoteBounded_L0_1_go x0 x1 x2 x3 x4 x5 x6 x7 x8 x9 x10 x11 x12 x13 x14 x15 x16 x17 x18 x19 x20 x21) bound s _ _ _ e (fun h => by cases h) (by rw [a]; exact g)
theorem law12_VoteBounded_L0_1_f3_0 (x0 : Int) (x1 : Int) (x2 : Int) (x3 : Int) (x4 : Int) (x5 : Int) (x6 : Int) (x7 : Int) (x8 : Int) (x9 : Int) (x10 : Int) (x11 : Int) (x12 : Int) (x13 : Int) (x14 : Bool) (x15 : Bool) (x16 : Bool) (x17 : Bool) (x18 : Int) (x19 : Int) (x20 : Bool) (x21 : Bool) (s : law12_VoteBounded_L0_1_S) (hok : law12_VoteBounded_L0_1_ok x5 x13 s = true) (k0 : law12_VoteBounded_L0_1_is0 (law12_VoteBounded_L0_1_end x5 x13 s) = false) (k1 : law12_VoteBounded_L0_1_is1 (law12_VoteBounded_L0_1_end x5 x13 s) = false) (k2 : law12_VoteBounded_L0_1_is2 (law12_VoteBounded_L0_1_end x5 x13 s) = false) (c0 : law12_VoteBounded_L0_1_h3_c0 x13 = true) : loopG (roundG (runC E0 (cl E0) L12_0) [2, 3, 5, 6, 7, 8, 9] [2, 3, 5, 6, 7, 8] 4) bound (law12_VoteBounded_L0_1_enc x0 x1 x2 x3 x4 x5 x6 x7 x8 x9 x10 x11 x12 x13 x14 x15 x16 x17 x18 x19 x20 x21 s) = some ((.exit 0), ([(V.ptr 0 1 0 0), (V.ptr 1 1 0 0), (V.d (.int .i64 x18)), (V.d (.int .i64 x19)), (V.so false 2 3), (V.so false 3 3)], [(Blk.flat 65 3 [[(.int .i64 x0), (.int .i64 x1), (.int .i64 x2)]] x14), (Blk.flat 80 11 [[(.int .i32 x3), (.int .i32 x4), (.int .u16 x5), (.int .u16 x6), (.int .u16 x7), (.int .u16 x8), (.int .u8 x9), (.int .u8 x10), (.int .u8 x11), (.int .u8 x12), (.int .u8 x13)]] x15), (Blk.flat 3 1 [[(.int .i64 (wi (x18 + (remI .i64 (wi (x6)) (wi ((wi (x5)) + 1))))))], [(.int .i64 (wi (x18 + (remI .i64 (wi (x7)) (wi ((wi (x5)) + 1))))))], [(.int .i64 (wi (x18 + (remI .i64 (wi (x8)) (wi ((wi (x5)) + 1))))))]] false), (Blk.flat 3 1 [[(.int .i64 (wi ((wi (remI .u8 x9 16)) + 1)))], [(.int .i64 (wi ((wi (remI .u8 x10 16)) + 1)))], [(.int .i64 (wi ((wi (remI .u8 x11 16)) + 1)))]] false)])) := by
  have e : itS (law12_VoteBounded_L0_1_sel x5 x13) (law12_VoteBounded_L0_1_nx x5 x13) bound s = some (law12_VoteBounded_L0_1_end x5 x13 s) := itS_get hok
  have f := itS_false e
  have a : (law12_VoteBounded_L0_1_end x5 x13 s) = .h3 (law12_VoteBounded_L0_1_get3 (law12_VoteBounded_L0_1_end x5 x13 s)) := by
    revert k0 k1 k2
    cases (law12_VoteBounded_L0_1_end x5 x13 s) with
    | h0 w => intros; contradiction
    | h1 w => intros; contradiction
    | h2 w => intros; contradiction
    | h3 w => intros; rfl
  have g := law12_VoteBounded_L0_1_h3_x0 x0 x1 x2 x3 x4 x5 x6 x7 x8 x9 x10 x11 x12 x13 x14 x15 x16 x17 x18 x19 x20 x21 (law12_VoteBounded_L0_1_get3 (law12_VoteBounded_L0_1_end x5 x13 s)) (by rw [a] at f; exact f) c0
  exact loop_it (law12_VoteBounded_L0_1_go x0 x1 x2 x3 x4 x5 x6 x7 x8 x9 x10 x11 x12 x13 x14 x15 x16 x17 x18 x19 x20 x21) bound s _ _ _ e (fun h => by cases h) (by rw [a]; exact g)
def law12_VoteBounded_S1_e0 (x5 : Int) (x13 : Int) : law12_VoteBounded_L0_1_S := law12_VoteBounded_L0_1_end x5 x13 (.h0 ⟨⟩ : law12_VoteBounded_L0_1_S)
def law12_VoteBounded_S1_e3 (x4 : Int) (x5 : Int) (x6 : Int) (x18 : Int) : List Int := [(wi (x4)), (wi (x18 + (remI .i64 (wi (x6)) (wi ((wi (x5)) + 1)))))]
def law12_VoteBounded_S1_e4 (x9 : Int) (x12 : Int) : List Int := [(wi ((wi (remI .u8 x12 16)) + 1)), (wi ((wi (remI .u8 x9 16)) + 1))]
def law12_VoteBounded_S1_e5 (x4 : Int) (x5 : Int) (x6 : Int) (x18 : Int) : List Int := [(wi (x18 + (remI .i64 (wi (x6)) (wi ((wi (x5)) + 1))))), (wi (x4))]
def law12_VoteBounded_S1_e6 (x9 : Int) (x12 : Int) : List Int := [(wi ((wi (remI .u8 x9 16)) + 1)), (wi ((wi (remI .u8 x12 16)) + 1))]
def law12_VoteBounded_S1_e8 (x4 : Int) (x5 : Int) (x6 : Int) (x7 : Int) (x18 : Int) : List Int := [(wi (x4)), (wi (x18 + (remI .i64 (wi (x6)) (wi ((wi (x5)) + 1))))), (wi (x18 + (remI .i64 (wi (x7)) (wi ((wi (x5)) + 1)))))]
def law12_VoteBounded_S1_e9 (x9 : Int) (x10 : Int) (x12 : Int) : List Int := [(wi ((wi (remI .u8 x12 16)) + 1)), (wi ((wi (remI .u8 x9 16)) + 1)), (wi ((wi (remI .u8 x10 16)) + 1))]
def law12_VoteBounded_S1_e10 (x4 : Int) (x5 : Int) (x6 : Int) (x7 : Int) (x18 : Int) : List Int := [(wi (x18 + (remI .i64 (wi (x6)) (wi ((wi (x5)) + 1))))), (wi (x4)), (wi (x18 + (remI .i64 (wi (x7)) (wi ((wi (x5)) + 1)))))]
def law12_VoteBounded_S1_e11 (x9 : Int) (x10 : Int) (x12 : Int) : List Int := [(wi ((wi (remI .u8 x9 16)) + 1)), (wi ((wi (remI .u8 x12 16)) + 1)), (wi ((wi (remI .u8 x10 16)) + 1))]
def law12_VoteBounded_S1_e12 (x4 : Int) (x5 : Int) (x6 : Int) (x7 : Int) (x18 : Int) : List Int := [(wi (x18 + (remI .i64 (wi (x6)) (wi ((wi (x5)) + 1))))), (wi (x18 + (remI .i64 (wi (x7)) (wi ((wi (x5)) + 1))))), (wi (x4))]
def law12_VoteBounded_S1_e13 (x9 : Int) (x10 : Int) (x12 : Int) : List Int := [(wi ((wi (remI .u8 x9 16)) + 1)), (wi ((wi (remI .u8 x10 16)) + 1)), (wi ((wi (remI .u8 x12 16)) + 1))]
def law12_VoteBounded_S1_e15 (x4 : Int) (x5 : Int) (x6 : Int) (x7 : Int) (x8 : Int) (x18 : Int) : List Int := [(wi (x4)), (wi (x18 + (remI .i64 (wi (x6)) (wi ((wi (x5)) + 1))))), (wi (x18 + (remI .i64 (wi (x7)) (wi ((wi (x5)) + 1))))), (wi (x18 + (remI .i64 (wi (x8)) (wi ((wi (x5)) + 1)))))]
def law12_VoteBounded_S1_e16 (x9 : Int) (x10 : Int) (x11 : Int) (x12 : Int) : List Int := [(wi ((wi (remI .u8 x12 16)) + 1)), (wi ((wi (remI .u8 x9 16)) + 1)), (wi ((wi (remI .u8 x10 16)) + 1)), (wi ((wi (remI .u8 x11 16)) + 1))]
def law12_VoteBounded_S1_e17 (x4 : Int) (x5 : Int) (x6 : Int) (x7 : Int) (x8 : Int) (x18 : Int) : List Int := [(wi (x18 + (remI .i64 (wi (x6)) (wi ((wi (x5)) + 1))))), (wi (x4)), (wi (x18 + (remI .i64 (wi (x7)) (wi ((wi (x5)) + 1))))), (wi (x18 + (remI .i64 (wi (x8)) (wi ((wi (x5)) + 1)))))]
def law12_VoteBounded_S1_e18 (x9 : Int) (x10 : Int) (x11 : Int) (x12 : Int) : List Int := [(wi ((wi (remI .u8 x9 16)) + 1)), (wi ((wi (remI .u8 x12 16)) + 1)), (wi ((wi (remI .u8 x10 16)) + 1)), (wi ((wi (remI .u8 x11 16)) + 1))]
def law12_VoteBounded_S1_e19 (x4 : Int) (x5 : Int) (x6 : Int) (x7 : Int) (x8 : Int) (x18 : Int) : List Int := [(wi (x18 + (remI .i64 (wi (x6)) (wi ((wi (x5)) + 1))))), (wi (x18 + (remI .i64 (wi (x7)) (wi ((wi (x5)) + 1))))), (wi (x4)), (wi (x18 + (remI .i64 (wi (x8)) (wi ((wi (x5)) + 1)))))]
def law12_VoteBounded_S1_e20 (x9 : Int) (x10 : Int) (x11 : Int) (x12 : Int) : List Int := [(wi ((wi (remI .u8 x9 16)) + 1)), (wi ((wi (remI .u8 x10 16)) + 1)), (wi ((wi (remI .u8 x12 16)) + 1)), (wi ((wi (remI .u8 x11 16)) + 1))]
def law12_VoteBounded_S1_e21 (x4 : Int) (x5 : Int) (x6 : Int) (x7 : Int) (x8 : Int) (x18 : Int) : List Int := [(wi (x18 + (remI .i64 (wi (x6)) (wi ((wi (x5)) + 1))))), (wi (x18 + (remI .i64 (wi (x7)) (wi ((wi (x5)) + 1))))), (wi (x18 + (remI .i64 (wi (x8)) (wi ((wi (x5)) + 1))))), (wi (x4))]
def law12_VoteBounded_S1_e22 (x9 : Int) (x10 : Int) (x11 : Int) (x12 : Int) : List Int := [(wi ((wi (remI .u8 x9 16)) + 1)), (wi ((wi (remI .u8 x10 16)) + 1)), (wi ((wi (remI .u8 x11 16)) + 1)), (wi ((wi (remI .u8 x12 16)) + 1))]
def law12_VoteBounded_S1_c0 (x0 : Int) (x1 : Int) (x2 : Int) (x4 : Int) (x5 : Int) (x6 : Int) (x9 : Int) (x12 : Int) (x13 : Int) (x18 : Int) : Bool := (bif tb (law12_VoteBounded_L0_1_ok x5 x13 (.h0 ⟨⟩ : law12_VoteBounded_L0_1_S)) then (bif tb (law12_VoteBounded_L0_1_is0 (law12_VoteBounded_S1_e0 x5 x13)) then false else (bif tb (law12_VoteBounded_L0_1_is1 (law12_VoteBounded_S1_e0 x5 x13)) then (bif tb (law12_VoteBounded_L0_1_h1_c0 x13) then (bif tb (((remI .i64 (wi (x13)) 2) : Int) == 0) then (bif tb (vote_Vote_ai3oo_c0 x0 x1 x2 (law12_VoteBounded_S1_e3 x4 x5 x6 x18) (law12_VoteBounded_S1_e4 x9 x12)) then true else false) else (bif tb (((remI .i64 (wi (x13)) 2) : Int) == 1) then (bif tb (vote_Vote_ai3oo_c0 x0 x1 x2 (law12_VoteBounded_S1_e5 x4 x5 x6 x18) (law12_VoteBounded_S1_e6 x9 x12)) then true else false) else false)) else false) else false)) else false)
def law12_VoteBounded_S1_r0_2 (x0 : Int) (x1 : Int) (x2 : Int) (x4 : Int) (x5 : Int) (x6 : Int) (x9 : Int) (x12 : Int) (x13 : Int) (x18 : Int) : Int := (bif tb (((remI .i64 (wi (x13)) 2) : Int) == 0) then (vote_Vote_ai3oo_r0_0 x0 x1 x2 (law12_VoteBounded_S1_e3 x4 x5 x6 x18) (law12_VoteBounded_S1_e4 x9 x12)) else (vote_Vote_ai3oo_r0_0 x0 x1 x2 (law12_VoteBounded_S1_e5 x4 x5 x6 x18) (law12_VoteBounded_S1_e6 x9 x12)))
def law12_VoteBounded_S1_r0_3 (x0 : Int) (x1 : Int) (x2 : Int) (x4 : Int) (x5 : Int) (x6 : Int) (x9 : Int) (x12 : Int) (x13 : Int) (x18 : Int) : Bool := (bif tb (((remI .i64 (wi (x13)) 2) : Int) == 0) then (vote_Vote_ai3oo_r0_1 x0 x1 x2 (law12_VoteBounded_S1_e3 x4 x5 x6 x18) (law12_VoteBounded_S1_e4 x9 x12)) else (vote_Vote_ai3oo_r0_1 x0 x1 x2 (law12_VoteBounded_S1_e5 x4 x5 x6 x18) (law12_VoteBounded_S1_e6 x9 x12)))
def law12_VoteBounded_S1_c1 (x0 : Int) (x1 : Int) (x2 : Int) (x4 : Int) (x5 : Int) (x6 : Int) (x7 : Int) (x9 : Int) (x10 : Int) (x12 : Int) (x13 : Int) (x18 : Int) : Bool := (bif tb (law12_VoteBounded_L0_1_ok x5 x13 (.h0 ⟨⟩ : law12_VoteBounded_L0_1_S)) then (bif tb (law12_VoteBounded_L0_1_is0 (law12_VoteBounded_S1_e0 x5 x13)) then false else (bif tb (law12_VoteBounded_L0_1_is1 (law12_VoteBounded_S1_e0 x5 x13)) then false else (bif tb (law12_VoteBounded_L0_1_is2 (law12_VoteBounded_S1_e0 x5 x13)) then (bif tb (law12_VoteBounded_L0_1_h2_c0 x13) then (bif tb (((remI .i64 (wi (x13)) 3) : Int) == 0) then (bif tb (vote_Vote_ai3oo_c0 x0 x1 x2 (law12_VoteBounded_S1_e8 x4 x5 x6 x7 x18) (law12_VoteBounded_S1_e9 x9 x10 x12)) then true else false) else (bif tb (((remI .i64 (wi (x13)) 3) : Int) == 1) then (bif tb (vote_Vote_ai3oo_c0 x0 x1 x2 (law12_VoteBounded_S1_e10 x4 x5 x6 x7 x18) (law12_VoteBounded_S1_e11 x9 x10 x12)) then true else false) else (bif tb (((remI .i64 (wi (x13)) 3) : Int) == 2) then (bif tb (vote_Vote_ai3oo_c0 x0 x1 x2 (law12_VoteBounded_S1_e12 x4 x5 x6 x7 x18) (law12_VoteBounded_S1_e13 x9 x10 x12)) then true else false) else false))) else false) else false))) else false)
def law12_VoteBounded_S1_r1_2 (x0 : Int) (x1 : Int) (x2 : Int) (x4 : Int) (x5 : Int) (x6 : Int) (x7 : Int) (x9 : Int) (x10 : Int) (x12 : Int) (x13 : Int) (x18 : Int) : Int := (bif tb (((remI .i64 (wi (x13)) 3) : Int) == 0) then (vote_Vote_ai3oo_r0_0 x0 x1 x2 (law12_VoteBounded_S1_e8 x4 x5 x6 x7 x18) (law12_VoteBounded_S1_e9 x9 x10 x12)) else (bif tb (((remI .i64 (wi (x13)) 3) : Int) == 1) then (vote_Vote_ai3oo_r0_0 x0 x1 x2 (law12_VoteBounded_S1_e10 x4 x5 x6 x7 x18) (law12_VoteBounded_S1_e11 x9 x10 x12)) else (vote_Vote_ai3oo_r0_0 x0 x1 x2 (law12_VoteBounded_S1_e12 x4 x5 x6 x7 x18) (law12_VoteBounded_S1_e13 x9 x10 x12))))
def law12_VoteBounded_S1_r1_3 (x0 : Int) (x1 : Int) (x2 : Int) (x4 : Int) (x5 : Int) (x6 : Int) (x7 : Int) (x9 : Int) (x10 : Int) (x12 : Int) (x13 : Int) (x18 : Int) : Bool := (bif tb (((remI .i64 (wi (x13)) 3) : Int) == 0) then (vote_Vote_ai3oo_r0_1 x0 x1 x2 (law12_VoteBounded_S1_e8 x4 x5 x6 x7 x18) (law12_VoteBounded_S1_e9 x9 x10 x12)) else (bif tb (((remI .i64 (wi (x13)) 3) : Int) == 1) then (vote_Vote_ai3oo_r0_1 x0 x1 x2 (law12_VoteBounded_S1_e10 x4 x5 x6 x7 x18) (law12_VoteBounded_S1_e11 x9 x10 x12)) else (vote_Vote_ai3oo_r0_1 x0 x1 x2 (law12_VoteBounded_S1_e12 x4 x5 x6 x7 x18) (law12_VoteBounded_S1_e13 x9 x10 x12))))
def law12_VoteBounded_S1_c2 (x0 : Int) (x1 : Int) (x2 : Int) (x4 : Int) (x5 : Int) (x6 : Int) (x7 : Int) (x8 : Int) (x9 : Int) (x10 : Int) (x11 : Int) (x12 : Int) (x13 : Int) (x18 : Int) : Bool := (bif tb (law12_VoteBounded_L0_1_ok x5 x13 (.h0 ⟨⟩ : law12_VoteBounded_L0_1_S)) then (bif tb (law12_VoteBounded_L0_1_is0 (law12_VoteBounded_S1_e0 x5 x13)) then false else (bif tb (law12_VoteBounded_L0_1_is1 (law12_VoteBounded_S1_e0 x5 x13)) then false else (bif tb (law12_VoteBounded_L0_1_is2 (law12_VoteBounded_S1_e0 x5 x13)) then false else (bif tb (law12_VoteBounded_L0_1_h3_c0 x13) then (bif tb (((remI .i64 (wi (x13)) 4) : Int) == 0) then (bif tb (vote_Vote_ai3oo_c0 x0 x1 x2 (law12_VoteBounded_S1_e15 x4 x5 x6 x7 x8 x18) (law12_VoteBounded_S1_e16 x9 x10 x11 x12)) then true else false) else (bif tb (((remI .i64 (wi (x13)) 4) : Int) == 1) then (bif tb (vote_Vote_ai3oo_c0 x0 x1 x2 (law12_VoteBounded_S1_e17 x4 x5 x6 x7 x8 x18) (law12_VoteBounded_S1_e18 x9 x10 x11 x12)) then true else false) else (bif tb (((remI .i64 (wi (x13)) 4) : Int) == 2) then (bif tb (vote_Vote_ai3oo_c0 x0 x1 x2 (law12_VoteBounded_S1_e19 x4 x5 x6 x7 x8 x18) (law12_VoteBounded_S1_e20 x9 x10 x11 x12)) then true else false) else (bif tb (((remI .i64 (wi (x13)) 4) : Int) == 3) then (bif tb (vote_Vote_ai3oo_c0 x0 x1 x2 (law12_VoteBounded_S1_e21 x4 x5 x6 x7 x8 x18) (law12_VoteBounded_S1_e22 x9 x10 x11 x12)) then true else false) else false)))) else false)))) else false)
def law12_VoteBounded_S1_r2_2 (x0 : Int) (x1 : Int) (x2 : Int) (x4 : Int) (x5 : Int) (x6 : Int) (x7 : Int) (x8 : Int) (x9 : Int) (x10 : Int) (x11 : Int) (x12 : Int) (x13 : Int) (x18 : Int) : Int := (bif tb (((remI .i64 (wi (x13)) 4) : Int) == 0) then (vote_Vote_ai3oo_r0_0 x0 x1 x2 (law12_VoteBounded_S1_e15 x4 x5 x6 x7 x8 x18) (law12_VoteBounded_S1_e16 x9 x10 x11 x12)) else (bif tb (((remI .i64 (wi (x13)) 4) : Int) == 1) then (vote_Vote_ai3oo_r0_0 x0 x1 x2 (law12_VoteBounded_S1_e17 x4 x5 x6 x7 x8 x18) (law12_VoteBounded_S1_e18 x9 x10 x11 x12)) else (bif tb (((remI .i64 (wi (x13)) 4) : Int) == 2) then (vote_Vote_ai3oo_r0_0 x0 x1 x2 (law12_VoteBounded_S1_e19 x4 x5 x6 x7 x8 x18) (law12_VoteBounded_S1_e20 x9 x10 x11 x12)) else (vote_Vote_ai3oo_r0_0 x0 x1 x2 (law12_VoteBounded_S1_e21 x4 x5 x6 x7 x8 x18) (law12_VoteBounded_S1_e22 x9 x10 x11 x12)))))
def law12_VoteBounded_S1_r2_3 (x0 : Int) (x1 : Int) (x2 : Int) (x4 : Int) (x5 : Int) (x6 : Int) (x7 : Int) (x8 : Int) (x9 : Int) (x10 : Int) (x11 : Int) (x12 : Int) (x13 : Int) (x18 : Int) : Bool := (bif tb (((remI .i64 (wi (x13)) 4) : Int) == 0) then (vote_Vote_ai3oo_r0_1 x0 x1 x2 (law12_VoteBounded_S1_e15 x4 x5 x6 x7 x8 x18) (law12_VoteBounded_S1_e16 x9 x10 x11 x12)) else (bif tb (((remI .i64 (wi (x13)) 4) : Int) == 1) then (vote_Vote_ai3oo_r0_1 x0 x1 x2 (law12_VoteBounded_S1_e17 x4 x5 x6 x7 x8 x18) (law12_VoteBounded_S1_e18 x9 x10 x11 x12)) else (bif tb (((remI .i64 (wi (x13)) 4) : Int) == 2) then (vote_Vote_ai3oo_r0_1 x0 x1 x2 (law12_VoteBounded_S1_e19 x4 x5 x6 x7 x8 x18) (law12_VoteBounded_S1_e20 x9 x10 x11 x12)) else (vote_Vote_ai3oo_r0_1 x0 x1 x2 (law12_VoteBounded_S1_e21 x4 x5 x6 x7 x8 x18) (law12_VoteBounded_S1_e22 x9 x10 x11 x12)))))
theorem law12_VoteBounded_S1_t0 (x0 : Int) (x1 : Int) (x2 : Int) (x3 : Int) (x4 : Int) (x5 : Int) (x6 : Int) (x7 : Int) (x8 : Int) (x9 : Int) (x10 : Int) (x11 : Int) (x12 : Int) (x13 : Int) (x14 : Bool) (x15 : Bool) (x18 : Int) (x19 : Int) : law12_VoteBounded_S1_c0 x0 x1 x2 x4 x5 x6 x9 x12 x13 x18 = true → segG (runC E0 (cl E0) S12_1) [2, 3, 5, 6, 7, 8] [] [2, 5, 6, 14, 15] 4 ([(V.ptr 0 1 0 0), (V.ptr 1 1 0 0), (V.d (.int .i64 x18)), (V.d (.int .i64 x19)), (V.so true 2 0), (V.so true 3 0)], [(Blk.flat 65 3 [[(.int .i64 x0), (.int .i64 x1), (.int .i64 x2)]] x14), (Blk.flat 80 11 [[(.int .i32 x3), (.int .i32 x4), (.int .u16 x5), (.int .u16 x6), (.int .u16 x7), (.int .u16 x8), (.int .u8 x9), (.int .u8 x10), (.int .u8 x11), (.int .u8 x12), (.int .u8 x13)]] x15), (Blk.flat 3 1 [] false), (Blk.flat 3 1 [] false)]) = some (.normal, ([(V.ptr 0 1 0 0), (V.d (.int .i64 x18)), (V.d (.int .i64 x19)), (V.d (.int .i64 (law12_VoteBounded_S1_r0_2 x0 x1 x2 x4 x5 x6 x9 x12 x13 x18))), (V.d (.bool (law12_VoteBounded_S1_r0_3 x0 x1 x2 x4 x5 x6 x9 x12 x13 x18)))], [(Blk.flat 65 3 [[(.int .i64 x0), (.int .i64 x1), (.int .i64 x2)]] x14), (Blk.flat 80 11 [[(.int .i32 x3), (.int .i32 x4), (.int .u16 x5), (.int .u16 x6), (.int .u16 x7), (.int .u16 x8), (.int .u8 x9), (.int .u8 x10), (.int .u8 x11), (.int .u8 x12), (.int .u8 x13)]] x15), (Blk.flat 3 1 [[(.int .i64 (wi (x18 + (remI .i64 (wi (x6)) (wi ((wi (x5)) + 1))))))]] false), (Blk.flat 3 1 [[(.int .i64 (wi ((wi (remI .u8 x9 16)) + 1)))]] false)])) := by
  unfold law12_VoteBounded_S1_c0 law12_VoteBounded_S1_r0_2 law12_VoteBounded_S1_r0_3
  cases h1 : tb (law12_VoteBounded_L0_1_ok x5 x13 (.h0 ⟨⟩ : law12_VoteBounded_L0_1_S))
  · intro g0
    exact absurd g0 ft
  · cases h2 : tb (law12_VoteBounded_L0_1_is0 (law12_VoteBounded_S1_e0 x5 x13))
    · cases h3 : tb (law12_VoteBounded_L0_1_is1 (law12_VoteBounded_S1_e0 x5 x13))
      · cases h4 : tb (law12_VoteBounded_L0_1_is2 (law12_VoteBounded_S1_e0 x5 x13))
        · cases h5 : tb (law12_VoteBounded_L0_1_h3_c0 x13)
          · intro g0
            exact absurd g0 ft
          · cases h6 : tb (((remI .i64 (wi (x13)) 4) : Int) == 0)
            · cases h7 : tb (((remI .i64 (wi (x13)) 4) : Int) == 1)
              · cases h8 : tb (((remI .i64 (wi (x13)) 4) : Int) == 2)
                · cases h9 : tb (((remI .i64 (wi (x13)) 4) : Int) == 3)
                  · intro g0
                    exact absurd g0 ft
                  · cases h10 : tb (vote_Vote_ai3oo_c0 x0 x1 x2 (law12_VoteBounded_S1_e21 x4 x5 x6 x7 x8 x18) (law12_VoteBounded_S1_e22 x9 x10 x11 x12))
                    · intro g0
                      exact absurd g0 ft
                    · intro g0
                      exact absurd g0 ft
                · cases h9 : tb (vote_Vote_ai3oo_c0 x0 x1 x2 (law12_VoteBounded_S1_e19 x4 x5 x6 x7 x8 x18) (law12_VoteBounded_S1_e20 x9 x10 x11 x12))
                  · intro g0
                    exact absurd g0 ft
                  · intro g0
                    exact absurd g0 ft
              · cases h8 : tb (vote_Vote_ai3oo_c0 x0 x1 x2 (law12_VoteBounded_S1_e17 x4 x5 x6 x7 x8 x18) (law12_VoteBounded_S1_e18 x9 x10 x11 x12))
                · intro g0
                  exact absurd g0 ft
                · intro g0
                  exact absurd g0 ft
            · cases h7 : tb (vote_Vote_ai3oo_c0 x0 x1 x2 (law12_VoteBounded_S1_e15 x4 x5 x6 x7 x8 x18) (law12_VoteBounded_S1_e16 x9 x10 x11 x12))
              · intro g0
                exact absurd g0 ft
              · intro g0
                exact absurd g0 ft
        · cases h5 : tb (law12_VoteBounded_L0_1_h2_c0 x13)
          · intro g0
            exact absurd g0 ft
          · cases h6 : tb (((remI .i64 (wi (x13)) 3) : Int) == 0)
            · cases h7 : tb (((remI .i64 (wi (x13)) 3) : Int) == 1)
              · cases h8 : tb (((remI .i64 (wi (x13)) 3) : Int) == 2)
                · intro g0
                  exact absurd g0 ft
                · cases h9 : tb (vote_Vote_ai3oo_c0 x0 x1 x2 (law12_VoteBounded_S1_e12 x4 x5 x6 x7 x18) (law12_VoteBounded_S1_e13 x9 x10 x12))
                  · intro g0
                    exact absurd g0 ft
                  · intro g0
                    exact absurd g0 ft
              · cases h8 : tb (vote_Vote_ai3oo_c0 x0 x1 x2 (law12_VoteBounded_S1_e10 x4 x5 x6 x7 x18) (law12_VoteBounded_S1_e11 x9 x10 x12))
                · intro g0
                  exact absurd g0 ft
                · intro g0
                  exact absurd g0 ft
            · cases h7 : tb (vote_Vote_ai3oo_c0 x0 x1 x2 (law12_VoteBounded_S1_e8 x4 x5 x6 x7 x18) (law12_VoteBounded_S1_e9 x9 x10 x12))
              · intro g0
                exact absurd g0 ft
              · intro g0
                exact absurd g0 ft
      · cases h4 : tb (law12_VoteBounded_L0_1_h1_c0 x13)
        · intro g0
          exact absurd g0 ft
        · cases h5 : tb (((remI .i64 (wi (x13)) 2) : Int) == 0)
          · cases h6 : tb (((remI .i64 (wi (x13)) 2) : Int) == 1)
            · intro g0
              exact absurd g0 ft
            · cases h7 : tb (vote_Vote_ai3oo_c0 x0 x1 x2 (law12_VoteBounded_S1_e5 x4 x5 x6 x18) (law12_VoteBounded_S1_e6 x9 x12))
              · intro g0
                exact absurd g0 ft
              · intro g0
                exact seg_walk [.l (law12_VoteBounded_L0_1_f1_0 x0 x1 x2 x3 x4 x5 x6 x7 x8 x9 x10 x11 x12 x13 x14 x15 false false x18 x19 true true (.h0 ⟨⟩ : law12_VoteBounded_L0_1_S) (tbE h1) (tbE h2) (tbE h3) (tbE h4)), .m 72 (o_slice_sl1 (m := [(Blk.flat 65 3 [[(.int .i64 x0), (.int .i64 x1), (.int .i64 x2)]] x14), (Blk.flat 80 11 [[(.int .i32 x3), (.int .i32 x4), (.int .u16 x5), (.int .u16 x6), (.int .u16 x7), (.int .u16 x8), (.int .u8 x9), (.int .u8 x10), (.int .u8 x11), (.int .u8 x12), (.int .u8 x13)]] x15), (Blk.flat 3 1 [[(.int .i64 (wi (x18 + (remI .i64 (wi (x6)) (wi ((wi (x5)) + 1))))))]] false), (Blk.flat 3 1 [[(.int .i64 (wi ((wi (remI .u8 x9 16)) + 1)))]] false), (Blk.flat 3 1 [] false)]) (x := (V.so false 2 1)) (id := 2) (n := 1) (off := 0) (len := 1) (s := 1) (by kernel_rfl) none (some (.i64, (remI .i64 (wi (x13)) 2))) 0 1 (by kernel_rfl) (tbE h6) (by kernel_rfl) (by kernel_rfl)), .m 79 (o_slice_sl0 (m := [(Blk.flat 65 3 [[(.int .i64 x0), (.int .i64 x1), (.int .i64 x2)]] x14), (Blk.flat 80 11 [[(.int .i32 x3), (.int .i32 x4), (.int .u16 x5), (.int .u16 x6), (.int .u16 x7), (.int .u16 x8), (.int .u8 x9), (.int .u8 x10), (.int .u8 x11), (.int .u8 x12), (.int .u8 x13)]] x15), (Blk.flat 3 1 [[(.int .i64 (wi (x18 + (remI .i64 (wi (x6)) (wi ((wi (x5)) + 1))))))]] false), (Blk.flat 3 1 [[(.int .i64 (wi ((wi (remI .u8 x9 16)) + 1)))]] false), (Blk.flat 3 1 [[(.int .i64 (wi (x18 + (remI .i64 (wi (x6)) (wi ((wi (x5)) + 1))))))], [(.int .i64 (wi (x4)))]] false), (Blk.flat 3 1 [[(.int .i64 (wi (x4)))]] false)]) (x := (V.so false 2 1)) (id := 2) (n := 1) (off := 0) (len := 1) (s := 1) (v := (V.d (.rs false 1 [] false))) (by kernel_rfl) (some (.i64, (remI .i64 (wi (x13)) 2))) none 1 (tbE h6) (by kernel_rfl) (by kernel_rfl) (by kernel_rfl) (by kernel_rfl)), .m 84 (o_slice_sl1 (m := [(Blk.flat 65 3 [[(.int .i64 x0), (.int .i64 x1), (.int .i64 x2)]] x14), (Blk.flat 80 11 [[(.int .i32 x3), (.int .i32 x4), (.int .u16 x5), (.int .u16 x6), (.int .u16 x7), (.int .u16 x8), (.int .u8 x9), (.int .u8 x10), (.int .u8 x11), (.int .u8 x12), (.int .u8 x13)]] x15), (Blk.flat 3 1 [[(.int .i64 (wi (x18 + (remI .i64 (wi (x6)) (wi ((wi (x5)) + 1))))))]] false), (Blk.flat 3 1 [[(.int .i64 (wi ((wi (remI .u8 x9 16)) + 1)))]] false), (Blk.flat 3 1 [[(.int .i64 (wi (x18 + (remI .i64 (wi (x6)) (wi ((wi (x5)) + 1))))))], [(.int .i64 (wi (x4)))]] false), (Blk.flat 3 1 [[(.int .i64 (wi (x4)))]] false), (Blk.flat 3 1 [] false)]) (x := (V.so false 3 1)) (id := 3) (n := 1) (off := 0) (len := 1) (s := 1) (by kernel_rfl) none (some (.i64, (remI .i64 (wi (x13)) 2))) 0 1 (by kernel_rfl) (tbE h6) (by kernel_rfl) (by kernel_rfl)), .m 96 (o_slice_sl0 (m := [(Blk.flat 65 3 [[(.int .i64 x0), (.int .i64 x1), (.int .i64 x2)]] x14), (Blk.flat 80 11 [[(.int .i32 x3), (.int .i32 x4), (.int .u16 x5), (.int .u16 x6), (.int .u16 x7), (.int .u16 x8), (.int .u8 x9), (.int .u8 x10), (.int .u8 x11), (.int .u8 x12), (.int .u8 x13)]] x15), (Blk.flat 3 1 [[(.int .i64 (wi (x18 + (remI .i64 (wi (x6)) (wi ((wi (x5)) + 1))))))]] false), (Blk.flat 3 1 [[(.int .i64 (wi ((wi (remI .u8 x9 16)) + 1)))]] false), (Blk.flat 3 1 [[(.int .i64 (wi (x18 + (remI .i64 (wi (x6)) (wi ((wi (x5)) + 1))))))], [(.int .i64 (wi (x4)))]] false), (Blk.flat 3 1 [[(.int .i64 (wi (x4)))]] false), (Blk.flat 3 1 [[(.int .i64 (wi ((wi (remI .u8 x9 16)) + 1)))], [(.int .i64 (wi ((wi (remI .u8 x12 16)) + 1)))]] false), (Blk.flat 3 1 [[(.int .i64 (wi ((wi (remI .u8 x12 16)) + 1)))]] false)]) (x := (V.so false 3 1)) (id := 3) (n := 1) (off := 0) (len := 1) (s := 1) (v := (V.d (.rs false 1 [] false))) (by kernel_rfl) (some (.i64, (remI .i64 (wi (x13)) 2))) none 1 (tbE h6) (by kernel_rfl) (by kernel_rfl) (by kernel_rfl) (by kernel_rfl)), .c (vote_Vote_ai3oo_t0 x0 x1 x2 false (law12_VoteBounded_S1_e5 x4 x5 x6 x18) false (law12_VoteBounded_S1_e6 x9 x12) (tbE h7))] (by kernel_rfl)
          · cases h6 : tb (vote_Vote_ai3oo_c0 x0 x1 x2 (law12_VoteBounded_S1_e3 x4 x5 x6 x18) (law12_VoteBounded_S1_e4 x9 x12))
            · intro g0
              exact absurd g0 ft
            · intro g0
              exact seg_walk [.l (law12_VoteBounded_L0_1_f1_0 x0 x1 x2 x3 x4 x5 x6 x7 x8 x9 x10 x11 x12 x13 x14 x15 false false x18 x19 true true (.h0 ⟨⟩ : law12_VoteBounded_L0_1_S) (tbE h1) (tbE h2) (tbE h3) (tbE h4)), .m 72 (o_slice_sl0 (m := [(Blk.flat 65 3 [[(.int .i64 x0), (.int .i64 x1), (.int .i64 x2)]] x14), (Blk.flat 80 11 [[(.int .i32 x3), (.int .i32 x4), (.int .u16 x5), (.int .u16 x6), (.int .u16 x7), (.int .u16 x8), (.int .u8 x9), (.int .u8 x10), (.int .u8 x11), (.int .u8 x12), (.int .u8 x13)]] x15), (Blk.flat 3 1 [[(.int .i64 (wi (x18 + (remI .i64 (wi (x6)) (wi ((wi (x5)) + 1))))))]] false), (Blk.flat 3 1 [[(.int .i64 (wi ((wi (remI .u8 x9 16)) + 1)))]] false), (Blk.flat 3 1 [] false)]) (x := (V.so false 2 1)) (id := 2) (n := 1) (off := 0) (len := 1) (s := 1) (v := (V.d (.rs false 1 [] false))) (by kernel_rfl) none (some (.i64, (remI .i64 (wi (x13)) 2))) 0 (by kernel_rfl) (tbE h5) (by kernel_rfl) (by kernel_rfl) (by kernel_rfl)), .m 79 (o_slice_sl1 (m := [(Blk.flat 65 3 [[(.int .i64 x0), (.int .i64 x1), (.int .i64 x2)]] x14), (Blk.flat 80 11 [[(.int .i32 x3), (.int .i32 x4), (.int .u16 x5), (.int .u16 x6), (.int .u16 x7), (.int .u16 x8), (.int .u8 x9), (.int .u8 x10), (.int .u8 x11), (.int .u8 x12), (.int .u8 x13)]] x15), (Blk.flat 3 1 [[(.int .i64 (wi (x18 + (remI .i64 (wi (x6)) (wi ((wi (x5)) + 1))))))]] false), (Blk.flat 3 1 [[(.int .i64 (wi ((wi (remI .u8 x9 16)) + 1)))]] false), (Blk.flat 3 1 [[(.int .i64 (wi (x4)))]] false), (Blk.flat 3 1 [[(.int .i64 (wi (x4)))]] false)]) (x := (V.so false 2 1)) (id := 2) (n := 1) (off := 0) (len := 1) (s := 1) (by kernel_rfl) (some (.i64, (remI .i64 (wi (x13)) 2))) none 0 1 (tbE h5) (by kernel_rfl) (by kernel_rfl) (by kernel_rfl)), .m 84 (o_slice_sl0 (m := [(Blk.flat 65 3 [[(.int .i64 x0), (.int .i64 x1), (.int .i64 x2)]] x14), (Blk.flat 80 11 [[(.int .i32 x3), (.int .i32 x4), (.int .u16 x5), (.int .u16 x6), (.int .u16 x7), (.int .u16 x8), (.int .u8 x9), (.int .u8 x10), (.int .u8 x11), (.int .u8 x12), (.int .u8 x13)]] x15), (Blk.flat 3 1 [[(.int .i64 (wi (x18 + (remI .i64 (wi (x6)) (wi ((wi (x5)) + 1))))))]] false), (Blk.flat 3 1 [[(.int .i64 (wi ((wi (remI .u8 x9 16)) + 1)))]] false), (Blk.flat 3 1 [[(.int .i64 (wi (x4)))], [(.int .i64 (wi (x18 + (remI .i64 (wi (x6)) (wi ((wi (x5)) + 1))))))]] false), (Blk.flat 3 1 [[(.int .i64 (wi (x4)))]] false), (Blk.flat 3 1 [] false)]) (x := (V.so false 3 1)) (id := 3) (n := 1) (off := 0) (len := 1) (s := 1) (v := (V.d (.rs false 1 [] false))) (by kernel_rfl) none (some (.i64, (remI .i64 (wi (x13)) 2))) 0 (by kernel_rfl) (tbE h5) (by kernel_rfl) (by kernel_rfl) (by kernel_rfl)), .m 96 (o_slice_sl1 (m := [(Blk.flat 65 3 [[(.int .i64 x0), (.int .i64 x1), (.int .i64 x2)]] x14), (Blk.flat 80 11 [[(.int .i32 x3), (.int .i32 x4), (.int .u16 x5), (.int .u16 x6), (.int .u16 x7), (.int .u16 x8), (.int .u8 x9), (.int .u8 x10), (.int .u8 x11), (.int .u8 x12), (.int .u8 x13)]] x15), (Blk.flat 3 1 [[(.int .i64 (wi (x18 + (remI .i64 (wi (x6)) (wi ((wi (x5)) + 1))))))]] false), (Blk.flat 3 1 [[(.int .i64 (wi ((wi (remI .u8 x9 16)) + 1)))]] false), (Blk.flat 3 1 [[(.int .i64 (wi (x4)))], [(.int .i64 (wi (x18 + (remI .i64 (wi (x6)) (wi ((wi (x5)) + 1))))))]] false), (Blk.flat 3 1 [[(.int .i64 (wi (x4)))]] false), (Blk.flat 3 1 [[(.int .i64 (wi ((wi (remI .u8 x12 16)) + 1)))]] false), (Blk.flat 3 1 [[(.int .i64 (wi ((wi (remI .u8 x12 16)) + 1)))]] false)]) (x := (V.so false 3 1)) (id := 3) (n := 1) (off := 0) (len := 1) (s := 1) (by kernel_rfl) (some (.i64, (remI .i64 (wi (x13)) 2))) none 0 1 (tbE h5) (by kernel_rfl) (by kernel_rfl) (by kernel_rfl)), .c (vote_Vote_ai3oo_t0 x0 x1 x2 false (law12_VoteBounded_S1_e3 x4 x5 x6 x18) false (law12_VoteBounded_S1_e4 x9 x12) (tbE h6))] (by kernel_rfl)
    · cases h3 : tb (law12_VoteBounded_L0_1_h0_c0 x13)
      · intro g0
        exact absurd g0 ft
      · intro g0
        exact absurd g0 ft
theorem law12_VoteBounded_S1_t1 (x0 : Int) (x1 : Int) (x2 : Int) (x3 : Int) (x4 : Int) (x5 : Int) (x6 : Int) (x7 : Int) (x8 : Int) (x9 : Int) (x10 : Int) (x11 : Int) (x12 : Int) (x13 : Int) (x14 : Bool) (x15 : Bool) (x18 : Int) (x19 : Int) : law12_VoteBounded_S1_c0 x0 x1 x2 x4 x5 x6 x9 x12 x13 x18 = false → law12_VoteBounded_S1_c1 x0 x1 x2 x4 x5 x6 x7 x9 x10 x12 x13 x18 = true → segG (runC E0 (cl E0) S12_1) [2, 3, 5, 6, 7, 8] [] [2, 5, 6, 14, 15] 4 ([(V.ptr 0 1 0 0), (V.ptr 1 1 0 0), (V.d (.int .i64 x18)), (V.d (.int .i64 x19)), (V.so true 2 0), (V.so true 3 0)], [(Blk.flat 65 3 [[(.int .i64 x0), (.int .i64 x1), (.int .i64 x2)]] x14), (Blk.flat 80 11 [[(.int .i32 x3), (.int .i32 x4), (.int .u16 x5), (.int .u16 x6), (.int .u16 x7), (.int .u16 x8), (.int .u8 x9), (.int .u8 x10), (.int .u8 x11), (.int .u8 x12), (.int .u8 x13)]] x15), (Blk.flat 3 1 [] false), (Blk.flat 3 1 [] false)]) = some (.normal, ([(V.ptr 0 1 0 0), (V.d (.int .i64 x18)), (V.d (.int .i64 x19)), (V.d (.int .i64 (law12_VoteBounded_S1_r1_2 x0 x1 x2 x4 x5 x6 x7 x9 x10 x12 x13 x18))), (V.d (.bool (law12_VoteBounded_S1_r1_3 x0 x1 x2 x4 x5 x6 x7 x9 x10 x12 x13 x18)))], [(Blk.flat 65 3 [[(.int .i64 x0), (.int .i64 x1), (.int .i64 x2)]] x14), (Blk.flat 80 11 [[(.int .i32 x3), (.int .i32 x4), (.int .u16 x5), (.int .u16 x6), (.int .u16 x7), (.int .u16 x8), (.int .u8 x9), (.int .u8 x10), (.int .u8 x11), (.int .u8 x12), (.int .u8 x13)]] x15), (Blk.flat 3 1 [[(.int .i64 (wi (x18 + (remI .i64 (wi (x6)) (wi ((wi (x5)) + 1))))))], [(.int .i64 (wi (x18 + (remI .i64 (wi (x7)) (wi ((wi (x5)) + 1))))))]] false), (Blk.flat 3 1 [[(.int .i64 (wi ((wi (remI .u8 x9 16)) + 1)))], [(.int .i64 (wi ((wi (remI .u8 x10 16)) + 1)))]] false)])) := by
  unfold law12_VoteBounded_S1_c0 law12_VoteBounded_S1_c1 law12_VoteBounded_S1_r1_2 law12_VoteBounded_S1_r1_3
  cases h1 : tb (law12_VoteBounded_L0_1_ok x5 x13 (.h0 ⟨⟩ : law12_VoteBounded_L0_1_S))
  · intro g0 g1
    exact absurd g1 ft
  · cases h2 : tb (law12_VoteBounded_L0_1_is0 (law12_VoteBounded_S1_e0 x5 x13))
    · cases h3 : tb (law12_VoteBounded_L0_1_is1 (law12_VoteBounded_S1_e0 x5 x13))
      · cases h4 : tb (law12_VoteBounded_L0_1_is2 (law12_VoteBounded_S1_e0 x5 x13))
        · cases h5 : tb (law12_VoteBounded_L0_1_h3_c0 x13)
          · intro g0 g1
            exact absurd g1 ft
          · cases h6 : tb (((remI .i64 (wi (x13)) 4) : Int) == 0)
            · cases h7 : tb (((remI .i64 (wi (x13)) 4) : Int) == 1)
              · cases h8 : tb (((remI .i64 (wi (x13)) 4) : Int) == 2)
                · cases h9 : tb (((remI .i64 (wi (x13)) 4) : Int) == 3)
                  · intro g0 g1
                    exact absurd g1 ft
                  · cases h10 : tb (vote_Vote_ai3oo_c0 x0 x1 x2 (law12_VoteBounded_S1_e21 x4 x5 x6 x7 x8 x18) (law12_VoteBounded_S1_e22 x9 x10 x11 x12))
                    · intro g0 g1
                      exact absurd g1 ft
                    · intro g0 g1
                      exact absurd g1 ft
                · cases h9 : tb (vote_Vote_ai3oo_c0 x0 x1 x2 (law12_VoteBounded_S1_e19 x4 x5 x6 x7 x8 x18) (law12_VoteBounded_S1_e20 x9 x10 x11 x12))
                  · intro g0 g1
                    exact absurd g1 ft
                  · intro g0 g1
                    exact absurd g1 ft
              · cases h8 : tb (vote_Vote_ai3oo_c0 x0 x1 x2 (law12_VoteBounded_S1_e17 x4 x5 x6 x7 x8 x18) (law12_VoteBounded_S1_e18 x9 x10 x11 x12))
                · intro g0 g1
                  exact absurd g1 ft
                · intro g0 g1
                  exact absurd g1 ft
            · cases h7 : tb (vote_Vote_ai3oo_c0 x0 x1 x2 (law12_VoteBounded_S1_e15 x4 x5 x6 x7 x8 x18) (law12_VoteBounded_S1_e16 x9 x10 x11 x12))
              · intro g0 g1
                exact absurd g1 ft
              · intro g0 g1
                exact absurd g1 ft
        · cases h5 : tb (law12_VoteBounded_L0_1_h2_c0 x13)
          · intro g0 g1
            exact absurd g1 ft
          · cases h6 : tb (((remI .i64 (wi (x13)) 3) : Int) == 0)
            · cases h7 : tb (((remI .i64 (wi (x13)) 3) : Int) == 1)
              · cases h8 : tb (((remI .i64 (wi (x13)) 3) : Int) == 2)
                · intro g0 g1
                  exact absurd g1 ft
                · cases h9 : tb (vote_Vote_ai3oo_c0 x0 x1 x2 (law12_VoteBounded_S1_e12 x4 x5 x6 x7 x18) (law12_VoteBounded_S1_e13 x9 x10 x12))
                  · intro g0 g1
                    exact absurd g1 ft
                  · intro g0 g1
                    exact seg_walk [.l (law12_VoteBounded_L0_1_f2_0 x0 x1 x2 x3 x4 x5 x6 x7 x8 x9 x10 x11 x12 x13 x14 x15 false false x18 x19 true true (.h0 ⟨⟩ : law12_VoteBounded_L0_1_S) (tbE h1) (tbE h2) (tbE h3) (tbE h4) (tbE h5)), .m 72 (o_slice_sl1 (m := [(Blk.flat 65 3 [[(.int .i64 x0), (.int .i64 x1), (.int .i64 x2)]] x14), (Blk.flat 80 11 [[(.int .i32 x3), (.int .i32 x4), (.int .u16 x5), (.int .u16 x6), (.int .u16 x7), (.int .u16 x8), (.int .u8 x9), (.int .u8 x10), (.int .u8 x11), (.int .u8 x12), (.int .u8 x13)]] x15), (Blk.flat 3 1 [[(.int .i64 (wi (x18 + (remI .i64 (wi (x6)) (wi ((wi (x5)) + 1))))))], [(.int .i64 (wi (x18 + (remI .i64 (wi (x7)) (wi ((wi (x5)) + 1))))))]] false), (Blk.flat 3 1 [[(.int .i64 (wi ((wi (remI .u8 x9 16)) + 1)))], [(.int .i64 (wi ((wi (remI .u8 x10 16)) + 1)))]] false), (Blk.flat 3 1 [] false)]) (x := (V.so false 2 2)) (id := 2) (n := 2) (off := 0) (len := 2) (s := 1) (by kernel_rfl) none (some (.i64, (remI .i64 (wi (x13)) 3))) 0 2 (by kernel_rfl) (tbE h8) (by kernel_rfl) (by kernel_rfl)), .m 79 (o_slice_sl0 (m := [(Blk.flat 65 3 [[(.int .i64 x0), (.int .i64 x1), (.int .i64 x2)]] x14), (Blk.flat 80 11 [[(.int .i32 x3), (.int .i32 x4), (.int .u16 x5), (.int .u16 x6), (.int .u16 x7), (.int .u16 x8), (.int .u8 x9), (.int .u8 x10), (.int .u8 x11), (.int .u8 x12), (.int .u8 x13)]] x15), (Blk.flat 3 1 [[(.int .i64 (wi (x18 + (remI .i64 (wi (x6)) (wi ((wi (x5)) + 1))))))], [(.int .i64 (wi (x18 + (remI .i64 (wi (x7)) (wi ((wi (x5)) + 1))))))]] false), (Blk.flat 3 1 [[(.int .i64 (wi ((wi (remI .u8 x9 16)) + 1)))], [(.int .i64 (wi ((wi (remI .u8 x10 16)) + 1)))]] false), (Blk.flat 3 1 [[(.int .i64 (wi (x18 + (remI .i64 (wi (x6)) (wi ((wi (x5)) + 1))))))], [(.int .i64 (wi (x18 + (remI .i64 (wi (x7)) (wi ((wi (x5)) + 1))))))], [(.int .i64 (wi (x4)))]] false), (Blk.flat 3 1 [[(.int .i64 (wi (x4)))]] false)]) (x := (V.so false 2 2)) (id := 2) (n := 2) (off := 0) (len := 2) (s := 1) (v := (V.d (.rs false 1 [] false))) (by kernel_rfl) (some (.i64, (remI .i64 (wi (x13)) 3))) none 2 (tbE h8) (by kernel_rfl) (by kernel_rfl) (by kernel_rfl) (by kernel_rfl)), .m 84 (o_slice_sl1 (m := [(Blk.flat 65 3 [[(.int .i64 x0), (.int .i64 x1), (.int .i64 x2)]] x14), (Blk.flat 80 11 [[(.int .i32 x3), (.int .i32 x4), (.int .u16 x5), (.int .u16 x6), (.int .u16 x7), (.int .u16 x8), (.int .u8 x9), (.int .u8 x10), (.int .u8 x11), (.int .u8 x12), (.int .u8 x13)]] x15), (Blk.flat 3 1 [[(.int .i64 (wi (x18 + (remI .i64 (wi (x6)) (wi ((wi (x5)) + 1))))))], [(.int .i64 (wi (x18 + (remI .i64 (wi (x7)) (wi ((wi (x5)) + 1))))))]] false), (Blk.flat 3 1 [[(.int .i64 (wi ((wi (remI .u8 x9 16)) + 1)))], [(.int .i64 (wi ((wi (remI .u8 x10 16)) + 1)))]] false), (Blk.flat 3 1 [[(.int .i64 (wi (x18 + (remI .i64 (wi (x6)) (wi ((wi (x5)) + 1))))))], [(.int .i64 (wi (x18 + (remI .i64 (wi (x7)) (wi ((wi (x5)) + 1))))))], [(.int .i64 (wi (x4)))]] false), (Blk.flat 3 1 [[(.int .i64 (wi (x4)))]] false), (Blk.flat 3 1 [] false)]) (x := (V.so false 3 2)) (id := 3) (n := 2) (off := 0) (len := 2) (s := 1) (by kernel_rfl) none (some (.i64, (remI .i64 (wi (x13)) 3))) 0 2 (by kernel_rfl) (tbE h8) (by kernel_rfl) (by kernel_rfl)), .m 96 (o_slice_sl0 (m := [(Blk.flat 65 3 [[(.int .i64 x0), (.int .i64 x1), (.int .i64 x2)]] x14), (Blk.flat 80 11 [[(.int .i32 x3), (.int .i32 x4), (.int .u16 x5), (.int .u16 x6), (.int .u16 x7), (.int .u16 x8), (.int .u8 x9), (.int .u8 x10), (.int .u8 x11), (.int .u8 x12), (.int .u8 x13)]] x15), (Blk.flat 3 1 [[(.int .i64 (wi (x18 + (remI .i64 (wi (x6)) (wi ((wi (x5)) + 1))))))], [(.int .i64 (wi (x18 + (remI .i64 (wi (x7)) (wi ((wi (x5)) + 1))))))]] false), (Blk.flat 3 1 [[(.int .i64 (wi ((wi (remI .u8 x9 16)) + 1)))], [(.int .i64 (wi ((wi (remI .u8 x10 16)) + 1)))]] false), (Blk.flat 3 1 [[(.int .i64 (wi (x18 + (remI .i64 (wi (x6)) (wi ((wi (x5)) + 1))))))], [(.int .i64 (wi (x18 + (remI .i64 (wi (x7)) (wi ((wi (x5)) + 1))))))], [(.int .i64 (wi (x4)))]] false), (Blk.flat 3 1 [[(.int .i64 (wi (x4)))]] false), (Blk.flat 3 1 [[(.int .i64 (wi ((wi (remI .u8 x9 16)) + 1)))], [(.int .i64 (wi ((wi (remI .u8 x10 16)) + 1)))], [(.int .i64 (wi ((wi (remI .u8 x12 16)) + 1)))]] false), (Blk.flat 3 1 [[(.int .i64 (wi ((wi (remI .u8 x12 16)) + 1)))]] false)]) (x := (V.so false 3 2)) (id := 3) (n := 2) (off := 0) (len := 2) (s := 1) (v := (V.d (.rs false 1 [] false))) (by kernel_rfl) (some (.i64, (remI .i64 (wi (x13)) 3))) none 2 (tbE h8) (by kernel_rfl) (by kernel_rfl) (by kernel_rfl) (by kernel_rfl)), .c (vote_Vote_ai3oo_t0 x0 x1 x2 false (law12_VoteBounded_S1_e12 x4 x5 x6 x7 x18) false (law12_VoteBounded_S1_e13 x9 x10 x12) (tbE h9))] (by kernel_rfl)
              · cases h8 : tb (vote_Vote_ai3oo_c0 x0 x1 x2 (law12_VoteBounded_S1_e10 x4 x5 x6 x7 x18) (law12_VoteBounded_S1_e11 x9 x10 x12))
                · intro g0 g1
                  exact absurd g1 ft
                · intro g0 g1
                  exact seg_walk [.l (law12_VoteBounded_L0_1_f2_0 x0 x1 x2 x3 x4 x5 x6 x7 x8 x9 x10 x11 x12 x13 x14 x15 false false x18 x19 true true (.h0 ⟨⟩ : law12_VoteBounded_L0_1_S) (tbE h1) (tbE h2) (tbE h3) (tbE h4) (tbE h5)), .m 72 (o_slice_sl1 (m := [(Blk.flat 65 3 [[(.int .i64 x0), (.int .i64 x1), (.int .i64 x2)]] x14), (Blk.flat 80 11 [[(.int .i32 x3), (.int .i32 x4), (.int .u16 x5), (.int .u16 x6), (.int .u16 x7), (.int .u16 x8), (.int .u8 x9), (.int .u8 x10), (.int .u8 x11), (.int .u8 x12), (.int .u8 x13)]] x15), (Blk.flat 3 1 [[(.int .i64 (wi (x18 + (remI .i64 (wi (x6)) (wi ((wi (x5)) + 1))))))], [(.int .i64 (wi (x18 + (remI .i64 (wi (x7)) (wi ((wi (x5)) + 1))))))]] false), (Blk.flat 3 1 [[(.int .i64 (wi ((wi (remI .u8 x9 16)) + 1)))], [(.int .i64 (wi ((wi (remI .u8 x10 16)) + 1)))]] false), (Blk.flat 3 1 [] false)]) (x := (V.so false 2 2)) (id := 2) (n := 2) (off := 0) (len := 2) (s := 1) (by kernel_rfl) none (some (.i64, (remI .i64 (wi (x13)) 3))) 0 1 (by kernel_rfl) (tbE h7) (by kernel_rfl) (by kernel_rfl)), .m 79 (o_slice_sl1 (m := [(Blk.flat 65 3 [[(.int .i64 x0), (.int .i64 x1), (.int .i64 x2)]] x14), (Blk.flat 80 11 [[(.int .i32 x3), (.int .i32 x4), (.int .u16 x5), (.int .u16 x6), (.int .u16 x7), (.int .u16 x8), (.int .u8 x9), (.int .u8 x10), (.int .u8 x11), (.int .u8 x12), (.int .u8 x13)]] x15), (Blk.flat 3 1 [[(.int .i64 (wi (x18 + (remI .i64 (wi (x6)) (wi ((wi (x5)) + 1))))))], [(.int .i64 (wi (x18 + (remI .i64 (wi (x7)) (wi ((wi (x5)) + 1))))))]] false), (Blk.flat 3 1 [[(.int .i64 (wi ((wi (remI .u8 x9 16)) + 1)))], [(.int .i64 (wi ((wi (remI .u8 x10 16)) + 1)))]] false), (Blk.flat 3 1 [[(.int .i64 (wi (x18 + (remI .i64 (wi (x6)) (wi ((wi (x5)) + 1))))))], [(.int .i64 (wi (x4)))]] false), (Blk.flat 3 1 [[(.int .i64 (wi (x4)))]] false)]) (x := (V.so false 2 2)) (id := 2) (n := 2) (off := 0) (len := 2) (s := 1) (by kernel_rfl) (some (.i64, (remI .i64 (wi (x13)) 3))) none 1 2 (tbE h7) (by kernel_rfl) (by kernel_rfl) (by kernel_rfl)), .m 84 (o_slice_sl1 (m := [(Blk.flat 65 3 [[(.int .i64 x0), (.int .i64 x1), (.int .i64 x2)]] x14), (Blk.flat 80 11 [[(.int .i32 x3), (.int .i32 x4), (.int .u16 x5), (.int .u16 x6), (.int .u16 x7), (.int .u16 x8), (.int .u8 x9), (.int .u8 x10), (.int .u8 x11), (.int .u8 x12), (.int .u8 x13)]] x15), (Blk.flat 3 1 [[(.int .i64 (wi (x18 + (remI .i64 (wi (x6)) (wi ((wi (x5)) + 1))))))], [(.int .i64 (wi (x18 + (remI .i64 (wi (x7)) (wi ((wi (x5)) + 1))))))]] false), (Blk.flat 3 1 [[(.int .i64 (wi ((wi (remI .u8 x9 16)) + 1)))], [(.int .i64 (wi ((wi (remI .u8 x10 16)) + 1)))]] false), (Blk.flat 3 1 [[(.int .i64 (wi (x18 + (remI .i64 (wi (x6)) (wi ((wi (x5)) + 1))))))], [(.int .i64 (wi (x4)))], [(.int .i64 (wi (x18 + (remI .i64 (wi (x7)) (wi ((wi (x5)) + 1))))))]] false), (Blk.flat 3 1 [[(.int .i64 (wi (x4)))]] false), (Blk.flat 3 1 [] false)]) (x := (V.so false 3 2)) (id := 3) (n := 2) (off := 0) (len := 2) (s := 1) (by kernel_rfl) none (some (.i64, (remI .i64 (wi (x13)) 3))) 0 1 (by kernel_rfl) (tbE h7) (by kernel_rfl) (by kernel_rfl)), .m 96 (o_slice_sl1 (m := [(Blk.flat 65 3 [[(.int .i64 x0), (.int .i64 x1), (.int .i64 x2)]] x14), (Blk.flat 80 11 [[(.int .i32 x3), (.int .i32 x4), (.int .u16 x5), (.int .u16 x6), (.int .u16 x7), (.int .u16 x8), (.int .u8 x9), (.int .u8 x10), (.int .u8 x11), (.int .u8 x12), (.int .u8 x13)]] x15), (Blk.flat 3 1 [[(.int .i64 (wi (x18 + (remI .i64 (wi (x6)) (wi ((wi (x5)) + 1))))))], [(.int .i64 (wi (x18 + (remI .i64 (wi (x7)) (wi ((wi (x5)) + 1))))))]] false), (Blk.flat 3 1 [[(.int .i64 (wi ((wi (remI .u8 x9 16)) + 1)))], [(.int .i64 (wi ((wi (remI .u8 x10 16)) + 1)))]] false), (Blk.flat 3 1 [[(.int .i64 (wi (x18 + (remI .i64 (wi (x6)) (wi ((wi (x5)) + 1))))))], [(.int .i64 (wi (x4)))], [(.int .i64 (wi (x18 + (remI .i64 (wi (x7)) (wi ((wi (x5)) + 1))))))]] false), (Blk.flat 3 1 [[(.int .i64 (wi (x4)))]] false), (Blk.flat 3 1 [[(.int .i64 (wi ((wi (remI .u8 x9 16)) + 1)))], [(.int .i64 (wi ((wi (remI .u8 x12 16)) + 1)))]] false), (Blk.flat 3 1 [[(.int .i64 (wi ((wi (remI .u8 x12 16)) + 1)))]] false)]) (x := (V.so false 3 2)) (id := 3) (n := 2) (off := 0) (len := 2) (s := 1) (by kernel_rfl) (some (.i64, (remI .i64 (wi (x13)) 3))) none 1 2 (tbE h7) (by kernel_rfl) (by kernel_rfl) (by kernel_rfl)), .c (vote_Vote_ai3oo_t0 x0 x1 x2 false (law12_VoteBounded_S1_e10 x4 x5 x6 x7 x18) false (law12_VoteBounded_S1_e11 x9 x10 x12) (tbE h8))] (by kernel_rfl)
            · cases h7 : tb (vote_Vote_ai3oo_c0 x0 x1 x2 (law12_VoteBounded_S1_e8 x4 x5 x6 x7 x18) (law12_VoteBounded_S1_e9 x9 x10 x12))
              · intro g0 g1
                exact absurd g1 ft
              · intro g0 g1
                exact seg_walk [.l (law12_VoteBounded_L0_1_f2_0 x0 x1 x2 x3 x4 x5 x6 x7 x8 x9 x10 x11 x12 x13 x14 x15 false false x18 x19 true true (.h0 ⟨⟩ : law12_VoteBounded_L0_1_S) (tbE h1) (tbE h2) (tbE h3) (tbE h4) (tbE h5)), .m 72 (o_slice_sl0 (m := [(Blk.flat 65 3 [[(.int .i64 x0), (.int .i64 x1), (.int .i64 x2)]] x14), (Blk.flat 80 11 [[(.int .i32 x3), (.int .i32 x4), (.int .u16 x5), (.int .u16 x6), (.int .u16 x7), (.int .u16 x8), (.int .u8 x9), (.int .u8 x10), (.int .u8 x11), (.int .u8 x12), (.int .u8 x13)]] x15), (Blk.flat 3 1 [[(.int .i64 (wi (x18 + (remI .i64 (wi (x6)) (wi ((wi (x5)) + 1))))))], [(.int .i64 (wi (x18 + (remI .i64 (wi (x7)) (wi ((wi (x5)) + 1))))))]] false), (Blk.flat 3 1 [[(.int .i64 (wi ((wi (remI .u8 x9 16)) + 1)))], [(.int .i64 (wi ((wi (remI .u8 x10 16)) + 1)))]] false), (Blk.flat 3 1 [] false)]) (x := (V.so false 2 2)) (id := 2) (n := 2) (off := 0) (len := 2) (s := 1) (v := (V.d (.rs false 1 [] false))) (by kernel_rfl) none (some (.i64, (remI .i64 (wi (x13)) 3))) 0 (by kernel_rfl) (tbE h6) (by kernel_rfl) (by kernel_rfl) (by kernel_rfl)), .m 79 (o_slice_sl1 (m := [(Blk.flat 65 3 [[(.int .i64 x0), (.int .i64 x1), (.int .i64 x2)]] x14), (Blk.flat 80 11 [[(.int .i32 x3), (.int .i32 x4), (.int .u16 x5), (.int .u16 x6), (.int .u16 x7), (.int .u16 x8), (.int .u8 x9), (.int .u8 x10), (.int .u8 x11), (.int .u8 x12), (.int .u8 x13)]] x15), (Blk.flat 3 1 [[(.int .i64 (wi (x18 + (remI .i64 (wi (x6)) (wi ((wi (x5)) + 1))))))], [(.int .i64 (wi (x18 + (remI .i64 (wi (x7)) (wi ((wi (x5)) + 1))))))]] false), (Blk.flat 3 1 [[(.int .i64 (wi ((wi (remI .u8 x9 16)) + 1)))], [(.int .i64 (wi ((wi (remI .u8 x10 16)) + 1)))]] false), (Blk.flat 3 1 [[(.int .i64 (wi (x4)))]] false), (Blk.flat 3 1 [[(.int .i64 (wi (x4)))]] false)]) (x := (V.so false 2 2)) (id := 2) (n := 2) (off := 0) (len := 2) (s := 1) (by kernel_rfl) (some (.i64, (remI .i64 (wi (x13)) 3))) none 0 2 (tbE h6) (by kernel_rfl) (by kernel_rfl) (by kernel_rfl)), .m 84 (o_slice_sl0 (m := [(Blk.flat 65 3 [[(.int .i64 x0), (.int .i64 x1), (.int .i64 x2)]] x14), (Blk.flat 80 11 [[(.int .i32 x3), (.int .i32 x4), (.int .u16 x5), (.int .u16 x6), (.int .u16 x7), (.int .u16 x8), (.int .u8 x9), (.int .u8 x10), (.int .u8 x11), (.int .u8 x12), (.int .u8 x13)]] x15), (Blk.flat 3 1 [[(.int .i64 (wi (x18 + (remI .i64 (wi (x6)) (wi ((wi (x5)) + 1))))))], [(.int .i64 (wi (x18 + (remI .i64 (wi (x7)) (wi ((wi (x5)) + 1))))))]] false), (Blk.flat 3 1 [[(.int .i64 (wi ((wi (remI .u8 x9 16)) + 1)))], [(.int .i64 (wi ((wi (remI .u8 x10 16)) + 1)))]] false), (Blk.flat 3 1 [[(.int .i64 (wi (x4)))], [(.int .i64 (wi (x18 + (remI .i64 (wi (x6)) (wi ((wi (x5)) + 1))))))], [(.int .i64 (wi (x18 + (remI .i64 (wi (x7)) (wi ((wi (x5)) + 1))))))]] false), (Blk.flat 3 1 [[(.int .i64 (wi (x4)))]] false), (Blk.flat 3 1 [] false)]) (x := (V.so false 3 2)) (id := 3) (n := 2) (off := 0) (len := 2) (s := 1) (v := (V.d (.rs false 1 [] false))) (by kernel_rfl) none (some (.i64, (remI .i64 (wi (x13)) 3))) 0 (by kernel_rfl) (tbE h6) (by kernel_rfl) (by kernel_rfl) (by kernel_rfl)), .m 96 (o_slice_sl1 (m := [(Blk.flat 65 3 [[(.int .i64 x0), (.int .i64 x1), (.int .i64 x2)]] x14), (Blk.flat 80 11 [[(.int .i32 x3), (.int .i32 x4), (.int .u16 x5), (.int .u16 x6), (.int .u16 x7), (.int .u16 x8), (.int .u8 x9), (.int .u8 x10), (.int .u8 x11), (.int .u8 x12), (.int .u8 x13)]] x15), (Blk.flat 3 1 [[(.int .i64 (wi (x18 + (remI .i64 (wi (x6)) (wi ((wi (x5)) + 1))))))], [(.int .i64 (wi (x18 + (remI .i64 (wi (x7)) (wi ((wi (x5)) + 1))))))]] false), (Blk.flat 3 1 [[(.int .i64 (wi ((wi (remI .u8 x9 16)) + 1)))], [(.int .i64 (wi ((wi (remI .u8 x10 16)) + 1)))]] false), (Blk.flat 3 1 [[(.int .i64 (wi (x4)))], [(.int .i64 (wi (x18 + (remI .i64 (wi (x6)) (wi ((wi (x5)) + 1))))))], [(.int .i64 (wi (x18 + (remI .i64 (wi (x7)) (wi ((wi (x5)) + 1))))))]] false), (Blk.flat 3 1 [[(.int .i64 (wi (x4)))]] false), (Blk.flat 3 1 [[(.int .i64 (wi ((wi (remI .u8 x12 16)) + 1)))]] false), (Blk.flat 3 1 [[(.int .i64 (wi ((wi (remI .u8 x12 16)) + 1)))]] false)]) (x := (V.so false 3 2)) (id := 3) (n := 2) (off := 0) (len := 2) (s := 1) (by kernel_rfl) (some (.i64, (remI .i64 (wi (x13)) 3))) none 0 2 (tbE h6) (by kernel_rfl) (by kernel_rfl) (by kernel_rfl)), .c (vote_Vote_ai3oo_t0 x0 x1 x2 false (law12_VoteBounded_S1_e8 x4 x5 x6 x7 x18) false (law12_VoteBounded_S1_e9 x9 x10 x12) (tbE h7))] (by kernel_rfl)
      · cases h4 : tb (law12_VoteBounded_L0_1_h1_c0 x13)
        · intro g0 g1
          exact absurd g1 ft
        · cases h5 : tb (((remI .i64 (wi (x13)) 2) : Int) == 0)
          · cases h6 : tb (((remI .i64 (wi (x13)) 2) : Int) == 1)
            · intro g0 g1
              exact absurd g1 ft
            · cases h7 : tb (vote_Vote_ai3oo_c0 x0 x1 x2 (law12_VoteBounded_S1_e5 x4 x5 x6 x18) (law12_VoteBounded_S1_e6 x9 x12))
              · intro g0 g1
                exact absurd g1 ft
              · intro g0 g1
                exact absurd g0 tf
          · cases h6 : tb (vote_Vote_ai3oo_c0 x0 x1 x2 (law12_VoteBounded_S1_e3 x4 x5 x6 x18) (law12_VoteBounded_S1_e4 x9 x12))
            · intro g0 g1
              exact absurd g1 ft
            · intro g0 g1
              exact absurd g0 tf
    · cases h3 : tb (law12_VoteBounded_L0_1_h0_c0 x13)
      · intro g0 g1
        exact absurd g1 ft
      · intro g0 g1
        exact absurd g1 ft
theorem law12_VoteBounded_S1_t2 (x0 : Int) (x1 : Int) (x2 : Int) (x3 : Int) (x4 : Int) (x5 : Int) (x6 : Int) (x7 : Int) (x8 : Int) (x9 : Int) (x10 : Int) (x11 : Int) (x12 : Int) (x13 : Int) (x14 : Bool) (x15 : Bool) (x18 : Int) (x19 : Int) : law12_VoteBounded_S1_c0 x0 x1 x2 x4 x5 x6 x9 x12 x13 x18 = false → law12_VoteBounded_S1_c1 x0 x1 x2 x4 x5 x6 x7 x9 x10 x12 x13 x18 = false → law12_VoteBounded_S1_c2 x0 x1 x2 x4 x5 x6 x7 x8 x9 x10 x11 x12 x13 x18 = true → segG (runC E0 (cl E0) S12_1) [2, 3, 5, 6, 7, 8] [] [2, 5, 6, 14, 15] 4 ([(V.ptr 0 1 0 0), (V.ptr 1 1 0 0), (V.d (.int .i64 x18)), (V.d (.int .i64 x19)), (V.so true 2 0), (V.so true 3 0)], [(Blk.flat 65 3 [[(.int .i64 x0), (.int .i64 x1), (.int .i64 x2)]] x14), (Blk.flat 80 11 [[(.int .i32 x3), (.int .i32 x4), (.int .u16 x5), (.int .u16 x6), (.int .u16 x7), (.int .u16 x8), (.int .u8 x9), (.int .u8 x10), (.int .u8 x11), (.int .u8 x12), (.int .u8 x13)]] x15), (Blk.flat 3 1 [] false), (Blk.flat 3 1 [] false)]) = some (.normal, ([(V.ptr 0 1 0 0), (V.d (.int .i64 x18)), (V.d (.int .i64 x19)), (V.d (.int .i64 (law12_VoteBounded_S1_r2_2 x0 x1 x2 x4 x5 x6 x7 x8 x9 x10 x11 x12 x13 x18))), (V.d (.bool (law12_VoteBounded_S1_r2_3 x0 x1 x2 x4 x5 x6 x7 x8 x9 x10 x11 x12 x13 x18)))], [(Blk.flat 65 3 [[(.int .i64 x0), (.int .i64 x1), (.int .i64 x2)]] x14), (Blk.flat 80 11 [[(.int .i32 x3), (.int .i32 x4), (.int .u16 x5), (.int .u16 x6), (.int .u16 x7), (.int .u16 x8), (.int .u8 x9), (.int .u8 x10), (.int .u8 x11), (.int .u8 x12), (.int .u8 x13)]] x15), (Blk.flat 3 1 [[(.int .i64 (wi (x18 + (remI .i64 (wi (x6)) (wi ((wi (x5)) + 1))))))], [(.int .i64 (wi (x18 + (remI .i64 (wi (x7)) (wi ((wi (x5)) + 1))))))], [(.int .i64 (wi (x18 + (remI .i64 (wi (x8)) (wi ((wi (x5)) + 1))))))]] false), (Blk.flat 3 1 [[(.int .i64 (wi ((wi (remI .u8 x9 16)) + 1)))], [(.int .i64 (wi ((wi (remI .u8 x10 16)) + 1)))], [(.int .i64 (wi ((wi (remI .u8 x11 16)) + 1)))]] false)])) := by
  unfold law12_VoteBounded_S1_c0 law12_VoteBounded_S1_c1 law12_VoteBounded_S1_c2 law12_VoteBounded_S1_r2_2 law12_VoteBounded_S1_r2_3
  cases h1 : tb (law12_VoteBounded_L0_1_ok x5 x13 (.h0 ⟨⟩ : law12_VoteBounded_L0_1_S))
  · intro g0 g1 g2
    exact absurd g2 ft
  · cases h2 : tb (law12_VoteBounded_L0_1_is0 (law12_VoteBounded_S1_e0 x5 x13))
    · cases h3 : tb (law12_VoteBounded_L0_1_is1 (law12_VoteBounded_S1_e0 x5 x13))
      · cases h4 : tb (law12_VoteBounded_L0_1_is2 (law12_VoteBounded_S1_e0 x5 x13))
        · cases h5 : tb (law12_VoteBounded_L0_1_h3_c0 x13)
          · intro g0 g1 g2
            exact absurd g2 ft
          · cases h6 : tb (((remI .i64 (wi (x13)) 4) : Int) == 0)
            · cases h7 : tb (((remI .i64 (wi (x13)) 4) : Int) == 1)
              · cases h8 : tb (((remI .i64 (wi (x13)) 4) : Int) == 2)
                · cases h9 : tb (((remI .i64 (wi (x13)) 4) : Int) == 3)
                  · intro g0 g1 g2
                    exact absurd g2 ft
                  · cases h10 : tb (vote_Vote_ai3oo_c0 x0 x1 x2 (law12_VoteBounded_S1_e21 x4 x5 x6 x7 x8 x18) (law12_VoteBounded_S1_e22 x9 x10 x11 x12))
                    · intro g0 g1 g2
                      exact absurd g2 ft
                    · intro g0 g1 g2
                      exact seg_walk [.l (law12_VoteBounded_L0_1_f3_0 x0 x1 x2 x3 x4 x5 x6 x7 x8 x9 x10 x11 x12 x13 x14 x15 false false x18 x19 true true (.h0 ⟨⟩ : law12_VoteBounded_L0_1_S) (tbE h1) (tbE h2) (tbE h3) (tbE h4) (tbE h5)), .m 72 (o_slice_sl1 (m := [(Blk.flat 65 3 [[(.int .i64 x0), (.int .i64 x1), (.int .i64 x2)]] x14), (Blk.flat 80 11 [[(.int .i32 x3), (.int .i32 x4), (.int .u16 x5), (.int .u16 x6), (.int .u16 x7), (.int .u16 x8), (.int .u8 x9), (.int .u8 x10), (.int .u8 x11), (.int .u8 x12), (.int .u8 x13)]] x15), (Blk.flat 3 1 [[(.int .i64 (wi (x18 + (remI .i64 (wi (x6)) (wi ((wi (x5)) + 1))))))], [(.int .i64 (wi (x18 + (remI .i64 (wi (x7)) (wi ((wi (x5)) + 1))))))], [(.int .i64 (wi (x18 + (remI .i64 (wi (x8)) (wi ((wi (x5)) + 1))))))]] false), (Blk.flat 3 1 [[(.int .i64 (wi ((wi (remI .u8 x9 16)) + 1)))], [(.int .i64 (wi ((wi (remI .u8 x10 16)) + 1)))], [(.int .i64 (wi ((wi (remI .u8 x11 16)) + 1)))]] false), (Blk.flat 3 1 [] false)]) (x := (V.so false 2 3)) (id := 2) (n := 3) (off := 0) (len := 3) (s := 1) (by kernel_rfl) none (some (.i64, (remI .i64 (wi (x13)) 4))) 0 3 (by kernel_rfl) (tbE h9) (by kernel_rfl) (by kernel_rfl)), .m 79 (o_slice_sl0 (m := [(Blk.flat 65 3 [[(.int .i64 x0), (.int .i64 x1), (.int .i64 x2)]] x14), (Blk.flat 80 11 [[(.int .i32 x3), (.int .i32 x4), (.int .u16 x5), (.int .u16 x6), (.int .u16 x7), (.int .u16 x8), (.int .u8 x9), (.int .u8 x10), (.int .u8 x11), (.int .u8 x12), (.int .u8 x13)]] x15), (Blk.flat 3 1 [[(.int .i64 (wi (x18 + (remI .i64 (wi (x6)) (wi ((wi (x5)) + 1))))))], [(.int .i64 (wi (x18 + (remI .i64 (wi (x7)) (wi ((wi (x5)) + 1))))))], [(.int .i64 (wi (x18 + (remI .i64 (wi (x8)) (wi ((wi (x5)) + 1))))))]] false), (Blk.flat 3 1 [[(.int .i64 (wi ((wi (remI .u8 x9 16)) + 1)))], [(.int .i64 (wi ((wi (remI .u8 x10 16)) + 1)))], [(.int .i64 (wi ((wi (remI .u8 x11 16)) + 1)))]] false), (Blk.flat 3 1 [[(.int .i64 (wi (x18 + (remI .i64 (wi (x6)) (wi ((wi (x5)) + 1))))))], [(.int .i64 (wi (x18 + (remI .i64 (wi (x7)) (wi ((wi (x5)) + 1))))))], [(.int .i64 (wi (x18 + (remI .i64 (wi (x8)) (wi ((wi (x5)) + 1))))))], [(.int .i64 (wi (x4)))]] false), (Blk.flat 3 1 [[(.int .i64 (wi (x4)))]] false)]) (x := (V.so false 2 3)) (id := 2) (n := 3) (off := 0) (len := 3) (s := 1) (v := (V.d (.rs false 1 [] false))) (by kernel_rfl) (some (.i64, (remI .i64 (wi (x13)) 4))) none 3 (tbE h9) (by kernel_rfl) (by kernel_rfl) (by kernel_rfl) (by kernel_rfl)), .m 84 (o_slice_sl1 (m := [(Blk.flat 65 3 [[(.int .i64 x0), (.int .i64 x1), (.int .i64 x2)]] x14), (Blk.flat 80 11 [[(.int .i32 x3), (.int .i32 x4), (.int .u16 x5), (.int .u16 x6), (.int .u16 x7), (.int .u16 x8), (.int .u8 x9), (.int .u8 x10), (.int .u8 x11), (.int .u8 x12), (.int .u8 x13)]] x15), (Blk.flat 3 1 [[(.int .i64 (wi (x18 + (remI .i64 (wi (x6)) (wi ((wi (x5)) + 1))))))], [(.int .i64 (wi (x18 + (remI .i64 (wi (x7)) (wi ((wi (x5)) + 1))))))], [(.int .i64 (wi (x18 + (remI .i64 (wi (x8)) (wi ((wi (x5)) + 1))))))]] false), (Blk.flat 3 1 [[(.int .i64 (wi ((wi (remI .u8 x9 16)) + 1)))], [(.int .i64 (wi ((wi (remI .u8 x10 16)) + 1)))], [(.int .i64 (wi ((wi (remI .u8 x11 16)) + 1)))]] false), (Blk.flat 3 1 [[(.int .i64 (wi (x18 + (remI .i64 (wi (x6)) (wi ((wi (x5)) + 1))))))], [(.int .i64 (wi (x18 + (remI .i64 (wi (x7)) (wi ((wi (x5)) + 1))))))], [(.int .i64 (wi (x18 + (remI .i64 (wi (x8)) (wi ((wi (x5)) + 1))))))], [(.int .i64 (wi (x4)))]] false), (Blk.flat 3 1 [[(.int .i64 (wi (x4)))]] false), (Blk.flat 3 1 [] false)]) (x := (V.so false 3 3)) (id := 3) (n := 3) (off := 0) (len := 3) (s := 1) (by kernel_rfl) none (some (.i64, (remI .i64 (wi (x13)) 4))) 0 3 (by kernel_rfl) (tbE h9) (by kernel_rfl) (by kernel_rfl)), .m 96 (o_slice_sl0 (m := [(Blk.flat 65 3 [[(.int .i64 x0), (.int .i64 x1), (.int .i64 x2)]] x14), (Blk.flat 80 11 [[(.int .i32 x3), (.int .i32 x4), (.int .u16 x5), (.int .u16 x6), (.int .u16 x7), (.int .u16 x8), (.int .u8 x9), (.int .u8 x10), (.int .u8 x11), (.int .u8 x12), (.int .u8 x13)]] x15), (Blk.flat 3 1 [[(.int .i64 (wi (x18 + (remI .i64 (wi (x6)) (wi ((wi (x5)) + 1))))))], [(.int .i64 (wi (x18 + (remI .i64 (wi (x7)) (wi ((wi (x5)) + 1))))))], [(.int .i64 (wi (x18 + (remI .i64 (wi (x8)) (wi ((wi (x5)) + 1))))))]] false), (Blk.flat 3 1 [[(.int .i64 (wi ((wi (remI .u8 x9 16)) + 1)))], [(.int .i64 (wi ((wi (remI .u8 x10 16)) + 1)))], [(.int .i64 (wi ((wi (remI .u8 x11 16)) + 1)))]] false), (Blk.flat 3 1 [[(.int .i64 (wi (x18 + (remI .i64 (wi (x6)) (wi ((wi (x5)) + 1))))))], [(.int .i64 (wi (x18 + (remI .i64 (wi (x7)) (wi ((wi (x5)) + 1))))))], [(.int .i64 (wi (x18 + (remI .i64 (wi (x8)) (wi ((wi (x5)) + 1))))))], [(.int .i64 (wi (x4)))]] false), (Blk.flat 3 1 [[(.int .i64 (wi (x4)))]] false), (Blk.flat 3 1 [[(.int .i64 (wi ((wi (remI .u8 x9 16)) + 1)))], [(.int .i64 (wi ((wi (remI .u8 x10 16)) + 1)))], [(.int .i64 (wi ((wi (remI .u8 x11 16)) + 1)))], [(.int .i64 (wi ((wi (remI .u8 x12 16)) + 1)))]] false), (Blk.flat 3 1 [[(.int .i64 (wi ((wi (remI .u8 x12 16)) + 1)))]] false)]) (x := (V.so false 3 3)) (id := 3) (n := 3) (off := 0) (len := 3) (s := 1) (v := (V.d (.rs false 1 [] false))) (by kernel_rfl) (some (.i64, (remI .i64 (wi (x13)) 4))) none 3 (tbE h9) (by kernel_rfl) (by kernel_rfl) (by kernel_rfl) (by kernel_rfl)), .c (vote_Vote_ai3oo_t0 x0 x1 x2 false (law12_VoteBounded_S1_e21 x4 x5 x6 x7 x8 x18) false (law12_VoteBounded_S1_e22 x9 x10 x11 x12) (tbE h10))] (by kernel_rfl)
                · cases h9 : tb (vote_Vote_ai3oo_c0 x0 x1 x2 (law12_VoteBounded_S1_e19 x4 x5 x6 x7 x8 x18) (law12_VoteBounded_S1_e20 x9 x10 x11 x12))
                  · intro g0 g1 g2
                    exact absurd g2 ft
                  · intro g0 g1 g2
                    exact seg_walk [.l (law12_VoteBounded_L0_1_f3_0 x0 x1 x2 x3 x4 x5 x6 x7 x8 x9 x10 x11 x12 x13 x14 x15 false false x18 x19 true true (.h0 ⟨⟩ : law12_VoteBounded_L0_1_S) (tbE h1) (tbE h2) (tbE h3) (tbE h4) (tbE h5)), .m 72 (o_slice_sl1 (m := [(Blk.flat 65 3 [[(.int .i64 x0), (.int .i64 x1), (.int .i64 x2)]] x14), (Blk.flat 80 11 [[(.int .i32 x3), (.int .i32 x4), (.int .u16 x5), (.int .u16 x6), (.int .u16 x7), (.int .u16 x8), (.int .u8 x9), (.int .u8 x10), (.int .u8 x11), (.int .u8 x12), (.int .u8 x13)]] x15), (Blk.flat 3 1 [[(.int .i64 (wi (x18 + (remI .i64 (wi (x6)) (wi ((wi (x5)) + 1))))))], [(.int .i64 (wi (x18 + (remI .i64 (wi (x7)) (wi ((wi (x5)) + 1))))))], [(.int .i64 (wi (x18 + (remI .i64 (wi (x8)) (wi ((wi (x5)) + 1))))))]] false), (Blk.flat 3 1 [[(.int .i64 (wi ((wi (remI .u8 x9 16)) + 1)))], [(.int .i64 (wi ((wi (remI .u8 x10 16)) + 1)))], [(.int .i64 (wi ((wi (remI .u8 x11 16)) + 1)))]] false), (Blk.flat 3 1 [] false)]) (x := (V.so false 2 3)) (id := 2) (n := 3) (off := 0) (len := 3) (s := 1) (by kernel_rfl) none (some (.i64, (remI .i64 (wi (x13)) 4))) 0 2 (by kernel_rfl) (tbE h8) (by kernel_rfl) (by kernel_rfl)), .m 79 (o_slice_sl1 (m := [(Blk.flat 65 3 [[(.int .i64 x0), (.int .i64 x1), (.int .i64 x2)]] x14), (Blk.flat 80 11 [[(.int .i32 x3), (.int .i32 x4), (.int .u16 x5), (.int .u16 x6), (.int .u16 x7), (.int .u16 x8), (.int .u8 x9), (.int .u8 x10), (.int .u8 x11), (.int .u8 x12), (.int .u8 x13)]] x15), (Blk.flat 3 1 [[(.int .i64 (wi (x18 + (remI .i64 (wi (x6)) (wi ((wi (x5)) + 1))))))], [(.int .i64 (wi (x18 + (remI .i64 (wi (x7)) (wi ((wi (x5)) + 1))))))], [(.int .i64 (wi (x18 + (remI .i64 (wi (x8)) (wi ((wi (x5)) + 1))))))]] false), (Blk.flat 3 1 [[(.int .i64 (wi ((wi (remI .u8 x9 16)) + 1)))], [(.int .i64 (wi ((wi (remI .u8 x10 16)) + 1)))], [(.int .i64 (wi ((wi (remI .u8 x11 16)) + 1)))]] false), (Blk.flat 3 1 [[(.int .i64 (wi (x18 + (remI .i64 (wi (x6)) (wi ((wi (x5)) + 1))))))], [(.int .i64 (wi (x18 + (remI .i64 (wi (x7)) (wi ((wi (x5)) + 1))))))], [(.int .i64 (wi (x4)))]] false), (Blk.flat 3 1 [[(.int .i64 (wi (x4)))]] false)]) (x := (V.so false 2 3)) (id := 2) (n := 3) (off := 0) (len := 3) (s := 1) (by kernel_rfl) (some (.i64, (remI .i64 (wi (x13)) 4))) none 2 3 (tbE h8) (by kernel_rfl) (by kernel_rfl) (by kernel_rfl)), .m 84 (o_slice_sl1 (m := [(Blk.flat 65 3 [[(.int .i64 x0), (.int .i64 x1), (.int .i64 x2)]] x14), (Blk.flat 80 11 [[(.int .i32 x3), (.int .i32 x4), (.int .u16 x5), (.int .u16 x6), (.int .u16 x7), (.int .u16 x8), (.int .u8 x9), (.int .u8 x10), (.int .u8 x11), (.int .u8 x12), (.int .u8 x13)]] x15), (Blk.flat 3 1 [[(.int .i64 (wi (x18 + (remI .i64 (wi (x6)) (wi ((wi (x5)) + 1))))))], [(.int .i64 (wi (x18 + (remI .i64 (wi (x7)) (wi ((wi (x5)) + 1))))))], [(.int .i64 (wi (x18 + (remI .i64 (wi (x8)) (wi ((wi (x5)) + 1))))))]] false), (Blk.flat 3 1 [[(.int .i64 (wi ((wi (remI .u8 x9 16)) + 1)))], [(.int .i64 (wi ((wi (remI .u8 x10 16)) + 1)))], [(.int .i64 (wi ((wi (remI .u8 x11 16)) + 1)))]] false), (Blk.flat 3 1 [[(.int .i64 (wi (x18 + (remI .i64 (wi (x6)) (wi ((wi (x5)) + 1))))))], [(.int .i64 (wi (x18 + (remI .i64 (wi (x7)) (wi ((wi (x5)) + 1))))))], [(.int .i64 (wi (x4)))], [(.int .i64 (wi (x18 + (remI .i64 (wi (x8)) (wi ((wi (x5)) + 1))))))]] false), (Blk.flat 3 1 [[(.int .i64 (wi (x4)))]] false), (Blk.flat 3 1 [] false)]) (x := (V.so false 3 3)) (id := 3) (n := 3) (off := 0) (len := 3) (s := 1) (by kernel_rfl) none (some (.i64, (remI .i64 (wi (x13)) 4))) 0 2 (by kernel_rfl) (tbE h8) (by kernel_rfl) (by kernel_rfl)), .m 96 (o_slice_sl1 (m := [(Blk.flat 65 3 [[(.int .i64 x0), (.int .i64 x1), (.int .i64 x2)]] x14), (Blk.flat 80 11 [[(.int .i32 x3), (.int .i32 x4), (.int .u16 x5), (.int .u16 x6), (.int .u16 x7), (.int .u16 x8), (.int .u8 x9), (.int .u8 x10), (.int .u8 x11), (.int .u8 x12), (.int .u8 x13)]] x15), (Blk.flat 3 1 [[(.int .i64 (wi (x18 + (remI .i64 (wi (x6)) (wi ((wi (x5)) + 1))))))], [(.int .i64 (wi (x18 + (remI .i64 (wi (x7)) (wi ((wi (x5)) + 1))))))], [(.int .i64 (wi (x18 + (remI .i64 (wi (x8)) (wi ((wi (x5)) + 1))))))]] false), (Blk.flat 3 1 [[(.int .i64 (wi ((wi (remI .u8 x9 16)) + 1)))], [(.int .i64 (wi ((wi (remI .u8 x10 16)) + 1)))], [(.int .i64 (wi ((wi (remI .u8 x11 16)) + 1)))]] false), (Blk.flat 3 1 [[(.int .i64 (wi (x18 + (remI .i64 (wi (x6)) (wi ((wi (x5)) + 1))))))], [(.int .i64 (wi (x18 + (remI .i64 (wi (x7)) (wi ((wi (x5)) + 1))))))], [(.int .i64 (wi (x4)))], [(.int .i64 (wi (x18 + (remI .i64 (wi (x8)) (wi ((wi (x5)) + 1))))))]] false), (Blk.flat 3 1 [[(.int .i64 (wi (x4)))]] false), (Blk.flat 3 1 [[(.int .i64 (wi ((wi (remI .u8 x9 16)) + 1)))], [(.int .i64 (wi ((wi (remI .u8 x10 16)) + 1)))], [(.int .i64 (wi ((wi (remI .u8 x12 16)) + 1)))]] false), (Blk.flat 3 1 [[(.int .i64 (wi ((wi (remI .u8 x12 16)) + 1)))]] false)]) (x := (V.so false 3 3)) (id := 3) (n := 3) (off := 0) (len := 3) (s := 1) (by kernel_rfl) (some (.i64, (remI .i64 (wi (x13)) 4))) none 2 3 (tbE h8) (by kernel_rfl) (by kernel_rfl) (by kernel_rfl)), .c (vote_Vote_ai3oo_t0 x0 x1 x2 false (law12_VoteBounded_S1_e19 x4 x5 x6 x7 x8 x18) false (law12_VoteBounded_S1_e20 x9 x10 x11 x12) (tbE h9))] (by kernel_rfl)
              · cases h8 : tb (vote_Vote_ai3oo_c0 x0 x1 x2 (law12_VoteBounded_S1_e17 x4 x5 x6 x7 x8 x18) (law12_VoteBounded_S1_e18 x9 x10 x11 x12))
                · intro g0 g1 g2
                  exact absurd g2 ft
                · intro g0 g1 g2
                  exact seg_walk [.l (law12_VoteBounded_L0_1_f3_0 x0 x1 x2 x3 x4 x5 x6 x7 x8 x9 x10 x11 x12 x13 x14 x15 false false x18 x19 true true (.h0 ⟨⟩ : law12_VoteBounded_L0_1_S) (tbE h1) (tbE h2) (tbE h3) (tbE h4) (tbE h5)), .m 72 (o_slice_sl1 (m := [(Blk.flat 65 3 [[(.int .i64 x0), (.int .i64 x1), (.int .i64 x2)]] x14), (Blk.flat 80 11 [[(.int .i32 x3), (.int .i32 x4), (.int .u16 x5), (.int .u16 x6), (.int .u16 x7), (.int .u16 x8), (.int .u8 x9), (.int .u8 x10), (.int .u8 x11), (.int .u8 x12), (.int .u8 x13)]] x15), (Blk.flat 3 1 [[(.int .i64 (wi (x18 + (remI .i64 (wi (x6)) (wi ((wi (x5)) + 1))))))], [(.int .i64 (wi (x18 + (remI .i64 (wi (x7)) (wi ((wi (x5)) + 1))))))], [(.int .i64 (wi (x18 + (remI .i64 (wi (x8)) (wi ((wi (x5)) + 1))))))]] false), (Blk.flat 3 1 [[(.int .i64 (wi ((wi (remI .u8 x9 16)) + 1)))], [(.int .i64 (wi ((wi (remI .u8 x10 16)) + 1)))], [(.int .i64 (wi ((wi (remI .u8 x11 16)) + 1)))]] false), (Blk.flat 3 1 [] false)]) (x := (V.so false 2 3)) (id := 2) (n := 3) (off := 0) (len := 3) (s := 1) (by kernel_rfl) none (some (.i64, (remI .i64 (wi (x13)) 4))) 0 1 (by kernel_rfl) (tbE h7) (by kernel_rfl) (by kernel_rfl)), .m 79 (o_slice_sl1 (m := [(Blk.flat 65 3 [[(.int .i64 x0), (.int .i64 x1), (.int .i64 x2)]] x14), (Blk.flat 80 11 [[(.int .i32 x3), (.int .i32 x4), (.int .u16 x5), (.int .u16 x6), (.int .u16 x7), (.int .u16 x8), (.int .u8 x9), (.int .u8 x10), (.int .u8 x11), (.int .u8 x12), (.int .u8 x13)]] x15), (Blk.flat 3 1 [[(.int .i64 (wi (x18 + (remI .i64 (wi (x6)) (wi ((wi (x5)) + 1))))))], [(.int .i64 (wi (x18 + (remI .i64 (wi (x7)) (wi ((wi (x5)) + 1))))))], [(.int .i64 (wi (x18 + (remI .i64 (wi (x8)) (wi ((wi (x5)) + 1))))))]] false), (Blk.flat 3 1 [[(.int .i64 (wi ((wi (remI .u8 x9 16)) + 1)))], [(.int .i64 (wi ((wi (remI .u8 x10 16)) + 1)))], [(.int .i64 (wi ((wi (remI .u8 x11 16)) + 1)))]] false), (Blk.flat 3 1 [[(.int .i64 (wi (x18 + (remI .i64 (wi (x6)) (wi ((wi (x5)) + 1))))))], [(.int .i64 (wi (x4)))]] false), (Blk.flat 3 1 [[(.int .i64 (wi (x4)))]] false)]) (x := (V.so false 2 3)) (id := 2) (n := 3) (off := 0) (len := 3) (s := 1) (by kernel_rfl) (some (.i64, (remI .i64 (wi (x13)) 4))) none 1 3 (tbE h7) (by kernel_rfl) (by kernel_rfl) (by kernel_rfl)), .m 84 (o_slice_sl1 (m := [(Blk.flat 65 3 [[(.int .i64 x0), (.int .i64 x1), (.int .i64 x2)]] x14), (Blk.flat 80 11 [[(.int .i32 x3), (.int .i32 x4), (.int .u16 x5), (.int .u16 x6), (.int .u16 x7), (.int .u16 x8), (.int .u8 x9), (.int .u8 x10), (.int .u8 x11), (.int .u8 x12), (.int .u8 x13)]] x15), (Blk.flat 3 1 [[(.int .i64 (wi (x18 + (remI .i64 (wi (x6)) (wi ((wi (x5)) + 1))))))], [(.int .i64 (wi (x18 + (remI .i64 (wi (x7)) (wi ((wi (x5)) + 1))))))], [(.int .i64 (wi (x18 + (remI .i64 (wi (x8)) (wi ((wi (x5)) + 1))))))]] false), (Blk.flat 3 1 [[(.int .i64 (wi ((wi (remI .u8 x9 16)) + 1)))], [(.int .i64 (wi ((wi (remI .u8 x10 16)) + 1)))], [(.int .i64 (wi ((wi (remI .u8 x11 16)) + 1)))]] false), (Blk.flat 3 1 [[(.int .i64 (wi (x18 + (remI .i64 (wi (x6)) (wi ((wi (x5)) + 1))))))], [(.int .i64 (wi (x4)))], [(.int .i64 (wi (x18 + (remI .i64 (wi (x7)) (wi ((wi (x5)) + 1))))))], [(.int .i64 (wi (x18 + (remI .i64 (wi (x8)) (wi ((wi (x5)) + 1))))))]] false), (Blk.flat 3 1 [[(.int .i64 (wi (x4)))]] false), (Blk.flat 3 1 [] false)]) (x := (V.so false 3 3)) (id := 3) (n := 3) (off := 0) (len := 3) (s := 1) (by kernel_rfl) none (some (.i64, (remI .i64 (wi (x13)) 4))) 0 1 (by kernel_rfl) (tbE h7) (by kernel_rfl) (by kernel_rfl)), .m 96 (o_slice_sl1 (m := [(Blk.flat 65 3 [[(.int .i64 x0), (.int .i64 x1), (.int .i64 x2)]] x14), (Blk.flat 80 11 [[(.int .i32 x3), (.int .i32 x4), (.int .u16 x5), (.int .u16 x6), (.int .u16 x7), (.int .u16 x8), (.int .u8 x9), (.int .u8 x10), (.int .u8 x11), (.int .u8 x12), (.int .u8 x13)]] x15), (Blk.flat 3 1 [[(.int .i64 (wi (x18 + (remI .i64 (wi (x6)) (wi ((wi (x5)) + 1))))))], [(.int .i64 (wi (x18 + (remI .i64 (wi (x7)) (wi ((wi (x5)) + 1))))))], [(.int .i64 (wi (x18 + (remI .i64 (wi (x8)) (wi ((wi (x5)) + 1))))))]] false), (Blk.flat 3 1 [[(.int .i64 (wi ((wi (remI .u8 x9 16)) + 1)))], [(.int .i64 (wi ((wi (remI .u8 x10 16)) + 1)))], [(.int .i64 (wi ((wi (remI .u8 x11 16)) + 1)))]] false), (Blk.flat 3 1 [[(.int .i64 (wi (x18 + (remI .i64 (wi (x6)) (wi ((wi (x5)) + 1))))))], [(.int .i64 (wi (x4)))], [(.int .i64 (wi (x18 + (remI .i64 (wi (x7)) (wi ((wi (x5)) + 1))))))], [(.int .i64 (wi (x18 + (remI .i64 (wi (x8)) (wi ((wi (x5)) + 1))))))]] false), (Blk.flat 3 1 [[(.int .i64 (wi (x4)))]] false), (Blk.flat 3 1 [[(.int .i64 (wi ((wi (remI .u8 x9 16)) + 1)))], [(.int .i64 (wi ((wi (remI .u8 x12 16)) + 1)))]] false), (Blk.flat 3 1 [[(.int .i64 (wi ((wi (remI .u8 x12 16)) + 1)))]] false)]) (x := (V.so false 3 3)) (id := 3) (n := 3) (off := 0) (len := 3) (s := 1) (by kernel_rfl) (some (.i64, (remI .i64 (wi (x13)) 4))) none 1 3 (tbE h7) (by kernel_rfl) (by kernel_rfl) (by kernel_rfl)), .c (vote_Vote_ai3oo_t0 x0 x1 x2 false (law12_VoteBounded_S1_e17 x4 x5 x6 x7 x8 x18) false (law12_VoteBounded_S1_e18 x9 x10 x11 x12) (tbE h8))] (by kernel_rfl)
            · cases h7 : tb (vote_Vote_ai3oo_c0 x0 x1 x2 (law12_VoteBounded_S1_e15 x4 x5 x6 x7 x8 x18) (law12_VoteBounded_S1_e16 x9 x10 x11 x12))
              · intro g0 g1 g2
                exact absurd g2 ft
              · intro g0 g1 g2
                exact seg_walk [.l (law12_VoteBounded_L0_1_f3_0 x0 x1 x2 x3 x4 x5 x6 x7 x8 x9 x10 x11 x12 x13 x14 x15 false false x18 x19 true true (.h0 ⟨⟩ : law12_VoteBounded_L0_1_S) (tbE h1) (tbE h2) (tbE h3) (tbE h4) (tbE h5)), .m 72 (o_slice_sl0 (m := [(Blk.flat 65 3 [[(.int .i64 x0), (.int .i64 x1), (.int .i64 x2)]] x14), (Blk.flat 80 11 [[(.int .i32 x3), (.int .i32 x4), (.int .u16 x5), (.int .u16 x6), (.int .u16 x7), (.int .u16 x8), (.int .u8 x9), (.int .u8 x10), (.int .u8 x11), (.int .u8 x12), (.int .u8 x13)]] x15), (Blk.flat 3 1 [[(.int .i64 (wi (x18 + (remI .i64 (wi (x6)) (wi ((wi (x5)) + 1))))))], [(.int .i64 (wi (x18 + (remI .i64 (wi (x7)) (wi ((wi (x5)) + 1))))))], [(.int .i64 (wi (x18 + (remI .i64 (wi (x8)) (wi ((wi (x5)) + 1))))))]] false), (Blk.flat 3 1 [[(.int .i64 (wi ((wi (remI .u8 x9 16)) + 1)))], [(.int .i64 (wi ((wi (remI .u8 x10 16)) + 1)))], [(.int .i64 (wi ((wi (remI .u8 x11 16)) + 1)))]] false), (Blk.flat 3 1 [] false)]) (x := (V.so false 2 3)) (id := 2) (n := 3) (off := 0) (len := 3) (s := 1) (v := (V.d (.rs false 1 [] false))) (by kernel_rfl) none (some (.i64, (remI .i64 (wi (x13)) 4))) 0 (by kernel_rfl) (tbE h6) (by kernel_rfl) (by kernel_rfl) (by kernel_rfl)), .m 79 (o_slice_sl1 (m := [(Blk.flat 65 3 [[(.int .i64 x0), (.int .i64 x1), (.int .i64 x2)]] x14), (Blk.flat 80 11 [[(.int .i32 x3), (.int .i32 x4), (.int .u16 x5), (.int .u16 x6), (.int .u16 x7), (.int .u16 x8), (.int .u8 x9), (.int .u8 x10), (.int .u8 x11), (.int .u8 x12), (.int .u8 x13)]] x15), (Blk.flat 3 1 [[(.int .i64 (wi (x18 + (remI .i64 (wi (x6)) (wi ((wi (x5)) + 1))))))], [(.int .i64 (wi (x18 + (remI .i64 (wi (x7)) (wi ((wi (x5)) + 1))))))], [(.int .i64 (wi (x18 + (remI .i64 (wi (x8)) (wi ((wi (x5)) + 1))))))]] false), (Blk.flat 3 1 [[(.int .i64 (wi ((wi (remI .u8 x9 16)) + 1)))], [(.int .i64 (wi ((wi (remI .u8 x10 16)) + 1)))], [(.int .i64 (wi ((wi (remI .u8 x11 16)) + 1)))]] false), (Blk.flat 3 1 [[(.int .i64 (wi (x4)))]] false), (Blk.flat 3 1 [[(.int .i64 (wi (x4)))]] false)]) (x := (V.so false 2 3)) (id := 2) (n := 3) (off := 0) (len := 3) (s := 1) (by kernel_rfl) (some (.i64, (remI .i64 (wi (x13)) 4))) none 0 3 (tbE h6) (by kernel_rfl) (by kernel_rfl) (by kernel_rfl)), .m 84 (o_slice_sl0 (m := [(Blk.flat 65 3 [[(.int .i64 x0), (.int .i64 x1), (.int .i64 x2)]] x14), (Blk.flat 80 11 [[(.int .i32 x3), (.int .i32 x4), (.int .u16 x5), (.int .u16 x6), (.int .u16 x7), (.int .u16 x8), (.int .u8 x9), (.int .u8 x10), (.int .u8 x11), (.int .u8 x12), (.int .u8 x13)]] x15), (Blk.flat 3 1 [[(.int .i64 (wi (x18 + (remI .i64 (wi (x6)) (wi ((wi (x5)) + 1))))))], [(.int .i64 (wi (x18 + (remI .i64 (wi (x7)) (wi ((wi (x5)) + 1))))))], [(.int .i64 (wi (x18 + (remI .i64 (wi (x8)) (wi ((wi (x5)) + 1))))))]] false), (Blk.flat 3 1 [[(.int .i64 (wi ((wi (remI .u8 x9 16)) + 1)))], [(.int .i64 (wi ((wi (remI .u8 x10 16)) + 1)))], [(.int .i64 (wi ((wi (remI .u8 x11 16)) + 1)))]] false), (Blk.flat 3 1 [[(.int .i64 (wi (x4)))], [(.int .i64 (wi (x18 + (remI .i64 (wi (x6)) (wi ((wi (x5)) + 1))))))], [(.int .i64 (wi (x18 + (remI .i64 (wi (x7)) (wi ((wi (x5)) + 1))))))], [(.int .i64 (wi (x18 + (remI .i64 (wi (x8)) (wi ((wi (x5)) + 1))))))]] false), (Blk.flat 3 1 [[(.int .i64 (wi (x4)))]] false), (Blk.flat 3 1 [] false)]) (x := (V.so false 3 3)) (id := 3) (n := 3) (off := 0) (len := 3) (s := 1) (v := (V.d (.rs false 1 [] false))) (by kernel_rfl) none (some (.i64, (remI .i64 (wi (x13)) 4))) 0 (by kernel_rfl) (tbE h6) (by kernel_rfl) (by kernel_rfl) (by kernel_rfl)), .m 96 (o_slice_sl1 (m := [(Blk.flat 65 3 [[(.int .i64 x0), (.int .i64 x1), (.int .i64 x2)]] x14), (Blk.flat 80 11 [[(.int .i32 x3), (.int .i32 x4), (.int .u16 x5), (.int .u16 x6), (.int .u16 x7), (.int .u16 x8), (.int .u8 x9), (.int .u8 x10), (.int .u8 x11), (.int .u8 x12), (.int .u8 x13)]] x15), (Blk.flat 3 1 [[(.int .i64 (wi (x18 + (remI .i64 (wi (x6)) (wi ((wi (x5)) + 1))))))], [(.int .i64 (wi (x18 + (remI .i64 (wi (x7)) (wi ((wi (x5)) + 1))))))], [(.int .i64 (wi (x18 + (remI .i64 (wi (x8)) (wi ((wi (x5)) + 1))))))]] false), (Blk.flat 3 1 [[(.int .i64 (wi ((wi (remI .u8 x9 16)) + 1)))], [(.int .i64 (wi ((wi (remI .u8 x10 16)) + 1)))], [(.int .i64 (wi ((wi (remI .u8 x11 16)) + 1)))]] false), (Blk.flat 3 1 [[(.int .i64 (wi (x4)))], [(.int .i64 (wi (x18 + (remI .i64 (wi (x6)) (wi ((wi (x5)) + 1))))))], [(.int .i64 (wi (x18 + (remI .i64 (wi (x7)) (wi ((wi (x5)) + 1))))))], [(.int .i64 (wi (x18 + (remI .i64 (wi (x8)) (wi ((wi (x5)) + 1))))))]] false), (Blk.flat 3 1 [[(.int .i64 (wi (x4)))]] false), (Blk.flat 3 1 [[(.int .i64 (wi ((wi (remI .u8 x12 16)) + 1)))]] false), (Blk.flat 3 1 [[(.int .i64 (wi ((wi (remI .u8 x12 16)) + 1)))]] false)]) (x := (V.so false 3 3)) (id := 3) (n := 3) (off := 0) (len := 3) (s := 1) (by kernel_rfl) (some (.i64, (remI .i64 (wi (x13)) 4))) none 0 3 (tbE h6) (by kernel_rfl) (by kernel_rfl) (by kernel_rfl)), .c (vote_Vote_ai3oo_t0 x0 x1 x2 false (law12_VoteBounded_S1_e15 x4 x5 x6 x7 x8 x18) false (law12_VoteBounded_S1_e16 x9 x10 x11 x12) (tbE h7))] (by kernel_rfl)
        · cases h5 : tb (law12_VoteBounded_L0_1_h2_c0 x13)
          · intro g0 g1 g2
            exact absurd g2 ft
          · cases h6 : tb (((remI .i64 (wi (x13)) 3) : Int) == 0)
            · cases h7 : tb (((remI .i64 (wi (x13)) 3) : Int) == 1)
              · cases h8 : tb (((remI .i64 (wi (x13)) 3) : Int) == 2)
                · intro g0 g1 g2
                  exact absurd g2 ft
                · cases h9 : tb (vote_Vote_ai3oo_c0 x0 x1 x2 (law12_VoteBounded_S1_e12 x4 x5 x6 x7 x18) (law12_VoteBounded_S1_e13 x9 x10 x12))
                  · intro g0 g1 g2
                    exact absurd g2 ft
                  · intro g0 g1 g2
                    exact absurd g1 tf
              · cases h8 : tb (vote_Vote_ai3oo_c0 x0 x1 x2 (law12_VoteBounded_S1_e10 x4 x5 x6 x7 x18) (law12_VoteBounded_S1_e11 x9 x10 x12))
                · intro g0 g1 g2
                  exact absurd g2 ft
                · intro g0 g1 g2
                  exact absurd g1 tf
            · cases h7 : tb (vote_Vote_ai3oo_c0 x0 x1 x2 (law12_VoteBounded_S1_e8 x4 x5 x6 x7 x18) (law12_VoteBounded_S1_e9 x9 x10 x12))
              · intro g0 g1 g2
                exact absurd g2 ft
              · intro g0 g1 g2
                exact absurd g1 tf
      · cases h4 : tb (law12_VoteBounded_L0_1_h1_c0 x13)
        · intro g0 g1 g2
          exact absurd g2 ft
        · cases h5 : tb (((remI .i64 (wi (x13)) 2) : Int) == 0)
          · cases h6 : tb (((remI .i64 (wi (x13)) 2) : Int) == 1)
            · intro g0 g1 g2
              exact absurd g2 ft
            · cases h7 : tb (vote_Vote_ai3oo_c0 x0 x1 x2 (law12_VoteBounded_S1_e5 x4 x5 x6 x18) (law12_VoteBounded_S1_e6 x9 x12))
              · intro g0 g1 g2
                exact absurd g2 ft
              · intro g0 g1 g2
                exact absurd g0 tf
          · cases h6 : tb (vote_Vote_ai3oo_c0 x0 x1 x2 (law12_VoteBounded_S1_e3 x4 x5 x6 x18) (law12_VoteBounded_S1_e4 x9 x12))
            · intro g0 g1 g2
              exact absurd g2 ft
            · intro g0 g1 g2
              exact absurd g0 tf
    · cases h3 : tb (law12_VoteBounded_L0_1_h0_c0 x13)
      · intro g0 g1 g2
        exact absurd g2 ft
      · intro g0 g1 g2
        exact absurd g2 ft
def law12_VoteBounded_S2_r0_4 (x0 : Int) (x1 : Int) (x2 : Int) (x20 : Int) (x21 : Int) : Bool := (bif tb (vote_Right_ai3_r0_0 x0 x1 x2) then (bif tb (decide (x0 ≤ x20)) then (bif tb (decide (x20 ≤ x1)) then true else (bif tb (decide (x0 ≤ x21)) then (decide (x21 ≤ x1)) else false)) else (bif tb (decide (x0 ≤ x21)) then (decide (x21 ≤ x1)) else false)) else false)
theorem law12_VoteBounded_S2_t0 (x0 : Int) (x1 : Int) (x2 : Int) (x3 : Int) (x4 : Int) (x5 : Int) (x6 : Int) (x7 : Int) (x8 : Int) (x9 : Int) (x10 : Int) (x11 : Int) (x12 : Int) (x13 : Int) (x14 : Int) (x15 : Int) (x16 : Bool) (x17 : Bool) (x18 : Bool) (x19 : Bool) (x20 : Int) (x21 : Int) (x22 : Int) (x23 : Bool) : segG (runC E0 (cl E0) S12_2) [2, 5, 6, 14, 15] [] [2, 5, 6, 14, 15, 16] 4 ([(V.ptr 0 1 0 0), (V.d (.int .i64 x20)), (V.d (.int .i64 x21)), (V.d (.int .i64 x22)), (V.d (.bool x23))], [(Blk.flat 65 3 [[(.int .i64 x0), (.int .i64 x1), (.int .i64 x2)]] x16), (Blk.flat 80 11 [[(.int .i32 x3), (.int .i32 x4), (.int .u16 x5), (.int .u16 x6), (.int .u16 x7), (.int .u16 x8), (.int .u8 x9), (.int .u8 x10), (.int .u8 x11), (.int .u8 x12), (.int .u8 x13)]] x17), (Blk.flat 3 1 [[(.int .i64 x14)]] x18), (Blk.flat 3 1 [[(.int .i64 x15)]] x19)]) = some (.normal, ([(V.ptr 0 1 0 0), (V.d (.int .i64 x20)), (V.d (.int .i64 x21)), (V.d (.int .i64 x22)), (V.d (.bool x23)), (V.d (.bool (law12_VoteBounded_S2_r0_4 x0 x1 x2 x20 x21)))], [(Blk.flat 65 3 [[(.int .i64 x0), (.int .i64 x1), (.int .i64 x2)]] x16), (Blk.flat 80 11 [[(.int .i32 x3), (.int .i32 x4), (.int .u16 x5), (.int .u16 x6), (.int .u16 x7), (.int .u16 x8), (.int .u8 x9), (.int .u8 x10), (.int .u8 x11), (.int .u8 x12), (.int .u8 x13)]] x17), (Blk.flat 3 1 [[(.int .i64 x14)]] x18), (Blk.flat 3 1 [[(.int .i64 x15)]] x19)])) := by
  unfold law12_VoteBounded_S2_r0_4
  cases h1 : tb (vote_Right_ai3_r0_0 x0 x1 x2)
  · exact seg_walk [.c (vote_Right_ai3_t0 x0 x1 x2), .b (tbE h1)] (by kernel_rfl)
  · cases h2 : tb (decide (x0 ≤ x20))
    · cases h3 : tb (decide (x0 ≤ x21))
      · exact seg_walk [.c (vote_Right_ai3_t0 x0 x1 x2), .b (tbE h1), .b (tbE h2), .b (tbE h3)] (by kernel_rfl)
      · exact seg_walk [.c (vote_Right_ai3_t0 x0 x1 x2), .b (tbE h1), .b (tbE h2), .b (tbE h3)] (by kernel_rfl)
    · cases h3 : tb (decide (x20 ≤ x1))
      · cases h4 : tb (decide (x0 ≤ x21))
        · exact seg_walk [.c (vote_Right_ai3_t0 x0 x1 x2), .b (tbE h1), .b (tbE h2), .b (tbE h3), .b (tbE h4)] (by kernel_rfl)
        · exact seg_walk [.c (vote_Right_ai3_t0 x0 x1 x2), .b (tbE h1), .b (tbE h2), .b (tbE h3), .b (tbE h4)] (by kernel_rfl)
      · exact seg_walk [.c (vote_Right_ai3_t0 x0 x1 x2), .b (tbE h1), .b (tbE h2), .b (tbE h3)] (by kernel_rfl)
def law12_VoteBounded_S3_c0 (x24 : Bool) : Bool := (bif tb (x24) then true else false)
theorem law12_VoteBounded_S3_t0 (x0 : Int) (x1 : Int) (x2 : Int) (x3 : Int) (x4 : Int) (x5 : Int) (x6 : Int) (x7 : Int) (x8 : Int) (x9 : Int) (x10 : Int) (x11 : Int) (x12 : Int) (x13 : Int) (x14 : Int) (x15 : Int) (x16 : Bool) (x17 : Bool) (x18 : Bool) (x19 : Bool) (x20 : Int) (x21 : Int) (x22 : Int) (x23 : Bool) (x24 : Bool) : law12_VoteBounded_S3_c0 x24 = true → segG (runC E0 (cl E0) S12_3) [2, 5, 6, 14, 15, 16] [4] [2, 5, 6, 14, 15] 4 ([(V.ptr 0 1 0 0), (V.d (.int .i64 x20)), (V.d (.int .i64 x21)), (V.d (.int .i64 x22)), (V.d (.bool x23)), (V.d (.bool x24))], [(Blk.flat 65 3 [[(.int .i64 x0), (.int .i64 x1), (.int .i64 x2)]] x16), (Blk.flat 80 11 [[(.int .i32 x3), (.int .i32 x4), (.int .u16 x5), (.int .u16 x6), (.int .u16 x7), (.int .u16 x8), (.int .u8 x9), (.int .u8 x10), (.int .u8 x11), (.int .u8 x12), (.int .u8 x13)]] x17), (Blk.flat 3 1 [[(.int .i64 x14)]] x18), (Blk.flat 3 1 [[(.int .i64 x15)]] x19)]) = some (.normal, ([(V.ptr 0 1 0 0), (V.d (.int .i64 x20)), (V.d (.int .i64 x21)), (V.d (.int .i64 x22)), (V.d (.bool x23))], [(Blk.flat 65 3 [[(.int .i64 x0), (.int .i64 x1), (.int .i64 x2)]] x16), (Blk.flat 80 11 [[(.int .i32 x3), (.int .i32 x4), (.int .u16 x5), (.int .u16 x6), (.int .u16 x7), (.int .u16 x8), (.int .u8 x9), (.int .u8 x10), (.int .u8 x11), (.int .u8 x12), (.int .u8 x13)]] x17), (Blk.flat 3 1 [[(.int .i64 x14)]] x18), (Blk.flat 3 1 [[(.int .i64 x15)]] x19)])) := by
  unfold law12_VoteBounded_S3_c0
  cases h1 : tb (x24)
  · intro g0
    exact absurd g0 ft
  · intro g0
    exact seg_walk [.b (notT (tbE h1))] (by kernel_rfl)
theorem law12_VoteBounded_S3_t1 (x0 : Int) (x1 : Int) (x2 : Int) (x3 : Int) (x4 : Int) (x5 : Int) (x6 : Int) (x7 : Int) (x8 : Int) (x9 : Int) (x10 : Int) (x11 : Int) (x12 : Int) (x13 : Int) (x14 : Int) (x15 : Int) (x16 : Bool) (x17 : Bool) (x18 : Bool) (x19 : Bool) (x20 : Int) (x21 : Int) (x22 : Int) (x23 : Bool) (x24 : Bool) : law12_VoteBounded_S3_c0 x24 = false → segG (runC E0 (cl E0) S12_3) [2, 5, 6, 14, 15, 16] [4] [2, 5, 6, 14, 15] 4 ([(V.ptr 0 1 0 0), (V.d (.int .i64 x20)), (V.d (.int .i64 x21)), (V.d (.int .i64 x22)), (V.d (.bool x23)), (V.d (.bool x24))], [(Blk.flat 65 3 [[(.int .i64 x0), (.int .i64 x1), (.int .i64 x2)]] x16), (Blk.flat 80 11 [[(.int .i32 x3), (.int .i32 x4), (.int .u16 x5), (.int .u16 x6), (.int .u16 x7), (.int .u16 x8), (.int .u8 x9), (.int .u8 x10), (.int .u8 x11), (.int .u8 x12), (.int .u8 x13)]] x17), (Blk.flat 3 1 [[(.int .i64 x14)]] x18), (Blk.flat 3 1 [[(.int .i64 x15)]] x19)]) = some (.ret, ([(V.d (.bool (false != (x23 == (vote_Right_ai3_r0_0 x0 x1 x2)))))], [(Blk.flat 65 3 [[(.int .i64 x0), (.int .i64 x1), (.int .i64 x2)]] x16), (Blk.flat 80 11 [[(.int .i32 x3), (.int .i32 x4), (.int .u16 x5), (.int .u16 x6), (.int .u16 x7), (.int .u16 x8), (.int .u8 x9), (.int .u8 x10), (.int .u8 x11), (.int .u8 x12), (.int .u8 x13)]] x17), (Blk.flat 3 1 [[(.int .i64 x14)]] x18), (Blk.flat 3 1 [[(.int .i64 x15)]] x19)])) := by
  unfold law12_VoteBounded_S3_c0
  cases h1 : tb (x24)
  · intro g0
    exact seg_walk [.b (notF (tbE h1)), .c (law12_alive_t0), .k true, .c (vote_Right_ai3_t0 x0 x1 x2)] (by kernel_rfl)
  · intro g0
    exact absurd g0 tf
def law12_VoteBounded_S4_r0_0 (x0 : Int) (x1 : Int) (x2 : Int) (x20 : Int) (x21 : Int) (x22 : Int) (x23 : Bool) : Bool := (bif tb (x23) then (bif tb (decide ((wi (x20 - x2)) ≤ x22)) then (bif tb (decide (x22 ≤ (wi (x21 + x2)))) then (bif tb (decide (x0 ≤ x22)) then (decide (x22 ≤ x1)) else false) else false) else false) else false)
theorem law12_VoteBounded_S4_t0 (x0 : Int) (x1 : Int) (x2 : Int) (x3 : Int) (x4 : Int) (x5 : Int) (x6 : Int) (x7 : Int) (x8 : Int) (x9 : Int) (x10 : Int) (x11 : Int) (x12 : Int) (x13 : Int) (x14 : Int) (x15 : Int) (x16 : Bool) (x17 : Bool) (x18 : Bool) (x19 : Bool) (x20 : Int) (x21 : Int) (x22 : Int) (x23 : Bool) : segG (runC E0 (cl E0) S12_4) [2, 5, 6, 14, 15] [] [4] 4 ([(V.ptr 0 1 0 0), (V.d (.int .i64 x20)), (V.d (.int .i64 x21)), (V.d (.int .i64 x22)), (V.d (.bool x23))], [(Blk.flat 65 3 [[(.int .i64 x0), (.int .i64 x1), (.int .i64 x2)]] x16), (Blk.flat 80 11 [[(.int .i32 x3), (.int .i32 x4), (.int .u16 x5), (.int .u16 x6), (.int .u16 x7), (.int .u16 x8), (.int .u8 x9), (.int .u8 x10), (.int .u8 x11), (.int .u8 x12), (.int .u8 x13)]] x17), (Blk.flat 3 1 [[(.int .i64 x14)]] x18), (Blk.flat 3 1 [[(.int .i64 x15)]] x19)]) = some (.normal, ([(V.d (.bool (law12_VoteBounded_S4_r0_0 x0 x1 x2 x20 x21 x22 x23)))], [(Blk.flat 65 3 [[(.int .i64 x0), (.int .i64 x1), (.int .i64 x2)]] x16), (Blk.flat 80 11 [[(.int .i32 x3), (.int .i32 x4), (.int .u16 x5), (.int .u16 x6), (.int .u16 x7), (.int .u16 x8), (.int .u8 x9), (.int .u8 x10), (.int .u8 x11), (.int .u8 x12), (.int .u8 x13)]] x17), (Blk.flat 3 1 [[(.int .i64 x14)]] x18), (Blk.flat 3 1 [[(.int .i64 x15)]] x19)])) := by
  unfold law12_VoteBounded_S4_r0_0
  cases h1 : tb (x23)
  · exact seg_walk [.c (law12_alive_t0), .k true, .b (tbE h1)] (by kernel_rfl)
  · cases h2 : tb (decide ((wi (x20 - x2)) ≤ x22))
    · exact seg_walk [.c (law12_alive_t0), .k true, .b (tbE h1), .b (tbE h2)] (by kernel_rfl)
    · cases h3 : tb (decide (x22 ≤ (wi (x21 + x2))))
      · exact seg_walk [.c (law12_alive_t0), .k true, .b (tbE h1), .b (tbE h2), .b (tbE h3)] (by kernel_rfl)
      · cases h4 : tb (decide (x0 ≤ x22))
        · exact seg_walk [.c (law12_alive_t0), .k true, .b (tbE h1), .b (tbE h2), .b (tbE h3), .b (tbE h4)] (by kernel_rfl)
        · exact seg_walk [.c (law12_alive_t0), .k true, .b (tbE h1), .b (tbE h2), .b (tbE h3), .b (tbE h4)] (by kernel_rfl)
def law12_VoteBounded_S2_1_r0_4 (x0 : Int) (x1 : Int) (x2 : Int) (x22 : Int) (x23 : Int) : Bool := (bif tb (vote_Right_ai3_r0_0 x0 x1 x2) then (bif tb (decide (x0 ≤ x22)) then (bif tb (decide (x22 ≤ x1)) then true else (bif tb (decide (x0 ≤ x23)) then (decide (x23 ≤ x1)) else false)) else (bif tb (decide (x0 ≤ x23)) then (decide (x23 ≤ x1)) else false)) else false)
theorem law12_VoteBounded_S2_1_t0 (x0 : Int) (x1 : Int) (x2 : Int) (x3 : Int) (x4 : Int) (x5 : Int) (x6 : Int) (x7 : Int) (x8 : Int) (x9 : Int) (x10 : Int) (x11 : Int) (x12 : Int) (x13 : Int) (x14 : Int) (x15 : Int) (x16 : Int) (x17 : Int) (x18 : Bool) (x19 : Bool) (x20 : Bool) (x21 : Bool) (x22 : Int) (x23 : Int) (x24 : Int) (x25 : Bool) : segG (runC E0 (cl E0) S12_2) [2, 5, 6, 14, 15] [] [2, 5, 6, 14, 15, 16] 4 ([(V.ptr 0 1 0 0), (V.d (.int .i64 x22)), (V.d (.int .i64 x23)), (V.d (.int .i64 x24)), (V.d (.bool x25))], [(Blk.flat 65 3 [[(.int .i64 x0), (.int .i64 x1), (.int .i64 x2)]] x18), (Blk.flat 80 11 [[(.int .i32 x3), (.int .i32 x4), (.int .u16 x5), (.int .u16 x6), (.int .u16 x7), (.int .u16 x8), (.int .u8 x9), (.int .u8 x10), (.int .u8 x11), (.int .u8 x12), (.int .u8 x13)]] x19), (Blk.flat 3 1 [[(.int .i64 x14)], [(.int .i64 x15)]] x20), (Blk.flat 3 1 [[(.int .i64 x16)], [(.int .i64 x17)]] x21)]) = some (.normal, ([(V.ptr 0 1 0 0), (V.d (.int .i64 x22)), (V.d (.int .i64 x23)), (V.d (.int .i64 x24)), (V.d (.bool x25)), (V.d (.bool (law12_VoteBounded_S2_1_r0_4 x0 x1 x2 x22 x23)))], [(Blk.flat 65 3 [[(.int .i64 x0), (.int .i64 x1), (.int .i64 x2)]] x18), (Blk.flat 80 11 [[(.int .i32 x3), (.int .i32 x4), (.int .u16 x5), (.int .u16 x6), (.int .u16 x7), (.int .u16 x8), (.int .u8 x9), (.int .u8 x10), (.int .u8 x11), (.int .u8 x12), (.int .u8 x13)]] x19), (Blk.flat 3 1 [[(.int .i64 x14)], [(.int .i64 x15)]] x20), (Blk.flat 3 1 [[(.int .i64 x16)], [(.int .i64 x17)]] x21)])) := by
  unfold law12_VoteBounded_S2_1_r0_4
  cases h1 : tb (vote_Right_ai3_r0_0 x0 x1 x2)
  · exact seg_walk [.c (vote_Right_ai3_t0 x0 x1 x2), .b (tbE h1)] (by kernel_rfl)
  · cases h2 : tb (decide (x0 ≤ x22))
    · cases h3 : tb (decide (x0 ≤ x23))
      · exact seg_walk [.c (vote_Right_ai3_t0 x0 x1 x2), .b (tbE h1), .b (tbE h2), .b (tbE h3)] (by kernel_rfl)
      · exact seg_walk [.c (vote_Right_ai3_t0 x0 x1 x2), .b (tbE h1), .b (tbE h2), .b (tbE h3)] (by kernel_rfl)
    · cases h3 : tb (decide (x22 ≤ x1))
      · cases h4 : tb (decide (x0 ≤ x23))
        · exact seg_walk [.c (vote_Right_ai3_t0 x0 x1 x2), .b (tbE h1), .b (tbE h2), .b (tbE h3), .b (tbE h4)] (by kernel_rfl)
        · exact seg_walk [.c (vote_Right_ai3_t0 x0 x1 x2), .b (tbE h1), .b (tbE h2), .b (tbE h3), .b (tbE h4)] (by kernel_rfl)
      · exact seg_walk [.c (vote_Right_ai3_t0 x0 x1 x2), .b (tbE h1), .b (tbE h2), .b (tbE h3)] (by kernel_rfl)
def law12_VoteBounded_S3_1_c0 (x26 : Bool) : Bool := (bif tb (x26) then true else false)
theorem law12_VoteBounded_S3_1_t0 (x0 : Int) (x1 : Int) (x2 : Int) (x3 : Int) (x4 : Int) (x5 : Int) (x6 : Int) (x7 : Int) (x8 : Int) (x9 : Int) (x10 : Int) (x11 : Int) (x12 : Int) (x13 : Int) (x14 : Int) (x15 : Int) (x16 : Int) (x17 : Int) (x18 : Bool) (x19 : Bool) (x20 : Bool) (x21 : Bool) (x22 : Int) (x23 : Int) (x24 : Int) (x25 : Bool) (x26 : Bool) : law12_VoteBounded_S3_1_c0 x26 = true → segG (runC E0 (cl E0) S12_3) [2, 5, 6, 14, 15, 16] [4] [2, 5, 6, 14, 15] 4 ([(V.ptr 0 1 0 0), (V.d (.int .i64 x22)), (V.d (.int .i64 x23)), (V.d (.int .i64 x24)), (V.d (.bool x25)), (V.d (.bool x26))], [(Blk.flat 65 3 [[(.int .i64 x0), (.int .i64 x1), (.int .i64 x2)]] x18), (Blk.flat 80 11 [[(.int .i32 x3), (.int .i32 x4), (.int .u16 x5), (.int .u16 x6), (.int .u16 x7), (.int .u16 x8), (.int .u8 x9), (.int .u8 x10), (.int .u8 x11), (.int .u8 x12), (.int .u8 x13)]] x19), (Blk.flat 3 1 [[(.int .i64 x14)], [(.int .i64 x15)]] x20), (Blk.flat 3 1 [[(.int .i64 x16)], [(.int .i64 x17)]] x21)]) = some (.normal, ([(V.ptr 0 1 0 0), (V.d (.int .i64 x22)), (V.d (.int .i64 x23)), (V.d (.int .i64 x24)), (V.d (.bool x25))], [(Blk.flat 65 3 [[(.int .i64 x0), (.int .i64 x1), (.int .i64 x2)]] x18), (Blk.flat 80 11 [[(.int .i32 x3), (.int .i32 x4), (.int .u16 x5), (.int .u16 x6), (.int .u16 x7), (.int .u16 x8), (.int .u8 x9), (.int .u8 x10), (.int .u8 x11), (.int .u8 x12), (.int .u8 x13)]] x19), (Blk.flat 3 1 [[(.int .i64 x14)], [(.int .i64 x15)]] x20), (Blk.flat 3 1 [[(.int .i64 x16)], [(.int .i64 x17)]] x21)])) := by
  unfold law12_VoteBounded_S3_1_c0
  cases h1 : tb (x26)
  · intro g0
    exact absurd g0 ft
  · intro g0
    exact seg_walk [.b (notT (tbE h1))] (by kernel_rfl)
theorem law12_VoteBounded_S3_1_t1 (x0 : Int) (x1 : Int) (x2 : Int) (x3 : Int) (x4 : Int) (x5 : Int) (x6 : Int) (x7 : Int) (x8 : Int) (x9 : Int) (x10 : Int) (x11 : Int) (x12 : Int) (x13 : Int) (x14 : Int) (x15 : Int) (x16 : Int) (x17 : Int) (x18 : Bool) (x19 : Bool) (x20 : Bool) (x21 : Bool) (x22 : Int) (x23 : Int) (x24 : Int) (x25 : Bool) (x26 : Bool) : law12_VoteBounded_S3_1_c0 x26 = false → segG (runC E0 (cl E0) S12_3) [2, 5, 6, 14, 15, 16] [4] [2, 5, 6, 14, 15] 4 ([(V.ptr 0 1 0 0), (V.d (.int .i64 x22)), (V.d (.int .i64 x23)), (V.d (.int .i64 x24)), (V.d (.bool x25)), (V.d (.bool x26))], [(Blk.flat 65 3 [[(.int .i64 x0), (.int .i64 x1), (.int .i64 x2)]] x18), (Blk.flat 80 11 [[(.int .i32 x3), (.int .i32 x4), (.int .u16 x5), (.int .u16 x6), (.int .u16 x7), (.int .u16 x8), (.int .u8 x9), (.int .u8 x10), (.int .u8 x11), (.int .u8 x12), (.int .u8 x13)]] x19), (Blk.flat 3 1 [[(.int .i64 x14)], [(.int .i64 x15)]] x20), (Blk.flat 3 1 [[(.int .i64 x16)], [(.int .i64 x17)]] x21)]) = some (.ret, ([(V.d (.bool (false != (x25 == (vote_Right_ai3_r0_0 x0 x1 x2)))))], [(Blk.flat 65 3 [[(.int .i64 x0), (.int .i64 x1), (.int .i64 x2)]] x18), (Blk.flat 80 11 [[(.int .i32 x3), (.int .i32 x4), (.int .u16 x5), (.int .u16 x6), (.int .u16 x7), (.int .u16 x8), (.int .u8 x9), (.int .u8 x10), (.int .u8 x11), (.int .u8 x12), (.int .u8 x13)]] x19), (Blk.flat 3 1 [[(.int .i64 x14)], [(.int .i64 x15)]] x20), (Blk.flat 3 1 [[(.int .i64 x16)], [(.int .i64 x17)]] x21)])) := by
  unfold law12_VoteBounded_S3_1_c0
  cases h1 : tb (x26)
  · intro g0
    exact seg_walk [.b (notF (tbE h1)), .c (law12_alive_t0), .k true, .c (vote_Right_ai3_t0 x0 x1 x2)] (by kernel_rfl)
  · intro g0
    exact absurd g0 tf
def law12_VoteBounded_S4_1_r0_0 (x0 : Int) (x1 : Int) (x2 : Int) (x22 : Int) (x23 : Int) (x24 : Int) (x25 : Bool) : Bool := (bif tb (x25) then (bif tb (decide ((wi (x22 - x2)) ≤ x24)) then (bif tb (decide (x24 ≤ (wi (x23 + x2)))) then (bif tb (decide (x0 ≤ x24)) then (decide (x24 ≤ x1)) else false) else false) else false) else false)
theorem law12_VoteBounded_S4_1_t0 (x0 : Int) (x1 : Int) (x2 : Int) (x3 : Int) (x4 : Int) (x5 : Int) (x6 : Int) (x7 : Int) (x8 : Int) (x9 : Int) (x10 : Int) (x11 : Int) (x12 : Int) (x13 : Int) (x14 : Int) (x15 : Int) (x16 : Int) (x17 : Int) (x18 : Bool) (x19 : Bool) (x20 : Bool) (x21 : Bool) (x22 : Int) (x23 : Int) (x24 : Int) (x25 : Bool) : segG (runC E0 (cl E0) S12_4) [2, 5, 6, 14, 15] [] [4] 4 ([(V.ptr 0 1 0 0), (V.d (.int .i64 x22)), (V.d (.int .i64 x23)), (V.d (.int .i64 x24)), (V.d (.bool x25))], [(Blk.flat 65 3 [[(.int .i64 x0), (.int .i64 x1), (.int .i64 x2)]] x18), (Blk.flat 80 11 [[(.int .i32 x3), (.int .i32 x4), (.int .u16 x5), (.int .u16 x6), (.int .u16 x7), (.int .u16 x8), (.int .u8 x9), (.int .u8 x10), (.int .u8 x11), (.int .u8 x12), (.int .u8 x13)]] x19), (Blk.flat 3 1 [[(.int .i64 x14)], [(.int .i64 x15)]] x20), (Blk.flat 3 1 [[(.int .i64 x16)], [(.int .i64 x17)]] x21)]) = some (.normal, ([(V.d (.bool (law12_VoteBounded_S4_1_r0_0 x0 x1 x2 x22 x23 x24 x25)))], [(Blk.flat 65 3 [[(.int .i64 x0), (.int .i64 x1), (.int .i64 x2)]] x18), (Blk.flat 80 11 [[(.int .i32 x3), (.int .i32 x4), (.int .u16 x5), (.int .u16 x6), (.int .u16 x7), (.int .u16 x8), (.int .u8 x9), (.int .u8 x10), (.int .u8 x11), (.int .u8 x12), (.int .u8 x13)]] x19), (Blk.flat 3 1 [[(.int .i64 x14)], [(.int .i64 x15)]] x20), (Blk.flat 3 1 [[(.int .i64 x16)], [(.int .i64 x17)]] x21)])) := by
  unfold law12_VoteBounded_S4_1_r0_0
  cases h1 : tb (x25)
  · exact seg_walk [.c (law12_alive_t0), .k true, .b (tbE h1)] (by kernel_rfl)
  · cases h2 : tb (decide ((wi (x22 - x2)) ≤ x24))
    · exact seg_walk [.c (law12_alive_t0), .k true, .b (tbE h1), .b (tbE h2)] (by kernel_rfl)
    · cases h3 : tb (decide (x24 ≤ (wi (x23 + x2))))
      · exact seg_walk [.c (law12_alive_t0), .k true, .b (tbE h1), .b (tbE h2), .b (tbE h3)] (by kernel_rfl)
      · cases h4 : tb (decide (x0 ≤ x24))
        · exact seg_walk [.c (law12_alive_t0), .k true, .b (tbE h1), .b (tbE h2), .b (tbE h3), .b (tbE h4)] (by kernel_rfl)
        · exact seg_walk [.c (law12_alive_t0), .k true, .b (tbE h1), .b (tbE h2), .b (tbE h3), .b (tbE h4)] (by kernel_rfl)
def law12_VoteBounded_S2_2_r0_4 (x0 : Int) (x1 : Int) (x2 : Int) (x24 : Int) (x25 : Int) : Bool := (bif tb (vote_Right_ai3_r0_0 x0 x1 x2) then (bif tb (decide (x0 ≤ x24)) then (bif tb (decide (x24 ≤ x1)) then true else (bif tb (decide (x0 ≤ x25)) then (decide (x25 ≤ x1)) else false)) else (bif tb (decide (x0 ≤ x25)) then (decide (x25 ≤ x1)) else false)) else false)
theorem law12_VoteBounded_S2_2_t0 (x0 : Int) (x1 : Int) (x2 : Int) (x3 : Int) (x4 : Int) (x5 : Int) (x6 : Int) (x7 : Int) (x8 : Int) (x9 : Int) (x10 : Int) (x11 : Int) (x12 : Int) (x13 : Int) (x14 : Int) (x15 : Int) (x16 : Int) (x17 : Int) (x18 : Int) (x19 : Int) (x20 : Bool) (x21 : Bool) (x22 : Bool) (x23 : Bool) (x24 : Int) (x25 : Int) (x26 : Int) (x27 : Bool) : segG (runC E0 (cl E0) S12_2) [2, 5, 6, 14, 15] [] [2, 5, 6, 14, 15, 16] 4 ([(V.ptr 0 1 0 0), (V.d (.int .i64 x24)), (V.d (.int .i64 x25)), (V.d (.int .i64 x26)), (V.d (.bool x27))], [(Blk.flat 65 3 [[(.int .i64 x0), (.int .i64 x1), (.int .i64 x2)]] x20), (Blk.flat 80 11 [[(.int .i32 x3), (.int .i32 x4), (.int .u16 x5), (.int .u16 x6), (.int .u16 x7), (.int .u16 x8), (.int .u8 x9), (.int .u8 x10), (.int .u8 x11), (.int .u8 x12), (.int .u8 x13)]] x21), (Blk.flat 3 1 [[(.int .i64 x14)], [(.int .i64 x15)], [(.int .i64 x16)]] x22), (Blk.flat 3 1 [[(.int .i64 x17)], [(.int .i64 x18)], [(.int .i64 x19)]] x23)]) = some (.normal, ([(V.ptr 0 1 0 0), (V.d (.int .i64 x24)), (V.d (.int .i64 x25)), (V.d (.int .i64 x26)), (V.d (.bool x27)), (V.d (.bool (law12_VoteBounded_S2_2_r0_4 x0 x1 x2 x24 x25)))], [(Blk.flat 65 3 [[(.int .i64 x0), (.int .i64 x1), (.int .i64 x2)]] x20), (Blk.flat 80 11 [[(.int .i32 x3), (.int .i32 x4), (.int .u16 x5), (.int .u16 x6), (.int .u16 x7), (.int .u16 x8), (.int .u8 x9), (.int .u8 x10), (.int .u8 x11), (.int .u8 x12), (.int .u8 x13)]] x21), (Blk.flat 3 1 [[(.int .i64 x14)], [(.int .i64 x15)], [(.int .i64 x16)]] x22), (Blk.flat 3 1 [[(.int .i64 x17)], [(.int .i64 x18)], [(.int .i64 x19)]] x23)])) := by
  unfold law12_VoteBounded_S2_2_r0_4
  cases h1 : tb (vote_Right_ai3_r0_0 x0 x1 x2)
  · exact seg_walk [.c (vote_Right_ai3_t0 x0 x1 x2), .b (tbE h1)] (by kernel_rfl)
  · cases h2 : tb (decide (x0 ≤ x24))
    · cases h3 : tb (decide (x0 ≤ x25))
      · exact seg_walk [.c (vote_Right_ai3_t0 x0 x1 x2), .b (tbE h1), .b (tbE h2), .b (tbE h3)] (by kernel_rfl)
      · exact seg_walk [.c (vote_Right_ai3_t0 x0 x1 x2), .b (tbE h1), .b (tbE h2), .b (tbE h3)] (by kernel_rfl)
    · cases h3 : tb (decide (x24 ≤ x1))
      · cases h4 : tb (decide (x0 ≤ x25))
        · exact seg_walk [.c (vote_Right_ai3_t0 x0 x1 x2), .b (tbE h1), .b (tbE h2), .b (tbE h3), .b (tbE h4)] (by kernel_rfl)
        · exact seg_walk [.c (vote_Right_ai3_t0 x0 x1 x2), .b (tbE h1), .b (tbE h2), .b (tbE h3), .b (tbE h4)] (by kernel_rfl)
      · exact seg_walk [.c (vote_Right_ai3_t0 x0 x1 x2), .b (tbE h1), .b (tbE h2), .b (tbE h3)] (by kernel_rfl)
def law12_VoteBounded_S3_2_c0 (x28 : Bool) : Bool := (bif tb (x28) then true else false)
theorem law12_VoteBounded_S3_2_t0 (x0 : Int) (x1 : Int) (x2 : Int) (x3 : Int) (x4 : Int) (x5 : Int) (x6 : Int) (x7 : Int) (x8 : Int) (x9 : Int) (x10 : Int) (x11 : Int) (x12 : Int) (x13 : Int) (x14 : Int) (x15 : Int) (x16 : Int) (x17 : Int) (x18 : Int) (x19 : Int) (x20 : Bool) (x21 : Bool) (x22 : Bool) (x23 : Bool) (x24 : Int) (x25 : Int) (x26 : Int) (x27 : Bool) (x28 : Bool) : law12_VoteBounded_S3_2_c0 x28 = true → segG (runC E0 (cl E0) S12_3) [2, 5, 6, 14, 15, 16] [4] [2, 5, 6, 14, 15] 4 ([(V.ptr 0 1 0 0), (V.d (.int .i64 x24)), (V.d (.int .i64 x25)), (V.d (.int .i64 x26)), (V.d (.bool x27)), (V.d (.bool x28))], [(Blk.flat 65 3 [[(.int .i64 x0), (.int .i64 x1), (.int .i64 x2)]] x20), (Blk.flat 80 11 [[(.int .i32 x3), (.int .i32 x4), (.int .u16 x5), (.int .u16 x6), (.int .u16 x7), (.int .u16 x8), (.int .u8 x9), (.int .u8 x10), (.int .u8 x11), (.int .u8 x12), (.int .u8 x13)]] x21), (Blk.flat 3 1 [[(.int .i64 x14)], [(.int .i64 x15)], [(.int .i64 x16)]] x22), (Blk.flat 3 1 [[(.int .i64 x17)], [(.int .i64 x18)], [(.int .i64 x19)]] x23)]) = some (.normal, ([(V.ptr 0 1 0 0), (V.d (.int .i64 x24)), (V.d (.int .i64 x25)), (V.d (.int .i64 x26)), (V.d (.bool x27))], [(Blk.flat 65 3 [[(.int .i64 x0), (.int .i64 x1), (.int .i64 x2)]] x20), (Blk.flat 80 11 [[(.int .i32 x3), (.int .i32 x4), (.int .u16 x5), (.int .u16 x6), (.int .u16 x7), (.int .u16 x8), (.int .u8 x9), (.int .u8 x10), (.int .u8 x11), (.int .u8 x12), (.int .u8 x13)]] x21), (Blk.flat 3 1 [[(.int .i64 x14)], [(.int .i64 x15)], [(.int .i64 x16)]] x22), (Blk.flat 3 1 [[(.int .i64 x17)], [(.int .i64 x18)], [(.int .i64 x19)]] x23)])) := by
  unfold law12_VoteBounded_S3_2_c0
  cases h1 : tb (x28)
  · intro g0
    exact absurd g0 ft
  · intro g0
    exact seg_walk [.b (notT (tbE h1))] (by kernel_rfl)
theorem law12_VoteBounded_S3_2_t1 (x0 : Int) (x1 : Int) (x2 : Int) (x3 : Int) (x4 : Int) (x5 : Int) (x6 : Int) (x7 : Int) (x8 : Int) (x9 : Int) (x10 : Int) (x11 : Int) (x12 : Int) (x13 : Int) (x14 : Int) (x15 : Int) (x16 : Int) (x17 : Int) (x18 : Int) (x19 : Int) (x20 : Bool) (x21 : Bool) (x22 : Bool) (x23 : Bool) (x24 : Int) (x25 : Int) (x26 : Int) (x27 : Bool) (x28 : Bool) : law12_VoteBounded_S3_2_c0 x28 = false → segG (runC E0 (cl E0) S12_3) [2, 5, 6, 14, 15, 16] [4] [2, 5, 6, 14, 15] 4 ([(V.ptr 0 1 0 0), (V.d (.int .i64 x24)), (V.d (.int .i64 x25)), (V.d (.int .i64 x26)), (V.d (.bool x27)), (V.d (.bool x28))], [(Blk.flat 65 3 [[(.int .i64 x0), (.int .i64 x1), (.int .i64 x2)]] x20), (Blk.flat 80 11 [[(.int .i32 x3), (.int .i32 x4), (.int .u16 x5), (.int .u16 x6), (.int .u16 x7), (.int .u16 x8), (.int .u8 x9), (.int .u8 x10), (.int .u8 x11), (.int .u8 x12), (.int .u8 x13)]] x21), (Blk.flat 3 1 [[(.int .i64 x14)], [(.int .i64 x15)], [(.int .i64 x16)]] x22), (Blk.flat 3 1 [[(.int .i64 x17)], [(.int .i64 x18)], [(.int .i64 x19)]] x23)]) = some (.ret, ([(V.d (.bool (false != (x27 == (vote_Right_ai3_r0_0 x0 x1 x2)))))], [(Blk.flat 65 3 [[(.int .i64 x0), (.int .i64 x1), (.int .i64 x2)]] x20), (Blk.flat 80 11 [[(.int .i32 x3), (.int .i32 x4), (.int .u16 x5), (.int .u16 x6), (.int .u16 x7), (.int .u16 x8), (.int .u8 x9), (.int .u8 x10), (.int .u8 x11), (.int .u8 x12), (.int .u8 x13)]] x21), (Blk.flat 3 1 [[(.int .i64 x14)], [(.int .i64 x15)], [(.int .i64 x16)]] x22), (Blk.flat 3 1 [[(.int .i64 x17)], [(.int .i64 x18)], [(.int .i64 x19)]] x23)])) := by
  unfold law12_VoteBounded_S3_2_c0
  cases h1 : tb (x28)
  · intro g0
    exact seg_walk [.b (notF (tbE h1)), .c (law12_alive_t0), .k true, .c (vote_Right_ai3_t0 x0 x1 x2)] (by kernel_rfl)
  · intro g0
    exact absurd g0 tf
def law12_VoteBounded_S4_2_r0_0 (x0 : Int) (x1 : Int) (x2 : Int) (x24 : Int) (x25 : Int) (x26 : Int) (x27 : Bool) : Bool := (bif tb (x27) then (bif tb (decide ((wi (x24 - x2)) ≤ x26)) then (bif tb (decide (x26 ≤ (wi (x25 + x2)))) then (bif tb (decide (x0 ≤ x26)) then (decide (x26 ≤ x1)) else false) else false) else false) else false)
theorem law12_VoteBounded_S4_2_t0 (x0 : Int) (x1 : Int) (x2 : Int) (x3 : Int) (x4 : Int) (x5 : Int) (x6 : Int) (x7 : Int) (x8 : Int) (x9 : Int) (x10 : Int) (x11 : Int) (x12 : Int) (x13 : Int) (x14 : Int) (x15 : Int) (x16 : Int) (x17 : Int) (x18 : Int) (x19 : Int) (x20 : Bool) (x21 : Bool) (x22 : Bool) (x23 : Bool) (x24 : Int) (x25 : Int) (x26 : Int) (x27 : Bool) : segG (runC E0 (cl E0) S12_4) [2, 5, 6, 14, 15] [] [4] 4 ([(V.ptr 0 1 0 0), (V.d (.int .i64 x24)), (V.d (.int .i64 x25)), (V.d (.int .i64 x26)), (V.d (.bool x27))], [(Blk.flat 65 3 [[(.int .i64 x0), (.int .i64 x1), (.int .i64 x2)]] x20), (Blk.flat 80 11 [[(.int .i32 x3), (.int .i32 x4), (.int .u16 x5), (.int .u16 x6), (.int .u16 x7), (.int .u16 x8), (.int .u8 x9), (.int .u8 x10), (.int .u8 x11), (.int .u8 x12), (.int .u8 x13)]] x21), (Blk.flat 3 1 [[(.int .i64 x14)], [(.int .i64 x15)], [(.int .i64 x16)]] x22), (Blk.flat 3 1 [[(.int .i64 x17)], [(.int .i64 x18)], [(.int .i64 x19)]] x23)]) = some (.normal, ([(V.d (.bool (law12_VoteBounded_S4_2_r0_0 x0 x1 x2 x24 x25 x26 x27)))], [(Blk.flat 65 3 [[(.int .i64 x0), (.int .i64 x1), (.int .i64 x2)]] x20), (Blk.flat 80 11 [[(.int .i32 x3), (.int .i32 x4), (.int .u16 x5), (.int .u16 x6), (.int .u16 x7), (.int .u16 x8), (.int .u8 x9), (.int .u8 x10), (.int .u8 x11), (.int .u8 x12), (.int .u8 x13)]] x21), (Blk.flat 3 1 [[(.int .i64 x14)], [(.int .i64 x15)], [(.int .i64 x16)]] x22), (Blk.flat 3 1 [[(.int .i64 x17)], [(.int .i64 x18)], [(.int .i64 x19)]] x23)])) := by
  unfold law12_VoteBounded_S4_2_r0_0
  cases h1 : tb (x27)
  · exact seg_walk [.c (law12_alive_t0), .k true, .b (tbE h1)] (by kernel_rfl)
  · cases h2 : tb (decide ((wi (x24 - x2)) ≤ x26))
    · exact seg_walk [.c (law12_alive_t0), .k true, .b (tbE h1), .b (tbE h2)] (by kernel_rfl)
    · cases h3 : tb (decide (x26 ≤ (wi (x25 + x2))))
      · exact seg_walk [.c (law12_alive_t0), .k true, .b (tbE h1), .b (tbE h2), .b (tbE h3)] (by kernel_rfl)
      · cases h4 : tb (decide (x0 ≤ x26))
        · exact seg_walk [.c (law12_alive_t0), .k true, .b (tbE h1), .b (tbE h2), .b (tbE h3), .b (tbE h4)] (by kernel_rfl)
        · exact seg_walk [.c (law12_alive_t0), .k true, .b (tbE h1), .b (tbE h2), .b (tbE h3), .b (tbE h4)] (by kernel_rfl)
def law12_VoteBounded_e0 (x3 : Int) (x5 : Int) (x6 : Int) : Int := (wi ((wi (x3)) + (remI .i64 (wi (x6)) (wi ((wi (x5)) + 1)))))
def law12_VoteBounded_e1 (x0 : Int) (x1 : Int) (x2 : Int) (x3 : Int) (x4 : Int) (x5 : Int) (x6 : Int) (x9 : Int) (x12 : Int) (x13 : Int) : Int := (law12_VoteBounded_S1_r0_2 x0 x1 x2 x4 x5 x6 x9 x12 x13 (wi (x3)))
def law12_VoteBounded_e2 (x0 : Int) (x1 : Int) (x2 : Int) (x3 : Int) (x4 : Int) (x5 : Int) (x6 : Int) (x9 : Int) (x12 : Int) (x13 : Int) : Bool := (law12_VoteBounded_S1_r0_3 x0 x1 x2 x4 x5 x6 x9 x12 x13 (wi (x3)))
def law12_VoteBounded_e3 (x0 : Int) (x1 : Int) (x2 : Int) (x3 : Int) (x5 : Int) : Bool := (law12_VoteBounded_S2_r0_4 x0 x1 x2 (wi (x3)) (wi ((wi (x3)) + (wi (x5)))))
def law12_VoteBounded_e4 (x3 : Int) (x5 : Int) (x7 : Int) : Int := (wi ((wi (x3)) + (remI .i64 (wi (x7)) (wi ((wi (x5)) + 1)))))
def law12_VoteBounded_e5 (x0 : Int) (x1 : Int) (x2 : Int) (x3 : Int) (x4 : Int) (x5 : Int) (x6 : Int) (x7 : Int) (x9 : Int) (x10 : Int) (x12 : Int) (x13 : Int) : Int := (law12_VoteBounded_S1_r1_2 x0 x1 x2 x4 x5 x6 x7 x9 x10 x12 x13 (wi (x3)))
def law12_VoteBounded_e6 (x0 : Int) (x1 : Int) (x2 : Int) (x3 : Int) (x4 : Int) (x5 : Int) (x6 : Int) (x7 : Int) (x9 : Int) (x10 : Int) (x12 : Int) (x13 : Int) : Bool := (law12_VoteBounded_S1_r1_3 x0 x1 x2 x4 x5 x6 x7 x9 x10 x12 x13 (wi (x3)))
def law12_VoteBounded_e7 (x0 : Int) (x1 : Int) (x2 : Int) (x3 : Int) (x4 : Int) (x5 : Int) (x6 : Int) (x7 : Int) (x9 : Int) (x10 : Int) (x12 : Int) (x13 : Int) : Int := (law12_VoteBounded_e5 x0 x1 x2 x3 x4 x5 x6 x7 x9 x10 x12 x13)
def law12_VoteBounded_e8 (x0 : Int) (x1 : Int) (x2 : Int) (x3 : Int) (x4 : Int) (x5 : Int) (x6 : Int) (x7 : Int) (x9 : Int) (x10 : Int) (x12 : Int) (x13 : Int) : Bool := (law12_VoteBounded_e6 x0 x1 x2 x3 x4 x5 x6 x7 x9 x10 x12 x13)
def law12_VoteBounded_e9 (x0 : Int) (x1 : Int) (x2 : Int) (x3 : Int) (x5 : Int) : Bool := (law12_VoteBounded_S2_1_r0_4 x0 x1 x2 (wi (x3)) (wi ((wi (x3)) + (wi (x5)))))
def law12_VoteBounded_e10 (x0 : Int) (x1 : Int) (x2 : Int) (x3 : Int) (x4 : Int) (x5 : Int) (x6 : Int) (x7 : Int) (x9 : Int) (x10 : Int) (x12 : Int) (x13 : Int) : Int := (law12_VoteBounded_e7 x0 x1 x2 x3 x4 x5 x6 x7 x9 x10 x12 x13)
def law12_VoteBounded_e11 (x0 : Int) (x1 : Int) (x2 : Int) (x3 : Int) (x4 : Int) (x5 : Int) (x6 : Int) (x7 : Int) (x9 : Int) (x10 : Int) (x12 : Int) (x13 : Int) : Bool := (law12_VoteBounded_e8 x0 x1 x2 x3 x4 x5 x6 x7 x9 x10 x12 x13)
def law12_VoteBounded_e12 (x3 : Int) (x5 : Int) (x8 : Int) : Int := (wi ((wi (x3)) + (remI .i64 (wi (x8)) (wi ((wi (x5)) + 1)))))
def law12_VoteBounded_e13 (x0 : Int) (x1 : Int) (x2 : Int) (x3 : Int) (x4 : Int) (x5 : Int) (x6 : Int) (x7 : Int) (x8 : Int) (x9 : Int) (x10 : Int) (x11 : Int) (x12 : Int) (x13 : Int) : Int := (law12_VoteBounded_S1_r2_2 x0 x1 x2 x4 x5 x6 x7 x8 x9 x10 x11 x12 x13 (wi (x3)))
def law12_VoteBounded_e14 (x0 : Int) (x1 : Int) (x2 : Int) (x3 : Int) (x4 : Int) (x5 : Int) (x6 : Int) (x7 : Int) (x8 : Int) (x9 : Int) (x10 : Int) (x11 : Int) (x12 : Int) (x13 : Int) : Bool := (law12_VoteBounded_S1_r2_3 x0 x1 x2 x4 x5 x6 x7 x8 x9 x10 x11 x12 x13 (wi (x3)))
def law12_VoteBounded_e15 (x0 : Int) (x1 : Int) (x2 : Int) (x3 : Int) (x4 : Int) (x5 : Int) (x6 : Int) (x7 : Int) (x8 : Int) (x9 : Int) (x10 : Int) (x11 : Int) (x12 : Int) (x13 : Int) : Int := (law12_VoteBounded_e13 x0 x1 x2 x3 x4 x5 x6 x7 x8 x9 x10 x11 x12 x13)
def law12_VoteBounded_e16 (x0 : Int) (x1 : Int) (x2 : Int) (x3 : Int) (x4 : Int) (x5 : Int) (x6 : Int) (x7 : Int) (x8 : Int) (x9 : Int) (x10 : Int) (x11 : Int) (x12 : Int) (x13 : Int) : Bool := (law12_VoteBounded_e14 x0 x1 x2 x3 x4 x5 x6 x7 x8 x9 x10 x11 x12 x13)
def law12_VoteBounded_e17 (x0 : Int) (x1 : Int) (x2 : Int) (x3 : Int) (x5 : Int) : Bool := (law12_VoteBounded_S2_2_r0_4 x0 x1 x2 (wi (x3)) (wi ((wi (x3)) + (wi (x5)))))
def law12_VoteBounded_e18 (x0 : Int) (x1 : Int) (x2 : Int) (x3 : Int) (x4 : Int) (x5 : Int) (x6 : Int) (x7 : Int) (x8 : Int) (x9 : Int) (x10 : Int) (x11 : Int) (x12 : Int) (x13 : Int) : Int := (law12_VoteBounded_e15 x0 x1 x2 x3 x4 x5 x6 x7 x8 x9 x10 x11 x12 x13)
def law12_VoteBounded_e19 (x0 : Int) (x1 : Int) (x2 : Int) (x3 : Int) (x4 : Int) (x5 : Int) (x6 : Int) (x7 : Int) (x8 : Int) (x9 : Int) (x10 : Int) (x11 : Int) (x12 : Int) (x13 : Int) : Bool := (law12_VoteBounded_e16 x0 x1 x2 x3 x4 x5 x6 x7 x8 x9 x10 x11 x12 x13)
def law12_VoteBounded_c0 (x0 : Int) (x1 : Int) (x2 : Int) (x3 : Int) (x4 : Int) (x5 : Int) (x6 : Int) (x7 : Int) (x8 : Int) (x9 : Int) (x10 : Int) (x11 : Int) (x12 : Int) (x13 : Int) : Bool := (bif tb (law12_VoteBounded_S1_c0 x0 x1 x2 x4 x5 x6 x9 x12 x13 (wi (x3))) then true else (bif tb (law12_VoteBounded_S1_c1 x0 x1 x2 x4 x5 x6 x7 x9 x10 x12 x13 (wi (x3))) then true else (bif tb (law12_VoteBounded_S1_c2 x0 x1 x2 x4 x5 x6 x7 x8 x9 x10 x11 x12 x13 (wi (x3))) then true else false)))
def law12_VoteBounded_r0_0 (x0 : Int) (x1 : Int) (x2 : Int) (x3 : Int) (x4 : Int) (x5 : Int) (x6 : Int) (x7 : Int) (x8 : Int) (x9 : Int) (x10 : Int) (x11 : Int) (x12 : Int) (x13 : Int) : Bool := (bif tb (law12_VoteBounded_S1_c0 x0 x1 x2 x4 x5 x6 x9 x12 x13 (wi (x3))) then (bif tb (law12_VoteBounded_S3_c0 (law12_VoteBounded_e3 x0 x1 x2 x3 x5)) then (law12_VoteBounded_S4_r0_0 x0 x1 x2 (wi (x3)) (wi ((wi (x3)) + (wi (x5)))) (law12_VoteBounded_e1 x0 x1 x2 x3 x4 x5 x6 x9 x12 x13) (law12_VoteBounded_e2 x0 x1 x2 x3 x4 x5 x6 x9 x12 x13)) else (false != ((law12_VoteBounded_e2 x0 x1 x2 x3 x4 x5 x6 x9 x12 x13) == (vote_Right_ai3_r0_0 x0 x1 x2)))) else (bif tb (law12_VoteBounded_S1_c1 x0 x1 x2 x4 x5 x6 x7 x9 x10 x12 x13 (wi (x3))) then (bif tb (law12_VoteBounded_S3_1_c0 (law12_VoteBounded_e9 x0 x1 x2 x3 x5)) then (law12_VoteBounded_S4_1_r0_0 x0 x1 x2 (wi (x3)) (wi ((wi (x3)) + (wi (x5)))) (law12_VoteBounded_e10 x0 x1 x2 x3 x4 x5 x6 x7 x9 x10 x12 x13) (law12_VoteBounded_e11 x0 x1 x2 x3 x4 x5 x6 x7 x9 x10 x12 x13)) else (false != ((law12_VoteBounded_e8 x0 x1 x2 x3 x4 x5 x6 x7 x9 x10 x12 x13) == (vote_Right_ai3_r0_0 x0 x1 x2)))) else (bif tb (law12_VoteBounded_S3_2_c0 (law12_VoteBounded_e17 x0 x1 x2 x3 x5)) then (law12_VoteBounded_S4_2_r0_0 x0 x1 x2 (wi (x3)) (wi ((wi (x3)) + (wi (x5)))) (law12_VoteBounded_e18 x0 x1 x2 x3 x4 x5 x6 x7 x8 x9 x10 x11 x12 x13) (law12_VoteBounded_e19 x0 x1 x2 x3 x4 x5 x6 x7 x8 x9 x10 x11 x12 x13)) else (false != ((law12_VoteBounded_e16 x0 x1 x2 x3 x4 x5 x6 x7 x8 x9 x10 x11 x12 x13) == (vote_Right_ai3_r0_0 x0 x1 x2))))))
theorem law12_VoteBounded_t0 (x0 : Int) (x1 : Int) (x2 : Int) (x3 : Int) (x4 : Int) (x5 : Int) (x6 : Int) (x7 : Int) (x8 : Int) (x9 : Int) (x10 : Int) (x11 : Int) (x12 : Int) (x13 : Int) : law12_VoteBounded_c0 x0 x1 x2 x3 x4 x5 x6 x7 x8 x9 x10 x11 x12 x13 = true → cl E0 12 [(V.agg [(V.d (.int .i64 x0)), (V.d (.int .i64 x1)), (V.d (.int .i64 x2))]), (V.agg [(V.d (.int .i32 x3)), (V.d (.int .i32 x4)), (V.d (.int .u16 x5)), (V.d (.int .u16 x6)), (V.d (.int .u16 x7)), (V.d (.int .u16 x8)), (V.d (.int .u8 x9)), (V.d (.int .u8 x10)), (V.d (.int .u8 x11)), (V.d (.int .u8 x12)), (V.d (.int .u8 x13))])] [] = some ([(V.d (.bool (law12_VoteBounded_r0_0 x0 x1 x2 x3 x4 x5 x6 x7 x8 x9 x10 x11 x12 x13)))], []) := by
  unfold law12_VoteBounded_c0 law12_VoteBounded_r0_0
  cases h1 : tb (law12_VoteBounded_S1_c0 x0 x1 x2 x4 x5 x6 x9 x12 x13 (wi (x3)))
  · cases h2 : tb (law12_VoteBounded_S1_c1 x0 x1 x2 x4 x5 x6 x7 x9 x10 x12 x13 (wi (x3)))
    · cases h3 : tb (law12_VoteBounded_S1_c2 x0 x1 x2 x4 x5 x6 x7 x8 x9 x10 x11 x12 x13 (wi (x3)))
      · intro g0
        exact absurd g0 ft
      · cases h4 : tb (law12_VoteBounded_S3_2_c0 (law12_VoteBounded_e17 x0 x1 x2 x3 x5))
        · intro g0
          exact w12 [.s (law12_VoteBounded_S1_t2 x0 x1 x2 x3 x4 x5 x6 x7 x8 x9 x10 x11 x12 x13 false false (wi (x3)) (wi ((wi (x3)) + (wi (x5)))) (tbE h1) (tbE h2) (tbE h3)), .s (law12_VoteBounded_S2_2_t0 x0 x1 x2 x3 x4 x5 x6 x7 x8 x9 x10 x11 x12 x13 (law12_VoteBounded_e0 x3 x5 x6) (law12_VoteBounded_e4 x3 x5 x7) (law12_VoteBounded_e12 x3 x5 x8) (wi ((wi (remI .u8 x9 16)) + 1)) (wi ((wi (remI .u8 x10 16)) + 1)) (wi ((wi (remI .u8 x11 16)) + 1)) false false false false (wi (x3)) (wi ((wi (x3)) + (wi (x5)))) (law12_VoteBounded_e13 x0 x1 x2 x3 x4 x5 x6 x7 x8 x9 x10 x11 x12 x13) (law12_VoteBounded_e14 x0 x1 x2 x3 x4 x5 x6 x7 x8 x9 x10 x11 x12 x13)), .s (law12_VoteBounded_S3_2_t1 x0 x1 x2 x3 x4 x5 x6 x7 x8 x9 x10 x11 x12 x13 (law12_VoteBounded_e0 x3 x5 x6) (law12_VoteBounded_e4 x3 x5 x7) (law12_VoteBounded_e12 x3 x5 x8) (wi ((wi (remI .u8 x9 16)) + 1)) (wi ((wi (remI .u8 x10 16)) + 1)) (wi ((wi (remI .u8 x11 16)) + 1)) false false false false (wi (x3)) (wi ((wi (x3)) + (wi (x5)))) (law12_VoteBounded_e15 x0 x1 x2 x3 x4 x5 x6 x7 x8 x9 x10 x11 x12 x13) (law12_VoteBounded_e16 x0 x1 x2 x3 x4 x5 x6 x7 x8 x9 x10 x11 x12 x13) (law12_VoteBounded_e17 x0 x1 x2 x3 x5) (tbE h4))] (by kernel_rfl)
        · intro g0
          exact w12 [.s (law12_VoteBounded_S1_t2 x0 x1 x2 x3 x4 x5 x6 x7 x8 x9 x10 x11 x12 x13 false false (wi (x3)) (wi ((wi (x3)) + (wi (x5)))) (tbE h1) (tbE h2) (tbE h3)), .s (law12_VoteBounded_S2_2_t0 x0 x1 x2 x3 x4 x5 x6 x7 x8 x9 x10 x11 x12 x13 (law12_VoteBounded_e0 x3 x5 x6) (law12_VoteBounded_e4 x3 x5 x7) (law12_VoteBounded_e12 x3 x5 x8) (wi ((wi (remI .u8 x9 16)) + 1)) (wi ((wi (remI .u8 x10 16)) + 1)) (wi ((wi (remI .u8 x11 16)) + 1)) false false false false (wi (x3)) (wi ((wi (x3)) + (wi (x5)))) (law12_VoteBounded_e13 x0 x1 x2 x3 x4 x5 x6 x7 x8 x9 x10 x11 x12 x13) (law12_VoteBounded_e14 x0 x1 x2 x3 x4 x5 x6 x7 x8 x9 x10 x11 x12 x13)), .s (law12_VoteBounded_S3_2_t0 x0 x1 x2 x3 x4 x5 x6 x7 x8 x9 x10 x11 x12 x13 (law12_VoteBounded_e0 x3 x5 x6) (law12_VoteBounded_e4 x3 x5 x7) (law12_VoteBounded_e12 x3 x5 x8) (wi ((wi (remI .u8 x9 16)) + 1)) (wi ((wi (remI .u8 x10 16)) + 1)) (wi ((wi (remI .u8 x11 16)) + 1)) false false false false (wi (x3)) (wi ((wi (x3)) + (wi (x5)))) (law12_VoteBounded_e15 x0 x1 x2 x3 x4 x5 x6 x7 x8 x9 x10 x11 x12 x13) (law12_VoteBounded_e16 x0 x1 x2 x3 x4 x5 x6 x7 x8 x9 x10 x11 x12 x13) (law12_VoteBounded_e17 x0 x1 x2 x3 x5) (tbE h4)), .s (law12_VoteBounded_S4_2_t0 x0 x1 x2 x3 x4 x5 x6 x7 x8 x9 x10 x11 x12 x13 (law12_VoteBounded_e0 x3 x5 x6) (law12_VoteBounded_e4 x3 x5 x7) (law12_VoteBounded_e12 x3 x5 x8) (wi ((wi (remI .u8 x9 16)) + 1)) (wi ((wi (remI .u8 x10 16)) + 1)) (wi ((wi (remI .u8 x11 16)) + 1)) false false false false (wi (x3)) (wi ((wi (x3)) + (wi (x5)))) (law12_VoteBounded_e18 x0 x1 x2 x3 x4 x5 x6 x7 x8 x9 x10 x11 x12 x13) (law12_VoteBounded_e19 x0 x1 x2 x3 x4 x5 x6 x7 x8 x9 x10 x11 x12 x13))] (by kernel_rfl)
    · cases h3 : tb (law12_VoteBounded_S3_1_c0 (law12_VoteBounded_e9 x0 x1 x2 x3 x5))
      · intro g0
        exact w12 [.s (law12_VoteBounded_S1_t1 x0 x1 x2 x3 x4 x5 x6 x7 x8 x9 x10 x11 x12 x13 false false (wi (x3)) (wi ((wi (x3)) + (wi (x5)))) (tbE h1) (tbE h2)), .s (law12_VoteBounded_S2_1_t0 x0 x1 x2 x3 x4 x5 x6 x7 x8 x9 x10 x11 x12 x13 (law12_VoteBounded_e0 x3 x5 x6) (law12_VoteBounded_e4 x3 x5 x7) (wi ((wi (remI .u8 x9 16)) + 1)) (wi ((wi (remI .u8 x10 16)) + 1)) false false false false (wi (x3)) (wi ((wi (x3)) + (wi (x5)))) (law12_VoteBounded_e5 x0 x1 x2 x3 x4 x5 x6 x7 x9 x10 x12 x13) (law12_VoteBounded_e6 x0 x1 x2 x3 x4 x5 x6 x7 x9 x10 x12 x13)), .s (law12_VoteBounded_S3_1_t1 x0 x1 x2 x3 x4 x5 x6 x7 x8 x9 x10 x11 x12 x13 (law12_VoteBounded_e0 x3 x5 x6) (law12_VoteBounded_e4 x3 x5 x7) (wi ((wi (remI .u8 x9 16)) + 1)) (wi ((wi (remI .u8 x10 16)) + 1)) false false false false (wi (x3)) (wi ((wi (x3)) + (wi (x5)))) (law12_VoteBounded_e7 x0 x1 x2 x3 x4 x5 x6 x7 x9 x10 x12 x13) (law12_VoteBounded_e8 x0 x1 x2 x3 x4 x5 x6 x7 x9 x10 x12 x13) (law12_VoteBounded_e9 x0 x1 x2 x3 x5) (tbE h3))] (by kernel_rfl)
      · intro g0
        exact w12 [.s (law12_VoteBounded_S1_t1 x0 x1 x2 x3 x4 x5 x6 x7 x8 x9 x10 x11 x12 x13 false false (wi (x3)) (wi ((wi (x3)) + (wi (x5)))) (tbE h1) (tbE h2)), .s (law12_VoteBounded_S2_1_t0 x0 x1 x2 x3 x4 x5 x6 x7 x8 x9 x10 x11 x12 x13 (law12_VoteBounded_e0 x3 x5 x6) (law12_VoteBounded_e4 x3 x5 x7) (wi ((wi (remI .u8 x9 16)) + 1)) (wi ((wi (remI .u8 x10 16)) + 1)) false false false false (wi (x3)) (wi ((wi (x3)) + (wi (x5)))) (law12_VoteBounded_e5 x0 x1 x2 x3 x4 x5 x6 x7 x9 x10 x12 x13) (law12_VoteBounded_e6 x0 x1 x2 x3 x4 x5 x6 x7 x9 x10 x12 x13)), .s (law12_VoteBounded_S3_1_t0 x0 x1 x2 x3 x4 x5 x6 x7 x8 x9 x10 x11 x12 x13 (law12_VoteBounded_e0 x3 x5 x6) (law12_VoteBounded_e4 x3 x5 x7) (wi ((wi (remI .u8 x9 16)) + 1)) (wi ((wi (remI .u8 x10 16)) + 1)) false false false false (wi (x3)) (wi ((wi (x3)) + (wi (x5)))) (law12_VoteBounded_e7 x0 x1 x2 x3 x4 x5 x6 x7 x9 x10 x12 x13) (law12_VoteBounded_e8 x0 x1 x2 x3 x4 x5 x6 x7 x9 x10 x12 x13) (law12_VoteBounded_e9 x0 x1 x2 x3 x5) (tbE h3)), .s (law12_VoteBounded_S4_1_t0 x0 x1 x2 x3 x4 x5 x6 x7 x8 x9 x10 x11 x12 x13 (law12_VoteBounded_e0 x3 x5 x6) (law12_VoteBounded_e4 x3 x5 x7) (wi ((wi (remI .u8 x9 16)) + 1)) (wi ((wi (remI .u8 x10 16)) + 1)) false false false false (wi (x3)) (wi ((wi (x3)) + (wi (x5)))) (law12_VoteBounded_e10 x0 x1 x2 x3 x4 x5 x6 x7 x9 x10 x12 x13) (law12_VoteBounded_e11 x0 x1 x2 x3 x4 x5 x6 x7 x9 x10 x12 x13))] (by kernel_rfl)
  · cases h2 : tb (law12_VoteBounded_S3_c0 (law12_VoteBounded_e3 x0 x1 x2 x3 x5))
    · intro g0
      exact w12 [.s (law12_VoteBounded_S1_t0 x0 x1 x2 x3 x4 x5 x6 x7 x8 x9 x10 x11 x12 x13 false false (wi (x3)) (wi ((wi (x3)) + (wi (x5)))) (tbE h1)), .s (law12_VoteBounded_S2_t0 x0 x1 x2 x3 x4 x5 x6 x7 x8 x9 x10 x11 x12 x13 (law12_VoteBounded_e0 x3 x5 x6) (wi ((wi (remI .u8 x9 16)) + 1)) false false false false (wi (x3)) (wi ((wi (x3)) + (wi (x5)))) (law12_VoteBounded_e1 x0 x1 x2 x3 x4 x5 x6 x9 x12 x13) (law12_VoteBounded_e2 x0 x1 x2 x3 x4 x5 x6 x9 x12 x13)), .s (law12_VoteBounded_S3_t1 x0 x1 x2 x3 x4 x5 x6 x7 x8 x9 x10 x11 x12 x13 (law12_VoteBounded_e0 x3 x5 x6) (wi ((wi (remI .u8 x9 16)) + 1)) false false false false (wi (x3)) (wi ((wi (x3)) + (wi (x5)))) (law12_VoteBounded_e1 x0 x1 x2 x3 x4 x5 x6 x9 x12 x13) (law12_VoteBounded_e2 x0 x1 x2 x3 x4 x5 x6 x9 x12 x13) (law12_VoteBounded_e3 x0 x1 x2 x3 x5) (tbE h2))] (by kernel_rfl)
    · intro g0
      exact w12 [.s (law12_VoteBounded_S1_t0 x0 x1 x2 x3 x4 x5 x6 x7 x8 x9 x10 x11 x12 x13 false false (wi (x3)) (wi ((wi (x3)) + (wi (x5)))) (tbE h1)), .s (law12_VoteBounded_S2_t0 x0 x1 x2 x3 x4 x5 x6 x7 x8 x9 x10 x11 x12 x13 (law12_VoteBounded_e0 x3 x5 x6) (wi ((wi (remI .u8 x9 16)) + 1)) false false false false (wi (x3)) (wi ((wi (x3)) + (wi (x5)))) (law12_VoteBounded_e1 x0 x1 x2 x3 x4 x5 x6 x9 x12 x13) (law12_VoteBounded_e2 x0 x1 x2 x3 x4 x5 x6 x9 x12 x13)), .s (law12_VoteBounded_S3_t0 x0 x1 x2 x3 x4 x5 x6 x7 x8 x9 x10 x11 x12 x13 (law12_VoteBounded_e0 x3 x5 x6) (wi ((wi (remI .u8 x9 16)) + 1)) false false false false (wi (x3)) (wi ((wi (x3)) + (wi (x5)))) (law12_VoteBounded_e1 x0 x1 x2 x3 x4 x5 x6 x9 x12 x13) (law12_VoteBounded_e2 x0 x1 x2 x3 x4 x5 x6 x9 x12 x13) (law12_VoteBounded_e3 x0 x1 x2 x3 x5) (tbE h2)), .s (law12_VoteBounded_S4_t0 x0 x1 x2 x3 x4 x5 x6 x7 x8 x9 x10 x11 x12 x13 (law12_VoteBounded_e0 x3 x5 x6) (wi ((wi (remI .u8 x9 16)) + 1)) false false false false (wi (x3)) (wi ((wi (x3)) + (wi (x5)))) (law12_VoteBounded_e1 x0 x1 x2 x3 x4 x5 x6 x9 x12 x13) (law12_VoteBounded_e2 x0 x1 x2 x3 x4 x5 x6 x9 x12 x13))] (by kernel_rfl)
end Go.Proofs.Ytdjmfcdopaejcaa.Den
