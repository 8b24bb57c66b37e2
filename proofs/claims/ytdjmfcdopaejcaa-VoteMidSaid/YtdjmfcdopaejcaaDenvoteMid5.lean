/- VoteMid: part 5 of what its proof rests on: an evaluator of the program's code, proved sound; plain functions printed from the code by a program of this session, with proofs; plain laws. No condition. -/
import Derived.Test.YtdjmfcdopaejcaaDenvoteMid4
import Derived.Test.YtdjmfcdopaejcaaRows

namespace Go.Proofs.Ytdjmfcdopaejcaa.Den
open Go
set_option linter.unusedVariables false
set_option linter.unusedSimpArgs false
theorem bigr (z : Int) : order_right_c1_i_r0_0 z = !sm z := by
  simp only [order_right_c1_i_r0_0, tb_eq, sm]
  by_cases h1 : z < -1099511627776
  · have : ¬ (-1099511627776 ≤ z) := by omega
    simp [h1, this]
  · have h2 : -1099511627776 ≤ z := by omega
    by_cases h3 : 1099511627776 < z
    · have : ¬ (z ≤ 1099511627776) := by omega
      simp [h1, h2, h3, this]
    · have : z ≤ 1099511627776 := by omega
      simp [h1, h2, h3, this]
theorem idx_big (l : List Int) (hl : l.length < 1152921504606846976) : slices_IndexFunc_int_o_order_right_c1_c0 l = true ∧ (decide (0 ≤ slices_IndexFunc_int_o_order_right_c1_r0_0 l)) = !(l.all sm) := by
  obtain ⟨s1, e, -, h0, h⟩ := all_loop (sel := slices_IndexFunc_int_o_order_right_c1_L0_sel l l.length) (nx := slices_IndexFunc_int_o_order_right_c1_L0_nx l l.length) (s0 := ⟨0⟩) l (fun s => s.c3) sm (fun _ => True) hl rfl trivial
    (fun s _ h1 h2 _ => ⟨by show wi _ = _; exact wi_eq (by omega) (by omega), trivial⟩)
    (fun s _ h1 h2 => by
      by_cases h : s.c3 < l.length
      · have hi := inb_of h1 h
        simp only [slices_IndexFunc_int_o_order_right_c1_L0_sel, h, hi, bigr, tb_eq, decide_true, cond_true, Bool.true_and]
        cases sm (gt l s.c3) <;> rfl
      · simp [slices_IndexFunc_int_o_order_right_c1_L0_sel, h])
  have hok : slices_IndexFunc_int_o_order_right_c1_L0_ok l l.length ⟨0⟩ = true := by simp [slices_IndexFunc_int_o_order_right_c1_L0_ok, e]
  have hend : slices_IndexFunc_int_o_order_right_c1_e0 l = s1 := by simp [slices_IndexFunc_int_o_order_right_c1_e0, slices_IndexFunc_int_o_order_right_c1_L0_end, e]
  simp only [slices_IndexFunc_int_o_order_right_c1_c0, slices_IndexFunc_int_o_order_right_c1_r0_0, hok, hend, tb_eq, cond_true]
  rcases h with ⟨h1, h2⟩ | ⟨h1, h2, h3⟩
  · simp [slices_IndexFunc_int_o_order_right_c1_L0_c0, slices_IndexFunc_int_o_order_right_c1_L0_c1, h1, h2]
  · have hi := inb_of h0 h1
    simp [slices_IndexFunc_int_o_order_right_c1_L0_c0, slices_IndexFunc_int_o_order_right_c1_L0_c1, h1, h3, hi, h0]
def lst16 (l : List Int) : Bool := decide (l.length ≤ 16) && l.all sm
theorem right_o (l : List Int) (hl : l.length < 1152921504606846976) : order_right_o_c0 l = true ∧ order_right_o_r0_0 l = lst16 l := by
  obtain ⟨h1, h2⟩ := idx_big l hl
  simp only [order_right_o_c0, order_right_o_r0_0, slices_ContainsFunc_int_o_order_right_c1_c0, h1, h2, tb_eq, lst16]
  by_cases h : l.length ≤ 16
  · have : ((l.length : Int) ≤ 16) := by omega
    simp [h, this]
  · have : ¬ ((l.length : Int) ≤ 16) := by omega
    simp [h, this]
theorem set_mid {q r : List Int} {a b : Int} : (q ++ a :: r).set q.length b = q ++ b :: r := by
  rw [List.set_append_right _ _ (Nat.le_refl _)]; simp
theorem gt_mid {q r : List Int} {a : Int} : gt (q ++ a :: r) (q.length : Int) = a := by
  rw [gt_nat (by simp)]; simp
theorem gt_mid1 {q r : List Int} {a b : Int} : gt (q ++ a :: b :: r) ((q.length : Int) + 1) = b := by
  have : ((q.length : Int) + 1) = ((q.length + 1 : Nat) : Int) := by omega
  rw [this, gt_nat (by simp)]
  rw [List.getElem_append_right (by omega)]; simp
theorem st_mid {q r : List Int} {a b : Int} : st (q ++ a :: r) (q.length : Int) b = q ++ b :: r := by
  unfold st; rw [Int.toNat_natCast]; exact set_mid
theorem st_mid1 {q r : List Int} {a b c : Int} : st (q ++ a :: b :: r) ((q.length : Int) + 1) c = q ++ a :: c :: r := by
  unfold st
  have : ((q.length : Int) + 1).toNat = (q ++ [a]).length := by simp
  rw [this]
  have e : q ++ a :: b :: r = (q ++ [a]) ++ b :: r := by simp
  rw [e, set_mid]; simp
def passSt (l : List Int) (i : Nat) : order_Sort_o_L1_s0 := ⟨!(bub (l.take i) == l.take i), i, bub (l.take i) ++ l.drop i⟩
theorem pass_run {l : List Int} (hl : 1 ≤ l.length) (hb : l.length ≤ 1000) : itS (order_Sort_o_L1_sel l.length) (order_Sort_o_L1_nx l.length) bound ⟨false, 1, l⟩ = some ⟨!(bub l == l), l.length, bub l⟩ := by
  have := loop_seq (sel := order_Sort_o_L1_sel l.length) (nx := order_Sort_o_L1_nx l.length) (fun k => passSt l (k + 1)) (l.length - 1) (by omega) (fun k hk => ?_) ?_
  · have e0 : passSt l (0 + 1) = ⟨false, 1, l⟩ := by
      cases l with
      | nil => simp at hl
      | cons a r => simp [passSt, bub, bubc]
    have e1 : passSt l (l.length - 1 + 1) = ⟨!(bub l == l), l.length, bub l⟩ := by
      rw [show l.length - 1 + 1 = l.length by omega]; simp [passSt]
    rw [e0, e1] at this; exact this
  · have hne : l.take (k + 1) ≠ [] := by
      intro h
      rw [List.take_eq_nil_iff] at h
      rcases h with h | h
      · omega
      · subst h; simp at hl
    obtain ⟨q, M, h1, h2, h3, h4⟩ := bub_snoc hne
    have hlk : (l.take (k + 1)).length = k + 1 := by simp; omega
    have hq : q.length = k := by omega
    have hdrop : l.drop (k + 1) = gt l ((k + 1 : Nat) : Int) :: l.drop (k + 2) := by
      rw [gt_nat (show k + 1 < l.length by omega)]; exact List.drop_eq_getElem_cons (by omega)
    have htake : l.take (k + 2) = l.take (k + 1) ++ [gt l ((k + 1 : Nat) : Int)] := take_succ_gt (by omega)
    generalize hx : gt l ((k + 1 : Nat) : Int) = x at *
    have h4x := h4 x
    have elist : bub (l.take (k + 1)) ++ l.drop (k + 1) = q ++ M :: x :: l.drop (k + 2) := by rw [h1, hdrop]; simp
    have w1 : wi (((k + 1 : Nat) : Int) - 1) = (q.length : Int) := by rw [wi_eq (by omega) (by omega)]; omega
    have ek : ((k + 1 : Nat) : Int) = (q.length : Int) + 1 := by omega
    have len : (q ++ M :: x :: l.drop (k + 2)).length = l.length := by simp; omega
    have b1 : inb l.length (q.length : Int) = true := inb_of (by omega) (by omega)
    have b2 : inb l.length ((q.length : Int) + 1) = true := inb_of (by omega) (by omega)
    have lt : ((q.length : Int) + 1) < (l.length : Int) := by omega
    have w2 : wi (((q.length : Int) + 1) - 1) = (q.length : Int) := by rw [wi_eq (by omega) (by omega)]; omega
    have w3 : wi (((q.length : Int) + 1) + 1) = ((k + 2 : Nat) : Int) := by rw [wi_eq (by omega) (by omega)]; omega
    have len1 : (q ++ x :: x :: l.drop (k + 2)).length = l.length := by simp; omega
    constructor
    · simp only [passSt, order_Sort_o_L1_sel, elist, ek, w2, gt_mid, gt_mid1, st_mid, b1, b2, lt, len, len1, Nat.beq_refl, tb_eq, decide_true, cond_true]
      cases decide (x < M) <;> rfl
    · simp only [passSt, order_Sort_o_L1_nx, order_Sort_o_L1_h0_e0, elist, ek, w2, w3, gt_mid, gt_mid1, st_mid, st_mid1, tb_eq]
      by_cases hlt : x < M
      · have hne2 : (bub (l.take (k + 2)) == l.take (k + 2)) = false := by
          rw [htake, h4x, if_pos hlt]
          rw [beq_eq_false_iff_ne]
          intro he
          have := congrArg List.getLast? he
          simp at this; omega
        simp only [hlt, decide_true, cond_true, hne2]
        rw [htake, h4x, if_pos hlt]; simp; omega
      · have heq : (bub (l.take (k + 2)) == l.take (k + 2)) = (bub (l.take (k + 1)) == l.take (k + 1)) := by
          rw [htake, h4x, if_neg hlt]
          have : q ++ [M, x] = bub (l.take (k + 1)) ++ [x] := by rw [h1]; simp
          rw [this, Bool.eq_iff_iff]; simp
        simp only [hlt, decide_false, cond_false]
        rw [heq, htake, h4x, if_neg hlt]; simp; omega
  · have : ¬ (((l.length - 1 + 1 : Nat) : Int) < (l.length : Int)) := by omega
    show (bif decide (((l.length - 1 + 1 : Nat) : Int) < (l.length : Int)) then _ else false) = false
    rw [decide_eq_false this]; rfl
theorem pass_all {l : List Int} (hl : 1 ≤ l.length) (hb : l.length ≤ 1000) : order_Sort_o_L1_ok l.length ⟨false, 1, l⟩ = true ∧ order_Sort_o_L1_end l.length ⟨false, 1, l⟩ = ⟨!(bub l == l), l.length, bub l⟩ ∧ order_Sort_o_L1_c0 l.length ⟨!(bub l == l), l.length, bub l⟩ = true := by
  have h := pass_run hl hb
  refine ⟨by simp only [order_Sort_o_L1_ok, h]; rfl, by simp only [order_Sort_o_L1_end, h]; rfl, by simp [order_Sort_o_L1_c0, tb_eq]⟩
theorem passes {l : List Int} (hb : l.length ≤ 1000) : order_Sort_o_S3_c0 l l.length = true ∧ order_Sort_o_L2_r0_3 l.length (l.length : Int) (order_Sort_o_S3_e0 l l.length) = isort l := by
  obtain ⟨n, hn, h1, h2, h3⟩ := bubn_stop l
  have hs : bubn l n = isort l := srt_isort h3 (bubn_perm l n)
  have hrun : itS (order_Sort_o_L2_sel l.length (l.length : Int)) (order_Sort_o_L2_nx l.length (l.length : Int)) bound ⟨0, l⟩ = some ⟨n, bubn l n⟩ := by
    have := loop_seq (sel := order_Sort_o_L2_sel l.length (l.length : Int)) (nx := order_Sort_o_L2_nx l.length (l.length : Int)) (fun k => ⟨(k : Int), bubn l k⟩) n (by omega) (fun k hk => ?_) ?_
    · exact this
    · have hlen := bubn_len l k
      obtain ⟨a1, a2, a3⟩ := pass_all (l := bubn l k) (by omega) (by omega)
      rw [hlen] at a1 a2 a3
      have hne : (bub (bubn l k) == bubn l k) = false := by rw [beq_eq_false_iff_ne]; exact h1 k hk
      have hlt : (k : Int) < (l.length : Int) := by omega
      rw [hne] at a2 a3
      constructor
      · simp only [order_Sort_o_L2_sel, order_Sort_o_L2_h0_e0, a1, a2, a3, hlt, tb_eq]; simp
      · simp only [order_Sort_o_L2_nx, order_Sort_o_L2_h0_e0, a2]
        rw [wi_eq (by omega) (by omega)]
        simp [bubn]
    · by_cases hlt : n < l.length
      · have hfix : bub (bubn l n) = bubn l n := by rcases h2 with h | h; omega; exact h
        have hlen := bubn_len l n
        obtain ⟨a1, a2, a3⟩ := pass_all (l := bubn l n) (by omega) (by omega)
        rw [hlen] at a1 a2 a3
        rw [hfix] at a2 a3
        have hlt' : (n : Int) < (l.length : Int) := by omega
        simp only [order_Sort_o_L2_sel, order_Sort_o_L2_h0_e0, a1, a2, a3, hlt', tb_eq]
        simp
      · have hlt' : ¬ (n : Int) < (l.length : Int) := by omega
        simp only [order_Sort_o_L2_sel, tb_eq]
        rw [decide_eq_false hlt']; rfl
  have he : order_Sort_o_S3_e0 l l.length = ⟨n, bubn l n⟩ := by simp only [order_Sort_o_S3_e0, order_Sort_o_L2_end, hrun]; rfl
  have hok : order_Sort_o_L2_ok l.length (l.length : Int) ⟨0, l⟩ = true := by simp only [order_Sort_o_L2_ok, hrun]; rfl
  by_cases hlt : n < l.length
  · have hfix : bub (bubn l n) = bubn l n := by rcases h2 with h | h; omega; exact h
    have hlen := bubn_len l n
    obtain ⟨a1, a2, a3⟩ := pass_all (l := bubn l n) (by omega) (by omega)
    rw [hlen] at a1 a2 a3
    rw [hfix] at a2 a3
    have hlt' : (n : Int) < (l.length : Int) := by omega
    constructor
    · simp only [order_Sort_o_S3_c0, hok, he, order_Sort_o_L2_c0, order_Sort_o_L2_h0_e0, a1, a2, a3, hlt', tb_eq]; simp
    · simp only [he, order_Sort_o_L2_r0_3, order_Sort_o_L2_h0_e0, a2, hlt', tb_eq, decide_true, cond_true]; exact hs
  · have hlt' : ¬ (n : Int) < (l.length : Int) := by omega
    constructor
    · simp only [order_Sort_o_S3_c0, hok, he, order_Sort_o_L2_c0, hlt', tb_eq]; simp
    · simp only [he, order_Sort_o_L2_r0_3, hlt', tb_eq, decide_false, cond_false]; exact hs
theorem cpL_rep (l : List Int) (z : Int) : cpL (List.replicate l.length z) l = l := by
  simp [cpL]
theorem Sort_r {l : List Int} (h : lst16 l = true) : order_Sort_o_c0 l = true := by
  have hl : l.length ≤ 16 := by simp [lst16] at h; exact h.1
  obtain ⟨a1, a2⟩ := right_o l (by omega)
  obtain ⟨b1, b2⟩ := passes (l := l) (by omega)
  have e1 : ((l.length : Nat) : Int).toNat = l.length := by omega
  have h0 : (0 : Int) ≤ (l.length : Int) := by omega
  have h1 : (l.length : Int) * 8 ≤ 140737488355328 := by omega
  simp only [order_Sort_o_c0, order_Sort_o_S0_c0, order_Sort_o_e0, order_Sort_o_e2, a1, a2, h, e1, List.length_replicate, cpL_rep, b1, h0, h1, tb_eq]; simp
def midI (l : List Int) : Int := (gt (isort l) (((l.length : Int) - 1) / 2) + gt (isort l) ((l.length : Int) / 2)) / 2
def mid4 (l : List Int) : Bool := lst16 l && (decide (1 ≤ l.length) && decide (l.length ≤ 4))
theorem isort_sm {l : List Int} (h : lst16 l = true) {i : Int} (h1 : 0 ≤ i) (h2 : i < l.length) : -1099511627776 ≤ gt (isort l) i ∧ gt (isort l) i ≤ 1099511627776 := by
  have hm := gt_mem (l := isort l) h1 (by rw [isort_len]; exact h2)
  have := (isort_perm l).mem_iff.1 hm
  simp only [lst16, Bool.and_eq_true, List.all_eq_true] at h
  exact sm_iff.1 (h.2 _ this)
theorem Mid_r (l : List Int) (hl : l.length < 1152921504606846976) : order_Mid_o_c0 l = true ∧ order_Mid_o_r0_1 l = mid4 l ∧ (mid4 l = true → order_Mid_o_r0_0 l = midI l) ∧ (mid4 l = false → order_Mid_o_r0_0 l = 0) := by
  obtain ⟨a1, a2⟩ := right_o l hl
  cases h : lst16 l with
  | false =>
    have hm : mid4 l = false := by simp [mid4, h]
    refine ⟨by simp [order_Mid_o_c0, a1, a2, h, tb_eq], by simp [order_Mid_o_r0_1, a2, h, tb_eq, hm], (fun e => by rw [hm] at e; cases e), fun _ => by simp [order_Mid_o_r0_0, a2, h, tb_eq]⟩
  | true =>
    by_cases h1 : l.length < 1
    · have hm : mid4 l = false := by simp [mid4]; omega
      have h1' : (l.length : Int) < 1 := by omega
      refine ⟨by simp only [order_Mid_o_c0, a1, a2, h, tb_eq, h1', decide_true, cond_true], by simp only [order_Mid_o_r0_1, a2, h, tb_eq, hm, h1', decide_true, cond_true], (fun e => by rw [hm] at e; cases e), fun _ => by simp only [order_Mid_o_r0_0, a2, h, tb_eq, h1', decide_true, cond_true]⟩
    · have h1' : ¬ (l.length : Int) < 1 := by omega
      by_cases h2 : 4 < l.length
      · have hm : mid4 l = false := by simp [mid4]; omega
        have h2' : (4 : Int) < (l.length : Int) := by omega
        refine ⟨by simp only [order_Mid_o_c0, a1, a2, h, tb_eq, h1', h2', decide_true, decide_false, cond_true, cond_false], by simp only [order_Mid_o_r0_1, a2, h, tb_eq, hm, h1', h2', decide_true, decide_false, cond_true, cond_false], (fun e => by rw [hm] at e; cases e), fun _ => by simp only [order_Mid_o_r0_0, a2, h, tb_eq, h1', h2', decide_true, decide_false, cond_true, cond_false]⟩
      · have hm : mid4 l = true := by simp [mid4, h]; omega
        have h2' : ¬ (4 : Int) < (l.length : Int) := by omega
        obtain ⟨b1, b2⟩ := passes (l := l) (by omega)
        have e1 : ((l.length : Nat) : Int).toNat = l.length := by omega
        have e0 : order_Sort_o_e0 l = l := by simp only [order_Sort_o_e0, e1, cpL_rep]
        have e2 : order_Sort_o_e2 l = l.length := by simp only [order_Sort_o_e2, e1, List.length_replicate]
        have w1 : wi (((l.length : Nat) : Int) - 1) = (l.length : Int) - 1 := wi_eq (by omega) (by omega)
        have q1 : quoI .i64 ((l.length : Int) - 1) 2 = ((l.length : Int) - 1) / 2 := quo_i64 (by omega) (by omega) (by omega)
        have q2 : quoI .i64 (l.length : Int) 2 = (l.length : Int) / 2 := quo_i64 (by omega) (by omega) (by omega)
        have i1 : inb l.length (((l.length : Int) - 1) / 2) = true := inb_of (by omega) (by omega)
        have i2 : inb l.length ((l.length : Int) / 2) = true := inb_of (by omega) (by omega)
        have m1 := isort_sm h (i := ((l.length : Int) - 1) / 2) (by omega) (by omega)
        have m2 := isort_sm h (i := (l.length : Int) / 2) (by omega) (by omega)
        refine ⟨?_, by simp only [order_Mid_o_r0_1, a2, h, tb_eq, hm, h1', h2', decide_false, cond_true, cond_false], fun _ => ?_, fun e => by rw [hm] at e; cases e⟩
        · simp only [order_Mid_o_c0, a1, a2, h, tb_eq, h1', h2', Sort_r h, e0, e2, w1, q1, q2, i1, i2, b2, isort_len, Nat.beq_refl, decide_false, cond_true, cond_false]
        · simp only [order_Mid_o_r0_0, order_Mid_o_e2, order_Mid_o_e0, order_Mid_o_e1, a2, h, tb_eq, h1', h2', e0, e2, w1, q1, q2, b2, decide_false, cond_true, cond_false, midI]
          rw [wi_eq (by omega) (by omega)]
          exact shr_i64 _ 1 (by omega)
end Go.Proofs.Ytdjmfcdopaejcaa.Den

namespace Go.Proofs.Ytdjmfcdopaejcaa.Den
open Go Go.Proofs
set_option maxRecDepth 100000
set_option maxHeartbeats 4000000
set_option linter.unusedVariables false
set_option linter.unusedSimpArgs false
structure ref01_All_o_L0_s0 where
  c2 : Int
  deriving Inhabited
end Go.Proofs.Ytdjmfcdopaejcaa.Den

namespace Go.Proofs.Ytdjmfcdopaejcaa.Den
open Go
set_option linter.unusedVariables false
set_option linter.unusedSimpArgs false
def flo (a b : Int) : Int := if sm a = true ∧ sm b = true ∧ 1 ≤ b then a.fdiv b else 0
end Go.Proofs.Ytdjmfcdopaejcaa.Den

namespace Go.Proofs.Ytdjmfcdopaejcaa.Den
open Go
set_option linter.unusedVariables false
set_option linter.unusedSimpArgs false
theorem ediv_is {a b k r : Int} (hb : 0 < b) (e : a = r + k * b) (h1 : 0 ≤ r) (h2 : r < b) : a / b = k := by
  rw [e, Int.add_mul_ediv_right _ _ (by omega), Int.ediv_eq_zero_of_lt h1 h2]; omega
theorem fFloor_c (a b : Int) : fix_Floor_ii_c0 a b = true := by
  simp only [fix_Floor_ii_c0, (small2 a b).1, (small2 a b).2, tb_eq, cond_true]
  cases sm a && sm b
  · rfl
  · by_cases h : b < 1
    · simp [h]
    · have : ((b : Int) == 0) = false := by simp; omega
      simp [h, this]
theorem fFloor_r (a b : Int) : fix_Floor_ii_r0_0 a b = flo a b := by
  simp only [fix_Floor_ii_r0_0, (small2 a b).2, tb_eq, flo]
  cases h1 : sm a <;> cases h2 : sm b <;> simp
  rw [sm_iff] at h1 h2
  by_cases hb : b < 1
  · have : ¬ (1 ≤ b) := by omega
    simp [hb, this]
  · have hb1 : 1 ≤ b := by omega
    have hf : a.fdiv b = a / b := Int.fdiv_eq_ediv_of_nonneg _ (by omega)
    have hdm := Int.mul_tdiv_add_tmod a b
    have q1 : -1099511627776 ≤ a.tdiv b ∧ a.tdiv b ≤ 1099511627776 := by
      by_cases ha : 0 ≤ a
      · rw [Int.tdiv_eq_ediv_of_nonneg ha]
        have := Int.ediv_nonneg ha (show 0 ≤ b by omega)
        have := Int.ediv_le_self b ha
        omega
      · have e : a.tdiv b = -((-a).tdiv b) := by rw [Int.neg_tdiv]; omega
        rw [e, Int.tdiv_eq_ediv_of_nonneg (show 0 ≤ -a by omega)]
        have := Int.ediv_nonneg (show 0 ≤ -a by omega) (show 0 ≤ b by omega)
        have := Int.ediv_le_self b (show 0 ≤ -a by omega)
        omega
    have e : quoI .i64 a b = a.tdiv b := by unfold quoI; exact wrap64 (by omega) (by omega)
    have w : wi (a.tdiv b - 1) = a.tdiv b - 1 := wi_eq (by omega) (by omega)
    have hm1 : a.tmod b < b := Int.tmod_lt_of_pos a (by omega)
    have hm2 : -b < a.tmod b := by
      have := Int.lt_tmod_of_pos a (show 0 < b by omega); omega
    simp only [hb, hb1, decide_false, cond_false, if_true, e, remI, w, hf]
    by_cases hneg : a.tmod b < 0
    · have : a / b = a.tdiv b - 1 := ediv_is (r := a.tmod b + b) (by omega) (by rw [Int.sub_mul, Int.mul_comm (a.tdiv b)]; omega) (by omega) (by omega)
      simp [hneg, this]
    · have : a / b = a.tdiv b := ediv_is (r := a.tmod b) (by omega) (by rw [Int.mul_comm (a.tdiv b)]; omega) (by omega) (by omega)
      simp [hneg, this]
end Go.Proofs.Ytdjmfcdopaejcaa.Den

namespace Go.Proofs.Ytdjmfcdopaejcaa.Den
open Go Go.Proofs
set_option maxRecDepth 100000
set_option maxHeartbeats 4000000
set_option linter.unusedVariables false
set_option linter.unusedSimpArgs false
structure ref02_Ints_oo_L0_s0 where
  c4 : Int
  deriving Inhabited
structure ref02_Sort_o_L2_s0 where
  c4 : Bool
  c5 : Bool
  c6 : Int
  c10 : List Int
  deriving Inhabited
structure ref02_Sort_o_L2_1_s0 where
  c4 : Bool
  c5 : Bool
  c6 : Int
  c12 : List Int
  deriving Inhabited
structure ref02_Sort_o_L3_s0 where mk ::
  deriving Inhabited
structure ref02_Sort_o_L3_s1 where
  c2 : Bool
  c3 : Int
  c7 : List Int
  deriving Inhabited
inductive ref02_Sort_o_L3_S where
  | h0 (v : ref02_Sort_o_L3_s0)
  | h1 (v : ref02_Sort_o_L3_s1)
  deriving Inhabited
end Go.Proofs.Ytdjmfcdopaejcaa.Den

namespace Go.Proofs.Ytdjmfcdopaejcaa.Den
open Go
set_option linter.unusedVariables false
set_option linter.unusedSimpArgs false
end Go.Proofs.Ytdjmfcdopaejcaa.Den

namespace Go.Proofs.Ytdjmfcdopaejcaa.Den
open Go Go.Proofs
set_option maxRecDepth 100000
set_option maxHeartbeats 4000000
set_option linter.unusedVariables false
set_option linter.unusedSimpArgs false
def vote_right_i_r0_0 (x0 : Int) : Bool := (bif tb (decide ((-2147483648) ≤ x0)) then (decide (x0 ≤ 2147483647)) else false)
theorem vote_right_i_t0 (x0 : Int) : cl E0 58 [(V.d (.int .i64 x0))] [] = some ([(V.d (.bool (vote_right_i_r0_0 x0)))], []) := by
  unfold vote_right_i_r0_0
  cases h1 : tb (decide ((-2147483648) ≤ x0))
  · exact w58 [.b (tbE h1)] (by kernel_rfl)
  · exact w58 [.b (tbE h1)] (by kernel_rfl)
def vote_Right_ai3_r0_0 (x0 : Int) (x1 : Int) (x2 : Int) : Bool := (bif tb (vote_right_i_r0_0 x0) then (bif tb (vote_right_i_r0_0 x1) then (bif tb (decide (x0 ≤ x1)) then (bif tb (decide (0 ≤ x2)) then (vote_right_i_r0_0 x2) else false) else false) else false) else false)
theorem vote_Right_ai3_t0 (x0 : Int) (x1 : Int) (x2 : Int) : cl E0 45 [(V.agg [(V.d (.int .i64 x0)), (V.d (.int .i64 x1)), (V.d (.int .i64 x2))])] [] = some ([(V.d (.bool (vote_Right_ai3_r0_0 x0 x1 x2)))], []) := by
  unfold vote_Right_ai3_r0_0
  cases h1 : tb (vote_right_i_r0_0 x0)
  · exact w45 [.c (vote_right_i_t0 x0), .b (tbE h1)] (by kernel_rfl)
  · cases h2 : tb (vote_right_i_r0_0 x1)
    · exact w45 [.c (vote_right_i_t0 x0), .b (tbE h1), .c (vote_right_i_t0 x1), .b (tbE h2)] (by kernel_rfl)
    · cases h3 : tb (decide (x0 ≤ x1))
      · exact w45 [.c (vote_right_i_t0 x0), .b (tbE h1), .c (vote_right_i_t0 x1), .b (tbE h2), .b (tbE h3)] (by kernel_rfl)
      · cases h4 : tb (decide (0 ≤ x2))
        · exact w45 [.c (vote_right_i_t0 x0), .b (tbE h1), .c (vote_right_i_t0 x1), .b (tbE h2), .b (tbE h3), .b (tbE h4)] (by kernel_rfl)
        · exact w45 [.c (vote_right_i_t0 x0), .b (tbE h1), .c (vote_right_i_t0 x1), .b (tbE h2), .b (tbE h3), .b (tbE h4), .c (vote_right_i_t0 x2)] (by kernel_rfl)
theorem vote_ones_oo_t0 (x0 : Bool) (x1 : List Int) (x2 : Bool) (x3 : List Int) : cl E0 53 [(V.d (slD (encI .i64) true 1 x0 x1)), (V.d (slD (encI .i64) true 1 x2 x3))] [] = some ([(V.fn (.func 62) [] [(V.ptr 0 1 0 0), (V.ptr 1 1 0 0)])], [(Blk.gen 26 1 [[(V.d (slD (encI .i64) true 1 x0 x1))]] false), (Blk.gen 26 1 [[(V.d (slD (encI .i64) true 1 x2 x3))]] false)]) := by
  exact w53 [] (by kernel_rfl)
def vote_Vote_Y1_ai2_Y43_1p6Fi3FiFbFiFiFi_e0 (x2 : Int) (x5 : Int) (x15 : Int) (x16 : Int) : Int := wi (x16 * (fix_Clamp_iii_r0_0 x15 (wi (x5 - x2)) (wi (x5 + x2))))
def vote_Vote_Y1_ai2_Y43_1p6Fi3FiFbFiFiFi_e1 (x2 : Int) (x5 : Int) (x6 : Int) (x15 : Int) (x16 : Int) : Int := wi (x6 + (vote_Vote_Y1_ai2_Y43_1p6Fi3FiFbFiFiFi_e0 x2 x5 x15 x16))
def vote_Vote_Y1_ai2_Y43_1p6Fi3FiFbFiFiFi_c0 (x15 : Int) (x16 : Int) : Bool := (bif tb (decide (x15 < (-4294967296))) then true else (bif tb (decide (4294967296 < x15)) then true else (bif tb (decide (x16 < 1)) then true else (bif tb (decide (16 < x16)) then true else false))))
def vote_Vote_Y1_ai2_Y43_1p6Fi3FiFbFiFiFi_c1 (x2 : Int) (x5 : Int) (x15 : Int) (x16 : Int) : Bool := (bif tb (decide (x15 < (-4294967296))) then false else (bif tb (decide (4294967296 < x15)) then false else (bif tb (decide (x16 < 1)) then false else (bif tb (decide (16 < x16)) then false else (bif tb (fix_Clamp_iii_c0 x15 (wi (x5 - x2)) (wi (x5 + x2))) then true else false)))))
theorem vote_Vote_Y1_ai2_Y43_1p6Fi3FiFbFiFiFi_t0 (x0 : Int) (x1 : Int) (x2 : Int) (x3 : Int) (x4 : Bool) (x5 : Int) (x6 : Int) (x7 : Int) (x9 : Bool) (x12 : Bool) (x15 : Int) (x16 : Int) : vote_Vote_Y1_ai2_Y43_1p6Fi3FiFbFiFiFi_c0 x15 x16 = true → cl E0 yfn [(V.yl 0), (V.agg [(V.d (.int .i64 x15)), (V.d (.int .i64 x16))])] [(Blk.loop .ready none [V.un, V.un, V.un, (V.ptr 1 1 0 0), V.un, V.un, (V.ptr 2 1 0 0), (V.ptr 3 1 0 0), (V.ptr 4 1 0 0), V.un, (V.ptr 5 1 0 0), (V.ptr 6 1 0 0), V.un, V.un, V.un, V.un, V.un, V.un, V.un, V.un, V.un, V.un, V.un, V.un, V.un, V.un, V.un, V.un, V.un, V.un, V.un, V.un, V.un, V.un, V.un, V.un, V.un, V.un, V.un, V.un, V.un, V.un, V.un, V.un, V.un, V.un, V.un, V.un, V.un, V.un, V.un, V.un, V.un, V.un, V.un, V.un, V.un, V.un, V.un, V.un, V.un, V.un, V.un, V.un, V.un, V.un, V.un, V.un, V.un, V.un, V.un, V.un, V.un, V.un, V.un, V.un, V.un, V.un, V.un, V.un, V.un, V.un] [35] L43_0 L43_1 false), (Blk.flat 65 3 [[(.int .i64 x0), (.int .i64 x1), (.int .i64 x2)]] x9), (Blk.flat 3 1 [[(.int .i64 x3)]] false), (Blk.flat 4 1 [[(.bool x4)]] false), (Blk.flat 3 1 [[(.int .i64 x5)]] x12), (Blk.flat 3 1 [[(.int .i64 x6)]] false), (Blk.flat 3 1 [[(.int .i64 x7)]] false)] = some ([(V.d (.bool false))], [(Blk.loop .done (some .ret) [V.un, V.un, V.un, (V.ptr 1 1 0 0), V.un, V.un, (V.ptr 2 1 0 0), (V.ptr 3 1 0 0), (V.ptr 4 1 0 0), V.un, (V.ptr 5 1 0 0), (V.ptr 6 1 0 0), V.un, V.un, V.un, V.un, V.un, V.un, V.un, V.un, V.un, V.un, V.un, V.un, V.un, V.un, V.un, V.un, V.un, V.un, V.un, V.un, V.un, V.un, V.un, V.un, V.un, V.un, V.un, V.un, V.un, V.un, V.un, V.un, V.un, V.un, V.un, V.un, V.un, V.un, V.un, V.un, V.un, V.un, V.un, V.un, V.un, V.un, V.un, V.un, V.un, V.un, V.un, V.un, V.un, V.un, V.un, V.un, V.un, V.un, V.un, V.un, V.un, V.un, V.un, V.un, V.un, V.un, V.un, V.un, V.un, V.un] [35] L43_0 L43_1 false), (Blk.flat 65 3 [[(.int .i64 x0), (.int .i64 x1), (.int .i64 x2)]] x9), (Blk.flat 3 1 [[(.int .i64 0)]] false), (Blk.flat 4 1 [[(.bool false)]] false), (Blk.flat 3 1 [[(.int .i64 x5)]] x12), (Blk.flat 3 1 [[(.int .i64 x6)]] false), (Blk.flat 3 1 [[(.int .i64 x7)]] false)]) := by
  unfold vote_Vote_Y1_ai2_Y43_1p6Fi3FiFbFiFiFi_c0
  cases h1 : tb (decide (x15 < (-4294967296)))
  · cases h2 : tb (decide (4294967296 < x15))
    · cases h3 : tb (decide (x16 < 1))
      · cases h4 : tb (decide (16 < x16))
        · cases h5 : tb (fix_Clamp_iii_c0 x15 (wi (x5 - x2)) (wi (x5 + x2)))
          · intro g0
            exact absurd g0 ft
          · intro g0
            exact absurd g0 ft
        · intro g0
          exact round_yield [.b (tbE h1), .b (tbE h2), .b (tbE h3), .b (tbE h4)] (by kernel_rfl)
      · intro g0
        exact round_yield [.b (tbE h1), .b (tbE h2), .b (tbE h3)] (by kernel_rfl)
    · intro g0
      exact round_yield [.b (tbE h1), .b (tbE h2)] (by kernel_rfl)
  · intro g0
    exact round_yield [.b (tbE h1)] (by kernel_rfl)
theorem vote_Vote_Y1_ai2_Y43_1p6Fi3FiFbFiFiFi_t1 (x0 : Int) (x1 : Int) (x2 : Int) (x3 : Int) (x4 : Bool) (x5 : Int) (x6 : Int) (x7 : Int) (x9 : Bool) (x12 : Bool) (x15 : Int) (x16 : Int) : vote_Vote_Y1_ai2_Y43_1p6Fi3FiFbFiFiFi_c0 x15 x16 = false → vote_Vote_Y1_ai2_Y43_1p6Fi3FiFbFiFiFi_c1 x2 x5 x15 x16 = true → cl E0 yfn [(V.yl 0), (V.agg [(V.d (.int .i64 x15)), (V.d (.int .i64 x16))])] [(Blk.loop .ready none [V.un, V.un, V.un, (V.ptr 1 1 0 0), V.un, V.un, (V.ptr 2 1 0 0), (V.ptr 3 1 0 0), (V.ptr 4 1 0 0), V.un, (V.ptr 5 1 0 0), (V.ptr 6 1 0 0), V.un, V.un, V.un, V.un, V.un, V.un, V.un, V.un, V.un, V.un, V.un, V.un, V.un, V.un, V.un, V.un, V.un, V.un, V.un, V.un, V.un, V.un, V.un, V.un, V.un, V.un, V.un, V.un, V.un, V.un, V.un, V.un, V.un, V.un, V.un, V.un, V.un, V.un, V.un, V.un, V.un, V.un, V.un, V.un, V.un, V.un, V.un, V.un, V.un, V.un, V.un, V.un, V.un, V.un, V.un, V.un, V.un, V.un, V.un, V.un, V.un, V.un, V.un, V.un, V.un, V.un, V.un, V.un, V.un, V.un] [35] L43_0 L43_1 false), (Blk.flat 65 3 [[(.int .i64 x0), (.int .i64 x1), (.int .i64 x2)]] x9), (Blk.flat 3 1 [[(.int .i64 x3)]] false), (Blk.flat 4 1 [[(.bool x4)]] false), (Blk.flat 3 1 [[(.int .i64 x5)]] x12), (Blk.flat 3 1 [[(.int .i64 x6)]] false), (Blk.flat 3 1 [[(.int .i64 x7)]] false)] = some ([(V.d (.bool true))], [(Blk.loop .ready none [V.un, V.un, V.un, (V.ptr 1 1 0 0), V.un, V.un, (V.ptr 2 1 0 0), (V.ptr 3 1 0 0), (V.ptr 4 1 0 0), V.un, (V.ptr 5 1 0 0), (V.ptr 6 1 0 0), V.un, V.un, V.un, V.un, V.un, V.un, V.un, V.un, V.un, V.un, V.un, V.un, V.un, V.un, V.un, V.un, V.un, V.un, V.un, V.un, V.un, V.un, V.un, V.un, V.un, V.un, V.un, V.un, V.un, V.un, V.un, V.un, V.un, V.un, V.un, V.un, V.un, V.un, V.un, V.un, V.un, V.un, V.un, V.un, V.un, V.un, V.un, V.un, V.un, V.un, V.un, V.un, V.un, V.un, V.un, V.un, V.un, V.un, V.un, V.un, V.un, V.un, V.un, V.un, V.un, V.un, V.un, V.un, V.un, V.un] [35] L43_0 L43_1 false), (Blk.flat 65 3 [[(.int .i64 x0), (.int .i64 x1), (.int .i64 x2)]] x9), (Blk.flat 3 1 [[(.int .i64 x3)]] false), (Blk.flat 4 1 [[(.bool x4)]] false), (Blk.flat 3 1 [[(.int .i64 x5)]] x12), (Blk.flat 3 1 [[(.int .i64 (vote_Vote_Y1_ai2_Y43_1p6Fi3FiFbFiFiFi_e1 x2 x5 x6 x15 x16))]] false), (Blk.flat 3 1 [[(.int .i64 (wi (x7 + x16)))]] false)]) := by
  unfold vote_Vote_Y1_ai2_Y43_1p6Fi3FiFbFiFiFi_c0 vote_Vote_Y1_ai2_Y43_1p6Fi3FiFbFiFiFi_c1
  cases h1 : tb (decide (x15 < (-4294967296)))
  · cases h2 : tb (decide (4294967296 < x15))
    · cases h3 : tb (decide (x16 < 1))
      · cases h4 : tb (decide (16 < x16))
        · cases h5 : tb (fix_Clamp_iii_c0 x15 (wi (x5 - x2)) (wi (x5 + x2)))
          · intro g0 g1
            exact absurd g1 ft
          · intro g0 g1
            exact round_yield [.b (tbE h1), .b (tbE h2), .b (tbE h3), .b (tbE h4), .c (fix_Clamp_iii_t0 x15 (wi (x5 - x2)) (wi (x5 + x2)) (tbE h5))] (by kernel_rfl)
        · intro g0 g1
          exact absurd g0 tf
      · intro g0 g1
        exact absurd g0 tf
    · intro g0 g1
      exact absurd g0 tf
  · intro g0 g1
    exact absurd g0 tf
structure vote_ones_c1_ypp_Y43_1p6Fi3FiFbFiFiFiGoGo_L0_s0 where
  c1 : Int
  c13 : Int
  c15 : Int
  deriving Inhabited
def vote_ones_c1_ypp_Y43_1p6Fi3FiFbFiFiFiGoGo_L0_enc (x0 : Int) (x1 : Int) (x2 : Int) (x3 : Int) (x4 : Bool) (x5 : Int) (x6 : Int) (x7 : Int) (x8 : Bool) (x9 : Bool) (x10 : Bool) (x11 : Bool) (x12 : Bool) (x13 : Bool) (x14 : Bool) (x15 : Bool) (x16 : List Int) (x17 : Bool) (x18 : Bool) (x19 : List Int) (x20 : Bool) (x21 : Int) (x22 : Int) (s0 : vote_ones_c1_ypp_Y43_1p6Fi3FiFbFiFiFiGoGo_L0_s0) : List V × Mem := ([(V.yl 0), (V.ptr 7 1 0 0), (V.ptr 8 1 0 0), (V.d (.int .i64 x21)), (V.d (.int .i64 s0.c1))], [(Blk.loop .ready none [V.un, V.un, V.un, (V.ptr 1 1 0 0), V.un, V.un, (V.ptr 2 1 0 0), (V.ptr 3 1 0 0), (V.ptr 4 1 0 0), V.un, (V.ptr 5 1 0 0), (V.ptr 6 1 0 0), V.un, V.un, V.un, V.un, V.un, V.un, V.un, V.un, V.un, V.un, V.un, V.un, V.un, V.un, V.un, V.un, V.un, V.un, V.un, V.un, V.un, V.un, V.un, V.un, V.un, V.un, V.un, V.un, V.un, V.un, V.un, V.un, V.un, V.un, V.un, V.un, V.un, V.un, V.un, V.un, V.un, V.un, V.un, V.un, V.un, V.un, V.un, V.un, V.un, V.un, V.un, V.un, V.un, V.un, V.un, V.un, V.un, V.un, V.un, V.un, V.un, V.un, V.un, V.un, V.un, V.un, V.un, V.un, V.un, V.un] [35] L43_0 L43_1 false), (Blk.flat 65 3 [[(.int .i64 x0), (.int .i64 x1), (.int .i64 x2)]] x9), (Blk.flat 3 1 [[(.int .i64 x3)]] false), (Blk.flat 4 1 [[(.bool x4)]] false), (Blk.flat 3 1 [[(.int .i64 x5)]] x12), (Blk.flat 3 1 [[(.int .i64 s0.c13)]] false), (Blk.flat 3 1 [[(.int .i64 s0.c15)]] false), (Blk.gen 26 1 [[(V.d (slD (encI .i64) true 1 x15 x16))]] x17), (Blk.gen 26 1 [[(V.d (slD (encI .i64) true 1 x18 x19))]] x20)])
def vote_ones_c1_ypp_Y43_1p6Fi3FiFbFiFiFiGoGo_L0_sel (x2 : Int) (x5 : Int) (x16 : List Int) (x19 : List Int) (x21 : Int) (s0 : vote_ones_c1_ypp_Y43_1p6Fi3FiFbFiFiFiGoGo_L0_s0) : Bool := (bif tb (decide (s0.c1 < x21)) then (bif tb (inb x16.length s0.c1) then (bif tb (inb x19.length s0.c1) then (bif tb (vote_Vote_Y1_ai2_Y43_1p6Fi3FiFbFiFiFi_c0 (gt x16 s0.c1) (gt x19 s0.c1)) then false else (bif tb (vote_Vote_Y1_ai2_Y43_1p6Fi3FiFbFiFiFi_c1 x2 x5 (gt x16 s0.c1) (gt x19 s0.c1)) then true else false)) else false) else false) else false)
def vote_ones_c1_ypp_Y43_1p6Fi3FiFbFiFiFiGoGo_L0_nx (x2 : Int) (x5 : Int) (x16 : List Int) (x19 : List Int) (x21 : Int) (s0 : vote_ones_c1_ypp_Y43_1p6Fi3FiFbFiFiFiGoGo_L0_s0) : vote_ones_c1_ypp_Y43_1p6Fi3FiFbFiFiFiGoGo_L0_s0 := ⟨(wi (s0.c1 + 1)), (vote_Vote_Y1_ai2_Y43_1p6Fi3FiFbFiFiFi_e1 x2 x5 s0.c13 (gt x16 s0.c1) (gt x19 s0.c1)), (wi (s0.c15 + (gt x19 s0.c1)))⟩
def vote_ones_c1_ypp_Y43_1p6Fi3FiFbFiFiFiGoGo_L0_ok (x2 : Int) (x5 : Int) (x16 : List Int) (x19 : List Int) (x21 : Int) (s0 : vote_ones_c1_ypp_Y43_1p6Fi3FiFbFiFiFiGoGo_L0_s0) : Bool := (itS (vote_ones_c1_ypp_Y43_1p6Fi3FiFbFiFiFiGoGo_L0_sel x2 x5 x16 x19 x21) (vote_ones_c1_ypp_Y43_1p6Fi3FiFbFiFiFiGoGo_L0_nx x2 x5 x16 x19 x21) bound s0).isSome
def vote_ones_c1_ypp_Y43_1p6Fi3FiFbFiFiFiGoGo_L0_end (x2 : Int) (x5 : Int) (x16 : List Int) (x19 : List Int) (x21 : Int) (s0 : vote_ones_c1_ypp_Y43_1p6Fi3FiFbFiFiFiGoGo_L0_s0) : vote_ones_c1_ypp_Y43_1p6Fi3FiFbFiFiFiGoGo_L0_s0 := (itS (vote_ones_c1_ypp_Y43_1p6Fi3FiFbFiFiFiGoGo_L0_sel x2 x5 x16 x19 x21) (vote_ones_c1_ypp_Y43_1p6Fi3FiFbFiFiFiGoGo_L0_nx x2 x5 x16 x19 x21) bound s0).getD default
theorem vote_ones_c1_ypp_Y43_1p6Fi3FiFbFiFiFiGoGo_L0_go (x0 : Int) (x1 : Int) (x2 : Int) (x3 : Int) (x4 : Bool) (x5 : Int) (x6 : Int) (x7 : Int) (x8 : Bool) (x9 : Bool) (x10 : Bool) (x11 : Bool) (x12 : Bool) (x13 : Bool) (x14 : Bool) (x15 : Bool) (x16 : List Int) (x17 : Bool) (x18 : Bool) (x19 : List Int) (x20 : Bool) (x21 : Int) (x22 : Int) (s0 : vote_ones_c1_ypp_Y43_1p6Fi3FiFbFiFiFiGoGo_L0_s0) : vote_ones_c1_ypp_Y43_1p6Fi3FiFbFiFiFiGoGo_L0_sel x2 x5 x16 x19 x21 s0 = true → (roundG (runC E0 (cl E0) L62_0) [0, 1, 2, 6, 7] [] 9) (vote_ones_c1_ypp_Y43_1p6Fi3FiFbFiFiFiGoGo_L0_enc x0 x1 x2 x3 x4 x5 x6 x7 x8 x9 x10 x11 x12 x13 x14 x15 x16 x17 x18 x19 x20 x21 x22 s0) = some (.normal, vote_ones_c1_ypp_Y43_1p6Fi3FiFbFiFiFiGoGo_L0_enc x0 x1 x2 x3 x4 x5 x6 x7 x8 x9 x10 x11 x12 x13 x14 x15 x16 x17 x18 x19 x20 x21 x22 (vote_ones_c1_ypp_Y43_1p6Fi3FiFbFiFiFiGoGo_L0_nx x2 x5 x16 x19 x21 s0)) := by
  unfold vote_ones_c1_ypp_Y43_1p6Fi3FiFbFiFiFiGoGo_L0_sel vote_ones_c1_ypp_Y43_1p6Fi3FiFbFiFiFiGoGo_L0_nx
  cases h1 : tb (decide (s0.c1 < x21))
  · intro g0
    exact absurd g0 ft
  · cases h2 : tb (inb x16.length s0.c1)
    · intro g0
      exact absurd g0 ft
    · cases h3 : tb (inb x19.length s0.c1)
      · intro g0
        exact absurd g0 ft
      · cases h4 : tb (vote_Vote_Y1_ai2_Y43_1p6Fi3FiFbFiFiFi_c0 (gt x16 s0.c1) (gt x19 s0.c1))
        · cases h5 : tb (vote_Vote_Y1_ai2_Y43_1p6Fi3FiFbFiFiFi_c1 x2 x5 (gt x16 s0.c1) (gt x19 s0.c1))
          · intro g0
            exact absurd g0 ft
          · intro _
            exact round_walk [.b (tbE h1), .o 13 (fun _ => o_idx_os (enc := (encI .i64)) (l := x16) (fl := true) (n := x15) (s := 1) (k := .i64) (tbE h2)), .o 17 (fun _ => o_idx_os (enc := (encI .i64)) (l := x19) (fl := true) (n := x18) (s := 1) (k := .i64) (tbE h3)), .c (vote_Vote_Y1_ai2_Y43_1p6Fi3FiFbFiFiFi_t1 x0 x1 x2 x3 x4 x5 s0.c13 s0.c15 x9 x12 (gt x16 s0.c1) (gt x19 s0.c1) (tbE h4) (tbE h5)), .k false] (by kernel_rfl)
        · intro g0
          exact absurd g0 ft
def vote_ones_c1_ypp_Y43_1p6Fi3FiFbFiFiFiGoGo_L0_c0 (x16 : List Int) (x19 : List Int) (x21 : Int) (s0 : vote_ones_c1_ypp_Y43_1p6Fi3FiFbFiFiFiGoGo_L0_s0) : Bool := (bif tb (decide (s0.c1 < x21)) then (bif tb (inb x16.length s0.c1) then (bif tb (inb x19.length s0.c1) then (bif tb (vote_Vote_Y1_ai2_Y43_1p6Fi3FiFbFiFiFi_c0 (gt x16 s0.c1) (gt x19 s0.c1)) then true else false) else false) else false) else false)
def vote_ones_c1_ypp_Y43_1p6Fi3FiFbFiFiFiGoGo_L0_c1 (x21 : Int) (s0 : vote_ones_c1_ypp_Y43_1p6Fi3FiFbFiFiFiGoGo_L0_s0) : Bool := (bif tb (decide (s0.c1 < x21)) then false else true)
theorem vote_ones_c1_ypp_Y43_1p6Fi3FiFbFiFiFiGoGo_L0_x0 (x0 : Int) (x1 : Int) (x2 : Int) (x3 : Int) (x4 : Bool) (x5 : Int) (x6 : Int) (x7 : Int) (x8 : Bool) (x9 : Bool) (x10 : Bool) (x11 : Bool) (x12 : Bool) (x13 : Bool) (x14 : Bool) (x15 : Bool) (x16 : List Int) (x17 : Bool) (x18 : Bool) (x19 : List Int) (x20 : Bool) (x21 : Int) (x22 : Int) (s0 : vote_ones_c1_ypp_Y43_1p6Fi3FiFbFiFiFiGoGo_L0_s0) : vote_ones_c1_ypp_Y43_1p6Fi3FiFbFiFiFiGoGo_L0_sel x2 x5 x16 x19 x21 s0 = false → vote_ones_c1_ypp_Y43_1p6Fi3FiFbFiFiFiGoGo_L0_c0 x16 x19 x21 s0 = true → (roundG (runC E0 (cl E0) L62_0) [0, 1, 2, 6, 7] [] 9) (vote_ones_c1_ypp_Y43_1p6Fi3FiFbFiFiFiGoGo_L0_enc x0 x1 x2 x3 x4 x5 x6 x7 x8 x9 x10 x11 x12 x13 x14 x15 x16 x17 x18 x19 x20 x21 x22 s0) = some (.ret, ([], [(Blk.loop .done (some .ret) [V.un, V.un, V.un, (V.ptr 1 1 0 0), V.un, V.un, (V.ptr 2 1 0 0), (V.ptr 3 1 0 0), (V.ptr 4 1 0 0), V.un, (V.ptr 5 1 0 0), (V.ptr 6 1 0 0), V.un, V.un, V.un, V.un, V.un, V.un, V.un, V.un, V.un, V.un, V.un, V.un, V.un, V.un, V.un, V.un, V.un, V.un, V.un, V.un, V.un, V.un, V.un, V.un, V.un, V.un, V.un, V.un, V.un, V.un, V.un, V.un, V.un, V.un, V.un, V.un, V.un, V.un, V.un, V.un, V.un, V.un, V.un, V.un, V.un, V.un, V.un, V.un, V.un, V.un, V.un, V.un, V.un, V.un, V.un, V.un, V.un, V.un, V.un, V.un, V.un, V.un, V.un, V.un, V.un, V.un, V.un, V.un, V.un, V.un] [35] L43_0 L43_1 false), (Blk.flat 65 3 [[(.int .i64 x0), (.int .i64 x1), (.int .i64 x2)]] x9), (Blk.flat 3 1 [[(.int .i64 0)]] false), (Blk.flat 4 1 [[(.bool false)]] false), (Blk.flat 3 1 [[(.int .i64 x5)]] x12), (Blk.flat 3 1 [[(.int .i64 s0.c13)]] false), (Blk.flat 3 1 [[(.int .i64 s0.c15)]] false), (Blk.gen 26 1 [[(V.d (slD (encI .i64) true 1 x15 x16))]] x17), (Blk.gen 26 1 [[(V.d (slD (encI .i64) true 1 x18 x19))]] x20)])) := by
  unfold vote_ones_c1_ypp_Y43_1p6Fi3FiFbFiFiFiGoGo_L0_sel vote_ones_c1_ypp_Y43_1p6Fi3FiFbFiFiFiGoGo_L0_c0
  cases h1 : tb (decide (s0.c1 < x21))
  · intro g0 g1
    exact absurd g1 ft
  · cases h2 : tb (inb x16.length s0.c1)
    · intro g0 g1
      exact absurd g1 ft
    · cases h3 : tb (inb x19.length s0.c1)
      · intro g0 g1
        exact absurd g1 ft
      · cases h4 : tb (vote_Vote_Y1_ai2_Y43_1p6Fi3FiFbFiFiFi_c0 (gt x16 s0.c1) (gt x19 s0.c1))
        · cases h5 : tb (vote_Vote_Y1_ai2_Y43_1p6Fi3FiFbFiFiFi_c1 x2 x5 (gt x16 s0.c1) (gt x19 s0.c1))
          · intro g0 g1
            exact absurd g1 ft
          · intro g0 g1
            exact absurd g0 tf
        · intro g0 g1
          exact round_walk [.b (tbE h1), .o 13 (fun _ => o_idx_os (enc := (encI .i64)) (l := x16) (fl := true) (n := x15) (s := 1) (k := .i64) (tbE h2)), .o 17 (fun _ => o_idx_os (enc := (encI .i64)) (l := x19) (fl := true) (n := x18) (s := 1) (k := .i64) (tbE h3)), .c (vote_Vote_Y1_ai2_Y43_1p6Fi3FiFbFiFiFi_t0 x0 x1 x2 x3 x4 x5 s0.c13 s0.c15 x9 x12 (gt x16 s0.c1) (gt x19 s0.c1) (tbE h4)), .k true] (by kernel_rfl)
theorem vote_ones_c1_ypp_Y43_1p6Fi3FiFbFiFiFiGoGo_L0_x1 (x0 : Int) (x1 : Int) (x2 : Int) (x3 : Int) (x4 : Bool) (x5 : Int) (x6 : Int) (x7 : Int) (x8 : Bool) (x9 : Bool) (x10 : Bool) (x11 : Bool) (x12 : Bool) (x13 : Bool) (x14 : Bool) (x15 : Bool) (x16 : List Int) (x17 : Bool) (x18 : Bool) (x19 : List Int) (x20 : Bool) (x21 : Int) (x22 : Int) (s0 : vote_ones_c1_ypp_Y43_1p6Fi3FiFbFiFiFiGoGo_L0_s0) : vote_ones_c1_ypp_Y43_1p6Fi3FiFbFiFiFiGoGo_L0_sel x2 x5 x16 x19 x21 s0 = false → vote_ones_c1_ypp_Y43_1p6Fi3FiFbFiFiFiGoGo_L0_c0 x16 x19 x21 s0 = false → vote_ones_c1_ypp_Y43_1p6Fi3FiFbFiFiFiGoGo_L0_c1 x21 s0 = true → (roundG (runC E0 (cl E0) L62_0) [0, 1, 2, 6, 7] [] 9) (vote_ones_c1_ypp_Y43_1p6Fi3FiFbFiFiFiGoGo_L0_enc x0 x1 x2 x3 x4 x5 x6 x7 x8 x9 x10 x11 x12 x13 x14 x15 x16 x17 x18 x19 x20 x21 x22 s0) = some ((.exit 0), ([], [(Blk.loop .ready none [V.un, V.un, V.un, (V.ptr 1 1 0 0), V.un, V.un, (V.ptr 2 1 0 0), (V.ptr 3 1 0 0), (V.ptr 4 1 0 0), V.un, (V.ptr 5 1 0 0), (V.ptr 6 1 0 0), V.un, V.un, V.un, V.un, V.un, V.un, V.un, V.un, V.un, V.un, V.un, V.un, V.un, V.un, V.un, V.un, V.un, V.un, V.un, V.un, V.un, V.un, V.un, V.un, V.un, V.un, V.un, V.un, V.un, V.un, V.un, V.un, V.un, V.un, V.un, V.un, V.un, V.un, V.un, V.un, V.un, V.un, V.un, V.un, V.un, V.un, V.un, V.un, V.un, V.un, V.un, V.un, V.un, V.un, V.un, V.un, V.un, V.un, V.un, V.un, V.un, V.un, V.un, V.un, V.un, V.un, V.un, V.un, V.un, V.un] [35] L43_0 L43_1 false), (Blk.flat 65 3 [[(.int .i64 x0), (.int .i64 x1), (.int .i64 x2)]] x9), (Blk.flat 3 1 [[(.int .i64 x3)]] false), (Blk.flat 4 1 [[(.bool x4)]] false), (Blk.flat 3 1 [[(.int .i64 x5)]] x12), (Blk.flat 3 1 [[(.int .i64 s0.c13)]] false), (Blk.flat 3 1 [[(.int .i64 s0.c15)]] false), (Blk.gen 26 1 [[(V.d (slD (encI .i64) true 1 x15 x16))]] x17), (Blk.gen 26 1 [[(V.d (slD (encI .i64) true 1 x18 x19))]] x20)])) := by
  unfold vote_ones_c1_ypp_Y43_1p6Fi3FiFbFiFiFiGoGo_L0_sel vote_ones_c1_ypp_Y43_1p6Fi3FiFbFiFiFiGoGo_L0_c0 vote_ones_c1_ypp_Y43_1p6Fi3FiFbFiFiFiGoGo_L0_c1
  cases h1 : tb (decide (s0.c1 < x21))
  · intro g0 g1 g2
    exact round_walk [.b (tbE h1)] (by kernel_rfl)
  · cases h2 : tb (inb x16.length s0.c1)
    · intro g0 g1 g2
      exact absurd g2 ft
    · cases h3 : tb (inb x19.length s0.c1)
      · intro g0 g1 g2
        exact absurd g2 ft
      · cases h4 : tb (vote_Vote_Y1_ai2_Y43_1p6Fi3FiFbFiFiFi_c0 (gt x16 s0.c1) (gt x19 s0.c1))
        · cases h5 : tb (vote_Vote_Y1_ai2_Y43_1p6Fi3FiFbFiFiFi_c1 x2 x5 (gt x16 s0.c1) (gt x19 s0.c1))
          · intro g0 g1 g2
            exact absurd g2 ft
          · intro g0 g1 g2
            exact absurd g0 tf
        · intro g0 g1 g2
          exact absurd g1 tf
theorem vote_ones_c1_ypp_Y43_1p6Fi3FiFbFiFiFiGoGo_L0_f0_0 (x0 : Int) (x1 : Int) (x2 : Int) (x3 : Int) (x4 : Bool) (x5 : Int) (x6 : Int) (x7 : Int) (x8 : Bool) (x9 : Bool) (x10 : Bool) (x11 : Bool) (x12 : Bool) (x13 : Bool) (x14 : Bool) (x15 : Bool) (x16 : List Int) (x17 : Bool) (x18 : Bool) (x19 : List Int) (x20 : Bool) (x21 : Int) (x22 : Int) (s : vote_ones_c1_ypp_Y43_1p6Fi3FiFbFiFiFiGoGo_L0_s0) (hok : vote_ones_c1_ypp_Y43_1p6Fi3FiFbFiFiFiGoGo_L0_ok x2 x5 x16 x19 x21 s = true) (c0 : vote_ones_c1_ypp_Y43_1p6Fi3FiFbFiFiFiGoGo_L0_c0 x16 x19 x21 (vote_ones_c1_ypp_Y43_1p6Fi3FiFbFiFiFiGoGo_L0_end x2 x5 x16 x19 x21 s) = true) : loopG (roundG (runC E0 (cl E0) L62_0) [0, 1, 2, 6, 7] [] 9) bound (vote_ones_c1_ypp_Y43_1p6Fi3FiFbFiFiFiGoGo_L0_enc x0 x1 x2 x3 x4 x5 x6 x7 x8 x9 x10 x11 x12 x13 x14 x15 x16 x17 x18 x19 x20 x21 x22 s) = some (.ret, ([], [(Blk.loop .done (some .ret) [V.un, V.un, V.un, (V.ptr 1 1 0 0), V.un, V.un, (V.ptr 2 1 0 0), (V.ptr 3 1 0 0), (V.ptr 4 1 0 0), V.un, (V.ptr 5 1 0 0), (V.ptr 6 1 0 0), V.un, V.un, V.un, V.un, V.un, V.un, V.un, V.un, V.un, V.un, V.un, V.un, V.un, V.un, V.un, V.un, V.un, V.un, V.un, V.un, V.un, V.un, V.un, V.un, V.un, V.un, V.un, V.un, V.un, V.un, V.un, V.un, V.un, V.un, V.un, V.un, V.un, V.un, V.un, V.un, V.un, V.un, V.un, V.un, V.un, V.un, V.un, V.un, V.un, V.un, V.un, V.un, V.un, V.un, V.un, V.un, V.un, V.un, V.un, V.un, V.un, V.un, V.un, V.un, V.un, V.un, V.un, V.un, V.un, V.un] [35] L43_0 L43_1 false), (Blk.flat 65 3 [[(.int .i64 x0), (.int .i64 x1), (.int .i64 x2)]] x9), (Blk.flat 3 1 [[(.int .i64 0)]] false), (Blk.flat 4 1 [[(.bool false)]] false), (Blk.flat 3 1 [[(.int .i64 x5)]] x12), (Blk.flat 3 1 [[(.int .i64 ((vote_ones_c1_ypp_Y43_1p6Fi3FiFbFiFiFiGoGo_L0_end x2 x5 x16 x19 x21 s).c13))]] false), (Blk.flat 3 1 [[(.int .i64 ((vote_ones_c1_ypp_Y43_1p6Fi3FiFbFiFiFiGoGo_L0_end x2 x5 x16 x19 x21 s).c15))]] false), (Blk.gen 26 1 [[(V.d (slD (encI .i64) true 1 x15 x16))]] x17), (Blk.gen 26 1 [[(V.d (slD (encI .i64) true 1 x18 x19))]] x20)])) := by
  have e : itS (vote_ones_c1_ypp_Y43_1p6Fi3FiFbFiFiFiGoGo_L0_sel x2 x5 x16 x19 x21) (vote_ones_c1_ypp_Y43_1p6Fi3FiFbFiFiFiGoGo_L0_nx x2 x5 x16 x19 x21) bound s = some (vote_ones_c1_ypp_Y43_1p6Fi3FiFbFiFiFiGoGo_L0_end x2 x5 x16 x19 x21 s) := itS_get hok
  have f := itS_false e
  exact loop_it (vote_ones_c1_ypp_Y43_1p6Fi3FiFbFiFiFiGoGo_L0_go x0 x1 x2 x3 x4 x5 x6 x7 x8 x9 x10 x11 x12 x13 x14 x15 x16 x17 x18 x19 x20 x21 x22) bound s _ _ _ e (fun h => by cases h) (vote_ones_c1_ypp_Y43_1p6Fi3FiFbFiFiFiGoGo_L0_x0 x0 x1 x2 x3 x4 x5 x6 x7 x8 x9 x10 x11 x12 x13 x14 x15 x16 x17 x18 x19 x20 x21 x22 (vote_ones_c1_ypp_Y43_1p6Fi3FiFbFiFiFiGoGo_L0_end x2 x5 x16 x19 x21 s) f c0)
theorem vote_ones_c1_ypp_Y43_1p6Fi3FiFbFiFiFiGoGo_L0_f0_1 (x0 : Int) (x1 : Int) (x2 : Int) (x3 : Int) (x4 : Bool) (x5 : Int) (x6 : Int) (x7 : Int) (x8 : Bool) (x9 : Bool) (x10 : Bool) (x11 : Bool) (x12 : Bool) (x13 : Bool) (x14 : Bool) (x15 : Bool) (x16 : List Int) (x17 : Bool) (x18 : Bool) (x19 : List Int) (x20 : Bool) (x21 : Int) (x22 : Int) (s : vote_ones_c1_ypp_Y43_1p6Fi3FiFbFiFiFiGoGo_L0_s0) (hok : vote_ones_c1_ypp_Y43_1p6Fi3FiFbFiFiFiGoGo_L0_ok x2 x5 x16 x19 x21 s = true) (c0 : vote_ones_c1_ypp_Y43_1p6Fi3FiFbFiFiFiGoGo_L0_c0 x16 x19 x21 (vote_ones_c1_ypp_Y43_1p6Fi3FiFbFiFiFiGoGo_L0_end x2 x5 x16 x19 x21 s) = false) (c1 : vote_ones_c1_ypp_Y43_1p6Fi3FiFbFiFiFiGoGo_L0_c1 x21 (vote_ones_c1_ypp_Y43_1p6Fi3FiFbFiFiFiGoGo_L0_end x2 x5 x16 x19 x21 s) = true) : loopG (roundG (runC E0 (cl E0) L62_0) [0, 1, 2, 6, 7] [] 9) bound (vote_ones_c1_ypp_Y43_1p6Fi3FiFbFiFiFiGoGo_L0_enc x0 x1 x2 x3 x4 x5 x6 x7 x8 x9 x10 x11 x12 x13 x14 x15 x16 x17 x18 x19 x20 x21 x22 s) = some ((.exit 0), ([], [(Blk.loop .ready none [V.un, V.un, V.un, (V.ptr 1 1 0 0), V.un, V.un, (V.ptr 2 1 0 0), (V.ptr 3 1 0 0), (V.ptr 4 1 0 0), V.un, (V.ptr 5 1 0 0), (V.ptr 6 1 0 0), V.un, V.un, V.un, V.un, V.un, V.un, V.un, V.un, V.un, V.un, V.un, V.un, V.un, V.un, V.un, V.un, V.un, V.un, V.un, V.un, V.un, V.un, V.un, V.un, V.un, V.un, V.un, V.un, V.un, V.un, V.un, V.un, V.un, V.un, V.un, V.un, V.un, V.un, V.un, V.un, V.un, V.un, V.un, V.un, V.un, V.un, V.un, V.un, V.un, V.un, V.un, V.un, V.un, V.un, V.un, V.un, V.un, V.un, V.un, V.un, V.un, V.un, V.un, V.un, V.un, V.un, V.un, V.un, V.un, V.un] [35] L43_0 L43_1 false), (Blk.flat 65 3 [[(.int .i64 x0), (.int .i64 x1), (.int .i64 x2)]] x9), (Blk.flat 3 1 [[(.int .i64 x3)]] false), (Blk.flat 4 1 [[(.bool x4)]] false), (Blk.flat 3 1 [[(.int .i64 x5)]] x12), (Blk.flat 3 1 [[(.int .i64 ((vote_ones_c1_ypp_Y43_1p6Fi3FiFbFiFiFiGoGo_L0_end x2 x5 x16 x19 x21 s).c13))]] false), (Blk.flat 3 1 [[(.int .i64 ((vote_ones_c1_ypp_Y43_1p6Fi3FiFbFiFiFiGoGo_L0_end x2 x5 x16 x19 x21 s).c15))]] false), (Blk.gen 26 1 [[(V.d (slD (encI .i64) true 1 x15 x16))]] x17), (Blk.gen 26 1 [[(V.d (slD (encI .i64) true 1 x18 x19))]] x20)])) := by
  have e : itS (vote_ones_c1_ypp_Y43_1p6Fi3FiFbFiFiFiGoGo_L0_sel x2 x5 x16 x19 x21) (vote_ones_c1_ypp_Y43_1p6Fi3FiFbFiFiFiGoGo_L0_nx x2 x5 x16 x19 x21) bound s = some (vote_ones_c1_ypp_Y43_1p6Fi3FiFbFiFiFiGoGo_L0_end x2 x5 x16 x19 x21 s) := itS_get hok
  have f := itS_false e
  exact loop_it (vote_ones_c1_ypp_Y43_1p6Fi3FiFbFiFiFiGoGo_L0_go x0 x1 x2 x3 x4 x5 x6 x7 x8 x9 x10 x11 x12 x13 x14 x15 x16 x17 x18 x19 x20 x21 x22) bound s _ _ _ e (fun h => by cases h) (vote_ones_c1_ypp_Y43_1p6Fi3FiFbFiFiFiGoGo_L0_x1 x0 x1 x2 x3 x4 x5 x6 x7 x8 x9 x10 x11 x12 x13 x14 x15 x16 x17 x18 x19 x20 x21 x22 (vote_ones_c1_ypp_Y43_1p6Fi3FiFbFiFiFiGoGo_L0_end x2 x5 x16 x19 x21 s) f c0 c1)
def vote_ones_c1_ypp_Y43_1p6Fi3FiFbFiFiFiGoGo_e0 (x2 : Int) (x5 : Int) (x6 : Int) (x7 : Int) (x16 : List Int) (x19 : List Int) : vote_ones_c1_ypp_Y43_1p6Fi3FiFbFiFiFiGoGo_L0_s0 := vote_ones_c1_ypp_Y43_1p6Fi3FiFbFiFiFiGoGo_L0_end x2 x5 x16 x19 ((x16.length : Nat) : Int) (⟨0, x6, x7⟩ : vote_ones_c1_ypp_Y43_1p6Fi3FiFbFiFiFiGoGo_L0_s0)
def vote_ones_c1_ypp_Y43_1p6Fi3FiFbFiFiFiGoGo_c0 (x2 : Int) (x5 : Int) (x6 : Int) (x7 : Int) (x16 : List Int) (x19 : List Int) : Bool := (bif tb (vote_ones_c1_ypp_Y43_1p6Fi3FiFbFiFiFiGoGo_L0_ok x2 x5 x16 x19 ((x16.length : Nat) : Int) (⟨0, x6, x7⟩ : vote_ones_c1_ypp_Y43_1p6Fi3FiFbFiFiFiGoGo_L0_s0)) then (bif tb (vote_ones_c1_ypp_Y43_1p6Fi3FiFbFiFiFiGoGo_L0_c0 x16 x19 ((x16.length : Nat) : Int) (vote_ones_c1_ypp_Y43_1p6Fi3FiFbFiFiFiGoGo_e0 x2 x5 x6 x7 x16 x19)) then true else false) else false)
def vote_ones_c1_ypp_Y43_1p6Fi3FiFbFiFiFiGoGo_c1 (x2 : Int) (x5 : Int) (x6 : Int) (x7 : Int) (x16 : List Int) (x19 : List Int) : Bool := (bif tb (vote_ones_c1_ypp_Y43_1p6Fi3FiFbFiFiFiGoGo_L0_ok x2 x5 x16 x19 ((x16.length : Nat) : Int) (⟨0, x6, x7⟩ : vote_ones_c1_ypp_Y43_1p6Fi3FiFbFiFiFiGoGo_L0_s0)) then (bif tb (vote_ones_c1_ypp_Y43_1p6Fi3FiFbFiFiFiGoGo_L0_c0 x16 x19 ((x16.length : Nat) : Int) (vote_ones_c1_ypp_Y43_1p6Fi3FiFbFiFiFiGoGo_e0 x2 x5 x6 x7 x16 x19)) then false else (bif tb (vote_ones_c1_ypp_Y43_1p6Fi3FiFbFiFiFiGoGo_L0_c1 ((x16.length : Nat) : Int) (vote_ones_c1_ypp_Y43_1p6Fi3FiFbFiFiFiGoGo_e0 x2 x5 x6 x7 x16 x19)) then true else false)) else false)
theorem vote_ones_c1_ypp_Y43_1p6Fi3FiFbFiFiFiGoGo_t0 (x0 : Int) (x1 : Int) (x2 : Int) (x3 : Int) (x4 : Bool) (x5 : Int) (x6 : Int) (x7 : Int) (x9 : Bool) (x12 : Bool) (x15 : Bool) (x16 : List Int) (x17 : Bool) (x18 : Bool) (x19 : List Int) (x20 : Bool) : vote_ones_c1_ypp_Y43_1p6Fi3FiFbFiFiFiGoGo_c0 x2 x5 x6 x7 x16 x19 = true → cl E0 62 [(V.yl 0), (V.ptr 7 1 0 0), (V.ptr 8 1 0 0)] [(Blk.loop .ready none [V.un, V.un, V.un, (V.ptr 1 1 0 0), V.un, V.un, (V.ptr 2 1 0 0), (V.ptr 3 1 0 0), (V.ptr 4 1 0 0), V.un, (V.ptr 5 1 0 0), (V.ptr 6 1 0 0), V.un, V.un, V.un, V.un, V.un, V.un, V.un, V.un, V.un, V.un, V.un, V.un, V.un, V.un, V.un, V.un, V.un, V.un, V.un, V.un, V.un, V.un, V.un, V.un, V.un, V.un, V.un, V.un, V.un, V.un, V.un, V.un, V.un, V.un, V.un, V.un, V.un, V.un, V.un, V.un, V.un, V.un, V.un, V.un, V.un, V.un, V.un, V.un, V.un, V.un, V.un, V.un, V.un, V.un, V.un, V.un, V.un, V.un, V.un, V.un, V.un, V.un, V.un, V.un, V.un, V.un, V.un, V.un, V.un, V.un] [35] L43_0 L43_1 false), (Blk.flat 65 3 [[(.int .i64 x0), (.int .i64 x1), (.int .i64 x2)]] x9), (Blk.flat 3 1 [[(.int .i64 x3)]] false), (Blk.flat 4 1 [[(.bool x4)]] false), (Blk.flat 3 1 [[(.int .i64 x5)]] x12), (Blk.flat 3 1 [[(.int .i64 x6)]] false), (Blk.flat 3 1 [[(.int .i64 x7)]] false), (Blk.gen 26 1 [[(V.d (slD (encI .i64) true 1 x15 x16))]] x17), (Blk.gen 26 1 [[(V.d (slD (encI .i64) true 1 x18 x19))]] x20)] = some ([], [(Blk.loop .done (some .ret) [V.un, V.un, V.un, (V.ptr 1 1 0 0), V.un, V.un, (V.ptr 2 1 0 0), (V.ptr 3 1 0 0), (V.ptr 4 1 0 0), V.un, (V.ptr 5 1 0 0), (V.ptr 6 1 0 0), V.un, V.un, V.un, V.un, V.un, V.un, V.un, V.un, V.un, V.un, V.un, V.un, V.un, V.un, V.un, V.un, V.un, V.un, V.un, V.un, V.un, V.un, V.un, V.un, V.un, V.un, V.un, V.un, V.un, V.un, V.un, V.un, V.un, V.un, V.un, V.un, V.un, V.un, V.un, V.un, V.un, V.un, V.un, V.un, V.un, V.un, V.un, V.un, V.un, V.un, V.un, V.un, V.un, V.un, V.un, V.un, V.un, V.un, V.un, V.un, V.un, V.un, V.un, V.un, V.un, V.un, V.un, V.un, V.un, V.un] [35] L43_0 L43_1 false), (Blk.flat 65 3 [[(.int .i64 x0), (.int .i64 x1), (.int .i64 x2)]] x9), (Blk.flat 3 1 [[(.int .i64 0)]] false), (Blk.flat 4 1 [[(.bool false)]] false), (Blk.flat 3 1 [[(.int .i64 x5)]] x12), (Blk.flat 3 1 [[(.int .i64 ((vote_ones_c1_ypp_Y43_1p6Fi3FiFbFiFiFiGoGo_e0 x2 x5 x6 x7 x16 x19).c13))]] false), (Blk.flat 3 1 [[(.int .i64 ((vote_ones_c1_ypp_Y43_1p6Fi3FiFbFiFiFiGoGo_e0 x2 x5 x6 x7 x16 x19).c15))]] false), (Blk.gen 26 1 [[(V.d (slD (encI .i64) true 1 x15 x16))]] x17), (Blk.gen 26 1 [[(V.d (slD (encI .i64) true 1 x18 x19))]] x20)]) := by
  unfold vote_ones_c1_ypp_Y43_1p6Fi3FiFbFiFiFiGoGo_c0
  cases h1 : tb (vote_ones_c1_ypp_Y43_1p6Fi3FiFbFiFiFiGoGo_L0_ok x2 x5 x16 x19 ((x16.length : Nat) : Int) (⟨0, x6, x7⟩ : vote_ones_c1_ypp_Y43_1p6Fi3FiFbFiFiFiGoGo_L0_s0))
  · intro g0
    exact absurd g0 ft
  · cases h2 : tb (vote_ones_c1_ypp_Y43_1p6Fi3FiFbFiFiFiGoGo_L0_c0 x16 x19 ((x16.length : Nat) : Int) (vote_ones_c1_ypp_Y43_1p6Fi3FiFbFiFiFiGoGo_e0 x2 x5 x6 x7 x16 x19))
    · cases h3 : tb (vote_ones_c1_ypp_Y43_1p6Fi3FiFbFiFiFiGoGo_L0_c1 ((x16.length : Nat) : Int) (vote_ones_c1_ypp_Y43_1p6Fi3FiFbFiFiFiGoGo_e0 x2 x5 x6 x7 x16 x19))
      · intro g0
        exact absurd g0 ft
      · intro g0
        exact absurd g0 ft
    · intro g0
      exact w62 [.o 6 (fun _ => o_len_os (enc := (encI .i64)) (l := x16) (fl := true) (n := x15) (s := 1)), .l (vote_ones_c1_ypp_Y43_1p6Fi3FiFbFiFiFiGoGo_L0_f0_0 x0 x1 x2 x3 x4 x5 x6 x7 false x9 false false x12 false false x15 x16 x17 x18 x19 x20 ((x16.length : Nat) : Int) 0 (⟨0, x6, x7⟩ : vote_ones_c1_ypp_Y43_1p6Fi3FiFbFiFiFiGoGo_L0_s0) (tbE h1) (tbE h2))] (by kernel_rfl)
theorem vote_ones_c1_ypp_Y43_1p6Fi3FiFbFiFiFiGoGo_t1 (x0 : Int) (x1 : Int) (x2 : Int) (x3 : Int) (x4 : Bool) (x5 : Int) (x6 : Int) (x7 : Int) (x9 : Bool) (x12 : Bool) (x15 : Bool) (x16 : List Int) (x17 : Bool) (x18 : Bool) (x19 : List Int) (x20 : Bool) : vote_ones_c1_ypp_Y43_1p6Fi3FiFbFiFiFiGoGo_c0 x2 x5 x6 x7 x16 x19 = false → vote_ones_c1_ypp_Y43_1p6Fi3FiFbFiFiFiGoGo_c1 x2 x5 x6 x7 x16 x19 = true → cl E0 62 [(V.yl 0), (V.ptr 7 1 0 0), (V.ptr 8 1 0 0)] [(Blk.loop .ready none [V.un, V.un, V.un, (V.ptr 1 1 0 0), V.un, V.un, (V.ptr 2 1 0 0), (V.ptr 3 1 0 0), (V.ptr 4 1 0 0), V.un, (V.ptr 5 1 0 0), (V.ptr 6 1 0 0), V.un, V.un, V.un, V.un, V.un, V.un, V.un, V.un, V.un, V.un, V.un, V.un, V.un, V.un, V.un, V.un, V.un, V.un, V.un, V.un, V.un, V.un, V.un, V.un, V.un, V.un, V.un, V.un, V.un, V.un, V.un, V.un, V.un, V.un, V.un, V.un, V.un, V.un, V.un, V.un, V.un, V.un, V.un, V.un, V.un, V.un, V.un, V.un, V.un, V.un, V.un, V.un, V.un, V.un, V.un, V.un, V.un, V.un, V.un, V.un, V.un, V.un, V.un, V.un, V.un, V.un, V.un, V.un, V.un, V.un] [35] L43_0 L43_1 false), (Blk.flat 65 3 [[(.int .i64 x0), (.int .i64 x1), (.int .i64 x2)]] x9), (Blk.flat 3 1 [[(.int .i64 x3)]] false), (Blk.flat 4 1 [[(.bool x4)]] false), (Blk.flat 3 1 [[(.int .i64 x5)]] x12), (Blk.flat 3 1 [[(.int .i64 x6)]] false), (Blk.flat 3 1 [[(.int .i64 x7)]] false), (Blk.gen 26 1 [[(V.d (slD (encI .i64) true 1 x15 x16))]] x17), (Blk.gen 26 1 [[(V.d (slD (encI .i64) true 1 x18 x19))]] x20)] = some ([], [(Blk.loop .ready none [V.un, V.un, V.un, (V.ptr 1 1 0 0), V.un, V.un, (V.ptr 2 1 0 0), (V.ptr 3 1 0 0), (V.ptr 4 1 0 0), V.un, (V.ptr 5 1 0 0), (V.ptr 6 1 0 0), V.un, V.un, V.un, V.un, V.un, V.un, V.un, V.un, V.un, V.un, V.un, V.un, V.un, V.un, V.un, V.un, V.un, V.un, V.un, V.un, V.un, V.un, V.un, V.un, V.un, V.un, V.un, V.un, V.un, V.un, V.un, V.un, V.un, V.un, V.un, V.un, V.un, V.un, V.un, V.un, V.un, V.un, V.un, V.un, V.un, V.un, V.un, V.un, V.un, V.un, V.un, V.un, V.un, V.un, V.un, V.un, V.un, V.un, V.un, V.un, V.un, V.un, V.un, V.un, V.un, V.un, V.un, V.un, V.un, V.un] [35] L43_0 L43_1 false), (Blk.flat 65 3 [[(.int .i64 x0), (.int .i64 x1), (.int .i64 x2)]] x9), (Blk.flat 3 1 [[(.int .i64 x3)]] false), (Blk.flat 4 1 [[(.bool x4)]] false), (Blk.flat 3 1 [[(.int .i64 x5)]] x12), (Blk.flat 3 1 [[(.int .i64 ((vote_ones_c1_ypp_Y43_1p6Fi3FiFbFiFiFiGoGo_e0 x2 x5 x6 x7 x16 x19).c13))]] false), (Blk.flat 3 1 [[(.int .i64 ((vote_ones_c1_ypp_Y43_1p6Fi3FiFbFiFiFiGoGo_e0 x2 x5 x6 x7 x16 x19).c15))]] false), (Blk.gen 26 1 [[(V.d (slD (encI .i64) true 1 x15 x16))]] x17), (Blk.gen 26 1 [[(V.d (slD (encI .i64) true 1 x18 x19))]] x20)]) := by
  unfold vote_ones_c1_ypp_Y43_1p6Fi3FiFbFiFiFiGoGo_c0 vote_ones_c1_ypp_Y43_1p6Fi3FiFbFiFiFiGoGo_c1
  cases h1 : tb (vote_ones_c1_ypp_Y43_1p6Fi3FiFbFiFiFiGoGo_L0_ok x2 x5 x16 x19 ((x16.length : Nat) : Int) (⟨0, x6, x7⟩ : vote_ones_c1_ypp_Y43_1p6Fi3FiFbFiFiFiGoGo_L0_s0))
  · intro g0 g1
    exact absurd g1 ft
  · cases h2 : tb (vote_ones_c1_ypp_Y43_1p6Fi3FiFbFiFiFiGoGo_L0_c0 x16 x19 ((x16.length : Nat) : Int) (vote_ones_c1_ypp_Y43_1p6Fi3FiFbFiFiFiGoGo_e0 x2 x5 x6 x7 x16 x19))
    · cases h3 : tb (vote_ones_c1_ypp_Y43_1p6Fi3FiFbFiFiFiGoGo_L0_c1 ((x16.length : Nat) : Int) (vote_ones_c1_ypp_Y43_1p6Fi3FiFbFiFiFiGoGo_e0 x2 x5 x6 x7 x16 x19))
      · intro g0 g1
        exact absurd g1 ft
      · intro g0 g1
        exact w62 [.o 6 (fun _ => o_len_os (enc := (encI .i64)) (l := x16) (fl := true) (n := x15) (s := 1)), .l (vote_ones_c1_ypp_Y43_1p6Fi3FiFbFiFiFiGoGo_L0_f0_1 x0 x1 x2 x3 x4 x5 x6 x7 false x9 false false x12 false false x15 x16 x17 x18 x19 x20 ((x16.length : Nat) : Int) 0 (⟨0, x6, x7⟩ : vote_ones_c1_ypp_Y43_1p6Fi3FiFbFiFiFiGoGo_L0_s0) (tbE h1) (tbE h2) (tbE h3))] (by kernel_rfl)
    · intro g0 g1
      exact absurd g0 tf
def vote_Vote_ai3oo_S2_e0 (x2 : Int) (x7 : List Int) (x9 : List Int) : Int := ((vote_ones_c1_ypp_Y43_1p6Fi3FiFbFiFiFiGoGo_e0 x2 (order_Mid_o_r0_0 x7) 0 0 x7 x9).c13)
def vote_Vote_ai3oo_S2_e1 (x2 : Int) (x7 : List Int) (x9 : List Int) : Int := ((vote_ones_c1_ypp_Y43_1p6Fi3FiFbFiFiFiGoGo_e0 x2 (order_Mid_o_r0_0 x7) 0 0 x7 x9).c15)
def vote_Vote_ai3oo_S2_e2 (x2 : Int) (x7 : List Int) (x9 : List Int) : Int := (fix_Floor_ii_r0_0 (vote_Vote_ai3oo_S2_e0 x2 x7 x9) (vote_Vote_ai3oo_S2_e1 x2 x7 x9))
def vote_Vote_ai3oo_S2_c0 (x0 : Int) (x1 : Int) (x2 : Int) (x7 : List Int) (x9 : List Int) : Bool := (bif tb (order_Mid_o_c0 x7) then (bif tb (vote_Right_ai3_r0_0 x0 x1 x2) then (bif tb (order_Mid_o_r0_1 x7) then (bif tb ((((x9.length : Nat) : Int) : Int) != ((x7.length : Nat) : Int)) then true else (bif tb (vote_ones_c1_ypp_Y43_1p6Fi3FiFbFiFiFiGoGo_c0 x2 (order_Mid_o_r0_0 x7) 0 0 x7 x9) then true else false)) else true) else true) else false)
def vote_Vote_ai3oo_S2_c1 (x0 : Int) (x1 : Int) (x2 : Int) (x7 : List Int) (x9 : List Int) : Bool := (bif tb (order_Mid_o_c0 x7) then (bif tb (vote_Right_ai3_r0_0 x0 x1 x2) then (bif tb (order_Mid_o_r0_1 x7) then (bif tb ((((x9.length : Nat) : Int) : Int) != ((x7.length : Nat) : Int)) then false else (bif tb (vote_ones_c1_ypp_Y43_1p6Fi3FiFbFiFiFiGoGo_c0 x2 (order_Mid_o_r0_0 x7) 0 0 x7 x9) then false else (bif tb (vote_ones_c1_ypp_Y43_1p6Fi3FiFbFiFiFiGoGo_c1 x2 (order_Mid_o_r0_0 x7) 0 0 x7 x9) then (bif tb (fix_Floor_ii_c0 (vote_Vote_ai3oo_S2_e0 x2 x7 x9) (vote_Vote_ai3oo_S2_e1 x2 x7 x9)) then (bif tb (fix_Clamp_iii_c0 (vote_Vote_ai3oo_S2_e2 x2 x7 x9) x0 x1) then true else false) else false) else false))) else false) else false) else false)
theorem vote_Vote_ai3oo_S2_t0 (x0 : Int) (x1 : Int) (x2 : Int) (x3 : Bool) (x6 : Bool) (x7 : List Int) (x8 : Bool) (x9 : List Int) : vote_Vote_ai3oo_S2_c0 x0 x1 x2 x7 x9 = true → segG (runC E0 (cl E0) S43_2) [1, 2, 3, 6, 7] [6, 7] [6, 7] 3 ([(V.d (slD (encI .i64) true 1 x6 x7)), (V.d (slD (encI .i64) true 1 x8 x9)), (V.ptr 0 1 0 0), (V.ptr 1 1 0 0), (V.ptr 2 1 0 0)], [(Blk.flat 65 3 [[(.int .i64 x0), (.int .i64 x1), (.int .i64 x2)]] x3), (Blk.flat 3 1 [[(.int .i64 0)]] false), (Blk.flat 4 1 [[(.bool false)]] false)]) = some (.ret, ([(V.ptr 1 1 0 0), (V.ptr 2 1 0 0)], [(Blk.flat 65 3 [[(.int .i64 x0), (.int .i64 x1), (.int .i64 x2)]] x3), (Blk.flat 3 1 [[(.int .i64 0)]] false), (Blk.flat 4 1 [[(.bool false)]] false)])) := by
  unfold vote_Vote_ai3oo_S2_c0
  cases h1 : tb (order_Mid_o_c0 x7)
  · intro g0
    exact absurd g0 ft
  · cases h2 : tb (vote_Right_ai3_r0_0 x0 x1 x2)
    · intro g0
      exact seg_walk [.c (order_Mid_o_t0 x6 x7 (tbE h1)), .c (vote_Right_ai3_t0 x0 x1 x2), .b (notF (tbE h2))] (by kernel_rfl)
    · cases h3 : tb (order_Mid_o_r0_1 x7)
      · intro g0
        exact seg_walk [.c (order_Mid_o_t0 x6 x7 (tbE h1)), .c (vote_Right_ai3_t0 x0 x1 x2), .b (notT (tbE h2)), .b (notF (tbE h3))] (by kernel_rfl)
      · cases h4 : tb ((((x9.length : Nat) : Int) : Int) != ((x7.length : Nat) : Int))
        · cases h5 : tb (vote_ones_c1_ypp_Y43_1p6Fi3FiFbFiFiFiGoGo_c0 x2 (order_Mid_o_r0_0 x7) 0 0 x7 x9)
          · cases h6 : tb (vote_ones_c1_ypp_Y43_1p6Fi3FiFbFiFiFiGoGo_c1 x2 (order_Mid_o_r0_0 x7) 0 0 x7 x9)
            · intro g0
              exact absurd g0 ft
            · cases h7 : tb (fix_Floor_ii_c0 (vote_Vote_ai3oo_S2_e0 x2 x7 x9) (vote_Vote_ai3oo_S2_e1 x2 x7 x9))
              · intro g0
                exact absurd g0 ft
              · cases h8 : tb (fix_Clamp_iii_c0 (vote_Vote_ai3oo_S2_e2 x2 x7 x9) x0 x1)
                · intro g0
                  exact absurd g0 ft
                · intro g0
                  exact absurd g0 ft
          · intro g0
            exact seg_walk [.c (order_Mid_o_t0 x6 x7 (tbE h1)), .c (vote_Right_ai3_t0 x0 x1 x2), .b (notT (tbE h2)), .b (notT (tbE h3)), .o 27 (fun _ => o_len_os (enc := (encI .i64)) (l := x9) (fl := true) (n := x8) (s := 1)), .o 29 (fun _ => o_len_os (enc := (encI .i64)) (l := x7) (fl := true) (n := x6) (s := 1)), .b (tbE h4), .c (vote_ones_oo_t0 x6 x7 x8 x9), .c (vote_ones_c1_ypp_Y43_1p6Fi3FiFbFiFiFiGoGo_t0 x0 x1 x2 0 false (order_Mid_o_r0_0 x7) 0 0 x3 false x6 x7 false x8 x9 false (tbE h5))] (by kernel_rfl)
        · intro g0
          exact seg_walk [.c (order_Mid_o_t0 x6 x7 (tbE h1)), .c (vote_Right_ai3_t0 x0 x1 x2), .b (notT (tbE h2)), .b (notT (tbE h3)), .o 27 (fun _ => o_len_os (enc := (encI .i64)) (l := x9) (fl := true) (n := x8) (s := 1)), .o 29 (fun _ => o_len_os (enc := (encI .i64)) (l := x7) (fl := true) (n := x6) (s := 1)), .b (tbE h4)] (by kernel_rfl)
theorem vote_Vote_ai3oo_S2_t1 (x0 : Int) (x1 : Int) (x2 : Int) (x3 : Bool) (x6 : Bool) (x7 : List Int) (x8 : Bool) (x9 : List Int) : vote_Vote_ai3oo_S2_c0 x0 x1 x2 x7 x9 = false → vote_Vote_ai3oo_S2_c1 x0 x1 x2 x7 x9 = true → segG (runC E0 (cl E0) S43_2) [1, 2, 3, 6, 7] [6, 7] [6, 7] 3 ([(V.d (slD (encI .i64) true 1 x6 x7)), (V.d (slD (encI .i64) true 1 x8 x9)), (V.ptr 0 1 0 0), (V.ptr 1 1 0 0), (V.ptr 2 1 0 0)], [(Blk.flat 65 3 [[(.int .i64 x0), (.int .i64 x1), (.int .i64 x2)]] x3), (Blk.flat 3 1 [[(.int .i64 0)]] false), (Blk.flat 4 1 [[(.bool false)]] false)]) = some (.normal, ([(V.ptr 1 1 0 0), (V.ptr 2 1 0 0)], [(Blk.flat 65 3 [[(.int .i64 x0), (.int .i64 x1), (.int .i64 x2)]] x3), (Blk.flat 3 1 [[(.int .i64 (fix_Clamp_iii_r0_0 (vote_Vote_ai3oo_S2_e2 x2 x7 x9) x0 x1))]] false), (Blk.flat 4 1 [[(.bool true)]] false)])) := by
  unfold vote_Vote_ai3oo_S2_c0 vote_Vote_ai3oo_S2_c1
  cases h1 : tb (order_Mid_o_c0 x7)
  · intro g0 g1
    exact absurd g1 ft
  · cases h2 : tb (vote_Right_ai3_r0_0 x0 x1 x2)
    · intro g0 g1
      exact absurd g0 tf
    · cases h3 : tb (order_Mid_o_r0_1 x7)
      · intro g0 g1
        exact absurd g0 tf
      · cases h4 : tb ((((x9.length : Nat) : Int) : Int) != ((x7.length : Nat) : Int))
        · cases h5 : tb (vote_ones_c1_ypp_Y43_1p6Fi3FiFbFiFiFiGoGo_c0 x2 (order_Mid_o_r0_0 x7) 0 0 x7 x9)
          · cases h6 : tb (vote_ones_c1_ypp_Y43_1p6Fi3FiFbFiFiFiGoGo_c1 x2 (order_Mid_o_r0_0 x7) 0 0 x7 x9)
            · intro g0 g1
              exact absurd g1 ft
            · cases h7 : tb (fix_Floor_ii_c0 (vote_Vote_ai3oo_S2_e0 x2 x7 x9) (vote_Vote_ai3oo_S2_e1 x2 x7 x9))
              · intro g0 g1
                exact absurd g1 ft
              · cases h8 : tb (fix_Clamp_iii_c0 (vote_Vote_ai3oo_S2_e2 x2 x7 x9) x0 x1)
                · intro g0 g1
                  exact absurd g1 ft
                · intro g0 g1
                  exact seg_walk [.c (order_Mid_o_t0 x6 x7 (tbE h1)), .c (vote_Right_ai3_t0 x0 x1 x2), .b (notT (tbE h2)), .b (notT (tbE h3)), .o 27 (fun _ => o_len_os (enc := (encI .i64)) (l := x9) (fl := true) (n := x8) (s := 1)), .o 29 (fun _ => o_len_os (enc := (encI .i64)) (l := x7) (fl := true) (n := x6) (s := 1)), .b (tbE h4), .c (vote_ones_oo_t0 x6 x7 x8 x9), .c (vote_ones_c1_ypp_Y43_1p6Fi3FiFbFiFiFiGoGo_t1 x0 x1 x2 0 false (order_Mid_o_r0_0 x7) 0 0 x3 false x6 x7 false x8 x9 false (tbE h5) (tbE h6)), .c (fix_Floor_ii_t0 (vote_Vote_ai3oo_S2_e0 x2 x7 x9) (vote_Vote_ai3oo_S2_e1 x2 x7 x9) (tbE h7)), .c (fix_Clamp_iii_t0 (vote_Vote_ai3oo_S2_e2 x2 x7 x9) x0 x1 (tbE h8))] (by kernel_rfl)
          · intro g0 g1
            exact absurd g0 tf
        · intro g0 g1
          exact absurd g0 tf
def vote_Vote_ai3oo_c0 (x0 : Int) (x1 : Int) (x2 : Int) (x4 : List Int) (x6 : List Int) : Bool := (bif tb (vote_Vote_ai3oo_S2_c0 x0 x1 x2 x4 x6) then true else (bif tb (vote_Vote_ai3oo_S2_c1 x0 x1 x2 x4 x6) then true else false))
def vote_Vote_ai3oo_r0_0 (x0 : Int) (x1 : Int) (x2 : Int) (x4 : List Int) (x6 : List Int) : Int := (bif tb (vote_Vote_ai3oo_S2_c0 x0 x1 x2 x4 x6) then 0 else (fix_Clamp_iii_r0_0 (vote_Vote_ai3oo_S2_e2 x2 x4 x6) x0 x1))
def vote_Vote_ai3oo_r0_1 (x0 : Int) (x1 : Int) (x2 : Int) (x4 : List Int) (x6 : List Int) : Bool := (bif tb (vote_Vote_ai3oo_S2_c0 x0 x1 x2 x4 x6) then false else true)
theorem vote_Vote_ai3oo_t0 (x0 : Int) (x1 : Int) (x2 : Int) (x3 : Bool) (x4 : List Int) (x5 : Bool) (x6 : List Int) : vote_Vote_ai3oo_c0 x0 x1 x2 x4 x6 = true → cl E0 43 [(V.agg [(V.d (.int .i64 x0)), (V.d (.int .i64 x1)), (V.d (.int .i64 x2))]), (V.d (slD (encI .i64) true 1 x3 x4)), (V.d (slD (encI .i64) true 1 x5 x6))] [] = some ([(V.d (.int .i64 (vote_Vote_ai3oo_r0_0 x0 x1 x2 x4 x6))), (V.d (.bool (vote_Vote_ai3oo_r0_1 x0 x1 x2 x4 x6)))], []) := by
  unfold vote_Vote_ai3oo_c0 vote_Vote_ai3oo_r0_0 vote_Vote_ai3oo_r0_1
  cases h1 : tb (vote_Vote_ai3oo_S2_c0 x0 x1 x2 x4 x6)
  · cases h2 : tb (vote_Vote_ai3oo_S2_c1 x0 x1 x2 x4 x6)
    · intro g0
      exact absurd g0 ft
    · intro g0
      exact w43 [.s (vote_Vote_ai3oo_S2_t1 x0 x1 x2 false x3 x4 x5 x6 (tbE h1) (tbE h2))] (by kernel_rfl)
  · intro g0
    exact w43 [.s (vote_Vote_ai3oo_S2_t0 x0 x1 x2 false x3 x4 x5 x6 (tbE h1))] (by kernel_rfl)
end Go.Proofs.Ytdjmfcdopaejcaa.Den

namespace Go.Proofs.Ytdjmfcdopaejcaa.Den
open Go Go.Proofs
set_option maxRecDepth 100000
set_option maxHeartbeats 4000000
set_option linter.unusedVariables false
set_option linter.unusedSimpArgs false
end Go.Proofs.Ytdjmfcdopaejcaa.Den

namespace Go.Proofs.Ytdjmfcdopaejcaa.Den
open Go Go.Proofs
set_option maxRecDepth 100000
set_option maxHeartbeats 4000000
set_option linter.unusedVariables false
set_option linter.unusedSimpArgs false
structure ref12_Vote_ai3oo_L1_s0 where
  c4 : Int
  deriving Inhabited
structure ref12_Vote_ai3oo_L4_s0 where
  c5 : Int
  c6 : Int
  c7 : Int
  deriving Inhabited
end Go.Proofs.Ytdjmfcdopaejcaa.Den

namespace Go.Proofs.Ytdjmfcdopaejcaa.Den
open Go
set_option linter.unusedVariables false
set_option linter.unusedSimpArgs false
theorem mid_within {l : List Int} (h : mid4 l = true) {b : Int} (hb : ∀ z, z ∈ l → -b ≤ z ∧ z ≤ b) : -b ≤ midI l ∧ midI l ≤ b := by
  simp only [mid4, Bool.and_eq_true, decide_eq_true_eq] at h
  obtain ⟨h16, h1, h2⟩ := h
  have g := fun (i : Int) (x : 0 ≤ i) (y : i < l.length) => hb _ ((isort_perm l).mem_iff.1 (gt_mem (l := isort l) x (by rw [isort_len]; exact y)))
  have m1 := g (((l.length : Int) - 1) / 2) (by omega) (by omega)
  have m2 := g ((l.length : Int) / 2) (by omega) (by omega)
  unfold midI; omega
end Go.Proofs.Ytdjmfcdopaejcaa.Den

namespace Go.Proofs.Ytdjmfcdopaejcaa.Den
open Go Go.Proofs
set_option maxRecDepth 100000
set_option maxHeartbeats 4000000
set_option linter.unusedVariables false
set_option linter.unusedSimpArgs false
theorem law12_alive_t0 : cl E0 42 [] [] = some ([(V.d (.bool true))], []) := cl_of (n := 60) (by kernel_rfl)
end Go.Proofs.Ytdjmfcdopaejcaa.Den

namespace Go.Proofs.Ytdjmfcdopaejcaa.Den
open Go Go.Proofs
set_option maxRecDepth 100000
set_option maxHeartbeats 4000000
set_option linter.unusedVariables false
set_option linter.unusedSimpArgs false
end Go.Proofs.Ytdjmfcdopaejcaa.Den

namespace Go.Proofs.Ytdjmfcdopaejcaa.Den
open Go Go.Proofs
set_option linter.unusedVariables false
set_option linter.unusedSimpArgs false
def rp (lo hi cl : Int) : Prop := (-2147483648 ≤ lo ∧ lo ≤ 2147483647) ∧ (-2147483648 ≤ hi ∧ hi ≤ 2147483647) ∧ lo ≤ hi ∧ 0 ≤ cl ∧ cl ≤ 2147483647
theorem vright (lo hi cl : Int) : vote_Right_ai3_r0_0 lo hi cl = true ↔ rp lo hi cl := by
  simp only [vote_Right_ai3_r0_0, vote_right_i_r0_0, tb_eq, Bool.cond_eq_ite, rp]
  by_cases h1 : -2147483648 ≤ lo <;> by_cases h2 : lo ≤ 2147483647 <;> by_cases h3 : -2147483648 ≤ hi <;> by_cases h4 : hi ≤ 2147483647 <;> by_cases h5 : lo ≤ hi <;> by_cases h6 : 0 ≤ cl <;> simp [h1, h2, h3, h4, h5, h6] <;> omega
def goodP (v w : Int) : Bool := (decide (-4294967296 ≤ v) && decide (v ≤ 4294967296)) && (decide (1 ≤ w) && decide (w ≤ 16))
theorem yc0 (v w : Int) : vote_Vote_Y1_ai2_Y43_1p6Fi3FiFbFiFiFi_c0 v w = !goodP v w := by
  simp only [vote_Vote_Y1_ai2_Y43_1p6Fi3FiFbFiFiFi_c0, goodP, tb_eq]
  by_cases h1 : v < -4294967296
  · have : ¬ -4294967296 ≤ v := by omega
    simp [h1, this]
  · have g1 : -4294967296 ≤ v := by omega
    by_cases h2 : 4294967296 < v
    · have : ¬ v ≤ 4294967296 := by omega
      simp [h1, h2, g1, this]
    · have g2 : v ≤ 4294967296 := by omega
      by_cases h3 : w < 1
      · have : ¬ 1 ≤ w := by omega
        simp [h1, h2, h3, g1, g2, this]
      · have g3 : 1 ≤ w := by omega
        by_cases h4 : 16 < w
        · have : ¬ w ≤ 16 := by omega
          simp [h1, h2, h3, h4, g1, g2, g3, this]
        · have g4 : w ≤ 16 := by omega
          simp [h1, h2, h3, h4, g1, g2, g3, g4]
theorem yc1 (a b v w : Int) : vote_Vote_Y1_ai2_Y43_1p6Fi3FiFbFiFiFi_c1 a b v w = goodP v w := by
  have h := yc0 v w
  have : vote_Vote_Y1_ai2_Y43_1p6Fi3FiFbFiFiFi_c1 a b v w = !vote_Vote_Y1_ai2_Y43_1p6Fi3FiFbFiFiFi_c0 v w := by
    simp only [vote_Vote_Y1_ai2_Y43_1p6Fi3FiFbFiFiFi_c0, vote_Vote_Y1_ai2_Y43_1p6Fi3FiFbFiFiFi_c1, Clamp_c, tb_eq]
    cases decide (v < -4294967296) <;> cases decide (4294967296 < v) <;> cases decide (w < 1) <;> cases decide (16 < w) <;> rfl
  rw [this, h, Bool.not_not]
theorem first_not (g : Nat → Bool) : ∀ n, (∀ k, k < n → g k = true) ∨ ∃ j, j < n ∧ (∀ k, k < j → g k = true) ∧ g j = false
  | 0 => .inl fun k hk => by omega
  | n + 1 => by
    rcases first_not g n with h | ⟨j, h1, h2, h3⟩
    · cases hn : g n with
      | true => left; intro k hk; by_cases e : k = n; subst e; exact hn; exact h k (by omega)
      | false => exact .inr ⟨n, by omega, h, hn⟩
    · exact .inr ⟨j, by omega, h2, h3⟩
def sums (m cl : Int) (v w : List Int) : Nat → Int × Int
  | 0 => (0, 0)
  | k + 1 => ((sums m cl v w k).1 + gt w (k : Int) * max (m - cl) (min (gt v (k : Int)) (m + cl)), (sums m cl v w k).2 + gt w (k : Int))
def vit (cl m : Int) (v w : List Int) : Nat → vote_ones_c1_ypp_Y43_1p6Fi3FiFbFiFiFiGoGo_L0_s0
  | 0 => ⟨0, 0, 0⟩
  | k + 1 => vote_ones_c1_ypp_Y43_1p6Fi3FiFbFiFiFiGoGo_L0_nx cl m v w (v.length : Int) (vit cl m v w k)
theorem vit_ix (cl m : Int) (v w : List Int) : ∀ k, k ≤ 1000 → (vit cl m v w k).c1 = (k : Int)
  | 0, _ => rfl
  | k + 1, h => by
    show wi ((vit cl m v w k).c1 + 1) = _
    rw [vit_ix cl m v w k (by omega), wi_eq (by omega) (by omega)]; simp
theorem ones_sel (cl m : Int) {v w : List Int} (hw : w.length = v.length) (hl : v.length ≤ 900) {k : Nat} (hk : k < v.length) : vote_ones_c1_ypp_Y43_1p6Fi3FiFbFiFiFiGoGo_L0_sel cl m v w (v.length : Int) (vit cl m v w k) = goodP (gt v (k : Int)) (gt w (k : Int)) := by
  have b1 : inb v.length (k : Int) = true := inb_of (by omega) (by omega)
  have b2 : inb w.length (k : Int) = true := inb_of (by omega) (by omega)
  have hlt : (k : Int) < (v.length : Int) := by omega
  simp only [vote_ones_c1_ypp_Y43_1p6Fi3FiFbFiFiFiGoGo_L0_sel, vit_ix cl m v w k (by omega), b1, b2, hlt, yc0, yc1, tb_eq, decide_true, cond_true]
  cases goodP (gt v (k : Int)) (gt w (k : Int)) <;> rfl
theorem ones_run (cl m : Int) {v w : List Int} (hw : w.length = v.length) (hl : v.length ≤ 900) {n : Nat} (hn : n ≤ v.length) (hg : ∀ (k : Nat), k < n → goodP (gt v (k : Int)) (gt w (k : Int)) = true) (he : n = v.length ∨ goodP (gt v (n : Int)) (gt w (n : Int)) = false) :
    itS (vote_ones_c1_ypp_Y43_1p6Fi3FiFbFiFiFiGoGo_L0_sel cl m v w (v.length : Int)) (vote_ones_c1_ypp_Y43_1p6Fi3FiFbFiFiFiGoGo_L0_nx cl m v w (v.length : Int)) bound ⟨0, 0, 0⟩ = some (vit cl m v w n) := by
  have := loop_seq (sel := vote_ones_c1_ypp_Y43_1p6Fi3FiFbFiFiFiGoGo_L0_sel cl m v w (v.length : Int)) (nx := vote_ones_c1_ypp_Y43_1p6Fi3FiFbFiFiFiGoGo_L0_nx cl m v w (v.length : Int)) (vit cl m v w) n (by omega) (fun k hk => ⟨by rw [ones_sel cl m hw hl (by omega)]; exact hg k hk, rfl⟩) ?_
  · exact this
  · by_cases h : n < v.length
    · rw [ones_sel cl m hw hl h]
      rcases he with e | e
      · omega
      · exact e
    · have : ¬ (n : Int) < (v.length : Int) := by omega
      simp only [vote_ones_c1_ypp_Y43_1p6Fi3FiFbFiFiFiGoGo_L0_sel, vit_ix cl m v w n (by omega), tb_eq]
      rw [decide_eq_false this]; rfl
theorem goodP_iff {v w : Int} : goodP v w = true ↔ (-4294967296 ≤ v ∧ v ≤ 4294967296) ∧ (1 ≤ w ∧ w ≤ 16) := by simp [goodP]
theorem sums_bound {m cl : Int} {v w : List Int} (hm : -4294967296 ≤ m ∧ m ≤ 4294967296) (hc : 0 ≤ cl ∧ cl ≤ 2147483647) : ∀ (k : Nat), k ≤ 4 → (∀ (j : Nat), j < k → goodP (gt v (j : Int)) (gt w (j : Int)) = true) →
    -(103079215104 * (k : Int)) ≤ (sums m cl v w k).1 ∧ (sums m cl v w k).1 ≤ 103079215104 * (k : Int) ∧ (k : Int) ≤ (sums m cl v w k).2 ∧ (sums m cl v w k).2 ≤ 16 * (k : Int)
  | 0, _, _ => by simp [sums]
  | k + 1, hk, hg => by
    obtain ⟨h1, h2, h3, h4⟩ := sums_bound hm hc k (by omega) fun j hj => hg j (by omega)
    obtain ⟨g1, g2⟩ := goodP_iff.1 (hg k (by omega))
    simp only [sums]
    have hx : -6442450944 ≤ max (m - cl) (min (gt v (k : Int)) (m + cl)) ∧ max (m - cl) (min (gt v (k : Int)) (m + cl)) ≤ 6442450944 := by omega
    generalize max (m - cl) (min (gt v (k : Int)) (m + cl)) = x at *
    generalize gt w (k : Int) = y at *
    have hp : -103079215104 ≤ y * x ∧ y * x ≤ 103079215104 := by
      have a1 : y * x ≤ y * 6442450944 := Int.mul_le_mul_of_nonneg_left hx.2 (by omega)
      have a2 : y * (-6442450944) ≤ y * x := Int.mul_le_mul_of_nonneg_left hx.1 (by omega)
      omega
    have e : ((k + 1 : Nat) : Int) = (k : Int) + 1 := by omega
    rw [e]
    omega
theorem vit_sums {m cl : Int} {v w : List Int} (hm : -4294967296 ≤ m ∧ m ≤ 4294967296) (hc : 0 ≤ cl ∧ cl ≤ 2147483647) : ∀ (k : Nat), k ≤ 4 → (∀ (j : Nat), j < k → goodP (gt v (j : Int)) (gt w (j : Int)) = true) → vit cl m v w k = ⟨(k : Int), (sums m cl v w k).1, (sums m cl v w k).2⟩
  | 0, _, _ => rfl
  | k + 1, hk, hg => by
    have ih := vit_sums hm hc k (by omega) fun j hj => hg j (by omega)
    obtain ⟨h1, h2, h3, h4⟩ := sums_bound hm hc k (by omega) fun j hj => hg j (by omega)
    have hb := sums_bound hm hc (k + 1) hk hg
    obtain ⟨g1, g2⟩ := goodP_iff.1 (hg k (by omega))
    have w1 : wi (m - cl) = m - cl := wi_eq (by omega) (by omega)
    have w2 : wi (m + cl) = m + cl := wi_eq (by omega) (by omega)
    have c1 : sm (gt v (k : Int)) = true := sm_iff.2 (by omega)
    have c2 : sm (m - cl) = true := sm_iff.2 (by omega)
    have c3 : sm (m + cl) = true := sm_iff.2 (by omega)
    show vote_ones_c1_ypp_Y43_1p6Fi3FiFbFiFiFiGoGo_L0_nx cl m v w (v.length : Int) (vit cl m v w k) = _
    rw [ih]
    simp only [vote_ones_c1_ypp_Y43_1p6Fi3FiFbFiFiFiGoGo_L0_nx, vote_Vote_Y1_ai2_Y43_1p6Fi3FiFbFiFiFi_e1, vote_Vote_Y1_ai2_Y43_1p6Fi3FiFbFiFiFi_e0, w1, w2, Clamp_r, c1, c2, c3, and_self, if_true]
    simp only [sums] at hb ⊢
    have hx : -6442450944 ≤ max (m - cl) (min (gt v (k : Int)) (m + cl)) ∧ max (m - cl) (min (gt v (k : Int)) (m + cl)) ≤ 6442450944 := by omega
    generalize max (m - cl) (min (gt v (k : Int)) (m + cl)) = x at *
    generalize gt w (k : Int) = y at *
    have hp : -103079215104 ≤ y * x ∧ y * x ≤ 103079215104 := by
      have a1 : y * x ≤ y * 6442450944 := Int.mul_le_mul_of_nonneg_left hx.2 (by omega)
      have a2 : y * (-6442450944) ≤ y * x := Int.mul_le_mul_of_nonneg_left hx.1 (by omega)
      omega
    rw [wi_eq (x := y * x) (by omega) (by omega), wi_eq (x := (k : Int) + 1) (by omega) (by omega), wi_eq (by omega) (by omega), wi_eq (by omega) (by omega)]
    simp
theorem flo_bound {a b : Int} (ha : -412316860416 ≤ a ∧ a ≤ 412316860416) (hb : 1 ≤ b ∧ b ≤ 64) : -412316860416 ≤ flo a b ∧ flo a b ≤ 412316860416 := by
  have s1 : sm a = true := sm_iff.2 (by omega)
  have s2 : sm b = true := sm_iff.2 (by omega)
  simp only [flo, s1, s2, hb.1, and_self, if_true]
  rw [Int.fdiv_eq_ediv_of_nonneg _ (by omega)]
  constructor
  · rw [Int.le_ediv_iff_mul_le (by omega)]
    have : -412316860416 * b ≤ -412316860416 * 1 := by omega
    omega
  · have : a / b < 412316860416 + 1 := by
      rw [Int.ediv_lt_iff_lt_mul (by omega)]
      omega
    omega
end Go.Proofs.Ytdjmfcdopaejcaa.Den

namespace Go.Proofs.Ytdjmfcdopaejcaa.Den
open Go Go.Proofs
set_option linter.unusedVariables false
set_option linter.unusedSimpArgs false
def vok (lo hi cl : Int) (v w : List Int) : Prop :=
  rp lo hi cl ∧ w.length = v.length ∧ (1 ≤ v.length ∧ v.length ≤ 4) ∧ (∀ z, z ∈ v → -4294967296 ≤ z ∧ z ≤ 4294967296) ∧ ∀ z, z ∈ w → 1 ≤ z ∧ z ≤ 16
theorem vote_r {lo hi cl : Int} {v w : List Int} (hv : v.length ≤ 40) (hw : w.length ≤ 40) : vote_Vote_ai3oo_c0 lo hi cl v w = true ∧
    (vok lo hi cl v w → vote_Vote_ai3oo_r0_0 lo hi cl v w = max lo (min (flo (sums (midI v) cl v w v.length).1 (sums (midI v) cl v w v.length).2) hi) ∧ vote_Vote_ai3oo_r0_1 lo hi cl v w = true) ∧
    (¬ vok lo hi cl v w → vote_Vote_ai3oo_r0_0 lo hi cl v w = 0 ∧ vote_Vote_ai3oo_r0_1 lo hi cl v w = false) := by
  have fin : (¬ vok lo hi cl v w) → vote_Vote_ai3oo_S2_c0 lo hi cl v w = true → vote_Vote_ai3oo_c0 lo hi cl v w = true ∧
    (vok lo hi cl v w → vote_Vote_ai3oo_r0_0 lo hi cl v w = max lo (min (flo (sums (midI v) cl v w v.length).1 (sums (midI v) cl v w v.length).2) hi) ∧ vote_Vote_ai3oo_r0_1 lo hi cl v w = true) ∧
    (¬ vok lo hi cl v w → vote_Vote_ai3oo_r0_0 lo hi cl v w = 0 ∧ vote_Vote_ai3oo_r0_1 lo hi cl v w = false) := fun hn hc =>
    ⟨by simp only [vote_Vote_ai3oo_c0, hc, tb_eq]; rfl, fun h => absurd h hn, fun _ => ⟨by simp only [vote_Vote_ai3oo_r0_0, hc, tb_eq]; rfl, by simp only [vote_Vote_ai3oo_r0_1, hc, tb_eq]; rfl⟩⟩
  obtain ⟨a1, a2, a3, a4⟩ := Mid_r v (by omega)
  by_cases hr : rp lo hi cl
  · have r1 := (vright lo hi cl).2 hr
    unfold rp at hr
    by_cases hlen : w.length = v.length
    · have hne : (((w.length : Int)) != (v.length : Int)) = false := by simp; omega
      rcases first_not (fun k => goodP (gt v (k : Int)) (gt w (k : Int))) v.length with hg | ⟨j, hj, hg, hbad⟩
      ·
        have hall : ∀ z, z ∈ v → -4294967296 ≤ z ∧ z ≤ 4294967296 := fun z hz => by
          obtain ⟨i, hi, rfl⟩ := List.mem_iff_getElem.1 hz
          have := (goodP_iff.1 (hg i hi)).1
          rw [gt_nat hi] at this; exact this
        have hsm : v.all sm = true := List.all_eq_true.2 fun z hz => sm_iff.2 (by have := hall z hz; omega)
        by_cases h4 : 1 ≤ v.length ∧ v.length ≤ 4
        · have hm4 : mid4 v = true := by simp [mid4, lst16, hsm]; omega
          have hmb := mid_within hm4 hall
          have hcl : 0 ≤ cl ∧ cl ≤ 2147483647 := hr.2.2.2
          have e1 := ones_run cl (midI v) hlen (by omega) (Nat.le_refl _) hg (.inl rfl)
          rw [vit_sums hmb hcl v.length h4.2 hg] at e1
          obtain ⟨s1, s2, s3, s4⟩ := sums_bound hmb hcl v.length h4.2 hg
          have o1 : vote_ones_c1_ypp_Y43_1p6Fi3FiFbFiFiFiGoGo_e0 cl (midI v) 0 0 v w = ⟨(v.length : Int), (sums (midI v) cl v w v.length).1, (sums (midI v) cl v w v.length).2⟩ := by
            simp only [vote_ones_c1_ypp_Y43_1p6Fi3FiFbFiFiFiGoGo_e0, vote_ones_c1_ypp_Y43_1p6Fi3FiFbFiFiFiGoGo_L0_end, e1]; rfl
          have hnn : ¬ (v.length : Int) < (v.length : Int) := by omega
          have o2 : vote_ones_c1_ypp_Y43_1p6Fi3FiFbFiFiFiGoGo_c0 cl (midI v) 0 0 v w = false := by
            simp only [vote_ones_c1_ypp_Y43_1p6Fi3FiFbFiFiFiGoGo_c0, o1, vote_ones_c1_ypp_Y43_1p6Fi3FiFbFiFiFiGoGo_L0_c0, tb_eq]
            rw [decide_eq_false hnn]
            cases vote_ones_c1_ypp_Y43_1p6Fi3FiFbFiFiFiGoGo_L0_ok cl (midI v) v w (v.length : Int) ⟨0, 0, 0⟩ <;> rfl
          have o3 : vote_ones_c1_ypp_Y43_1p6Fi3FiFbFiFiFiGoGo_c1 cl (midI v) 0 0 v w = true := by
            simp only [vote_ones_c1_ypp_Y43_1p6Fi3FiFbFiFiFiGoGo_c1, o1, vote_ones_c1_ypp_Y43_1p6Fi3FiFbFiFiFiGoGo_L0_c0, vote_ones_c1_ypp_Y43_1p6Fi3FiFbFiFiFiGoGo_L0_c1, vote_ones_c1_ypp_Y43_1p6Fi3FiFbFiFiFiGoGo_L0_ok, e1, tb_eq]
            rw [decide_eq_false hnn]; rfl
          have am := a3 hm4
          have g1 : ¬ (v.length : Int) < 1 := by omega
          have g2 : ¬ (4 : Int) < (v.length : Int) := by omega
          have S2c0 : vote_Vote_ai3oo_S2_c0 lo hi cl v w = false := by
            simp only [vote_Vote_ai3oo_S2_c0, a1, r1, a2, hm4, hne, am, o2, tb_eq]; rfl
          have x0 : vote_Vote_ai3oo_S2_e0 cl v w = (sums (midI v) cl v w v.length).1 := by simp only [vote_Vote_ai3oo_S2_e0, am, o1]
          have x1 : vote_Vote_ai3oo_S2_e1 cl v w = (sums (midI v) cl v w v.length).2 := by simp only [vote_Vote_ai3oo_S2_e1, am, o1]
          have x2 : vote_Vote_ai3oo_S2_e2 cl v w = flo (sums (midI v) cl v w v.length).1 (sums (midI v) cl v w v.length).2 := by simp only [vote_Vote_ai3oo_S2_e2, x0, x1, fFloor_r]
          have S2c1 : vote_Vote_ai3oo_S2_c1 lo hi cl v w = true := by
            simp only [vote_Vote_ai3oo_S2_c1, a1, r1, a2, hm4, hne, am, o2, o3, fFloor_c, Clamp_c, tb_eq]; rfl
          have fb := flo_bound (a := (sums (midI v) cl v w v.length).1) (b := (sums (midI v) cl v w v.length).2) (by omega) (by omega)
          refine ⟨by simp only [vote_Vote_ai3oo_c0, S2c0, S2c1, tb_eq]; rfl, fun _ => ⟨?_, by simp only [vote_Vote_ai3oo_r0_1, S2c0, tb_eq]; rfl⟩, fun hn => absurd ⟨hr, hlen, h4, hall, fun z hz => ?_⟩ hn⟩
          · simp only [vote_Vote_ai3oo_r0_0, S2c0, x2, Clamp_r, tb_eq, cond_false]
            have k1 : sm (flo (sums (midI v) cl v w v.length).1 (sums (midI v) cl v w v.length).2) = true := sm_iff.2 (by omega)
            have k2 : sm lo = true := sm_iff.2 (by omega)
            have k3 : sm hi = true := sm_iff.2 (by omega)
            rw [if_pos ⟨k1, k2, k3⟩]
          · obtain ⟨i, hi, rfl⟩ := List.mem_iff_getElem.1 hz
            have := (goodP_iff.1 (hg i (by omega))).2
            rw [gt_nat hi] at this; exact this
        · have hm4 : mid4 v = false := by simp [mid4]; intro _ _; omega
          have S2c0 : vote_Vote_ai3oo_S2_c0 lo hi cl v w = true := by simp only [vote_Vote_ai3oo_S2_c0, a1, r1, a2, hm4, tb_eq]; rfl
          exact fin (fun h => h4 h.2.2.1) S2c0
      ·
        have hlt : (j : Int) < (v.length : Int) := by omega
        have i1 : inb v.length (j : Int) = true := inb_of (by omega) (by omega)
        have i2 : inb w.length (j : Int) = true := inb_of (by omega) (by omega)
        have S2c0 : vote_Vote_ai3oo_S2_c0 lo hi cl v w = true := by
          simp only [vote_Vote_ai3oo_S2_c0, a1, r1, a2, hne, tb_eq]
          cases h4 : mid4 v with
          | false => rfl
          | true =>
            have e1 := ones_run cl (midI v) hlen (by omega) (by omega : j ≤ v.length) hg (.inr hbad)
            have o1 : vote_ones_c1_ypp_Y43_1p6Fi3FiFbFiFiFiGoGo_e0 cl (midI v) 0 0 v w = vit cl (midI v) v w j := by
              simp only [vote_ones_c1_ypp_Y43_1p6Fi3FiFbFiFiFiGoGo_e0, vote_ones_c1_ypp_Y43_1p6Fi3FiFbFiFiFiGoGo_L0_end, e1]; rfl
            have o2 : vote_ones_c1_ypp_Y43_1p6Fi3FiFbFiFiFiGoGo_c0 cl (midI v) 0 0 v w = true := by
              have hbad' : goodP (gt v (j : Int)) (gt w (j : Int)) = false := hbad
              simp only [vote_ones_c1_ypp_Y43_1p6Fi3FiFbFiFiFiGoGo_c0, o1, vote_ones_c1_ypp_Y43_1p6Fi3FiFbFiFiFiGoGo_L0_c0, vote_ones_c1_ypp_Y43_1p6Fi3FiFbFiFiFiGoGo_L0_ok, e1, vit_ix cl (midI v) v w j (by omega), i1, i2, hlt, yc0, hbad', tb_eq]
              simp
            simp only [a3 h4, o2]; rfl
        refine fin (fun h => ?_) S2c0
        have hbad' : goodP (gt v (j : Int)) (gt w (j : Int)) = false := hbad
        have : goodP (gt v (j : Int)) (gt w (j : Int)) = true := goodP_iff.2 ⟨h.2.2.2.1 _ (gt_mem (by omega) (by omega)), h.2.2.2.2 _ (gt_mem (by omega) (by omega))⟩
        rw [hbad'] at this; cases this
    · have hne : (((w.length : Int)) != (v.length : Int)) = true := by simp; omega
      have S2c0 : vote_Vote_ai3oo_S2_c0 lo hi cl v w = true := by
        simp only [vote_Vote_ai3oo_S2_c0, a1, r1, a2, hne, tb_eq]
        cases mid4 v <;> rfl
      exact fin (fun h => hlen h.2.1) S2c0
  · have r1 : vote_Right_ai3_r0_0 lo hi cl = false := by
      cases h : vote_Right_ai3_r0_0 lo hi cl with
      | false => rfl
      | true => exact absurd ((vright lo hi cl).1 h) hr
    have S2c0 : vote_Vote_ai3oo_S2_c0 lo hi cl v w = true := by simp only [vote_Vote_ai3oo_S2_c0, a1, r1, tb_eq]; rfl
    exact fin (fun h => hr h.1) S2c0
theorem vok_good {lo hi cl : Int} {v w : List Int} (h : vok lo hi cl v w) {k : Nat} (hk : k < v.length) : goodP (gt v (k : Int)) (gt w (k : Int)) = true := by
  have := h.2.1
  exact goodP_iff.2 ⟨h.2.2.2.1 _ (gt_mem (by omega) (by omega)), h.2.2.2.2 _ (gt_mem (by omega) (by omega))⟩
theorem vok_mid {lo hi cl : Int} {v w : List Int} (h : vok lo hi cl v w) : mid4 v = true := by
  have hsm : v.all sm = true := List.all_eq_true.2 fun z hz => sm_iff.2 (by have := h.2.2.2.1 z hz; omega)
  have := h.2.2.1
  simp [mid4, lst16, hsm]; omega
theorem sums_between {m cl A B : Int} {v w : List Int} : ∀ (n : Nat), (∀ k : Nat, k < n → 1 ≤ gt w (k : Int)) → (∀ k : Nat, k < n → A ≤ max (m - cl) (min (gt v (k : Int)) (m + cl)) ∧ max (m - cl) (min (gt v (k : Int)) (m + cl)) ≤ B) →
    A * (sums m cl v w n).2 ≤ (sums m cl v w n).1 ∧ (sums m cl v w n).1 ≤ B * (sums m cl v w n).2
  | 0, _, _ => by simp [sums]
  | n + 1, hw, h => by
    obtain ⟨h1, h2⟩ := sums_between n (fun k hk => hw k (by omega)) (fun k hk => h k (by omega))
    have h3 := h n (by omega)
    have h4 := hw n (by omega)
    simp only [sums, Int.mul_add]
    generalize max (m - cl) (min (gt v (n : Int)) (m + cl)) = x at *
    generalize gt w (n : Int) = y at *
    have a1 : y * A ≤ y * x := Int.mul_le_mul_of_nonneg_left h3.1 (by omega)
    have a2 : y * x ≤ y * B := Int.mul_le_mul_of_nonneg_left h3.2 (by omega)
    rw [Int.mul_comm y A] at a1
    rw [Int.mul_comm y B] at a2
    omega
theorem flo_between {a b A B : Int} (ha : -412316860416 ≤ a ∧ a ≤ 412316860416) (hb : 1 ≤ b ∧ b ≤ 64) (h1 : A * b ≤ a) (h2 : a ≤ B * b) : A ≤ flo a b ∧ flo a b ≤ B := by
  have s1 : sm a = true := sm_iff.2 (by omega)
  have s2 : sm b = true := sm_iff.2 (by omega)
  simp only [flo, s1, s2, hb.1, and_self, if_true]
  rw [Int.fdiv_eq_ediv_of_nonneg _ (by omega)]
  constructor
  · rw [Int.le_ediv_iff_mul_le (by omega)]; exact h1
  · have : a / b < B + 1 := by
      rw [Int.ediv_lt_iff_lt_mul (by omega), Int.add_mul]
      omega
    omega
theorem vote_between {lo hi cl A B : Int} {v w : List Int} (h : vok lo hi cl v w) (hp : ∀ z, z ∈ v → A ≤ max (midI v - cl) (min z (midI v + cl)) ∧ max (midI v - cl) (min z (midI v + cl)) ≤ B) :
    A ≤ flo (sums (midI v) cl v w v.length).1 (sums (midI v) cl v w v.length).2 ∧ flo (sums (midI v) cl v w v.length).1 (sums (midI v) cl v w v.length).2 ≤ B := by
  have hm := mid_within (vok_mid h) h.2.2.2.1
  have hc : 0 ≤ cl ∧ cl ≤ 2147483647 := h.1.2.2.2
  have hn := h.2.2.1
  have hg : ∀ (j : Nat), j < v.length → goodP (gt v (j : Int)) (gt w (j : Int)) = true := fun j hj => vok_good h hj
  obtain ⟨s1, s2, s3, s4⟩ := sums_bound hm hc v.length hn.2 hg
  obtain ⟨t1, t2⟩ := sums_between (m := midI v) (cl := cl) (A := A) (B := B) (v := v) (w := w) v.length (fun k hk => (goodP_iff.1 (hg k hk)).2.1) (fun k hk => hp _ (gt_mem (by omega) (by omega)))
  exact flo_between (by omega) (by omega) t1 t2
end Go.Proofs.Ytdjmfcdopaejcaa.Den

namespace Go.Proofs.Ytdjmfcdopaejcaa.Den
open Go
set_option linter.unusedVariables false
set_option linter.unusedSimpArgs false
set_option maxRecDepth 100000
theorem Sort_c {l : List Int} (hl : l.length < 1152921504606846976) : order_Sort_o_c0 l = lst16 l ∧ order_Sort_o_c1 l = !lst16 l := by
  obtain ⟨a1, a2⟩ := right_o l hl
  cases h : lst16 l with
  | true => exact ⟨Sort_r h, by simp [order_Sort_o_c1, order_Sort_o_S0_c0, a1, a2, h]⟩
  | false => simp [order_Sort_o_c0, order_Sort_o_c1, order_Sort_o_S0_c0, order_Sort_o_S0_c1, a1, a2, h]
theorem Sort_v {l : List Int} (h : lst16 l = true) : order_Sort_o_e2 l = l.length ∧ order_Sort_o_L2_r0_3 (order_Sort_o_e2 l) (((order_Sort_o_e2 l) : Nat) : Int) (order_Sort_o_S3_e0 (order_Sort_o_e0 l) (order_Sort_o_e2 l)) = isort l := by
  have h16 : l.length ≤ 16 := by simp only [lst16, Bool.and_eq_true, decide_eq_true_eq] at h; exact h.1
  obtain ⟨b1, b2⟩ := passes (l := l) (by omega)
  have e1 : ((l.length : Nat) : Int).toNat = l.length := by omega
  have e0 : order_Sort_o_e0 l = l := by simp only [order_Sort_o_e0, e1, cpL_rep]
  have e2 : order_Sort_o_e2 l = l.length := by simp only [order_Sort_o_e2, e1, List.length_replicate]
  rw [e2, e0]; exact ⟨rfl, b2⟩
theorem srt_last {l : List Int} (h : Srt l) (h0 : 1 ≤ l.length) : ∀ z, z ∈ l → z ≤ gt l ((l.length : Int) - 1) := by
  intro z hz
  obtain ⟨i, hi, rfl⟩ := List.getElem_of_mem hz
  rw [gt_getElem (by omega) (by omega)]
  rcases Nat.lt_or_ge i (((l.length : Int) - 1).toNat) with h1 | h1
  · exact List.pairwise_iff_getElem.1 h i _ hi (by omega) h1
  · have : i = ((l.length : Int) - 1).toNat := by omega
    subst this; exact Int.le_refl _
theorem srt_first {l : List Int} (h : Srt l) : ∀ z, z ∈ l → gt l 0 ≤ z := by
  intro z hz
  obtain ⟨i, hi, rfl⟩ := List.getElem_of_mem hz
  rw [gt_getElem (by omega) (by simp; omega)]
  rcases Nat.lt_or_ge 0 i with h1 | h1
  · exact List.pairwise_iff_getElem.1 h _ i (by simp; omega) hi (by simpa using h1)
  · have : i = 0 := by omega
    subst this; exact Int.le_refl _
end Go.Proofs.Ytdjmfcdopaejcaa.Den

namespace Go.Proofs.Ytdjmfcdopaejcaa.Den
open Go Go.Proofs
set_option maxRecDepth 100000
set_option maxHeartbeats 4000000
set_option linter.unusedVariables false
set_option linter.unusedSimpArgs false
def law12_VoteMid_S0_c0 (x9 : List Int) (x11 : List Int) : Bool := (bif tb (decide (40 < ((x9.length : Nat) : Int))) then true else (bif tb (decide (40 < ((x11.length : Nat) : Int))) then true else false))
theorem law12_VoteMid_S0_t0 (x0 : Int) (x1 : Int) (x2 : Int) (x3 : Bool) (x4 : Bool) (x5 : List Int) (x6 : Int) (x7 : Bool) (x8 : Bool) (x9 : List Int) (x10 : Bool) (x11 : List Int) (x12 : Int) : law12_VoteMid_S0_c0 x9 x11 = true → segG (runC E0 (cl E0) S11_0) [1, 3, 7, 8] [6] [1, 3, 7, 8] 2 ([(V.d (slD (encI .i64) true 1 x8 x9)), (V.ptr 0 1 0 0), (V.d (slD (encI .i64) true 1 x10 x11)), (V.d (.int .u8 x12))], [(Blk.flat 65 3 [[(.int .i64 x0), (.int .i64 x1), (.int .i64 x2)]] x3), (Blk.gen 73 2 [[(V.d (slD (encI .i64) true 1 x4 x5)), (V.d (.int .u8 x6))]] x7)]) = some (.ret, ([(V.d (.bool true))], [(Blk.flat 65 3 [[(.int .i64 x0), (.int .i64 x1), (.int .i64 x2)]] x3), (Blk.gen 73 2 [[(V.d (slD (encI .i64) true 1 x4 x5)), (V.d (.int .u8 x6))]] x7)])) := by
  unfold law12_VoteMid_S0_c0
  cases h1 : tb (decide (40 < ((x9.length : Nat) : Int)))
  · cases h2 : tb (decide (40 < ((x11.length : Nat) : Int)))
    · intro g0
      exact absurd g0 ft
    · intro g0
      exact seg_walk [.o 27 (fun _ => o_len_os (enc := (encI .i64)) (l := x9) (fl := true) (n := x8) (s := 1)), .b (tbE h1), .o 31 (fun _ => o_len_os (enc := (encI .i64)) (l := x11) (fl := true) (n := x10) (s := 1)), .b (tbE h2), .c (law12_alive_t0)] (by kernel_rfl)
  · intro g0
    exact seg_walk [.o 27 (fun _ => o_len_os (enc := (encI .i64)) (l := x9) (fl := true) (n := x8) (s := 1)), .b (tbE h1), .c (law12_alive_t0)] (by kernel_rfl)
theorem law12_VoteMid_S0_t1 (x0 : Int) (x1 : Int) (x2 : Int) (x3 : Bool) (x4 : Bool) (x5 : List Int) (x6 : Int) (x7 : Bool) (x8 : Bool) (x9 : List Int) (x10 : Bool) (x11 : List Int) (x12 : Int) : law12_VoteMid_S0_c0 x9 x11 = false → segG (runC E0 (cl E0) S11_0) [1, 3, 7, 8] [6] [1, 3, 7, 8] 2 ([(V.d (slD (encI .i64) true 1 x8 x9)), (V.ptr 0 1 0 0), (V.d (slD (encI .i64) true 1 x10 x11)), (V.d (.int .u8 x12))], [(Blk.flat 65 3 [[(.int .i64 x0), (.int .i64 x1), (.int .i64 x2)]] x3), (Blk.gen 73 2 [[(V.d (slD (encI .i64) true 1 x4 x5)), (V.d (.int .u8 x6))]] x7)]) = some (.normal, ([(V.d (slD (encI .i64) true 1 x8 x9)), (V.ptr 0 1 0 0), (V.d (slD (encI .i64) true 1 x10 x11)), (V.d (.int .u8 x12))], [(Blk.flat 65 3 [[(.int .i64 x0), (.int .i64 x1), (.int .i64 x2)]] x3), (Blk.gen 73 2 [[(V.d (slD (encI .i64) true 1 x4 x5)), (V.d (.int .u8 x6))]] x7)])) := by
  unfold law12_VoteMid_S0_c0
  cases h1 : tb (decide (40 < ((x9.length : Nat) : Int)))
  · cases h2 : tb (decide (40 < ((x11.length : Nat) : Int)))
    · intro g0
      exact seg_walk [.o 27 (fun _ => o_len_os (enc := (encI .i64)) (l := x9) (fl := true) (n := x8) (s := 1)), .b (tbE h1), .o 31 (fun _ => o_len_os (enc := (encI .i64)) (l := x11) (fl := true) (n := x10) (s := 1)), .b (tbE h2)] (by kernel_rfl)
    · intro g0
      exact absurd g0 tf
  · intro g0
    exact absurd g0 tf
def law12_VoteMid_S1_c0 (x0 : Int) (x1 : Int) (x2 : Int) (x9 : List Int) (x11 : List Int) : Bool := (bif tb (vote_Vote_ai3oo_c0 x0 x1 x2 x9 x11) then true else false)
theorem law12_VoteMid_S1_t0 (x0 : Int) (x1 : Int) (x2 : Int) (x3 : Bool) (x4 : Bool) (x5 : List Int) (x6 : Int) (x7 : Bool) (x8 : Bool) (x9 : List Int) (x10 : Bool) (x11 : List Int) (x12 : Int) : law12_VoteMid_S1_c0 x0 x1 x2 x9 x11 = true → segG (runC E0 (cl E0) S11_1) [1, 3, 7, 8] [] [1, 3, 7, 8, 9, 10] 2 ([(V.d (slD (encI .i64) true 1 x8 x9)), (V.ptr 0 1 0 0), (V.d (slD (encI .i64) true 1 x10 x11)), (V.d (.int .u8 x12))], [(Blk.flat 65 3 [[(.int .i64 x0), (.int .i64 x1), (.int .i64 x2)]] x3), (Blk.gen 73 2 [[(V.d (slD (encI .i64) true 1 x4 x5)), (V.d (.int .u8 x6))]] x7)]) = some (.normal, ([(V.d (slD (encI .i64) true 1 x8 x9)), (V.ptr 0 1 0 0), (V.d (slD (encI .i64) true 1 x10 x11)), (V.d (.int .u8 x12)), (V.d (.int .i64 (vote_Vote_ai3oo_r0_0 x0 x1 x2 x9 x11))), (V.d (.bool (vote_Vote_ai3oo_r0_1 x0 x1 x2 x9 x11)))], [(Blk.flat 65 3 [[(.int .i64 x0), (.int .i64 x1), (.int .i64 x2)]] x3), (Blk.gen 73 2 [[(V.d (slD (encI .i64) true 1 x4 x5)), (V.d (.int .u8 x6))]] x7)])) := by
  unfold law12_VoteMid_S1_c0
  cases h1 : tb (vote_Vote_ai3oo_c0 x0 x1 x2 x9 x11)
  · intro g0
    exact absurd g0 ft
  · intro g0
    exact seg_walk [.c (vote_Vote_ai3oo_t0 x0 x1 x2 x8 x9 x10 x11 (tbE h1))] (by kernel_rfl)
def law12_VoteMid_S2_c0 (x14 : Bool) : Bool := (bif tb (x14) then true else false)
theorem law12_VoteMid_S2_t0 (x0 : Int) (x1 : Int) (x2 : Int) (x3 : Bool) (x4 : Bool) (x5 : List Int) (x6 : Int) (x7 : Bool) (x8 : Bool) (x9 : List Int) (x10 : Bool) (x11 : List Int) (x12 : Int) (x13 : Int) (x14 : Bool) : law12_VoteMid_S2_c0 x14 = true → segG (runC E0 (cl E0) S11_2) [1, 3, 7, 8, 9, 10] [6] [1, 3, 7, 8, 9] 2 ([(V.d (slD (encI .i64) true 1 x8 x9)), (V.ptr 0 1 0 0), (V.d (slD (encI .i64) true 1 x10 x11)), (V.d (.int .u8 x12)), (V.d (.int .i64 x13)), (V.d (.bool x14))], [(Blk.flat 65 3 [[(.int .i64 x0), (.int .i64 x1), (.int .i64 x2)]] x3), (Blk.gen 73 2 [[(V.d (slD (encI .i64) true 1 x4 x5)), (V.d (.int .u8 x6))]] x7)]) = some (.normal, ([(V.d (slD (encI .i64) true 1 x8 x9)), (V.ptr 0 1 0 0), (V.d (slD (encI .i64) true 1 x10 x11)), (V.d (.int .u8 x12)), (V.d (.int .i64 x13))], [(Blk.flat 65 3 [[(.int .i64 x0), (.int .i64 x1), (.int .i64 x2)]] x3), (Blk.gen 73 2 [[(V.d (slD (encI .i64) true 1 x4 x5)), (V.d (.int .u8 x6))]] x7)])) := by
  unfold law12_VoteMid_S2_c0
  cases h1 : tb (x14)
  · intro g0
    exact absurd g0 ft
  · intro g0
    exact seg_walk [.b (notT (tbE h1))] (by kernel_rfl)
theorem law12_VoteMid_S2_t1 (x0 : Int) (x1 : Int) (x2 : Int) (x3 : Bool) (x4 : Bool) (x5 : List Int) (x6 : Int) (x7 : Bool) (x8 : Bool) (x9 : List Int) (x10 : Bool) (x11 : List Int) (x12 : Int) (x13 : Int) (x14 : Bool) : law12_VoteMid_S2_c0 x14 = false → segG (runC E0 (cl E0) S11_2) [1, 3, 7, 8, 9, 10] [6] [1, 3, 7, 8, 9] 2 ([(V.d (slD (encI .i64) true 1 x8 x9)), (V.ptr 0 1 0 0), (V.d (slD (encI .i64) true 1 x10 x11)), (V.d (.int .u8 x12)), (V.d (.int .i64 x13)), (V.d (.bool x14))], [(Blk.flat 65 3 [[(.int .i64 x0), (.int .i64 x1), (.int .i64 x2)]] x3), (Blk.gen 73 2 [[(V.d (slD (encI .i64) true 1 x4 x5)), (V.d (.int .u8 x6))]] x7)]) = some (.ret, ([(V.d (.bool ((x13 : Int) == 0)))], [(Blk.flat 65 3 [[(.int .i64 x0), (.int .i64 x1), (.int .i64 x2)]] x3), (Blk.gen 73 2 [[(V.d (slD (encI .i64) true 1 x4 x5)), (V.d (.int .u8 x6))]] x7)])) := by
  unfold law12_VoteMid_S2_c0
  cases h1 : tb (x14)
  · intro g0
    exact seg_walk [.b (notF (tbE h1)), .c (law12_alive_t0), .k true] (by kernel_rfl)
  · intro g0
    exact absurd g0 tf
def law12_VoteMid_S3_c0 (x9 : List Int) : Bool := (bif tb (order_Mid_o_c0 x9) then true else false)
theorem law12_VoteMid_S3_t0 (x0 : Int) (x1 : Int) (x2 : Int) (x3 : Bool) (x4 : Bool) (x5 : List Int) (x6 : Int) (x7 : Bool) (x8 : Bool) (x9 : List Int) (x10 : Bool) (x11 : List Int) (x12 : Int) (x13 : Int) : law12_VoteMid_S3_c0 x9 = true → segG (runC E0 (cl E0) S11_3) [1, 3, 7, 8, 9] [] [1, 3, 7, 8, 9, 11, 12] 2 ([(V.d (slD (encI .i64) true 1 x8 x9)), (V.ptr 0 1 0 0), (V.d (slD (encI .i64) true 1 x10 x11)), (V.d (.int .u8 x12)), (V.d (.int .i64 x13))], [(Blk.flat 65 3 [[(.int .i64 x0), (.int .i64 x1), (.int .i64 x2)]] x3), (Blk.gen 73 2 [[(V.d (slD (encI .i64) true 1 x4 x5)), (V.d (.int .u8 x6))]] x7)]) = some (.normal, ([(V.d (slD (encI .i64) true 1 x8 x9)), (V.ptr 0 1 0 0), (V.d (slD (encI .i64) true 1 x10 x11)), (V.d (.int .u8 x12)), (V.d (.int .i64 x13)), (V.d (.int .i64 (order_Mid_o_r0_0 x9))), (V.d (.bool (order_Mid_o_r0_1 x9)))], [(Blk.flat 65 3 [[(.int .i64 x0), (.int .i64 x1), (.int .i64 x2)]] x3), (Blk.gen 73 2 [[(V.d (slD (encI .i64) true 1 x4 x5)), (V.d (.int .u8 x6))]] x7)])) := by
  unfold law12_VoteMid_S3_c0
  cases h1 : tb (order_Mid_o_c0 x9)
  · intro g0
    exact absurd g0 ft
  · intro g0
    exact seg_walk [.c (order_Mid_o_t0 x8 x9 (tbE h1))] (by kernel_rfl)
def law12_VoteMid_S4_e0 (x9 : List Int) : Int := gt (order_Sort_o_L2_r0_3 (order_Sort_o_e2 x9) (((order_Sort_o_e2 x9) : Nat) : Int) (order_Sort_o_S3_e0 (order_Sort_o_e0 x9) (order_Sort_o_e2 x9))) 0
def law12_VoteMid_S4_e1 (x9 : List Int) : Int := gt (order_Sort_o_L2_r0_3 (order_Sort_o_e2 x9) (((order_Sort_o_e2 x9) : Nat) : Int) (order_Sort_o_S3_e0 (order_Sort_o_e0 x9) (order_Sort_o_e2 x9))) (wi ((((order_Sort_o_e2 x9) : Nat) : Int) - 1))
def law12_VoteMid_S4_c0 (x0 : Int) (x1 : Int) (x2 : Int) (x9 : List Int) (x11 : List Int) (x13 : Int) (x14 : Int) (x15 : Bool) : Bool := (bif tb (order_Sort_o_c0 x9) then (bif tb (x15) then (bif tb (((((order_Sort_o_e2 x9) : Nat) : Int) : Int) == 0) then true else (bif tb (((((order_Sort_o_e2 x9) : Nat) : Int) : Int) != ((x11.length : Nat) : Int)) then true else (bif tb (decide (x13 < x0)) then true else (bif tb (decide (x1 < x13)) then true else (bif tb (decide (x0 ≤ x14)) then (bif tb (decide (x14 ≤ x1)) then (bif tb (decide ((wi (x14 + x2)) < x13)) then true else (bif tb (decide (x13 < (wi (x14 - x2)))) then true else (bif tb (inb (order_Sort_o_e2 x9) 0) then (bif tb (Nat.beq (order_Sort_o_e2 x9) (order_Sort_o_L2_r0_3 (order_Sort_o_e2 x9) (((order_Sort_o_e2 x9) : Nat) : Int) (order_Sort_o_S3_e0 (order_Sort_o_e0 x9) (order_Sort_o_e2 x9))).length) then (bif tb (decide (x0 ≤ (law12_VoteMid_S4_e0 x9))) then (bif tb (inb (order_Sort_o_e2 x9) (wi ((((order_Sort_o_e2 x9) : Nat) : Int) - 1))) then (bif tb (decide ((law12_VoteMid_S4_e1 x9) ≤ x1)) then (bif tb (decide (x13 < (law12_VoteMid_S4_e0 x9))) then true else (bif tb (decide ((law12_VoteMid_S4_e1 x9) < x13)) then true else false)) else false) else false) else false) else false) else false))) else (bif tb (inb (order_Sort_o_e2 x9) 0) then (bif tb (Nat.beq (order_Sort_o_e2 x9) (order_Sort_o_L2_r0_3 (order_Sort_o_e2 x9) (((order_Sort_o_e2 x9) : Nat) : Int) (order_Sort_o_S3_e0 (order_Sort_o_e0 x9) (order_Sort_o_e2 x9))).length) then (bif tb (decide (x0 ≤ (law12_VoteMid_S4_e0 x9))) then (bif tb (inb (order_Sort_o_e2 x9) (wi ((((order_Sort_o_e2 x9) : Nat) : Int) - 1))) then (bif tb (decide ((law12_VoteMid_S4_e1 x9) ≤ x1)) then (bif tb (decide (x13 < (law12_VoteMid_S4_e0 x9))) then true else (bif tb (decide ((law12_VoteMid_S4_e1 x9) < x13)) then true else false)) else false) else false) else false) else false) else false)) else (bif tb (inb (order_Sort_o_e2 x9) 0) then (bif tb (Nat.beq (order_Sort_o_e2 x9) (order_Sort_o_L2_r0_3 (order_Sort_o_e2 x9) (((order_Sort_o_e2 x9) : Nat) : Int) (order_Sort_o_S3_e0 (order_Sort_o_e0 x9) (order_Sort_o_e2 x9))).length) then (bif tb (decide (x0 ≤ (law12_VoteMid_S4_e0 x9))) then (bif tb (inb (order_Sort_o_e2 x9) (wi ((((order_Sort_o_e2 x9) : Nat) : Int) - 1))) then (bif tb (decide ((law12_VoteMid_S4_e1 x9) ≤ x1)) then (bif tb (decide (x13 < (law12_VoteMid_S4_e0 x9))) then true else (bif tb (decide ((law12_VoteMid_S4_e1 x9) < x13)) then true else false)) else false) else false) else false) else false) else false)))))) else true) else (bif tb (order_Sort_o_c1 x9) then true else false))
def law12_VoteMid_S4_c1 (x0 : Int) (x1 : Int) (x2 : Int) (x9 : List Int) (x11 : List Int) (x13 : Int) (x14 : Int) (x15 : Bool) : Bool := (bif tb (order_Sort_o_c0 x9) then (bif tb (x15) then (bif tb (((((order_Sort_o_e2 x9) : Nat) : Int) : Int) == 0) then false else (bif tb (((((order_Sort_o_e2 x9) : Nat) : Int) : Int) != ((x11.length : Nat) : Int)) then false else (bif tb (decide (x13 < x0)) then false else (bif tb (decide (x1 < x13)) then false else (bif tb (decide (x0 ≤ x14)) then (bif tb (decide (x14 ≤ x1)) then (bif tb (decide ((wi (x14 + x2)) < x13)) then false else (bif tb (decide (x13 < (wi (x14 - x2)))) then false else (bif tb (inb (order_Sort_o_e2 x9) 0) then (bif tb (Nat.beq (order_Sort_o_e2 x9) (order_Sort_o_L2_r0_3 (order_Sort_o_e2 x9) (((order_Sort_o_e2 x9) : Nat) : Int) (order_Sort_o_S3_e0 (order_Sort_o_e0 x9) (order_Sort_o_e2 x9))).length) then (bif tb (decide (x0 ≤ (law12_VoteMid_S4_e0 x9))) then (bif tb (inb (order_Sort_o_e2 x9) (wi ((((order_Sort_o_e2 x9) : Nat) : Int) - 1))) then (bif tb (decide ((law12_VoteMid_S4_e1 x9) ≤ x1)) then (bif tb (decide (x13 < (law12_VoteMid_S4_e0 x9))) then false else (bif tb (decide ((law12_VoteMid_S4_e1 x9) < x13)) then false else true)) else true) else false) else true) else false) else false))) else (bif tb (inb (order_Sort_o_e2 x9) 0) then (bif tb (Nat.beq (order_Sort_o_e2 x9) (order_Sort_o_L2_r0_3 (order_Sort_o_e2 x9) (((order_Sort_o_e2 x9) : Nat) : Int) (order_Sort_o_S3_e0 (order_Sort_o_e0 x9) (order_Sort_o_e2 x9))).length) then (bif tb (decide (x0 ≤ (law12_VoteMid_S4_e0 x9))) then (bif tb (inb (order_Sort_o_e2 x9) (wi ((((order_Sort_o_e2 x9) : Nat) : Int) - 1))) then (bif tb (decide ((law12_VoteMid_S4_e1 x9) ≤ x1)) then (bif tb (decide (x13 < (law12_VoteMid_S4_e0 x9))) then false else (bif tb (decide ((law12_VoteMid_S4_e1 x9) < x13)) then false else true)) else true) else false) else true) else false) else false)) else (bif tb (inb (order_Sort_o_e2 x9) 0) then (bif tb (Nat.beq (order_Sort_o_e2 x9) (order_Sort_o_L2_r0_3 (order_Sort_o_e2 x9) (((order_Sort_o_e2 x9) : Nat) : Int) (order_Sort_o_S3_e0 (order_Sort_o_e0 x9) (order_Sort_o_e2 x9))).length) then (bif tb (decide (x0 ≤ (law12_VoteMid_S4_e0 x9))) then (bif tb (inb (order_Sort_o_e2 x9) (wi ((((order_Sort_o_e2 x9) : Nat) : Int) - 1))) then (bif tb (decide ((law12_VoteMid_S4_e1 x9) ≤ x1)) then (bif tb (decide (x13 < (law12_VoteMid_S4_e0 x9))) then false else (bif tb (decide ((law12_VoteMid_S4_e1 x9) < x13)) then false else true)) else true) else false) else true) else false) else false)))))) else false) else false)
theorem law12_VoteMid_S4_t0 (x0 : Int) (x1 : Int) (x2 : Int) (x3 : Bool) (x4 : Bool) (x5 : List Int) (x6 : Int) (x7 : Bool) (x8 : Bool) (x9 : List Int) (x10 : Bool) (x11 : List Int) (x12 : Int) (x13 : Int) (x14 : Int) (x15 : Bool) : law12_VoteMid_S4_c0 x0 x1 x2 x9 x11 x13 x14 x15 = true → segG (runC E0 (cl E0) S11_4) [1, 3, 7, 8, 9, 11, 12] [6] [1, 3, 7, 8, 11] 2 ([(V.d (slD (encI .i64) true 1 x8 x9)), (V.ptr 0 1 0 0), (V.d (slD (encI .i64) true 1 x10 x11)), (V.d (.int .u8 x12)), (V.d (.int .i64 x13)), (V.d (.int .i64 x14)), (V.d (.bool x15))], [(Blk.flat 65 3 [[(.int .i64 x0), (.int .i64 x1), (.int .i64 x2)]] x3), (Blk.gen 73 2 [[(V.d (slD (encI .i64) true 1 x4 x5)), (V.d (.int .u8 x6))]] x7)]) = some (.ret, ([(V.d (.bool false))], [(Blk.flat 65 3 [[(.int .i64 x0), (.int .i64 x1), (.int .i64 x2)]] x3), (Blk.gen 73 2 [[(V.d (slD (encI .i64) true 1 x4 x5)), (V.d (.int .u8 x6))]] x7)])) := by
  unfold law12_VoteMid_S4_c0
  cases h1 : tb (order_Sort_o_c0 x9)
  · cases h2 : tb (order_Sort_o_c1 x9)
    · intro g0
      exact absurd g0 ft
    · cases h3 : tb (x15)
      · intro g0
        exact seg_walk [.c (order_Sort_o_t1 x8 x9 (tbE h1) (tbE h2)), .b (notF (tbE h3))] (by kernel_rfl)
      · intro g0
        exact seg_walk [.c (order_Sort_o_t1 x8 x9 (tbE h1) (tbE h2)), .b (notT (tbE h3)), .k true] (by kernel_rfl)
  · cases h2 : tb (x15)
    · intro g0
      exact seg_walk [.c (order_Sort_o_t0 x8 x9 (tbE h1)), .b (notF (tbE h2))] (by kernel_rfl)
    · cases h3 : tb (((((order_Sort_o_e2 x9) : Nat) : Int) : Int) == 0)
      · cases h4 : tb (((((order_Sort_o_e2 x9) : Nat) : Int) : Int) != ((x11.length : Nat) : Int))
        · cases h5 : tb (decide (x13 < x0))
          · cases h6 : tb (decide (x1 < x13))
            · cases h7 : tb (decide (x0 ≤ x14))
              · cases h8 : tb (inb (order_Sort_o_e2 x9) 0)
                · intro g0
                  exact absurd g0 ft
                · cases h9 : tb (Nat.beq (order_Sort_o_e2 x9) (order_Sort_o_L2_r0_3 (order_Sort_o_e2 x9) (((order_Sort_o_e2 x9) : Nat) : Int) (order_Sort_o_S3_e0 (order_Sort_o_e0 x9) (order_Sort_o_e2 x9))).length)
                  · intro g0
                    exact absurd g0 ft
                  · cases h10 : tb (decide (x0 ≤ (law12_VoteMid_S4_e0 x9)))
                    · intro g0
                      exact absurd g0 ft
                    · cases h11 : tb (inb (order_Sort_o_e2 x9) (wi ((((order_Sort_o_e2 x9) : Nat) : Int) - 1)))
                      · intro g0
                        exact absurd g0 ft
                      · cases h12 : tb (decide ((law12_VoteMid_S4_e1 x9) ≤ x1))
                        · intro g0
                          exact absurd g0 ft
                        · cases h13 : tb (decide (x13 < (law12_VoteMid_S4_e0 x9)))
                          · cases h14 : tb (decide ((law12_VoteMid_S4_e1 x9) < x13))
                            · intro g0
                              exact absurd g0 ft
                            · intro g0
                              exact seg_walk [.c (order_Sort_o_t0 x8 x9 (tbE h1)), .b (notT (tbE h2)), .b (tbE h3), .o 67 (fun _ => o_len_os (enc := (encI .i64)) (l := x11) (fl := true) (n := x10) (s := 1)), .b (tbE h4), .b (tbE h5), .b (tbE h6), .b (tbE h7), .m 110 (o_idx_so (m := [(Blk.flat 65 3 [[(.int .i64 x0), (.int .i64 x1), (.int .i64 x2)]] true), (Blk.gen 73 2 [[(V.d (slD (encI .i64) true 1 x4 x5)), (V.d (.int .u8 x6))]] true), (Blk.flat 3 1 (List.map (encI .i64) (order_Sort_o_L2_r0_3 (order_Sort_o_e2 x9) (((order_Sort_o_e2 x9) : Nat) : Int) (order_Sort_o_S3_e0 (order_Sort_o_e0 x9) (order_Sort_o_e2 x9)))) true)]) (b := false) (id := 2) (n := (order_Sort_o_e2 x9)) (s := 1) (k := .i64) (by kernel_rfl) (tbE h8)), .m 111 (o_load_L (m := [(Blk.flat 65 3 [[(.int .i64 x0), (.int .i64 x1), (.int .i64 x2)]] true), (Blk.gen 73 2 [[(V.d (slD (encI .i64) true 1 x4 x5)), (V.d (.int .u8 x6))]] true), (Blk.flat 3 1 (List.map (encI .i64) (order_Sort_o_L2_r0_3 (order_Sort_o_e2 x9) (((order_Sort_o_e2 x9) : Nat) : Int) (order_Sort_o_S3_e0 (order_Sort_o_e0 x9) (order_Sort_o_e2 x9)))) true)]) (enc := (encI .i64)) (l := (order_Sort_o_L2_r0_3 (order_Sort_o_e2 x9) (((order_Sort_o_e2 x9) : Nat) : Int) (order_Sort_o_S3_e0 (order_Sort_o_e0 x9) (order_Sort_o_e2 x9)))) (id := 2) (e := 3) (s := 1) (off := 0) (size := 1) (p := true) (agg := false) (i := 0) (v := (V.d (.int .i64 (law12_VoteMid_S4_e0 x9)))) (n := (order_Sort_o_e2 x9)) (tbE h9) (by kernel_rfl) (tbE h8) (by kernel_rfl)), .b (tbE h10), .m 120 (o_idx_so (m := [(Blk.flat 65 3 [[(.int .i64 x0), (.int .i64 x1), (.int .i64 x2)]] true), (Blk.gen 73 2 [[(V.d (slD (encI .i64) true 1 x4 x5)), (V.d (.int .u8 x6))]] true), (Blk.flat 3 1 (List.map (encI .i64) (order_Sort_o_L2_r0_3 (order_Sort_o_e2 x9) (((order_Sort_o_e2 x9) : Nat) : Int) (order_Sort_o_S3_e0 (order_Sort_o_e0 x9) (order_Sort_o_e2 x9)))) true)]) (b := false) (id := 2) (n := (order_Sort_o_e2 x9)) (s := 1) (k := .i64) (by kernel_rfl) (tbE h11)), .m 121 (o_load_L (m := [(Blk.flat 65 3 [[(.int .i64 x0), (.int .i64 x1), (.int .i64 x2)]] true), (Blk.gen 73 2 [[(V.d (slD (encI .i64) true 1 x4 x5)), (V.d (.int .u8 x6))]] true), (Blk.flat 3 1 (List.map (encI .i64) (order_Sort_o_L2_r0_3 (order_Sort_o_e2 x9) (((order_Sort_o_e2 x9) : Nat) : Int) (order_Sort_o_S3_e0 (order_Sort_o_e0 x9) (order_Sort_o_e2 x9)))) true)]) (enc := (encI .i64)) (l := (order_Sort_o_L2_r0_3 (order_Sort_o_e2 x9) (((order_Sort_o_e2 x9) : Nat) : Int) (order_Sort_o_S3_e0 (order_Sort_o_e0 x9) (order_Sort_o_e2 x9)))) (id := 2) (e := 3) (s := 1) (off := 0) (size := 1) (p := true) (agg := false) (i := (wi ((((order_Sort_o_e2 x9) : Nat) : Int) - 1))) (v := (V.d (.int .i64 (law12_VoteMid_S4_e1 x9)))) (n := (order_Sort_o_e2 x9)) (tbE h9) (by kernel_rfl) (tbE h11) (by kernel_rfl)), .b (tbE h12), .m 129 (o_idx_so (m := [(Blk.flat 65 3 [[(.int .i64 x0), (.int .i64 x1), (.int .i64 x2)]] true), (Blk.gen 73 2 [[(V.d (slD (encI .i64) true 1 x4 x5)), (V.d (.int .u8 x6))]] true), (Blk.flat 3 1 (List.map (encI .i64) (order_Sort_o_L2_r0_3 (order_Sort_o_e2 x9) (((order_Sort_o_e2 x9) : Nat) : Int) (order_Sort_o_S3_e0 (order_Sort_o_e0 x9) (order_Sort_o_e2 x9)))) true)]) (b := false) (id := 2) (n := (order_Sort_o_e2 x9)) (s := 1) (k := .i64) (by kernel_rfl) (tbE h8)), .m 130 (o_load_L (m := [(Blk.flat 65 3 [[(.int .i64 x0), (.int .i64 x1), (.int .i64 x2)]] true), (Blk.gen 73 2 [[(V.d (slD (encI .i64) true 1 x4 x5)), (V.d (.int .u8 x6))]] true), (Blk.flat 3 1 (List.map (encI .i64) (order_Sort_o_L2_r0_3 (order_Sort_o_e2 x9) (((order_Sort_o_e2 x9) : Nat) : Int) (order_Sort_o_S3_e0 (order_Sort_o_e0 x9) (order_Sort_o_e2 x9)))) true)]) (enc := (encI .i64)) (l := (order_Sort_o_L2_r0_3 (order_Sort_o_e2 x9) (((order_Sort_o_e2 x9) : Nat) : Int) (order_Sort_o_S3_e0 (order_Sort_o_e0 x9) (order_Sort_o_e2 x9)))) (id := 2) (e := 3) (s := 1) (off := 0) (size := 1) (p := true) (agg := false) (i := 0) (v := (V.d (.int .i64 (law12_VoteMid_S4_e0 x9)))) (n := (order_Sort_o_e2 x9)) (tbE h9) (by kernel_rfl) (tbE h8) (by kernel_rfl)), .b (tbE h13), .m 138 (o_idx_so (m := [(Blk.flat 65 3 [[(.int .i64 x0), (.int .i64 x1), (.int .i64 x2)]] true), (Blk.gen 73 2 [[(V.d (slD (encI .i64) true 1 x4 x5)), (V.d (.int .u8 x6))]] true), (Blk.flat 3 1 (List.map (encI .i64) (order_Sort_o_L2_r0_3 (order_Sort_o_e2 x9) (((order_Sort_o_e2 x9) : Nat) : Int) (order_Sort_o_S3_e0 (order_Sort_o_e0 x9) (order_Sort_o_e2 x9)))) true)]) (b := false) (id := 2) (n := (order_Sort_o_e2 x9)) (s := 1) (k := .i64) (by kernel_rfl) (tbE h11)), .m 139 (o_load_L (m := [(Blk.flat 65 3 [[(.int .i64 x0), (.int .i64 x1), (.int .i64 x2)]] true), (Blk.gen 73 2 [[(V.d (slD (encI .i64) true 1 x4 x5)), (V.d (.int .u8 x6))]] true), (Blk.flat 3 1 (List.map (encI .i64) (order_Sort_o_L2_r0_3 (order_Sort_o_e2 x9) (((order_Sort_o_e2 x9) : Nat) : Int) (order_Sort_o_S3_e0 (order_Sort_o_e0 x9) (order_Sort_o_e2 x9)))) true)]) (enc := (encI .i64)) (l := (order_Sort_o_L2_r0_3 (order_Sort_o_e2 x9) (((order_Sort_o_e2 x9) : Nat) : Int) (order_Sort_o_S3_e0 (order_Sort_o_e0 x9) (order_Sort_o_e2 x9)))) (id := 2) (e := 3) (s := 1) (off := 0) (size := 1) (p := true) (agg := false) (i := (wi ((((order_Sort_o_e2 x9) : Nat) : Int) - 1))) (v := (V.d (.int .i64 (law12_VoteMid_S4_e1 x9)))) (n := (order_Sort_o_e2 x9)) (tbE h9) (by kernel_rfl) (tbE h11) (by kernel_rfl)), .b (tbE h14)] (by kernel_rfl)
                          · intro g0
                            exact seg_walk [.c (order_Sort_o_t0 x8 x9 (tbE h1)), .b (notT (tbE h2)), .b (tbE h3), .o 67 (fun _ => o_len_os (enc := (encI .i64)) (l := x11) (fl := true) (n := x10) (s := 1)), .b (tbE h4), .b (tbE h5), .b (tbE h6), .b (tbE h7), .m 110 (o_idx_so (m := [(Blk.flat 65 3 [[(.int .i64 x0), (.int .i64 x1), (.int .i64 x2)]] true), (Blk.gen 73 2 [[(V.d (slD (encI .i64) true 1 x4 x5)), (V.d (.int .u8 x6))]] true), (Blk.flat 3 1 (List.map (encI .i64) (order_Sort_o_L2_r0_3 (order_Sort_o_e2 x9) (((order_Sort_o_e2 x9) : Nat) : Int) (order_Sort_o_S3_e0 (order_Sort_o_e0 x9) (order_Sort_o_e2 x9)))) true)]) (b := false) (id := 2) (n := (order_Sort_o_e2 x9)) (s := 1) (k := .i64) (by kernel_rfl) (tbE h8)), .m 111 (o_load_L (m := [(Blk.flat 65 3 [[(.int .i64 x0), (.int .i64 x1), (.int .i64 x2)]] true), (Blk.gen 73 2 [[(V.d (slD (encI .i64) true 1 x4 x5)), (V.d (.int .u8 x6))]] true), (Blk.flat 3 1 (List.map (encI .i64) (order_Sort_o_L2_r0_3 (order_Sort_o_e2 x9) (((order_Sort_o_e2 x9) : Nat) : Int) (order_Sort_o_S3_e0 (order_Sort_o_e0 x9) (order_Sort_o_e2 x9)))) true)]) (enc := (encI .i64)) (l := (order_Sort_o_L2_r0_3 (order_Sort_o_e2 x9) (((order_Sort_o_e2 x9) : Nat) : Int) (order_Sort_o_S3_e0 (order_Sort_o_e0 x9) (order_Sort_o_e2 x9)))) (id := 2) (e := 3) (s := 1) (off := 0) (size := 1) (p := true) (agg := false) (i := 0) (v := (V.d (.int .i64 (law12_VoteMid_S4_e0 x9)))) (n := (order_Sort_o_e2 x9)) (tbE h9) (by kernel_rfl) (tbE h8) (by kernel_rfl)), .b (tbE h10), .m 120 (o_idx_so (m := [(Blk.flat 65 3 [[(.int .i64 x0), (.int .i64 x1), (.int .i64 x2)]] true), (Blk.gen 73 2 [[(V.d (slD (encI .i64) true 1 x4 x5)), (V.d (.int .u8 x6))]] true), (Blk.flat 3 1 (List.map (encI .i64) (order_Sort_o_L2_r0_3 (order_Sort_o_e2 x9) (((order_Sort_o_e2 x9) : Nat) : Int) (order_Sort_o_S3_e0 (order_Sort_o_e0 x9) (order_Sort_o_e2 x9)))) true)]) (b := false) (id := 2) (n := (order_Sort_o_e2 x9)) (s := 1) (k := .i64) (by kernel_rfl) (tbE h11)), .m 121 (o_load_L (m := [(Blk.flat 65 3 [[(.int .i64 x0), (.int .i64 x1), (.int .i64 x2)]] true), (Blk.gen 73 2 [[(V.d (slD (encI .i64) true 1 x4 x5)), (V.d (.int .u8 x6))]] true), (Blk.flat 3 1 (List.map (encI .i64) (order_Sort_o_L2_r0_3 (order_Sort_o_e2 x9) (((order_Sort_o_e2 x9) : Nat) : Int) (order_Sort_o_S3_e0 (order_Sort_o_e0 x9) (order_Sort_o_e2 x9)))) true)]) (enc := (encI .i64)) (l := (order_Sort_o_L2_r0_3 (order_Sort_o_e2 x9) (((order_Sort_o_e2 x9) : Nat) : Int) (order_Sort_o_S3_e0 (order_Sort_o_e0 x9) (order_Sort_o_e2 x9)))) (id := 2) (e := 3) (s := 1) (off := 0) (size := 1) (p := true) (agg := false) (i := (wi ((((order_Sort_o_e2 x9) : Nat) : Int) - 1))) (v := (V.d (.int .i64 (law12_VoteMid_S4_e1 x9)))) (n := (order_Sort_o_e2 x9)) (tbE h9) (by kernel_rfl) (tbE h11) (by kernel_rfl)), .b (tbE h12), .m 129 (o_idx_so (m := [(Blk.flat 65 3 [[(.int .i64 x0), (.int .i64 x1), (.int .i64 x2)]] true), (Blk.gen 73 2 [[(V.d (slD (encI .i64) true 1 x4 x5)), (V.d (.int .u8 x6))]] true), (Blk.flat 3 1 (List.map (encI .i64) (order_Sort_o_L2_r0_3 (order_Sort_o_e2 x9) (((order_Sort_o_e2 x9) : Nat) : Int) (order_Sort_o_S3_e0 (order_Sort_o_e0 x9) (order_Sort_o_e2 x9)))) true)]) (b := false) (id := 2) (n := (order_Sort_o_e2 x9)) (s := 1) (k := .i64) (by kernel_rfl) (tbE h8)), .m 130 (o_load_L (m := [(Blk.flat 65 3 [[(.int .i64 x0), (.int .i64 x1), (.int .i64 x2)]] true), (Blk.gen 73 2 [[(V.d (slD (encI .i64) true 1 x4 x5)), (V.d (.int .u8 x6))]] true), (Blk.flat 3 1 (List.map (encI .i64) (order_Sort_o_L2_r0_3 (order_Sort_o_e2 x9) (((order_Sort_o_e2 x9) : Nat) : Int) (order_Sort_o_S3_e0 (order_Sort_o_e0 x9) (order_Sort_o_e2 x9)))) true)]) (enc := (encI .i64)) (l := (order_Sort_o_L2_r0_3 (order_Sort_o_e2 x9) (((order_Sort_o_e2 x9) : Nat) : Int) (order_Sort_o_S3_e0 (order_Sort_o_e0 x9) (order_Sort_o_e2 x9)))) (id := 2) (e := 3) (s := 1) (off := 0) (size := 1) (p := true) (agg := false) (i := 0) (v := (V.d (.int .i64 (law12_VoteMid_S4_e0 x9)))) (n := (order_Sort_o_e2 x9)) (tbE h9) (by kernel_rfl) (tbE h8) (by kernel_rfl)), .b (tbE h13)] (by kernel_rfl)
              · cases h8 : tb (decide (x14 ≤ x1))
                · cases h9 : tb (inb (order_Sort_o_e2 x9) 0)
                  · intro g0
                    exact absurd g0 ft
                  · cases h10 : tb (Nat.beq (order_Sort_o_e2 x9) (order_Sort_o_L2_r0_3 (order_Sort_o_e2 x9) (((order_Sort_o_e2 x9) : Nat) : Int) (order_Sort_o_S3_e0 (order_Sort_o_e0 x9) (order_Sort_o_e2 x9))).length)
                    · intro g0
                      exact absurd g0 ft
                    · cases h11 : tb (decide (x0 ≤ (law12_VoteMid_S4_e0 x9)))
                      · intro g0
                        exact absurd g0 ft
                      · cases h12 : tb (inb (order_Sort_o_e2 x9) (wi ((((order_Sort_o_e2 x9) : Nat) : Int) - 1)))
                        · intro g0
                          exact absurd g0 ft
                        · cases h13 : tb (decide ((law12_VoteMid_S4_e1 x9) ≤ x1))
                          · intro g0
                            exact absurd g0 ft
                          · cases h14 : tb (decide (x13 < (law12_VoteMid_S4_e0 x9)))
                            · cases h15 : tb (decide ((law12_VoteMid_S4_e1 x9) < x13))
                              · intro g0
                                exact absurd g0 ft
                              · intro g0
                                exact seg_walk [.c (order_Sort_o_t0 x8 x9 (tbE h1)), .b (notT (tbE h2)), .b (tbE h3), .o 67 (fun _ => o_len_os (enc := (encI .i64)) (l := x11) (fl := true) (n := x10) (s := 1)), .b (tbE h4), .b (tbE h5), .b (tbE h6), .b (tbE h7), .b (tbE h8), .m 110 (o_idx_so (m := [(Blk.flat 65 3 [[(.int .i64 x0), (.int .i64 x1), (.int .i64 x2)]] true), (Blk.gen 73 2 [[(V.d (slD (encI .i64) true 1 x4 x5)), (V.d (.int .u8 x6))]] true), (Blk.flat 3 1 (List.map (encI .i64) (order_Sort_o_L2_r0_3 (order_Sort_o_e2 x9) (((order_Sort_o_e2 x9) : Nat) : Int) (order_Sort_o_S3_e0 (order_Sort_o_e0 x9) (order_Sort_o_e2 x9)))) true)]) (b := false) (id := 2) (n := (order_Sort_o_e2 x9)) (s := 1) (k := .i64) (by kernel_rfl) (tbE h9)), .m 111 (o_load_L (m := [(Blk.flat 65 3 [[(.int .i64 x0), (.int .i64 x1), (.int .i64 x2)]] true), (Blk.gen 73 2 [[(V.d (slD (encI .i64) true 1 x4 x5)), (V.d (.int .u8 x6))]] true), (Blk.flat 3 1 (List.map (encI .i64) (order_Sort_o_L2_r0_3 (order_Sort_o_e2 x9) (((order_Sort_o_e2 x9) : Nat) : Int) (order_Sort_o_S3_e0 (order_Sort_o_e0 x9) (order_Sort_o_e2 x9)))) true)]) (enc := (encI .i64)) (l := (order_Sort_o_L2_r0_3 (order_Sort_o_e2 x9) (((order_Sort_o_e2 x9) : Nat) : Int) (order_Sort_o_S3_e0 (order_Sort_o_e0 x9) (order_Sort_o_e2 x9)))) (id := 2) (e := 3) (s := 1) (off := 0) (size := 1) (p := true) (agg := false) (i := 0) (v := (V.d (.int .i64 (law12_VoteMid_S4_e0 x9)))) (n := (order_Sort_o_e2 x9)) (tbE h10) (by kernel_rfl) (tbE h9) (by kernel_rfl)), .b (tbE h11), .m 120 (o_idx_so (m := [(Blk.flat 65 3 [[(.int .i64 x0), (.int .i64 x1), (.int .i64 x2)]] true), (Blk.gen 73 2 [[(V.d (slD (encI .i64) true 1 x4 x5)), (V.d (.int .u8 x6))]] true), (Blk.flat 3 1 (List.map (encI .i64) (order_Sort_o_L2_r0_3 (order_Sort_o_e2 x9) (((order_Sort_o_e2 x9) : Nat) : Int) (order_Sort_o_S3_e0 (order_Sort_o_e0 x9) (order_Sort_o_e2 x9)))) true)]) (b := false) (id := 2) (n := (order_Sort_o_e2 x9)) (s := 1) (k := .i64) (by kernel_rfl) (tbE h12)), .m 121 (o_load_L (m := [(Blk.flat 65 3 [[(.int .i64 x0), (.int .i64 x1), (.int .i64 x2)]] true), (Blk.gen 73 2 [[(V.d (slD (encI .i64) true 1 x4 x5)), (V.d (.int .u8 x6))]] true), (Blk.flat 3 1 (List.map (encI .i64) (order_Sort_o_L2_r0_3 (order_Sort_o_e2 x9) (((order_Sort_o_e2 x9) : Nat) : Int) (order_Sort_o_S3_e0 (order_Sort_o_e0 x9) (order_Sort_o_e2 x9)))) true)]) (enc := (encI .i64)) (l := (order_Sort_o_L2_r0_3 (order_Sort_o_e2 x9) (((order_Sort_o_e2 x9) : Nat) : Int) (order_Sort_o_S3_e0 (order_Sort_o_e0 x9) (order_Sort_o_e2 x9)))) (id := 2) (e := 3) (s := 1) (off := 0) (size := 1) (p := true) (agg := false) (i := (wi ((((order_Sort_o_e2 x9) : Nat) : Int) - 1))) (v := (V.d (.int .i64 (law12_VoteMid_S4_e1 x9)))) (n := (order_Sort_o_e2 x9)) (tbE h10) (by kernel_rfl) (tbE h12) (by kernel_rfl)), .b (tbE h13), .m 129 (o_idx_so (m := [(Blk.flat 65 3 [[(.int .i64 x0), (.int .i64 x1), (.int .i64 x2)]] true), (Blk.gen 73 2 [[(V.d (slD (encI .i64) true 1 x4 x5)), (V.d (.int .u8 x6))]] true), (Blk.flat 3 1 (List.map (encI .i64) (order_Sort_o_L2_r0_3 (order_Sort_o_e2 x9) (((order_Sort_o_e2 x9) : Nat) : Int) (order_Sort_o_S3_e0 (order_Sort_o_e0 x9) (order_Sort_o_e2 x9)))) true)]) (b := false) (id := 2) (n := (order_Sort_o_e2 x9)) (s := 1) (k := .i64) (by kernel_rfl) (tbE h9)), .m 130 (o_load_L (m := [(Blk.flat 65 3 [[(.int .i64 x0), (.int .i64 x1), (.int .i64 x2)]] true), (Blk.gen 73 2 [[(V.d (slD (encI .i64) true 1 x4 x5)), (V.d (.int .u8 x6))]] true), (Blk.flat 3 1 (List.map (encI .i64) (order_Sort_o_L2_r0_3 (order_Sort_o_e2 x9) (((order_Sort_o_e2 x9) : Nat) : Int) (order_Sort_o_S3_e0 (order_Sort_o_e0 x9) (order_Sort_o_e2 x9)))) true)]) (enc := (encI .i64)) (l := (order_Sort_o_L2_r0_3 (order_Sort_o_e2 x9) (((order_Sort_o_e2 x9) : Nat) : Int) (order_Sort_o_S3_e0 (order_Sort_o_e0 x9) (order_Sort_o_e2 x9)))) (id := 2) (e := 3) (s := 1) (off := 0) (size := 1) (p := true) (agg := false) (i := 0) (v := (V.d (.int .i64 (law12_VoteMid_S4_e0 x9)))) (n := (order_Sort_o_e2 x9)) (tbE h10) (by kernel_rfl) (tbE h9) (by kernel_rfl)), .b (tbE h14), .m 138 (o_idx_so (m := [(Blk.flat 65 3 [[(.int .i64 x0), (.int .i64 x1), (.int .i64 x2)]] true), (Blk.gen 73 2 [[(V.d (slD (encI .i64) true 1 x4 x5)), (V.d (.int .u8 x6))]] true), (Blk.flat 3 1 (List.map (encI .i64) (order_Sort_o_L2_r0_3 (order_Sort_o_e2 x9) (((order_Sort_o_e2 x9) : Nat) : Int) (order_Sort_o_S3_e0 (order_Sort_o_e0 x9) (order_Sort_o_e2 x9)))) true)]) (b := false) (id := 2) (n := (order_Sort_o_e2 x9)) (s := 1) (k := .i64) (by kernel_rfl) (tbE h12)), .m 139 (o_load_L (m := [(Blk.flat 65 3 [[(.int .i64 x0), (.int .i64 x1), (.int .i64 x2)]] true), (Blk.gen 73 2 [[(V.d (slD (encI .i64) true 1 x4 x5)), (V.d (.int .u8 x6))]] true), (Blk.flat 3 1 (List.map (encI .i64) (order_Sort_o_L2_r0_3 (order_Sort_o_e2 x9) (((order_Sort_o_e2 x9) : Nat) : Int) (order_Sort_o_S3_e0 (order_Sort_o_e0 x9) (order_Sort_o_e2 x9)))) true)]) (enc := (encI .i64)) (l := (order_Sort_o_L2_r0_3 (order_Sort_o_e2 x9) (((order_Sort_o_e2 x9) : Nat) : Int) (order_Sort_o_S3_e0 (order_Sort_o_e0 x9) (order_Sort_o_e2 x9)))) (id := 2) (e := 3) (s := 1) (off := 0) (size := 1) (p := true) (agg := false) (i := (wi ((((order_Sort_o_e2 x9) : Nat) : Int) - 1))) (v := (V.d (.int .i64 (law12_VoteMid_S4_e1 x9)))) (n := (order_Sort_o_e2 x9)) (tbE h10) (by kernel_rfl) (tbE h12) (by kernel_rfl)), .b (tbE h15)] (by kernel_rfl)
                            · intro g0
                              exact seg_walk [.c (order_Sort_o_t0 x8 x9 (tbE h1)), .b (notT (tbE h2)), .b (tbE h3), .o 67 (fun _ => o_len_os (enc := (encI .i64)) (l := x11) (fl := true) (n := x10) (s := 1)), .b (tbE h4), .b (tbE h5), .b (tbE h6), .b (tbE h7), .b (tbE h8), .m 110 (o_idx_so (m := [(Blk.flat 65 3 [[(.int .i64 x0), (.int .i64 x1), (.int .i64 x2)]] true), (Blk.gen 73 2 [[(V.d (slD (encI .i64) true 1 x4 x5)), (V.d (.int .u8 x6))]] true), (Blk.flat 3 1 (List.map (encI .i64) (order_Sort_o_L2_r0_3 (order_Sort_o_e2 x9) (((order_Sort_o_e2 x9) : Nat) : Int) (order_Sort_o_S3_e0 (order_Sort_o_e0 x9) (order_Sort_o_e2 x9)))) true)]) (b := false) (id := 2) (n := (order_Sort_o_e2 x9)) (s := 1) (k := .i64) (by kernel_rfl) (tbE h9)), .m 111 (o_load_L (m := [(Blk.flat 65 3 [[(.int .i64 x0), (.int .i64 x1), (.int .i64 x2)]] true), (Blk.gen 73 2 [[(V.d (slD (encI .i64) true 1 x4 x5)), (V.d (.int .u8 x6))]] true), (Blk.flat 3 1 (List.map (encI .i64) (order_Sort_o_L2_r0_3 (order_Sort_o_e2 x9) (((order_Sort_o_e2 x9) : Nat) : Int) (order_Sort_o_S3_e0 (order_Sort_o_e0 x9) (order_Sort_o_e2 x9)))) true)]) (enc := (encI .i64)) (l := (order_Sort_o_L2_r0_3 (order_Sort_o_e2 x9) (((order_Sort_o_e2 x9) : Nat) : Int) (order_Sort_o_S3_e0 (order_Sort_o_e0 x9) (order_Sort_o_e2 x9)))) (id := 2) (e := 3) (s := 1) (off := 0) (size := 1) (p := true) (agg := false) (i := 0) (v := (V.d (.int .i64 (law12_VoteMid_S4_e0 x9)))) (n := (order_Sort_o_e2 x9)) (tbE h10) (by kernel_rfl) (tbE h9) (by kernel_rfl)), .b (tbE h11), .m 120 (o_idx_so (m := [(Blk.flat 65 3 [[(.int .i64 x0), (.int .i64 x1), (.int .i64 x2)]] true), (Blk.gen 73 2 [[(V.d (slD (encI .i64) true 1 x4 x5)), (V.d (.int .u8 x6))]] true), (Blk.flat 3 1 (List.map (encI .i64) (order_Sort_o_L2_r0_3 (order_Sort_o_e2 x9) (((order_Sort_o_e2 x9) : Nat) : Int) (order_Sort_o_S3_e0 (order_Sort_o_e0 x9) (order_Sort_o_e2 x9)))) true)]) (b := false) (id := 2) (n := (order_Sort_o_e2 x9)) (s := 1) (k := .i64) (by kernel_rfl) (tbE h12)), .m 121 (o_load_L (m := [(Blk.flat 65 3 [[(.int .i64 x0), (.int .i64 x1), (.int .i64 x2)]] true), (Blk.gen 73 2 [[(V.d (slD (encI .i64) true 1 x4 x5)), (V.d (.int .u8 x6))]] true), (Blk.flat 3 1 (List.map (encI .i64) (order_Sort_o_L2_r0_3 (order_Sort_o_e2 x9) (((order_Sort_o_e2 x9) : Nat) : Int) (order_Sort_o_S3_e0 (order_Sort_o_e0 x9) (order_Sort_o_e2 x9)))) true)]) (enc := (encI .i64)) (l := (order_Sort_o_L2_r0_3 (order_Sort_o_e2 x9) (((order_Sort_o_e2 x9) : Nat) : Int) (order_Sort_o_S3_e0 (order_Sort_o_e0 x9) (order_Sort_o_e2 x9)))) (id := 2) (e := 3) (s := 1) (off := 0) (size := 1) (p := true) (agg := false) (i := (wi ((((order_Sort_o_e2 x9) : Nat) : Int) - 1))) (v := (V.d (.int .i64 (law12_VoteMid_S4_e1 x9)))) (n := (order_Sort_o_e2 x9)) (tbE h10) (by kernel_rfl) (tbE h12) (by kernel_rfl)), .b (tbE h13), .m 129 (o_idx_so (m := [(Blk.flat 65 3 [[(.int .i64 x0), (.int .i64 x1), (.int .i64 x2)]] true), (Blk.gen 73 2 [[(V.d (slD (encI .i64) true 1 x4 x5)), (V.d (.int .u8 x6))]] true), (Blk.flat 3 1 (List.map (encI .i64) (order_Sort_o_L2_r0_3 (order_Sort_o_e2 x9) (((order_Sort_o_e2 x9) : Nat) : Int) (order_Sort_o_S3_e0 (order_Sort_o_e0 x9) (order_Sort_o_e2 x9)))) true)]) (b := false) (id := 2) (n := (order_Sort_o_e2 x9)) (s := 1) (k := .i64) (by kernel_rfl) (tbE h9)), .m 130 (o_load_L (m := [(Blk.flat 65 3 [[(.int .i64 x0), (.int .i64 x1), (.int .i64 x2)]] true), (Blk.gen 73 2 [[(V.d (slD (encI .i64) true 1 x4 x5)), (V.d (.int .u8 x6))]] true), (Blk.flat 3 1 (List.map (encI .i64) (order_Sort_o_L2_r0_3 (order_Sort_o_e2 x9) (((order_Sort_o_e2 x9) : Nat) : Int) (order_Sort_o_S3_e0 (order_Sort_o_e0 x9) (order_Sort_o_e2 x9)))) true)]) (enc := (encI .i64)) (l := (order_Sort_o_L2_r0_3 (order_Sort_o_e2 x9) (((order_Sort_o_e2 x9) : Nat) : Int) (order_Sort_o_S3_e0 (order_Sort_o_e0 x9) (order_Sort_o_e2 x9)))) (id := 2) (e := 3) (s := 1) (off := 0) (size := 1) (p := true) (agg := false) (i := 0) (v := (V.d (.int .i64 (law12_VoteMid_S4_e0 x9)))) (n := (order_Sort_o_e2 x9)) (tbE h10) (by kernel_rfl) (tbE h9) (by kernel_rfl)), .b (tbE h14)] (by kernel_rfl)
                · cases h9 : tb (decide ((wi (x14 + x2)) < x13))
                  · cases h10 : tb (decide (x13 < (wi (x14 - x2))))
                    · cases h11 : tb (inb (order_Sort_o_e2 x9) 0)
                      · intro g0
                        exact absurd g0 ft
                      · cases h12 : tb (Nat.beq (order_Sort_o_e2 x9) (order_Sort_o_L2_r0_3 (order_Sort_o_e2 x9) (((order_Sort_o_e2 x9) : Nat) : Int) (order_Sort_o_S3_e0 (order_Sort_o_e0 x9) (order_Sort_o_e2 x9))).length)
                        · intro g0
                          exact absurd g0 ft
                        · cases h13 : tb (decide (x0 ≤ (law12_VoteMid_S4_e0 x9)))
                          · intro g0
                            exact absurd g0 ft
                          · cases h14 : tb (inb (order_Sort_o_e2 x9) (wi ((((order_Sort_o_e2 x9) : Nat) : Int) - 1)))
                            · intro g0
                              exact absurd g0 ft
                            · cases h15 : tb (decide ((law12_VoteMid_S4_e1 x9) ≤ x1))
                              · intro g0
                                exact absurd g0 ft
                              · cases h16 : tb (decide (x13 < (law12_VoteMid_S4_e0 x9)))
                                · cases h17 : tb (decide ((law12_VoteMid_S4_e1 x9) < x13))
                                  · intro g0
                                    exact absurd g0 ft
                                  · intro g0
                                    exact seg_walk [.c (order_Sort_o_t0 x8 x9 (tbE h1)), .b (notT (tbE h2)), .b (tbE h3), .o 67 (fun _ => o_len_os (enc := (encI .i64)) (l := x11) (fl := true) (n := x10) (s := 1)), .b (tbE h4), .b (tbE h5), .b (tbE h6), .b (tbE h7), .b (tbE h8), .b (tbE h9), .b (tbE h10), .m 110 (o_idx_so (m := [(Blk.flat 65 3 [[(.int .i64 x0), (.int .i64 x1), (.int .i64 x2)]] true), (Blk.gen 73 2 [[(V.d (slD (encI .i64) true 1 x4 x5)), (V.d (.int .u8 x6))]] true), (Blk.flat 3 1 (List.map (encI .i64) (order_Sort_o_L2_r0_3 (order_Sort_o_e2 x9) (((order_Sort_o_e2 x9) : Nat) : Int) (order_Sort_o_S3_e0 (order_Sort_o_e0 x9) (order_Sort_o_e2 x9)))) true)]) (b := false) (id := 2) (n := (order_Sort_o_e2 x9)) (s := 1) (k := .i64) (by kernel_rfl) (tbE h11)), .m 111 (o_load_L (m := [(Blk.flat 65 3 [[(.int .i64 x0), (.int .i64 x1), (.int .i64 x2)]] true), (Blk.gen 73 2 [[(V.d (slD (encI .i64) true 1 x4 x5)), (V.d (.int .u8 x6))]] true), (Blk.flat 3 1 (List.map (encI .i64) (order_Sort_o_L2_r0_3 (order_Sort_o_e2 x9) (((order_Sort_o_e2 x9) : Nat) : Int) (order_Sort_o_S3_e0 (order_Sort_o_e0 x9) (order_Sort_o_e2 x9)))) true)]) (enc := (encI .i64)) (l := (order_Sort_o_L2_r0_3 (order_Sort_o_e2 x9) (((order_Sort_o_e2 x9) : Nat) : Int) (order_Sort_o_S3_e0 (order_Sort_o_e0 x9) (order_Sort_o_e2 x9)))) (id := 2) (e := 3) (s := 1) (off := 0) (size := 1) (p := true) (agg := false) (i := 0) (v := (V.d (.int .i64 (law12_VoteMid_S4_e0 x9)))) (n := (order_Sort_o_e2 x9)) (tbE h12) (by kernel_rfl) (tbE h11) (by kernel_rfl)), .b (tbE h13), .m 120 (o_idx_so (m := [(Blk.flat 65 3 [[(.int .i64 x0), (.int .i64 x1), (.int .i64 x2)]] true), (Blk.gen 73 2 [[(V.d (slD (encI .i64) true 1 x4 x5)), (V.d (.int .u8 x6))]] true), (Blk.flat 3 1 (List.map (encI .i64) (order_Sort_o_L2_r0_3 (order_Sort_o_e2 x9) (((order_Sort_o_e2 x9) : Nat) : Int) (order_Sort_o_S3_e0 (order_Sort_o_e0 x9) (order_Sort_o_e2 x9)))) true)]) (b := false) (id := 2) (n := (order_Sort_o_e2 x9)) (s := 1) (k := .i64) (by kernel_rfl) (tbE h14)), .m 121 (o_load_L (m := [(Blk.flat 65 3 [[(.int .i64 x0), (.int .i64 x1), (.int .i64 x2)]] true), (Blk.gen 73 2 [[(V.d (slD (encI .i64) true 1 x4 x5)), (V.d (.int .u8 x6))]] true), (Blk.flat 3 1 (List.map (encI .i64) (order_Sort_o_L2_r0_3 (order_Sort_o_e2 x9) (((order_Sort_o_e2 x9) : Nat) : Int) (order_Sort_o_S3_e0 (order_Sort_o_e0 x9) (order_Sort_o_e2 x9)))) true)]) (enc := (encI .i64)) (l := (order_Sort_o_L2_r0_3 (order_Sort_o_e2 x9) (((order_Sort_o_e2 x9) : Nat) : Int) (order_Sort_o_S3_e0 (order_Sort_o_e0 x9) (order_Sort_o_e2 x9)))) (id := 2) (e := 3) (s := 1) (off := 0) (size := 1) (p := true) (agg := false) (i := (wi ((((order_Sort_o_e2 x9) : Nat) : Int) - 1))) (v := (V.d (.int .i64 (law12_VoteMid_S4_e1 x9)))) (n := (order_Sort_o_e2 x9)) (tbE h12) (by kernel_rfl) (tbE h14) (by kernel_rfl)), .b (tbE h15), .m 129 (o_idx_so (m := [(Blk.flat 65 3 [[(.int .i64 x0), (.int .i64 x1), (.int .i64 x2)]] true), (Blk.gen 73 2 [[(V.d (slD (encI .i64) true 1 x4 x5)), (V.d (.int .u8 x6))]] true), (Blk.flat 3 1 (List.map (encI .i64) (order_Sort_o_L2_r0_3 (order_Sort_o_e2 x9) (((order_Sort_o_e2 x9) : Nat) : Int) (order_Sort_o_S3_e0 (order_Sort_o_e0 x9) (order_Sort_o_e2 x9)))) true)]) (b := false) (id := 2) (n := (order_Sort_o_e2 x9)) (s := 1) (k := .i64) (by kernel_rfl) (tbE h11)), .m 130 (o_load_L (m := [(Blk.flat 65 3 [[(.int .i64 x0), (.int .i64 x1), (.int .i64 x2)]] true), (Blk.gen 73 2 [[(V.d (slD (encI .i64) true 1 x4 x5)), (V.d (.int .u8 x6))]] true), (Blk.flat 3 1 (List.map (encI .i64) (order_Sort_o_L2_r0_3 (order_Sort_o_e2 x9) (((order_Sort_o_e2 x9) : Nat) : Int) (order_Sort_o_S3_e0 (order_Sort_o_e0 x9) (order_Sort_o_e2 x9)))) true)]) (enc := (encI .i64)) (l := (order_Sort_o_L2_r0_3 (order_Sort_o_e2 x9) (((order_Sort_o_e2 x9) : Nat) : Int) (order_Sort_o_S3_e0 (order_Sort_o_e0 x9) (order_Sort_o_e2 x9)))) (id := 2) (e := 3) (s := 1) (off := 0) (size := 1) (p := true) (agg := false) (i := 0) (v := (V.d (.int .i64 (law12_VoteMid_S4_e0 x9)))) (n := (order_Sort_o_e2 x9)) (tbE h12) (by kernel_rfl) (tbE h11) (by kernel_rfl)), .b (tbE h16), .m 138 (o_idx_so (m := [(Blk.flat 65 3 [[(.int .i64 x0), (.int .i64 x1), (.int .i64 x2)]] true), (Blk.gen 73 2 [[(V.d (slD (encI .i64) true 1 x4 x5)), (V.d (.int .u8 x6))]] true), (Blk.flat 3 1 (List.map (encI .i64) (order_Sort_o_L2_r0_3 (order_Sort_o_e2 x9) (((order_Sort_o_e2 x9) : Nat) : Int) (order_Sort_o_S3_e0 (order_Sort_o_e0 x9) (order_Sort_o_e2 x9)))) true)]) (b := false) (id := 2) (n := (order_Sort_o_e2 x9)) (s := 1) (k := .i64) (by kernel_rfl) (tbE h14)), .m 139 (o_load_L (m := [(Blk.flat 65 3 [[(.int .i64 x0), (.int .i64 x1), (.int .i64 x2)]] true), (Blk.gen 73 2 [[(V.d (slD (encI .i64) true 1 x4 x5)), (V.d (.int .u8 x6))]] true), (Blk.flat 3 1 (List.map (encI .i64) (order_Sort_o_L2_r0_3 (order_Sort_o_e2 x9) (((order_Sort_o_e2 x9) : Nat) : Int) (order_Sort_o_S3_e0 (order_Sort_o_e0 x9) (order_Sort_o_e2 x9)))) true)]) (enc := (encI .i64)) (l := (order_Sort_o_L2_r0_3 (order_Sort_o_e2 x9) (((order_Sort_o_e2 x9) : Nat) : Int) (order_Sort_o_S3_e0 (order_Sort_o_e0 x9) (order_Sort_o_e2 x9)))) (id := 2) (e := 3) (s := 1) (off := 0) (size := 1) (p := true) (agg := false) (i := (wi ((((order_Sort_o_e2 x9) : Nat) : Int) - 1))) (v := (V.d (.int .i64 (law12_VoteMid_S4_e1 x9)))) (n := (order_Sort_o_e2 x9)) (tbE h12) (by kernel_rfl) (tbE h14) (by kernel_rfl)), .b (tbE h17)] (by kernel_rfl)
                                · intro g0
                                  exact seg_walk [.c (order_Sort_o_t0 x8 x9 (tbE h1)), .b (notT (tbE h2)), .b (tbE h3), .o 67 (fun _ => o_len_os (enc := (encI .i64)) (l := x11) (fl := true) (n := x10) (s := 1)), .b (tbE h4), .b (tbE h5), .b (tbE h6), .b (tbE h7), .b (tbE h8), .b (tbE h9), .b (tbE h10), .m 110 (o_idx_so (m := [(Blk.flat 65 3 [[(.int .i64 x0), (.int .i64 x1), (.int .i64 x2)]] true), (Blk.gen 73 2 [[(V.d (slD (encI .i64) true 1 x4 x5)), (V.d (.int .u8 x6))]] true), (Blk.flat 3 1 (List.map (encI .i64) (order_Sort_o_L2_r0_3 (order_Sort_o_e2 x9) (((order_Sort_o_e2 x9) : Nat) : Int) (order_Sort_o_S3_e0 (order_Sort_o_e0 x9) (order_Sort_o_e2 x9)))) true)]) (b := false) (id := 2) (n := (order_Sort_o_e2 x9)) (s := 1) (k := .i64) (by kernel_rfl) (tbE h11)), .m 111 (o_load_L (m := [(Blk.flat 65 3 [[(.int .i64 x0), (.int .i64 x1), (.int .i64 x2)]] true), (Blk.gen 73 2 [[(V.d (slD (encI .i64) true 1 x4 x5)), (V.d (.int .u8 x6))]] true), (Blk.flat 3 1 (List.map (encI .i64) (order_Sort_o_L2_r0_3 (order_Sort_o_e2 x9) (((order_Sort_o_e2 x9) : Nat) : Int) (order_Sort_o_S3_e0 (order_Sort_o_e0 x9) (order_Sort_o_e2 x9)))) true)]) (enc := (encI .i64)) (l := (order_Sort_o_L2_r0_3 (order_Sort_o_e2 x9) (((order_Sort_o_e2 x9) : Nat) : Int) (order_Sort_o_S3_e0 (order_Sort_o_e0 x9) (order_Sort_o_e2 x9)))) (id := 2) (e := 3) (s := 1) (off := 0) (size := 1) (p := true) (agg := false) (i := 0) (v := (V.d (.int .i64 (law12_VoteMid_S4_e0 x9)))) (n := (order_Sort_o_e2 x9)) (tbE h12) (by kernel_rfl) (tbE h11) (by kernel_rfl)), .b (tbE h13), .m 120 (o_idx_so (m := [(Blk.flat 65 3 [[(.int .i64 x0), (.int .i64 x1), (.int .i64 x2)]] true), (Blk.gen 73 2 [[(V.d (slD (encI .i64) true 1 x4 x5)), (V.d (.int .u8 x6))]] true), (Blk.flat 3 1 (List.map (encI .i64) (order_Sort_o_L2_r0_3 (order_Sort_o_e2 x9) (((order_Sort_o_e2 x9) : Nat) : Int) (order_Sort_o_S3_e0 (order_Sort_o_e0 x9) (order_Sort_o_e2 x9)))) true)]) (b := false) (id := 2) (n := (order_Sort_o_e2 x9)) (s := 1) (k := .i64) (by kernel_rfl) (tbE h14)), .m 121 (o_load_L (m := [(Blk.flat 65 3 [[(.int .i64 x0), (.int .i64 x1), (.int .i64 x2)]] true), (Blk.gen 73 2 [[(V.d (slD (encI .i64) true 1 x4 x5)), (V.d (.int .u8 x6))]] true), (Blk.flat 3 1 (List.map (encI .i64) (order_Sort_o_L2_r0_3 (order_Sort_o_e2 x9) (((order_Sort_o_e2 x9) : Nat) : Int) (order_Sort_o_S3_e0 (order_Sort_o_e0 x9) (order_Sort_o_e2 x9)))) true)]) (enc := (encI .i64)) (l := (order_Sort_o_L2_r0_3 (order_Sort_o_e2 x9) (((order_Sort_o_e2 x9) : Nat) : Int) (order_Sort_o_S3_e0 (order_Sort_o_e0 x9) (order_Sort_o_e2 x9)))) (id := 2) (e := 3) (s := 1) (off := 0) (size := 1) (p := true) (agg := false) (i := (wi ((((order_Sort_o_e2 x9) : Nat) : Int) - 1))) (v := (V.d (.int .i64 (law12_VoteMid_S4_e1 x9)))) (n := (order_Sort_o_e2 x9)) (tbE h12) (by kernel_rfl) (tbE h14) (by kernel_rfl)), .b (tbE h15), .m 129 (o_idx_so (m := [(Blk.flat 65 3 [[(.int .i64 x0), (.int .i64 x1), (.int .i64 x2)]] true), (Blk.gen 73 2 [[(V.d (slD (encI .i64) true 1 x4 x5)), (V.d (.int .u8 x6))]] true), (Blk.flat 3 1 (List.map (encI .i64) (order_Sort_o_L2_r0_3 (order_Sort_o_e2 x9) (((order_Sort_o_e2 x9) : Nat) : Int) (order_Sort_o_S3_e0 (order_Sort_o_e0 x9) (order_Sort_o_e2 x9)))) true)]) (b := false) (id := 2) (n := (order_Sort_o_e2 x9)) (s := 1) (k := .i64) (by kernel_rfl) (tbE h11)), .m 130 (o_load_L (m := [(Blk.flat 65 3 [[(.int .i64 x0), (.int .i64 x1), (.int .i64 x2)]] true), (Blk.gen 73 2 [[(V.d (slD (encI .i64) true 1 x4 x5)), (V.d (.int .u8 x6))]] true), (Blk.flat 3 1 (List.map (encI .i64) (order_Sort_o_L2_r0_3 (order_Sort_o_e2 x9) (((order_Sort_o_e2 x9) : Nat) : Int) (order_Sort_o_S3_e0 (order_Sort_o_e0 x9) (order_Sort_o_e2 x9)))) true)]) (enc := (encI .i64)) (l := (order_Sort_o_L2_r0_3 (order_Sort_o_e2 x9) (((order_Sort_o_e2 x9) : Nat) : Int) (order_Sort_o_S3_e0 (order_Sort_o_e0 x9) (order_Sort_o_e2 x9)))) (id := 2) (e := 3) (s := 1) (off := 0) (size := 1) (p := true) (agg := false) (i := 0) (v := (V.d (.int .i64 (law12_VoteMid_S4_e0 x9)))) (n := (order_Sort_o_e2 x9)) (tbE h12) (by kernel_rfl) (tbE h11) (by kernel_rfl)), .b (tbE h16)] (by kernel_rfl)
                    · intro g0
                      exact seg_walk [.c (order_Sort_o_t0 x8 x9 (tbE h1)), .b (notT (tbE h2)), .b (tbE h3), .o 67 (fun _ => o_len_os (enc := (encI .i64)) (l := x11) (fl := true) (n := x10) (s := 1)), .b (tbE h4), .b (tbE h5), .b (tbE h6), .b (tbE h7), .b (tbE h8), .b (tbE h9), .b (tbE h10)] (by kernel_rfl)
                  · intro g0
                    exact seg_walk [.c (order_Sort_o_t0 x8 x9 (tbE h1)), .b (notT (tbE h2)), .b (tbE h3), .o 67 (fun _ => o_len_os (enc := (encI .i64)) (l := x11) (fl := true) (n := x10) (s := 1)), .b (tbE h4), .b (tbE h5), .b (tbE h6), .b (tbE h7), .b (tbE h8), .b (tbE h9)] (by kernel_rfl)
            · intro g0
              exact seg_walk [.c (order_Sort_o_t0 x8 x9 (tbE h1)), .b (notT (tbE h2)), .b (tbE h3), .o 67 (fun _ => o_len_os (enc := (encI .i64)) (l := x11) (fl := true) (n := x10) (s := 1)), .b (tbE h4), .b (tbE h5), .b (tbE h6)] (by kernel_rfl)
          · intro g0
            exact seg_walk [.c (order_Sort_o_t0 x8 x9 (tbE h1)), .b (notT (tbE h2)), .b (tbE h3), .o 67 (fun _ => o_len_os (enc := (encI .i64)) (l := x11) (fl := true) (n := x10) (s := 1)), .b (tbE h4), .b (tbE h5)] (by kernel_rfl)
        · intro g0
          exact seg_walk [.c (order_Sort_o_t0 x8 x9 (tbE h1)), .b (notT (tbE h2)), .b (tbE h3), .o 67 (fun _ => o_len_os (enc := (encI .i64)) (l := x11) (fl := true) (n := x10) (s := 1)), .b (tbE h4)] (by kernel_rfl)
      · intro g0
        exact seg_walk [.c (order_Sort_o_t0 x8 x9 (tbE h1)), .b (notT (tbE h2)), .b (tbE h3)] (by kernel_rfl)
theorem law12_VoteMid_S4_t1 (x0 : Int) (x1 : Int) (x2 : Int) (x3 : Bool) (x4 : Bool) (x5 : List Int) (x6 : Int) (x7 : Bool) (x8 : Bool) (x9 : List Int) (x10 : Bool) (x11 : List Int) (x12 : Int) (x13 : Int) (x14 : Int) (x15 : Bool) : law12_VoteMid_S4_c0 x0 x1 x2 x9 x11 x13 x14 x15 = false → law12_VoteMid_S4_c1 x0 x1 x2 x9 x11 x13 x14 x15 = true → segG (runC E0 (cl E0) S11_4) [1, 3, 7, 8, 9, 11, 12] [6] [1, 3, 7, 8, 11] 2 ([(V.d (slD (encI .i64) true 1 x8 x9)), (V.ptr 0 1 0 0), (V.d (slD (encI .i64) true 1 x10 x11)), (V.d (.int .u8 x12)), (V.d (.int .i64 x13)), (V.d (.int .i64 x14)), (V.d (.bool x15))], [(Blk.flat 65 3 [[(.int .i64 x0), (.int .i64 x1), (.int .i64 x2)]] x3), (Blk.gen 73 2 [[(V.d (slD (encI .i64) true 1 x4 x5)), (V.d (.int .u8 x6))]] x7)]) = some (.normal, ([(V.d (slD (encI .i64) true 1 x8 x9)), (V.ptr 0 1 0 0), (V.d (slD (encI .i64) true 1 x10 x11)), (V.d (.int .u8 x12)), (V.d (.int .i64 x14))], [(Blk.flat 65 3 [[(.int .i64 x0), (.int .i64 x1), (.int .i64 x2)]] x3), (Blk.gen 73 2 [[(V.d (slD (encI .i64) true 1 x4 x5)), (V.d (.int .u8 x6))]] x7)])) := by
  unfold law12_VoteMid_S4_c0 law12_VoteMid_S4_c1
  cases h1 : tb (order_Sort_o_c0 x9)
  · cases h2 : tb (order_Sort_o_c1 x9)
    · intro g0 g1
      exact absurd g1 ft
    · cases h3 : tb (x15)
      · intro g0 g1
        exact absurd g0 tf
      · intro g0 g1
        exact absurd g0 tf
  · cases h2 : tb (x15)
    · intro g0 g1
      exact absurd g0 tf
    · cases h3 : tb (((((order_Sort_o_e2 x9) : Nat) : Int) : Int) == 0)
      · cases h4 : tb (((((order_Sort_o_e2 x9) : Nat) : Int) : Int) != ((x11.length : Nat) : Int))
        · cases h5 : tb (decide (x13 < x0))
          · cases h6 : tb (decide (x1 < x13))
            · cases h7 : tb (decide (x0 ≤ x14))
              · cases h8 : tb (inb (order_Sort_o_e2 x9) 0)
                · intro g0 g1
                  exact absurd g1 ft
                · cases h9 : tb (Nat.beq (order_Sort_o_e2 x9) (order_Sort_o_L2_r0_3 (order_Sort_o_e2 x9) (((order_Sort_o_e2 x9) : Nat) : Int) (order_Sort_o_S3_e0 (order_Sort_o_e0 x9) (order_Sort_o_e2 x9))).length)
                  · intro g0 g1
                    exact absurd g1 ft
                  · cases h10 : tb (decide (x0 ≤ (law12_VoteMid_S4_e0 x9)))
                    · intro g0 g1
                      exact seg_walk [.c (order_Sort_o_t0 x8 x9 (tbE h1)), .b (notT (tbE h2)), .b (tbE h3), .o 67 (fun _ => o_len_os (enc := (encI .i64)) (l := x11) (fl := true) (n := x10) (s := 1)), .b (tbE h4), .b (tbE h5), .b (tbE h6), .b (tbE h7), .m 110 (o_idx_so (m := [(Blk.flat 65 3 [[(.int .i64 x0), (.int .i64 x1), (.int .i64 x2)]] true), (Blk.gen 73 2 [[(V.d (slD (encI .i64) true 1 x4 x5)), (V.d (.int .u8 x6))]] true), (Blk.flat 3 1 (List.map (encI .i64) (order_Sort_o_L2_r0_3 (order_Sort_o_e2 x9) (((order_Sort_o_e2 x9) : Nat) : Int) (order_Sort_o_S3_e0 (order_Sort_o_e0 x9) (order_Sort_o_e2 x9)))) true)]) (b := false) (id := 2) (n := (order_Sort_o_e2 x9)) (s := 1) (k := .i64) (by kernel_rfl) (tbE h8)), .m 111 (o_load_L (m := [(Blk.flat 65 3 [[(.int .i64 x0), (.int .i64 x1), (.int .i64 x2)]] true), (Blk.gen 73 2 [[(V.d (slD (encI .i64) true 1 x4 x5)), (V.d (.int .u8 x6))]] true), (Blk.flat 3 1 (List.map (encI .i64) (order_Sort_o_L2_r0_3 (order_Sort_o_e2 x9) (((order_Sort_o_e2 x9) : Nat) : Int) (order_Sort_o_S3_e0 (order_Sort_o_e0 x9) (order_Sort_o_e2 x9)))) true)]) (enc := (encI .i64)) (l := (order_Sort_o_L2_r0_3 (order_Sort_o_e2 x9) (((order_Sort_o_e2 x9) : Nat) : Int) (order_Sort_o_S3_e0 (order_Sort_o_e0 x9) (order_Sort_o_e2 x9)))) (id := 2) (e := 3) (s := 1) (off := 0) (size := 1) (p := true) (agg := false) (i := 0) (v := (V.d (.int .i64 (law12_VoteMid_S4_e0 x9)))) (n := (order_Sort_o_e2 x9)) (tbE h9) (by kernel_rfl) (tbE h8) (by kernel_rfl)), .b (tbE h10)] (by kernel_rfl)
                    · cases h11 : tb (inb (order_Sort_o_e2 x9) (wi ((((order_Sort_o_e2 x9) : Nat) : Int) - 1)))
                      · intro g0 g1
                        exact absurd g1 ft
                      · cases h12 : tb (decide ((law12_VoteMid_S4_e1 x9) ≤ x1))
                        · intro g0 g1
                          exact seg_walk [.c (order_Sort_o_t0 x8 x9 (tbE h1)), .b (notT (tbE h2)), .b (tbE h3), .o 67 (fun _ => o_len_os (enc := (encI .i64)) (l := x11) (fl := true) (n := x10) (s := 1)), .b (tbE h4), .b (tbE h5), .b (tbE h6), .b (tbE h7), .m 110 (o_idx_so (m := [(Blk.flat 65 3 [[(.int .i64 x0), (.int .i64 x1), (.int .i64 x2)]] true), (Blk.gen 73 2 [[(V.d (slD (encI .i64) true 1 x4 x5)), (V.d (.int .u8 x6))]] true), (Blk.flat 3 1 (List.map (encI .i64) (order_Sort_o_L2_r0_3 (order_Sort_o_e2 x9) (((order_Sort_o_e2 x9) : Nat) : Int) (order_Sort_o_S3_e0 (order_Sort_o_e0 x9) (order_Sort_o_e2 x9)))) true)]) (b := false) (id := 2) (n := (order_Sort_o_e2 x9)) (s := 1) (k := .i64) (by kernel_rfl) (tbE h8)), .m 111 (o_load_L (m := [(Blk.flat 65 3 [[(.int .i64 x0), (.int .i64 x1), (.int .i64 x2)]] true), (Blk.gen 73 2 [[(V.d (slD (encI .i64) true 1 x4 x5)), (V.d (.int .u8 x6))]] true), (Blk.flat 3 1 (List.map (encI .i64) (order_Sort_o_L2_r0_3 (order_Sort_o_e2 x9) (((order_Sort_o_e2 x9) : Nat) : Int) (order_Sort_o_S3_e0 (order_Sort_o_e0 x9) (order_Sort_o_e2 x9)))) true)]) (enc := (encI .i64)) (l := (order_Sort_o_L2_r0_3 (order_Sort_o_e2 x9) (((order_Sort_o_e2 x9) : Nat) : Int) (order_Sort_o_S3_e0 (order_Sort_o_e0 x9) (order_Sort_o_e2 x9)))) (id := 2) (e := 3) (s := 1) (off := 0) (size := 1) (p := true) (agg := false) (i := 0) (v := (V.d (.int .i64 (law12_VoteMid_S4_e0 x9)))) (n := (order_Sort_o_e2 x9)) (tbE h9) (by kernel_rfl) (tbE h8) (by kernel_rfl)), .b (tbE h10), .m 120 (o_idx_so (m := [(Blk.flat 65 3 [[(.int .i64 x0), (.int .i64 x1), (.int .i64 x2)]] true), (Blk.gen 73 2 [[(V.d (slD (encI .i64) true 1 x4 x5)), (V.d (.int .u8 x6))]] true), (Blk.flat 3 1 (List.map (encI .i64) (order_Sort_o_L2_r0_3 (order_Sort_o_e2 x9) (((order_Sort_o_e2 x9) : Nat) : Int) (order_Sort_o_S3_e0 (order_Sort_o_e0 x9) (order_Sort_o_e2 x9)))) true)]) (b := false) (id := 2) (n := (order_Sort_o_e2 x9)) (s := 1) (k := .i64) (by kernel_rfl) (tbE h11)), .m 121 (o_load_L (m := [(Blk.flat 65 3 [[(.int .i64 x0), (.int .i64 x1), (.int .i64 x2)]] true), (Blk.gen 73 2 [[(V.d (slD (encI .i64) true 1 x4 x5)), (V.d (.int .u8 x6))]] true), (Blk.flat 3 1 (List.map (encI .i64) (order_Sort_o_L2_r0_3 (order_Sort_o_e2 x9) (((order_Sort_o_e2 x9) : Nat) : Int) (order_Sort_o_S3_e0 (order_Sort_o_e0 x9) (order_Sort_o_e2 x9)))) true)]) (enc := (encI .i64)) (l := (order_Sort_o_L2_r0_3 (order_Sort_o_e2 x9) (((order_Sort_o_e2 x9) : Nat) : Int) (order_Sort_o_S3_e0 (order_Sort_o_e0 x9) (order_Sort_o_e2 x9)))) (id := 2) (e := 3) (s := 1) (off := 0) (size := 1) (p := true) (agg := false) (i := (wi ((((order_Sort_o_e2 x9) : Nat) : Int) - 1))) (v := (V.d (.int .i64 (law12_VoteMid_S4_e1 x9)))) (n := (order_Sort_o_e2 x9)) (tbE h9) (by kernel_rfl) (tbE h11) (by kernel_rfl)), .b (tbE h12)] (by kernel_rfl)
                        · cases h13 : tb (decide (x13 < (law12_VoteMid_S4_e0 x9)))
                          · cases h14 : tb (decide ((law12_VoteMid_S4_e1 x9) < x13))
                            · intro g0 g1
                              exact seg_walk [.c (order_Sort_o_t0 x8 x9 (tbE h1)), .b (notT (tbE h2)), .b (tbE h3), .o 67 (fun _ => o_len_os (enc := (encI .i64)) (l := x11) (fl := true) (n := x10) (s := 1)), .b (tbE h4), .b (tbE h5), .b (tbE h6), .b (tbE h7), .m 110 (o_idx_so (m := [(Blk.flat 65 3 [[(.int .i64 x0), (.int .i64 x1), (.int .i64 x2)]] true), (Blk.gen 73 2 [[(V.d (slD (encI .i64) true 1 x4 x5)), (V.d (.int .u8 x6))]] true), (Blk.flat 3 1 (List.map (encI .i64) (order_Sort_o_L2_r0_3 (order_Sort_o_e2 x9) (((order_Sort_o_e2 x9) : Nat) : Int) (order_Sort_o_S3_e0 (order_Sort_o_e0 x9) (order_Sort_o_e2 x9)))) true)]) (b := false) (id := 2) (n := (order_Sort_o_e2 x9)) (s := 1) (k := .i64) (by kernel_rfl) (tbE h8)), .m 111 (o_load_L (m := [(Blk.flat 65 3 [[(.int .i64 x0), (.int .i64 x1), (.int .i64 x2)]] true), (Blk.gen 73 2 [[(V.d (slD (encI .i64) true 1 x4 x5)), (V.d (.int .u8 x6))]] true), (Blk.flat 3 1 (List.map (encI .i64) (order_Sort_o_L2_r0_3 (order_Sort_o_e2 x9) (((order_Sort_o_e2 x9) : Nat) : Int) (order_Sort_o_S3_e0 (order_Sort_o_e0 x9) (order_Sort_o_e2 x9)))) true)]) (enc := (encI .i64)) (l := (order_Sort_o_L2_r0_3 (order_Sort_o_e2 x9) (((order_Sort_o_e2 x9) : Nat) : Int) (order_Sort_o_S3_e0 (order_Sort_o_e0 x9) (order_Sort_o_e2 x9)))) (id := 2) (e := 3) (s := 1) (off := 0) (size := 1) (p := true) (agg := false) (i := 0) (v := (V.d (.int .i64 (law12_VoteMid_S4_e0 x9)))) (n := (order_Sort_o_e2 x9)) (tbE h9) (by kernel_rfl) (tbE h8) (by kernel_rfl)), .b (tbE h10), .m 120 (o_idx_so (m := [(Blk.flat 65 3 [[(.int .i64 x0), (.int .i64 x1), (.int .i64 x2)]] true), (Blk.gen 73 2 [[(V.d (slD (encI .i64) true 1 x4 x5)), (V.d (.int .u8 x6))]] true), (Blk.flat 3 1 (List.map (encI .i64) (order_Sort_o_L2_r0_3 (order_Sort_o_e2 x9) (((order_Sort_o_e2 x9) : Nat) : Int) (order_Sort_o_S3_e0 (order_Sort_o_e0 x9) (order_Sort_o_e2 x9)))) true)]) (b := false) (id := 2) (n := (order_Sort_o_e2 x9)) (s := 1) (k := .i64) (by kernel_rfl) (tbE h11)), .m 121 (o_load_L (m := [(Blk.flat 65 3 [[(.int .i64 x0), (.int .i64 x1), (.int .i64 x2)]] true), (Blk.gen 73 2 [[(V.d (slD (encI .i64) true 1 x4 x5)), (V.d (.int .u8 x6))]] true), (Blk.flat 3 1 (List.map (encI .i64) (order_Sort_o_L2_r0_3 (order_Sort_o_e2 x9) (((order_Sort_o_e2 x9) : Nat) : Int) (order_Sort_o_S3_e0 (order_Sort_o_e0 x9) (order_Sort_o_e2 x9)))) true)]) (enc := (encI .i64)) (l := (order_Sort_o_L2_r0_3 (order_Sort_o_e2 x9) (((order_Sort_o_e2 x9) : Nat) : Int) (order_Sort_o_S3_e0 (order_Sort_o_e0 x9) (order_Sort_o_e2 x9)))) (id := 2) (e := 3) (s := 1) (off := 0) (size := 1) (p := true) (agg := false) (i := (wi ((((order_Sort_o_e2 x9) : Nat) : Int) - 1))) (v := (V.d (.int .i64 (law12_VoteMid_S4_e1 x9)))) (n := (order_Sort_o_e2 x9)) (tbE h9) (by kernel_rfl) (tbE h11) (by kernel_rfl)), .b (tbE h12), .m 129 (o_idx_so (m := [(Blk.flat 65 3 [[(.int .i64 x0), (.int .i64 x1), (.int .i64 x2)]] true), (Blk.gen 73 2 [[(V.d (slD (encI .i64) true 1 x4 x5)), (V.d (.int .u8 x6))]] true), (Blk.flat 3 1 (List.map (encI .i64) (order_Sort_o_L2_r0_3 (order_Sort_o_e2 x9) (((order_Sort_o_e2 x9) : Nat) : Int) (order_Sort_o_S3_e0 (order_Sort_o_e0 x9) (order_Sort_o_e2 x9)))) true)]) (b := false) (id := 2) (n := (order_Sort_o_e2 x9)) (s := 1) (k := .i64) (by kernel_rfl) (tbE h8)), .m 130 (o_load_L (m := [(Blk.flat 65 3 [[(.int .i64 x0), (.int .i64 x1), (.int .i64 x2)]] true), (Blk.gen 73 2 [[(V.d (slD (encI .i64) true 1 x4 x5)), (V.d (.int .u8 x6))]] true), (Blk.flat 3 1 (List.map (encI .i64) (order_Sort_o_L2_r0_3 (order_Sort_o_e2 x9) (((order_Sort_o_e2 x9) : Nat) : Int) (order_Sort_o_S3_e0 (order_Sort_o_e0 x9) (order_Sort_o_e2 x9)))) true)]) (enc := (encI .i64)) (l := (order_Sort_o_L2_r0_3 (order_Sort_o_e2 x9) (((order_Sort_o_e2 x9) : Nat) : Int) (order_Sort_o_S3_e0 (order_Sort_o_e0 x9) (order_Sort_o_e2 x9)))) (id := 2) (e := 3) (s := 1) (off := 0) (size := 1) (p := true) (agg := false) (i := 0) (v := (V.d (.int .i64 (law12_VoteMid_S4_e0 x9)))) (n := (order_Sort_o_e2 x9)) (tbE h9) (by kernel_rfl) (tbE h8) (by kernel_rfl)), .b (tbE h13), .m 138 (o_idx_so (m := [(Blk.flat 65 3 [[(.int .i64 x0), (.int .i64 x1), (.int .i64 x2)]] true), (Blk.gen 73 2 [[(V.d (slD (encI .i64) true 1 x4 x5)), (V.d (.int .u8 x6))]] true), (Blk.flat 3 1 (List.map (encI .i64) (order_Sort_o_L2_r0_3 (order_Sort_o_e2 x9) (((order_Sort_o_e2 x9) : Nat) : Int) (order_Sort_o_S3_e0 (order_Sort_o_e0 x9) (order_Sort_o_e2 x9)))) true)]) (b := false) (id := 2) (n := (order_Sort_o_e2 x9)) (s := 1) (k := .i64) (by kernel_rfl) (tbE h11)), .m 139 (o_load_L (m := [(Blk.flat 65 3 [[(.int .i64 x0), (.int .i64 x1), (.int .i64 x2)]] true), (Blk.gen 73 2 [[(V.d (slD (encI .i64) true 1 x4 x5)), (V.d (.int .u8 x6))]] true), (Blk.flat 3 1 (List.map (encI .i64) (order_Sort_o_L2_r0_3 (order_Sort_o_e2 x9) (((order_Sort_o_e2 x9) : Nat) : Int) (order_Sort_o_S3_e0 (order_Sort_o_e0 x9) (order_Sort_o_e2 x9)))) true)]) (enc := (encI .i64)) (l := (order_Sort_o_L2_r0_3 (order_Sort_o_e2 x9) (((order_Sort_o_e2 x9) : Nat) : Int) (order_Sort_o_S3_e0 (order_Sort_o_e0 x9) (order_Sort_o_e2 x9)))) (id := 2) (e := 3) (s := 1) (off := 0) (size := 1) (p := true) (agg := false) (i := (wi ((((order_Sort_o_e2 x9) : Nat) : Int) - 1))) (v := (V.d (.int .i64 (law12_VoteMid_S4_e1 x9)))) (n := (order_Sort_o_e2 x9)) (tbE h9) (by kernel_rfl) (tbE h11) (by kernel_rfl)), .b (tbE h14)] (by kernel_rfl)
                            · intro g0 g1
                              exact absurd g0 tf
                          · intro g0 g1
                            exact absurd g0 tf
              · cases h8 : tb (decide (x14 ≤ x1))
                · cases h9 : tb (inb (order_Sort_o_e2 x9) 0)
                  · intro g0 g1
                    exact absurd g1 ft
                  · cases h10 : tb (Nat.beq (order_Sort_o_e2 x9) (order_Sort_o_L2_r0_3 (order_Sort_o_e2 x9) (((order_Sort_o_e2 x9) : Nat) : Int) (order_Sort_o_S3_e0 (order_Sort_o_e0 x9) (order_Sort_o_e2 x9))).length)
                    · intro g0 g1
                      exact absurd g1 ft
                    · cases h11 : tb (decide (x0 ≤ (law12_VoteMid_S4_e0 x9)))
                      · intro g0 g1
                        exact seg_walk [.c (order_Sort_o_t0 x8 x9 (tbE h1)), .b (notT (tbE h2)), .b (tbE h3), .o 67 (fun _ => o_len_os (enc := (encI .i64)) (l := x11) (fl := true) (n := x10) (s := 1)), .b (tbE h4), .b (tbE h5), .b (tbE h6), .b (tbE h7), .b (tbE h8), .m 110 (o_idx_so (m := [(Blk.flat 65 3 [[(.int .i64 x0), (.int .i64 x1), (.int .i64 x2)]] true), (Blk.gen 73 2 [[(V.d (slD (encI .i64) true 1 x4 x5)), (V.d (.int .u8 x6))]] true), (Blk.flat 3 1 (List.map (encI .i64) (order_Sort_o_L2_r0_3 (order_Sort_o_e2 x9) (((order_Sort_o_e2 x9) : Nat) : Int) (order_Sort_o_S3_e0 (order_Sort_o_e0 x9) (order_Sort_o_e2 x9)))) true)]) (b := false) (id := 2) (n := (order_Sort_o_e2 x9)) (s := 1) (k := .i64) (by kernel_rfl) (tbE h9)), .m 111 (o_load_L (m := [(Blk.flat 65 3 [[(.int .i64 x0), (.int .i64 x1), (.int .i64 x2)]] true), (Blk.gen 73 2 [[(V.d (slD (encI .i64) true 1 x4 x5)), (V.d (.int .u8 x6))]] true), (Blk.flat 3 1 (List.map (encI .i64) (order_Sort_o_L2_r0_3 (order_Sort_o_e2 x9) (((order_Sort_o_e2 x9) : Nat) : Int) (order_Sort_o_S3_e0 (order_Sort_o_e0 x9) (order_Sort_o_e2 x9)))) true)]) (enc := (encI .i64)) (l := (order_Sort_o_L2_r0_3 (order_Sort_o_e2 x9) (((order_Sort_o_e2 x9) : Nat) : Int) (order_Sort_o_S3_e0 (order_Sort_o_e0 x9) (order_Sort_o_e2 x9)))) (id := 2) (e := 3) (s := 1) (off := 0) (size := 1) (p := true) (agg := false) (i := 0) (v := (V.d (.int .i64 (law12_VoteMid_S4_e0 x9)))) (n := (order_Sort_o_e2 x9)) (tbE h10) (by kernel_rfl) (tbE h9) (by kernel_rfl)), .b (tbE h11)] (by kernel_rfl)
                      · cases h12 : tb (inb (order_Sort_o_e2 x9) (wi ((((order_Sort_o_e2 x9) : Nat) : Int) - 1)))
                        · intro g0 g1
                          exact absurd g1 ft
                        · cases h13 : tb (decide ((law12_VoteMid_S4_e1 x9) ≤ x1))
                          · intro g0 g1
                            exact seg_walk [.c (order_Sort_o_t0 x8 x9 (tbE h1)), .b (notT (tbE h2)), .b (tbE h3), .o 67 (fun _ => o_len_os (enc := (encI .i64)) (l := x11) (fl := true) (n := x10) (s := 1)), .b (tbE h4), .b (tbE h5), .b (tbE h6), .b (tbE h7), .b (tbE h8), .m 110 (o_idx_so (m := [(Blk.flat 65 3 [[(.int .i64 x0), (.int .i64 x1), (.int .i64 x2)]] true), (Blk.gen 73 2 [[(V.d (slD (encI .i64) true 1 x4 x5)), (V.d (.int .u8 x6))]] true), (Blk.flat 3 1 (List.map (encI .i64) (order_Sort_o_L2_r0_3 (order_Sort_o_e2 x9) (((order_Sort_o_e2 x9) : Nat) : Int) (order_Sort_o_S3_e0 (order_Sort_o_e0 x9) (order_Sort_o_e2 x9)))) true)]) (b := false) (id := 2) (n := (order_Sort_o_e2 x9)) (s := 1) (k := .i64) (by kernel_rfl) (tbE h9)), .m 111 (o_load_L (m := [(Blk.flat 65 3 [[(.int .i64 x0), (.int .i64 x1), (.int .i64 x2)]] true), (Blk.gen 73 2 [[(V.d (slD (encI .i64) true 1 x4 x5)), (V.d (.int .u8 x6))]] true), (Blk.flat 3 1 (List.map (encI .i64) (order_Sort_o_L2_r0_3 (order_Sort_o_e2 x9) (((order_Sort_o_e2 x9) : Nat) : Int) (order_Sort_o_S3_e0 (order_Sort_o_e0 x9) (order_Sort_o_e2 x9)))) true)]) (enc := (encI .i64)) (l := (order_Sort_o_L2_r0_3 (order_Sort_o_e2 x9) (((order_Sort_o_e2 x9) : Nat) : Int) (order_Sort_o_S3_e0 (order_Sort_o_e0 x9) (order_Sort_o_e2 x9)))) (id := 2) (e := 3) (s := 1) (off := 0) (size := 1) (p := true) (agg := false) (i := 0) (v := (V.d (.int .i64 (law12_VoteMid_S4_e0 x9)))) (n := (order_Sort_o_e2 x9)) (tbE h10) (by kernel_rfl) (tbE h9) (by kernel_rfl)), .b (tbE h11), .m 120 (o_idx_so (m := [(Blk.flat 65 3 [[(.int .i64 x0), (.int .i64 x1), (.int .i64 x2)]] true), (Blk.gen 73 2 [[(V.d (slD (encI .i64) true 1 x4 x5)), (V.d (.int .u8 x6))]] true), (Blk.flat 3 1 (List.map (encI .i64) (order_Sort_o_L2_r0_3 (order_Sort_o_e2 x9) (((order_Sort_o_e2 x9) : Nat) : Int) (order_Sort_o_S3_e0 (order_Sort_o_e0 x9) (order_Sort_o_e2 x9)))) true)]) (b := false) (id := 2) (n := (order_Sort_o_e2 x9)) (s := 1) (k := .i64) (by kernel_rfl) (tbE h12)), .m 121 (o_load_L (m := [(Blk.flat 65 3 [[(.int .i64 x0), (.int .i64 x1), (.int .i64 x2)]] true), (Blk.gen 73 2 [[(V.d (slD (encI .i64) true 1 x4 x5)), (V.d (.int .u8 x6))]] true), (Blk.flat 3 1 (List.map (encI .i64) (order_Sort_o_L2_r0_3 (order_Sort_o_e2 x9) (((order_Sort_o_e2 x9) : Nat) : Int) (order_Sort_o_S3_e0 (order_Sort_o_e0 x9) (order_Sort_o_e2 x9)))) true)]) (enc := (encI .i64)) (l := (order_Sort_o_L2_r0_3 (order_Sort_o_e2 x9) (((order_Sort_o_e2 x9) : Nat) : Int) (order_Sort_o_S3_e0 (order_Sort_o_e0 x9) (order_Sort_o_e2 x9)))) (id := 2) (e := 3) (s := 1) (off := 0) (size := 1) (p := true) (agg := false) (i := (wi ((((order_Sort_o_e2 x9) : Nat) : Int) - 1))) (v := (V.d (.int .i64 (law12_VoteMid_S4_e1 x9)))) (n := (order_Sort_o_e2 x9)) (tbE h10) (by kernel_rfl) (tbE h12) (by kernel_rfl)), .b (tbE h13)] (by kernel_rfl)
                          · cases h14 : tb (decide (x13 < (law12_VoteMid_S4_e0 x9)))
                            · cases h15 : tb (decide ((law12_VoteMid_S4_e1 x9) < x13))
                              · intro g0 g1
                                exact seg_walk [.c (order_Sort_o_t0 x8 x9 (tbE h1)), .b (notT (tbE h2)), .b (tbE h3), .o 67 (fun _ => o_len_os (enc := (encI .i64)) (l := x11) (fl := true) (n := x10) (s := 1)), .b (tbE h4), .b (tbE h5), .b (tbE h6), .b (tbE h7), .b (tbE h8), .m 110 (o_idx_so (m := [(Blk.flat 65 3 [[(.int .i64 x0), (.int .i64 x1), (.int .i64 x2)]] true), (Blk.gen 73 2 [[(V.d (slD (encI .i64) true 1 x4 x5)), (V.d (.int .u8 x6))]] true), (Blk.flat 3 1 (List.map (encI .i64) (order_Sort_o_L2_r0_3 (order_Sort_o_e2 x9) (((order_Sort_o_e2 x9) : Nat) : Int) (order_Sort_o_S3_e0 (order_Sort_o_e0 x9) (order_Sort_o_e2 x9)))) true)]) (b := false) (id := 2) (n := (order_Sort_o_e2 x9)) (s := 1) (k := .i64) (by kernel_rfl) (tbE h9)), .m 111 (o_load_L (m := [(Blk.flat 65 3 [[(.int .i64 x0), (.int .i64 x1), (.int .i64 x2)]] true), (Blk.gen 73 2 [[(V.d (slD (encI .i64) true 1 x4 x5)), (V.d (.int .u8 x6))]] true), (Blk.flat 3 1 (List.map (encI .i64) (order_Sort_o_L2_r0_3 (order_Sort_o_e2 x9) (((order_Sort_o_e2 x9) : Nat) : Int) (order_Sort_o_S3_e0 (order_Sort_o_e0 x9) (order_Sort_o_e2 x9)))) true)]) (enc := (encI .i64)) (l := (order_Sort_o_L2_r0_3 (order_Sort_o_e2 x9) (((order_Sort_o_e2 x9) : Nat) : Int) (order_Sort_o_S3_e0 (order_Sort_o_e0 x9) (order_Sort_o_e2 x9)))) (id := 2) (e := 3) (s := 1) (off := 0) (size := 1) (p := true) (agg := false) (i := 0) (v := (V.d (.int .i64 (law12_VoteMid_S4_e0 x9)))) (n := (order_Sort_o_e2 x9)) (tbE h10) (by kernel_rfl) (tbE h9) (by kernel_rfl)), .b (tbE h11), .m 120 (o_idx_so (m := [(Blk.flat 65 3 [[(.int .i64 x0), (.int .i64 x1), (.int .i64 x2)]] true), (Blk.gen 73 2 [[(V.d (slD (encI .i64) true 1 x4 x5)), (V.d (.int .u8 x6))]] true), (Blk.flat 3 1 (List.map (encI .i64) (order_Sort_o_L2_r0_3 (order_Sort_o_e2 x9) (((order_Sort_o_e2 x9) : Nat) : Int) (order_Sort_o_S3_e0 (order_Sort_o_e0 x9) (order_Sort_o_e2 x9)))) true)]) (b := false) (id := 2) (n := (order_Sort_o_e2 x9)) (s := 1) (k := .i64) (by kernel_rfl) (tbE h12)), .m 121 (o_load_L (m := [(Blk.flat 65 3 [[(.int .i64 x0), (.int .i64 x1), (.int .i64 x2)]] true), (Blk.gen 73 2 [[(V.d (slD (encI .i64) true 1 x4 x5)), (V.d (.int .u8 x6))]] true), (Blk.flat 3 1 (List.map (encI .i64) (order_Sort_o_L2_r0_3 (order_Sort_o_e2 x9) (((order_Sort_o_e2 x9) : Nat) : Int) (order_Sort_o_S3_e0 (order_Sort_o_e0 x9) (order_Sort_o_e2 x9)))) true)]) (enc := (encI .i64)) (l := (order_Sort_o_L2_r0_3 (order_Sort_o_e2 x9) (((order_Sort_o_e2 x9) : Nat) : Int) (order_Sort_o_S3_e0 (order_Sort_o_e0 x9) (order_Sort_o_e2 x9)))) (id := 2) (e := 3) (s := 1) (off := 0) (size := 1) (p := true) (agg := false) (i := (wi ((((order_Sort_o_e2 x9) : Nat) : Int) - 1))) (v := (V.d (.int .i64 (law12_VoteMid_S4_e1 x9)))) (n := (order_Sort_o_e2 x9)) (tbE h10) (by kernel_rfl) (tbE h12) (by kernel_rfl)), .b (tbE h13), .m 129 (o_idx_so (m := [(Blk.flat 65 3 [[(.int .i64 x0), (.int .i64 x1), (.int .i64 x2)]] true), (Blk.gen 73 2 [[(V.d (slD (encI .i64) true 1 x4 x5)), (V.d (.int .u8 x6))]] true), (Blk.flat 3 1 (List.map (encI .i64) (order_Sort_o_L2_r0_3 (order_Sort_o_e2 x9) (((order_Sort_o_e2 x9) : Nat) : Int) (order_Sort_o_S3_e0 (order_Sort_o_e0 x9) (order_Sort_o_e2 x9)))) true)]) (b := false) (id := 2) (n := (order_Sort_o_e2 x9)) (s := 1) (k := .i64) (by kernel_rfl) (tbE h9)), .m 130 (o_load_L (m := [(Blk.flat 65 3 [[(.int .i64 x0), (.int .i64 x1), (.int .i64 x2)]] true), (Blk.gen 73 2 [[(V.d (slD (encI .i64) true 1 x4 x5)), (V.d (.int .u8 x6))]] true), (Blk.flat 3 1 (List.map (encI .i64) (order_Sort_o_L2_r0_3 (order_Sort_o_e2 x9) (((order_Sort_o_e2 x9) : Nat) : Int) (order_Sort_o_S3_e0 (order_Sort_o_e0 x9) (order_Sort_o_e2 x9)))) true)]) (enc := (encI .i64)) (l := (order_Sort_o_L2_r0_3 (order_Sort_o_e2 x9) (((order_Sort_o_e2 x9) : Nat) : Int) (order_Sort_o_S3_e0 (order_Sort_o_e0 x9) (order_Sort_o_e2 x9)))) (id := 2) (e := 3) (s := 1) (off := 0) (size := 1) (p := true) (agg := false) (i := 0) (v := (V.d (.int .i64 (law12_VoteMid_S4_e0 x9)))) (n := (order_Sort_o_e2 x9)) (tbE h10) (by kernel_rfl) (tbE h9) (by kernel_rfl)), .b (tbE h14), .m 138 (o_idx_so (m := [(Blk.flat 65 3 [[(.int .i64 x0), (.int .i64 x1), (.int .i64 x2)]] true), (Blk.gen 73 2 [[(V.d (slD (encI .i64) true 1 x4 x5)), (V.d (.int .u8 x6))]] true), (Blk.flat 3 1 (List.map (encI .i64) (order_Sort_o_L2_r0_3 (order_Sort_o_e2 x9) (((order_Sort_o_e2 x9) : Nat) : Int) (order_Sort_o_S3_e0 (order_Sort_o_e0 x9) (order_Sort_o_e2 x9)))) true)]) (b := false) (id := 2) (n := (order_Sort_o_e2 x9)) (s := 1) (k := .i64) (by kernel_rfl) (tbE h12)), .m 139 (o_load_L (m := [(Blk.flat 65 3 [[(.int .i64 x0), (.int .i64 x1), (.int .i64 x2)]] true), (Blk.gen 73 2 [[(V.d (slD (encI .i64) true 1 x4 x5)), (V.d (.int .u8 x6))]] true), (Blk.flat 3 1 (List.map (encI .i64) (order_Sort_o_L2_r0_3 (order_Sort_o_e2 x9) (((order_Sort_o_e2 x9) : Nat) : Int) (order_Sort_o_S3_e0 (order_Sort_o_e0 x9) (order_Sort_o_e2 x9)))) true)]) (enc := (encI .i64)) (l := (order_Sort_o_L2_r0_3 (order_Sort_o_e2 x9) (((order_Sort_o_e2 x9) : Nat) : Int) (order_Sort_o_S3_e0 (order_Sort_o_e0 x9) (order_Sort_o_e2 x9)))) (id := 2) (e := 3) (s := 1) (off := 0) (size := 1) (p := true) (agg := false) (i := (wi ((((order_Sort_o_e2 x9) : Nat) : Int) - 1))) (v := (V.d (.int .i64 (law12_VoteMid_S4_e1 x9)))) (n := (order_Sort_o_e2 x9)) (tbE h10) (by kernel_rfl) (tbE h12) (by kernel_rfl)), .b (tbE h15)] (by kernel_rfl)
                              · intro g0 g1
                                exact absurd g0 tf
                            · intro g0 g1
                              exact absurd g0 tf
                · cases h9 : tb (decide ((wi (x14 + x2)) < x13))
                  · cases h10 : tb (decide (x13 < (wi (x14 - x2))))
                    · cases h11 : tb (inb (order_Sort_o_e2 x9) 0)
                      · intro g0 g1
                        exact absurd g1 ft
                      · cases h12 : tb (Nat.beq (order_Sort_o_e2 x9) (order_Sort_o_L2_r0_3 (order_Sort_o_e2 x9) (((order_Sort_o_e2 x9) : Nat) : Int) (order_Sort_o_S3_e0 (order_Sort_o_e0 x9) (order_Sort_o_e2 x9))).length)
                        · intro g0 g1
                          exact absurd g1 ft
                        · cases h13 : tb (decide (x0 ≤ (law12_VoteMid_S4_e0 x9)))
                          · intro g0 g1
                            exact seg_walk [.c (order_Sort_o_t0 x8 x9 (tbE h1)), .b (notT (tbE h2)), .b (tbE h3), .o 67 (fun _ => o_len_os (enc := (encI .i64)) (l := x11) (fl := true) (n := x10) (s := 1)), .b (tbE h4), .b (tbE h5), .b (tbE h6), .b (tbE h7), .b (tbE h8), .b (tbE h9), .b (tbE h10), .m 110 (o_idx_so (m := [(Blk.flat 65 3 [[(.int .i64 x0), (.int .i64 x1), (.int .i64 x2)]] true), (Blk.gen 73 2 [[(V.d (slD (encI .i64) true 1 x4 x5)), (V.d (.int .u8 x6))]] true), (Blk.flat 3 1 (List.map (encI .i64) (order_Sort_o_L2_r0_3 (order_Sort_o_e2 x9) (((order_Sort_o_e2 x9) : Nat) : Int) (order_Sort_o_S3_e0 (order_Sort_o_e0 x9) (order_Sort_o_e2 x9)))) true)]) (b := false) (id := 2) (n := (order_Sort_o_e2 x9)) (s := 1) (k := .i64) (by kernel_rfl) (tbE h11)), .m 111 (o_load_L (m := [(Blk.flat 65 3 [[(.int .i64 x0), (.int .i64 x1), (.int .i64 x2)]] true), (Blk.gen 73 2 [[(V.d (slD (encI .i64) true 1 x4 x5)), (V.d (.int .u8 x6))]] true), (Blk.flat 3 1 (List.map (encI .i64) (order_Sort_o_L2_r0_3 (order_Sort_o_e2 x9) (((order_Sort_o_e2 x9) : Nat) : Int) (order_Sort_o_S3_e0 (order_Sort_o_e0 x9) (order_Sort_o_e2 x9)))) true)]) (enc := (encI .i64)) (l := (order_Sort_o_L2_r0_3 (order_Sort_o_e2 x9) (((order_Sort_o_e2 x9) : Nat) : Int) (order_Sort_o_S3_e0 (order_Sort_o_e0 x9) (order_Sort_o_e2 x9)))) (id := 2) (e := 3) (s := 1) (off := 0) (size := 1) (p := true) (agg := false) (i := 0) (v := (V.d (.int .i64 (law12_VoteMid_S4_e0 x9)))) (n := (order_Sort_o_e2 x9)) (tbE h12) (by kernel_rfl) (tbE h11) (by kernel_rfl)), .b (tbE h13)] (by kernel_rfl)
                          · cases h14 : tb (inb (order_Sort_o_e2 x9) (wi ((((order_Sort_o_e2 x9) : Nat) : Int) - 1)))
                            · intro g0 g1
                              exact absurd g1 ft
                            · cases h15 : tb (decide ((law12_VoteMid_S4_e1 x9) ≤ x1))
                              · intro g0 g1
                                exact seg_walk [.c (order_Sort_o_t0 x8 x9 (tbE h1)), .b (notT (tbE h2)), .b (tbE h3), .o 67 (fun _ => o_len_os (enc := (encI .i64)) (l := x11) (fl := true) (n := x10) (s := 1)), .b (tbE h4), .b (tbE h5), .b (tbE h6), .b (tbE h7), .b (tbE h8), .b (tbE h9), .b (tbE h10), .m 110 (o_idx_so (m := [(Blk.flat 65 3 [[(.int .i64 x0), (.int .i64 x1), (.int .i64 x2)]] true), (Blk.gen 73 2 [[(V.d (slD (encI .i64) true 1 x4 x5)), (V.d (.int .u8 x6))]] true), (Blk.flat 3 1 (List.map (encI .i64) (order_Sort_o_L2_r0_3 (order_Sort_o_e2 x9) (((order_Sort_o_e2 x9) : Nat) : Int) (order_Sort_o_S3_e0 (order_Sort_o_e0 x9) (order_Sort_o_e2 x9)))) true)]) (b := false) (id := 2) (n := (order_Sort_o_e2 x9)) (s := 1) (k := .i64) (by kernel_rfl) (tbE h11)), .m 111 (o_load_L (m := [(Blk.flat 65 3 [[(.int .i64 x0), (.int .i64 x1), (.int .i64 x2)]] true), (Blk.gen 73 2 [[(V.d (slD (encI .i64) true 1 x4 x5)), (V.d (.int .u8 x6))]] true), (Blk.flat 3 1 (List.map (encI .i64) (order_Sort_o_L2_r0_3 (order_Sort_o_e2 x9) (((order_Sort_o_e2 x9) : Nat) : Int) (order_Sort_o_S3_e0 (order_Sort_o_e0 x9) (order_Sort_o_e2 x9)))) true)]) (enc := (encI .i64)) (l := (order_Sort_o_L2_r0_3 (order_Sort_o_e2 x9) (((order_Sort_o_e2 x9) : Nat) : Int) (order_Sort_o_S3_e0 (order_Sort_o_e0 x9) (order_Sort_o_e2 x9)))) (id := 2) (e := 3) (s := 1) (off := 0) (size := 1) (p := true) (agg := false) (i := 0) (v := (V.d (.int .i64 (law12_VoteMid_S4_e0 x9)))) (n := (order_Sort_o_e2 x9)) (tbE h12) (by kernel_rfl) (tbE h11) (by kernel_rfl)), .b (tbE h13), .m 120 (o_idx_so (m := [(Blk.flat 65 3 [[(.int .i64 x0), (.int .i64 x1), (.int .i64 x2)]] true), (Blk.gen 73 2 [[(V.d (slD (encI .i64) true 1 x4 x5)), (V.d (.int .u8 x6))]] true), (Blk.flat 3 1 (List.map (encI .i64) (order_Sort_o_L2_r0_3 (order_Sort_o_e2 x9) (((order_Sort_o_e2 x9) : Nat) : Int) (order_Sort_o_S3_e0 (order_Sort_o_e0 x9) (order_Sort_o_e2 x9)))) true)]) (b := false) (id := 2) (n := (order_Sort_o_e2 x9)) (s := 1) (k := .i64) (by kernel_rfl) (tbE h14)), .m 121 (o_load_L (m := [(Blk.flat 65 3 [[(.int .i64 x0), (.int .i64 x1), (.int .i64 x2)]] true), (Blk.gen 73 2 [[(V.d (slD (encI .i64) true 1 x4 x5)), (V.d (.int .u8 x6))]] true), (Blk.flat 3 1 (List.map (encI .i64) (order_Sort_o_L2_r0_3 (order_Sort_o_e2 x9) (((order_Sort_o_e2 x9) : Nat) : Int) (order_Sort_o_S3_e0 (order_Sort_o_e0 x9) (order_Sort_o_e2 x9)))) true)]) (enc := (encI .i64)) (l := (order_Sort_o_L2_r0_3 (order_Sort_o_e2 x9) (((order_Sort_o_e2 x9) : Nat) : Int) (order_Sort_o_S3_e0 (order_Sort_o_e0 x9) (order_Sort_o_e2 x9)))) (id := 2) (e := 3) (s := 1) (off := 0) (size := 1) (p := true) (agg := false) (i := (wi ((((order_Sort_o_e2 x9) : Nat) : Int) - 1))) (v := (V.d (.int .i64 (law12_VoteMid_S4_e1 x9)))) (n := (order_Sort_o_e2 x9)) (tbE h12) (by kernel_rfl) (tbE h14) (by kernel_rfl)), .b (tbE h15)] (by kernel_rfl)
                              · cases h16 : tb (decide (x13 < (law12_VoteMid_S4_e0 x9)))
                                · cases h17 : tb (decide ((law12_VoteMid_S4_e1 x9) < x13))
                                  · intro g0 g1
                                    exact seg_walk [.c (order_Sort_o_t0 x8 x9 (tbE h1)), .b (notT (tbE h2)), .b (tbE h3), .o 67 (fun _ => o_len_os (enc := (encI .i64)) (l := x11) (fl := true) (n := x10) (s := 1)), .b (tbE h4), .b (tbE h5), .b (tbE h6), .b (tbE h7), .b (tbE h8), .b (tbE h9), .b (tbE h10), .m 110 (o_idx_so (m := [(Blk.flat 65 3 [[(.int .i64 x0), (.int .i64 x1), (.int .i64 x2)]] true), (Blk.gen 73 2 [[(V.d (slD (encI .i64) true 1 x4 x5)), (V.d (.int .u8 x6))]] true), (Blk.flat 3 1 (List.map (encI .i64) (order_Sort_o_L2_r0_3 (order_Sort_o_e2 x9) (((order_Sort_o_e2 x9) : Nat) : Int) (order_Sort_o_S3_e0 (order_Sort_o_e0 x9) (order_Sort_o_e2 x9)))) true)]) (b := false) (id := 2) (n := (order_Sort_o_e2 x9)) (s := 1) (k := .i64) (by kernel_rfl) (tbE h11)), .m 111 (o_load_L (m := [(Blk.flat 65 3 [[(.int .i64 x0), (.int .i64 x1), (.int .i64 x2)]] true), (Blk.gen 73 2 [[(V.d (slD (encI .i64) true 1 x4 x5)), (V.d (.int .u8 x6))]] true), (Blk.flat 3 1 (List.map (encI .i64) (order_Sort_o_L2_r0_3 (order_Sort_o_e2 x9) (((order_Sort_o_e2 x9) : Nat) : Int) (order_Sort_o_S3_e0 (order_Sort_o_e0 x9) (order_Sort_o_e2 x9)))) true)]) (enc := (encI .i64)) (l := (order_Sort_o_L2_r0_3 (order_Sort_o_e2 x9) (((order_Sort_o_e2 x9) : Nat) : Int) (order_Sort_o_S3_e0 (order_Sort_o_e0 x9) (order_Sort_o_e2 x9)))) (id := 2) (e := 3) (s := 1) (off := 0) (size := 1) (p := true) (agg := false) (i := 0) (v := (V.d (.int .i64 (law12_VoteMid_S4_e0 x9)))) (n := (order_Sort_o_e2 x9)) (tbE h12) (by kernel_rfl) (tbE h11) (by kernel_rfl)), .b (tbE h13), .m 120 (o_idx_so (m := [(Blk.flat 65 3 [[(.int .i64 x0), (.int .i64 x1), (.int .i64 x2)]] true), (Blk.gen 73 2 [[(V.d (slD (encI .i64) true 1 x4 x5)), (V.d (.int .u8 x6))]] true), (Blk.flat 3 1 (List.map (encI .i64) (order_Sort_o_L2_r0_3 (order_Sort_o_e2 x9) (((order_Sort_o_e2 x9) : Nat) : Int) (order_Sort_o_S3_e0 (order_Sort_o_e0 x9) (order_Sort_o_e2 x9)))) true)]) (b := false) (id := 2) (n := (order_Sort_o_e2 x9)) (s := 1) (k := .i64) (by kernel_rfl) (tbE h14)), .m 121 (o_load_L (m := [(Blk.flat 65 3 [[(.int .i64 x0), (.int .i64 x1), (.int .i64 x2)]] true), (Blk.gen 73 2 [[(V.d (slD (encI .i64) true 1 x4 x5)), (V.d (.int .u8 x6))]] true), (Blk.flat 3 1 (List.map (encI .i64) (order_Sort_o_L2_r0_3 (order_Sort_o_e2 x9) (((order_Sort_o_e2 x9) : Nat) : Int) (order_Sort_o_S3_e0 (order_Sort_o_e0 x9) (order_Sort_o_e2 x9)))) true)]) (enc := (encI .i64)) (l := (order_Sort_o_L2_r0_3 (order_Sort_o_e2 x9) (((order_Sort_o_e2 x9) : Nat) : Int) (order_Sort_o_S3_e0 (order_Sort_o_e0 x9) (order_Sort_o_e2 x9)))) (id := 2) (e := 3) (s := 1) (off := 0) (size := 1) (p := true) (agg := false) (i := (wi ((((order_Sort_o_e2 x9) : Nat) : Int) - 1))) (v := (V.d (.int .i64 (law12_VoteMid_S4_e1 x9)))) (n := (order_Sort_o_e2 x9)) (tbE h12) (by kernel_rfl) (tbE h14) (by kernel_rfl)), .b (tbE h15), .m 129 (o_idx_so (m := [(Blk.flat 65 3 [[(.int .i64 x0), (.int .i64 x1), (.int .i64 x2)]] true), (Blk.gen 73 2 [[(V.d (slD (encI .i64) true 1 x4 x5)), (V.d (.int .u8 x6))]] true), (Blk.flat 3 1 (List.map (encI .i64) (order_Sort_o_L2_r0_3 (order_Sort_o_e2 x9) (((order_Sort_o_e2 x9) : Nat) : Int) (order_Sort_o_S3_e0 (order_Sort_o_e0 x9) (order_Sort_o_e2 x9)))) true)]) (b := false) (id := 2) (n := (order_Sort_o_e2 x9)) (s := 1) (k := .i64) (by kernel_rfl) (tbE h11)), .m 130 (o_load_L (m := [(Blk.flat 65 3 [[(.int .i64 x0), (.int .i64 x1), (.int .i64 x2)]] true), (Blk.gen 73 2 [[(V.d (slD (encI .i64) true 1 x4 x5)), (V.d (.int .u8 x6))]] true), (Blk.flat 3 1 (List.map (encI .i64) (order_Sort_o_L2_r0_3 (order_Sort_o_e2 x9) (((order_Sort_o_e2 x9) : Nat) : Int) (order_Sort_o_S3_e0 (order_Sort_o_e0 x9) (order_Sort_o_e2 x9)))) true)]) (enc := (encI .i64)) (l := (order_Sort_o_L2_r0_3 (order_Sort_o_e2 x9) (((order_Sort_o_e2 x9) : Nat) : Int) (order_Sort_o_S3_e0 (order_Sort_o_e0 x9) (order_Sort_o_e2 x9)))) (id := 2) (e := 3) (s := 1) (off := 0) (size := 1) (p := true) (agg := false) (i := 0) (v := (V.d (.int .i64 (law12_VoteMid_S4_e0 x9)))) (n := (order_Sort_o_e2 x9)) (tbE h12) (by kernel_rfl) (tbE h11) (by kernel_rfl)), .b (tbE h16), .m 138 (o_idx_so (m := [(Blk.flat 65 3 [[(.int .i64 x0), (.int .i64 x1), (.int .i64 x2)]] true), (Blk.gen 73 2 [[(V.d (slD (encI .i64) true 1 x4 x5)), (V.d (.int .u8 x6))]] true), (Blk.flat 3 1 (List.map (encI .i64) (order_Sort_o_L2_r0_3 (order_Sort_o_e2 x9) (((order_Sort_o_e2 x9) : Nat) : Int) (order_Sort_o_S3_e0 (order_Sort_o_e0 x9) (order_Sort_o_e2 x9)))) true)]) (b := false) (id := 2) (n := (order_Sort_o_e2 x9)) (s := 1) (k := .i64) (by kernel_rfl) (tbE h14)), .m 139 (o_load_L (m := [(Blk.flat 65 3 [[(.int .i64 x0), (.int .i64 x1), (.int .i64 x2)]] true), (Blk.gen 73 2 [[(V.d (slD (encI .i64) true 1 x4 x5)), (V.d (.int .u8 x6))]] true), (Blk.flat 3 1 (List.map (encI .i64) (order_Sort_o_L2_r0_3 (order_Sort_o_e2 x9) (((order_Sort_o_e2 x9) : Nat) : Int) (order_Sort_o_S3_e0 (order_Sort_o_e0 x9) (order_Sort_o_e2 x9)))) true)]) (enc := (encI .i64)) (l := (order_Sort_o_L2_r0_3 (order_Sort_o_e2 x9) (((order_Sort_o_e2 x9) : Nat) : Int) (order_Sort_o_S3_e0 (order_Sort_o_e0 x9) (order_Sort_o_e2 x9)))) (id := 2) (e := 3) (s := 1) (off := 0) (size := 1) (p := true) (agg := false) (i := (wi ((((order_Sort_o_e2 x9) : Nat) : Int) - 1))) (v := (V.d (.int .i64 (law12_VoteMid_S4_e1 x9)))) (n := (order_Sort_o_e2 x9)) (tbE h12) (by kernel_rfl) (tbE h14) (by kernel_rfl)), .b (tbE h17)] (by kernel_rfl)
                                  · intro g0 g1
                                    exact absurd g0 tf
                                · intro g0 g1
                                  exact absurd g0 tf
                    · intro g0 g1
                      exact absurd g0 tf
                  · intro g0 g1
                    exact absurd g0 tf
            · intro g0 g1
              exact absurd g0 tf
          · intro g0 g1
            exact absurd g0 tf
        · intro g0 g1
          exact absurd g0 tf
      · intro g0 g1
        exact absurd g0 tf
def law12_VoteMid_S5_c0 (x0 : Int) (x1 : Int) (x8 : List Int) (x10 : List Int) : Bool := (bif tb (vote_Vote_ai3oo_c0 x0 x1 0 x8 x10) then true else false)
theorem law12_VoteMid_S5_t0 (x0 : Int) (x1 : Int) (x2 : Bool) (x3 : Bool) (x4 : List Int) (x5 : Int) (x6 : Bool) (x7 : Bool) (x8 : List Int) (x9 : Bool) (x10 : List Int) (x11 : Int) (x12 : Int) : law12_VoteMid_S5_c0 x0 x1 x8 x10 = true → segG (runC E0 (cl E0) S11_5) [1, 3, 7, 8, 11] [] [1, 3, 7, 8, 11, 15, 16] 2 ([(V.d (slD (encI .i64) true 1 x7 x8)), (V.ptr 0 1 0 0), (V.d (slD (encI .i64) true 1 x9 x10)), (V.d (.int .u8 x11)), (V.d (.int .i64 x12))], [(Blk.flat 65 3 [[(.int .i64 x0), (.int .i64 x1), (.int .i64 0)]] x2), (Blk.gen 73 2 [[(V.d (slD (encI .i64) true 1 x3 x4)), (V.d (.int .u8 x5))]] x6)]) = some (.normal, ([(V.d (slD (encI .i64) true 1 x7 x8)), (V.ptr 0 1 0 0), (V.d (slD (encI .i64) true 1 x9 x10)), (V.d (.int .u8 x11)), (V.d (.int .i64 x12)), (V.d (.int .i64 (vote_Vote_ai3oo_r0_0 x0 x1 0 x8 x10))), (V.d (.bool (vote_Vote_ai3oo_r0_1 x0 x1 0 x8 x10)))], [(Blk.flat 65 3 [[(.int .i64 x0), (.int .i64 x1), (.int .i64 0)]] x2), (Blk.gen 73 2 [[(V.d (slD (encI .i64) true 1 x3 x4)), (V.d (.int .u8 x5))]] x6)])) := by
  unfold law12_VoteMid_S5_c0
  cases h1 : tb (vote_Vote_ai3oo_c0 x0 x1 0 x8 x10)
  · intro g0
    exact absurd g0 ft
  · intro g0
    exact seg_walk [.c (vote_Vote_ai3oo_t0 x0 x1 0 x7 x8 x9 x10 (tbE h1))] (by kernel_rfl)
def law12_VoteMid_S6_e0 (x10 : List Int) (x14 : Int) : List Int := ((sub x10 x14 ((x10.length : Nat) : Int)) ++ (sub x10 0 x14))
def law12_VoteMid_S6_c0 (x0 : Int) (x1 : Int) (x8 : List Int) (x10 : List Int) (x14 : Int) : Bool := (bif tb (ins x8.length x14 ((x8.length : Nat) : Int)) then (bif tb (decide ((([] : List Int).length + (sub x8 x14 ((x8.length : Nat) : Int)).length) * 8 ≤ 140737488355328)) then (bif tb (ins x8.length 0 x14) then (bif tb (decide (((sub x8 x14 ((x8.length : Nat) : Int)).length + (sub x8 0 x14).length) * 8 ≤ 140737488355328)) then (bif tb (ins x10.length x14 ((x10.length : Nat) : Int)) then (bif tb (decide ((([] : List Int).length + (sub x10 x14 ((x10.length : Nat) : Int)).length) * 8 ≤ 140737488355328)) then (bif tb (ins x10.length 0 x14) then (bif tb (decide (((sub x10 x14 ((x10.length : Nat) : Int)).length + (sub x10 0 x14).length) * 8 ≤ 140737488355328)) then (bif tb (vote_Vote_ai3oo_c0 x0 x1 0 ((sub x8 x14 ((x8.length : Nat) : Int)) ++ (sub x8 0 x14)) (law12_VoteMid_S6_e0 x10 x14)) then true else false) else false) else false) else false) else false) else false) else false) else false) else false)
theorem law12_VoteMid_S6_t0 (x0 : Int) (x1 : Int) (x2 : Bool) (x3 : Bool) (x4 : List Int) (x5 : Int) (x6 : Bool) (x7 : Bool) (x8 : List Int) (x9 : Bool) (x10 : List Int) (x11 : Int) (x12 : Int) (x13 : Bool) (x14 : Int) : law12_VoteMid_S6_c0 x0 x1 x8 x10 x14 = true → segG (runC E0 (cl E0) S11_6) [1, 3, 7, 11, 15, 16, 17] [] [3, 11, 15, 16, 20, 21] 2 ([(V.d (slD (encI .i64) true 1 x7 x8)), (V.ptr 0 1 0 0), (V.d (slD (encI .i64) true 1 x9 x10)), (V.d (.int .i64 x11)), (V.d (.int .i64 x12)), (V.d (.bool x13)), (V.d (.int .i64 x14))], [(Blk.flat 65 3 [[(.int .i64 x0), (.int .i64 x1), (.int .i64 0)]] x2), (Blk.gen 73 2 [[(V.d (slD (encI .i64) true 1 x3 x4)), (V.d (.int .u8 x5))]] x6)]) = some (.normal, ([(V.ptr 0 1 0 0), (V.d (.int .i64 x11)), (V.d (.int .i64 x12)), (V.d (.bool x13)), (V.d (.int .i64 (vote_Vote_ai3oo_r0_0 x0 x1 0 ((sub x8 x14 ((x8.length : Nat) : Int)) ++ (sub x8 0 x14)) (law12_VoteMid_S6_e0 x10 x14)))), (V.d (.bool (vote_Vote_ai3oo_r0_1 x0 x1 0 ((sub x8 x14 ((x8.length : Nat) : Int)) ++ (sub x8 0 x14)) (law12_VoteMid_S6_e0 x10 x14))))], [(Blk.flat 65 3 [[(.int .i64 x0), (.int .i64 x1), (.int .i64 0)]] x2), (Blk.gen 73 2 [[(V.d (slD (encI .i64) true 1 x3 x4)), (V.d (.int .u8 x5))]] x6)])) := by
  unfold law12_VoteMid_S6_c0
  cases h1 : tb (ins x8.length x14 ((x8.length : Nat) : Int))
  · intro g0
    exact absurd g0 ft
  · cases h2 : tb (decide ((([] : List Int).length + (sub x8 x14 ((x8.length : Nat) : Int)).length) * 8 ≤ 140737488355328))
    · intro g0
      exact absurd g0 ft
    · cases h3 : tb (ins x8.length 0 x14)
      · intro g0
        exact absurd g0 ft
      · cases h4 : tb (decide (((sub x8 x14 ((x8.length : Nat) : Int)).length + (sub x8 0 x14).length) * 8 ≤ 140737488355328))
        · intro g0
          exact absurd g0 ft
        · cases h5 : tb (ins x10.length x14 ((x10.length : Nat) : Int))
          · intro g0
            exact absurd g0 ft
          · cases h6 : tb (decide ((([] : List Int).length + (sub x10 x14 ((x10.length : Nat) : Int)).length) * 8 ≤ 140737488355328))
            · intro g0
              exact absurd g0 ft
            · cases h7 : tb (ins x10.length 0 x14)
              · intro g0
                exact absurd g0 ft
              · cases h8 : tb (decide (((sub x10 x14 ((x10.length : Nat) : Int)).length + (sub x10 0 x14).length) * 8 ≤ 140737488355328))
                · intro g0
                  exact absurd g0 ft
                · cases h9 : tb (vote_Vote_ai3oo_c0 x0 x1 0 ((sub x8 x14 ((x8.length : Nat) : Int)) ++ (sub x8 0 x14)) (law12_VoteMid_S6_e0 x10 x14))
                  · intro g0
                    exact absurd g0 ft
                  · intro g0
                    exact seg_walk [.o 159 (fun _ => o_slice_os (enc := (encI .i64)) (l := x8) (fl := true) (n := x7) (s := 1) (some (.i64, x14)) none (tbE h1)), .m 160 (o_app_sf (m := [(Blk.flat 65 3 [[(.int .i64 x0), (.int .i64 x1), (.int .i64 0)]] x2), (Blk.gen 73 2 [[(V.d (slD (encI .i64) true 1 x3 x4)), (V.d (.int .u8 x5))]] x6), (Blk.flat 3 1 [] false)]) (enc := (encI .i64)) (l0 := ([] : List Int)) (l1 := (sub x8 x14 ((x8.length : Nat) : Int))) (id := 2) (e := 3) (s := 1) (bytes := 8) (x := (V.d (slD (encI .i64) true 1 (x7 && x8.isEmpty) (sub x8 x14 ((x8.length : Nat) : Int))))) (n := 0) (by kernel_rfl) (by kernel_rfl) flatRowsOf_os sizeOk_os (tbE h2)), .o 163 (fun _ => o_slice_os (enc := (encI .i64)) (l := x8) (fl := true) (n := x7) (s := 1) none (some (.i64, x14)) (tbE h3)), .m 164 (o_app_sf (m := [(Blk.flat 65 3 [[(.int .i64 x0), (.int .i64 x1), (.int .i64 0)]] x2), (Blk.gen 73 2 [[(V.d (slD (encI .i64) true 1 x3 x4)), (V.d (.int .u8 x5))]] x6), (Blk.flat 3 1 (List.map (encI .i64) (sub x8 x14 ((x8.length : Nat) : Int))) false)]) (enc := (encI .i64)) (l0 := (sub x8 x14 ((x8.length : Nat) : Int))) (l1 := (sub x8 0 x14)) (id := 2) (e := 3) (s := 1) (bytes := 8) (x := (V.d (slD (encI .i64) true 1 (x7 && x8.isEmpty) (sub x8 0 x14)))) (n := ((sub x8 x14 ((x8.length : Nat) : Int)).length)) (Nat.beq_refl _) (by kernel_rfl) flatRowsOf_os sizeOk_os (tbE h4)), .o 168 (fun _ => o_slice_os (enc := (encI .i64)) (l := x10) (fl := true) (n := x9) (s := 1) (some (.i64, x14)) none (tbE h5)), .m 169 (o_app_sf (m := [(Blk.flat 65 3 [[(.int .i64 x0), (.int .i64 x1), (.int .i64 0)]] x2), (Blk.gen 73 2 [[(V.d (slD (encI .i64) true 1 x3 x4)), (V.d (.int .u8 x5))]] x6), (Blk.flat 3 1 (List.map (encI .i64) ((sub x8 x14 ((x8.length : Nat) : Int)) ++ (sub x8 0 x14))) false), (Blk.flat 3 1 [] false)]) (enc := (encI .i64)) (l0 := ([] : List Int)) (l1 := (sub x10 x14 ((x10.length : Nat) : Int))) (id := 3) (e := 3) (s := 1) (bytes := 8) (x := (V.d (slD (encI .i64) true 1 (x9 && x10.isEmpty) (sub x10 x14 ((x10.length : Nat) : Int))))) (n := 0) (by kernel_rfl) (by kernel_rfl) flatRowsOf_os sizeOk_os (tbE h6)), .o 172 (fun _ => o_slice_os (enc := (encI .i64)) (l := x10) (fl := true) (n := x9) (s := 1) none (some (.i64, x14)) (tbE h7)), .m 173 (o_app_sf (m := [(Blk.flat 65 3 [[(.int .i64 x0), (.int .i64 x1), (.int .i64 0)]] x2), (Blk.gen 73 2 [[(V.d (slD (encI .i64) true 1 x3 x4)), (V.d (.int .u8 x5))]] x6), (Blk.flat 3 1 (List.map (encI .i64) ((sub x8 x14 ((x8.length : Nat) : Int)) ++ (sub x8 0 x14))) false), (Blk.flat 3 1 (List.map (encI .i64) (sub x10 x14 ((x10.length : Nat) : Int))) false)]) (enc := (encI .i64)) (l0 := (sub x10 x14 ((x10.length : Nat) : Int))) (l1 := (sub x10 0 x14)) (id := 3) (e := 3) (s := 1) (bytes := 8) (x := (V.d (slD (encI .i64) true 1 (x9 && x10.isEmpty) (sub x10 0 x14)))) (n := ((sub x10 x14 ((x10.length : Nat) : Int)).length)) (Nat.beq_refl _) (by kernel_rfl) flatRowsOf_os sizeOk_os (tbE h8)), .y (mm := [(Blk.flat 65 3 [[(.int .i64 x0), (.int .i64 x1), (.int .i64 0)]] x2), (Blk.gen 73 2 [[(V.d (slD (encI .i64) true 1 x3 x4)), (V.d (.int .u8 x5))]] x6), (Blk.flat 3 1 (List.map (encI .i64) ((sub x8 x14 ((x8.length : Nat) : Int)) ++ (sub x8 0 x14))) false), (Blk.flat 3 1 (List.map (encI .i64) (law12_VoteMid_S6_e0 x10 x14)) false)]) (args := [(V.agg [(V.d (.int .i64 x0)), (V.d (.int .i64 x1)), (V.d (.int .i64 0))]), (V.so false 2 (((sub x8 x14 ((x8.length : Nat) : Int)) ++ (sub x8 0 x14)).length)), (V.so false 3 ((law12_VoteMid_S6_e0 x10 x14).length))]) (args1 := [(V.agg [(V.d (.int .i64 x0)), (V.d (.int .i64 x1)), (V.d (.int .i64 0))]), (V.d (.rs true 1 (List.map (encI .i64) ((sub x8 x14 ((x8.length : Nat) : Int)) ++ (sub x8 0 x14))) false)), (V.d (.rs true 1 (List.map (encI .i64) (law12_VoteMid_S6_e0 x10 x14)) false))]) (byvals_cons (by kernel_rfl) (byvals_cons (byval_so (enc := (encI .i64)) (l := ((sub x8 x14 ((x8.length : Nat) : Int)) ++ (sub x8 0 x14))) (b := false) (e := 3) (s := 1) (p := false) (n := (((sub x8 x14 ((x8.length : Nat) : Int)) ++ (sub x8 0 x14)).length)) (Nat.beq_refl _) (by kernel_rfl)) (byvals_cons (byval_so (enc := (encI .i64)) (l := (law12_VoteMid_S6_e0 x10 x14)) (b := false) (e := 3) (s := 1) (p := false) (n := ((law12_VoteMid_S6_e0 x10 x14).length)) (Nat.beq_refl _) (by kernel_rfl)) (by kernel_rfl)))), .c (vote_Vote_ai3oo_t0 x0 x1 0 false ((sub x8 x14 ((x8.length : Nat) : Int)) ++ (sub x8 0 x14)) false (law12_VoteMid_S6_e0 x10 x14) (tbE h9))] (by kernel_rfl)
def law12_VoteMid_S7_r0_0 (x0 : Int) (x1 : Int) (x7 : Int) (x8 : Int) (x9 : Bool) (x10 : Int) (x11 : Bool) : Bool := (bif tb (x9) then (bif tb ((x8 : Int) == (mxI x0 (mnI x1 x7))) then (bif tb (x11) then ((x10 : Int) == x8) else false) else false) else false)
theorem law12_VoteMid_S7_t0 (x0 : Int) (x1 : Int) (x2 : Bool) (x3 : Bool) (x4 : List Int) (x5 : Int) (x6 : Bool) (x7 : Int) (x8 : Int) (x9 : Bool) (x10 : Int) (x11 : Bool) : segG (runC E0 (cl E0) S11_7) [3, 11, 15, 16, 20, 21] [] [6] 2 ([(V.ptr 0 1 0 0), (V.d (.int .i64 x7)), (V.d (.int .i64 x8)), (V.d (.bool x9)), (V.d (.int .i64 x10)), (V.d (.bool x11))], [(Blk.flat 65 3 [[(.int .i64 x0), (.int .i64 x1), (.int .i64 0)]] x2), (Blk.gen 73 2 [[(V.d (slD (encI .i64) true 1 x3 x4)), (V.d (.int .u8 x5))]] x6)]) = some (.normal, ([(V.d (.bool (law12_VoteMid_S7_r0_0 x0 x1 x7 x8 x9 x10 x11)))], [(Blk.flat 65 3 [[(.int .i64 x0), (.int .i64 x1), (.int .i64 0)]] x2), (Blk.gen 73 2 [[(V.d (slD (encI .i64) true 1 x3 x4)), (V.d (.int .u8 x5))]] x6)])) := by
  unfold law12_VoteMid_S7_r0_0
  cases h1 : tb (x9)
  · exact seg_walk [.c (law12_alive_t0), .k true, .b (tbE h1)] (by kernel_rfl)
  · cases h2 : tb ((x8 : Int) == (mxI x0 (mnI x1 x7)))
    · exact seg_walk [.c (law12_alive_t0), .k true, .b (tbE h1), .b (tbE h2)] (by kernel_rfl)
    · cases h3 : tb (x11)
      · exact seg_walk [.c (law12_alive_t0), .k true, .b (tbE h1), .b (tbE h2), .b (tbE h3)] (by kernel_rfl)
      · exact seg_walk [.c (law12_alive_t0), .k true, .b (tbE h1), .b (tbE h2), .b (tbE h3)] (by kernel_rfl)
def law12_VoteMid_e0 (x0 : Int) (x1 : Int) (x4 : List Int) (x6 : List Int) (x7 : Int) : Int := (vote_Vote_ai3oo_r0_0 x0 x1 0 ((sub x4 (remI .i64 (wi (x7)) ((x4.length : Nat) : Int)) ((x4.length : Nat) : Int)) ++ (sub x4 0 (remI .i64 (wi (x7)) ((x4.length : Nat) : Int)))) (law12_VoteMid_S6_e0 x6 (remI .i64 (wi (x7)) ((x4.length : Nat) : Int))))
def law12_VoteMid_e1 (x0 : Int) (x1 : Int) (x4 : List Int) (x6 : List Int) (x7 : Int) : Bool := (vote_Vote_ai3oo_r0_1 x0 x1 0 ((sub x4 (remI .i64 (wi (x7)) ((x4.length : Nat) : Int)) ((x4.length : Nat) : Int)) ++ (sub x4 0 (remI .i64 (wi (x7)) ((x4.length : Nat) : Int)))) (law12_VoteMid_S6_e0 x6 (remI .i64 (wi (x7)) ((x4.length : Nat) : Int))))
def law12_VoteMid_c0 (x0 : Int) (x1 : Int) (x2 : Int) (x4 : List Int) (x6 : List Int) (x7 : Int) : Bool := (bif tb (law12_VoteMid_S0_c0 x4 x6) then true else (bif tb (law12_VoteMid_S1_c0 x0 x1 x2 x4 x6) then (bif tb (law12_VoteMid_S2_c0 (vote_Vote_ai3oo_r0_1 x0 x1 x2 x4 x6)) then (bif tb (law12_VoteMid_S3_c0 x4) then (bif tb (law12_VoteMid_S4_c0 x0 x1 x2 x4 x6 (vote_Vote_ai3oo_r0_0 x0 x1 x2 x4 x6) (order_Mid_o_r0_0 x4) (order_Mid_o_r0_1 x4)) then true else (bif tb (law12_VoteMid_S4_c1 x0 x1 x2 x4 x6 (vote_Vote_ai3oo_r0_0 x0 x1 x2 x4 x6) (order_Mid_o_r0_0 x4) (order_Mid_o_r0_1 x4)) then (bif tb (law12_VoteMid_S5_c0 x0 x1 x4 x6) then (bif tb ((((x4.length : Nat) : Int) : Int) == 0) then false else (bif tb (law12_VoteMid_S6_c0 x0 x1 x4 x6 (remI .i64 (wi (x7)) ((x4.length : Nat) : Int))) then true else false)) else false) else false)) else false) else true) else false))
def law12_VoteMid_r0_0 (x0 : Int) (x1 : Int) (x2 : Int) (x4 : List Int) (x6 : List Int) (x7 : Int) : Bool := (bif tb (law12_VoteMid_S0_c0 x4 x6) then true else (bif tb (law12_VoteMid_S2_c0 (vote_Vote_ai3oo_r0_1 x0 x1 x2 x4 x6)) then (bif tb (law12_VoteMid_S4_c0 x0 x1 x2 x4 x6 (vote_Vote_ai3oo_r0_0 x0 x1 x2 x4 x6) (order_Mid_o_r0_0 x4) (order_Mid_o_r0_1 x4)) then false else (law12_VoteMid_S7_r0_0 x0 x1 (order_Mid_o_r0_0 x4) (vote_Vote_ai3oo_r0_0 x0 x1 0 x4 x6) (vote_Vote_ai3oo_r0_1 x0 x1 0 x4 x6) (law12_VoteMid_e0 x0 x1 x4 x6 x7) (law12_VoteMid_e1 x0 x1 x4 x6 x7))) else (((vote_Vote_ai3oo_r0_0 x0 x1 x2 x4 x6) : Int) == 0)))
theorem law12_VoteMid_t0 (x0 : Int) (x1 : Int) (x2 : Int) (x3 : Bool) (x4 : List Int) (x5 : Bool) (x6 : List Int) (x7 : Int) : law12_VoteMid_c0 x0 x1 x2 x4 x6 x7 = true → cl E0 11 [(V.agg [(V.d (.int .i64 x0)), (V.d (.int .i64 x1)), (V.d (.int .i64 x2))]), (V.d (slD (encI .i64) true 1 x3 x4)), (V.agg [(V.d (slD (encI .i64) true 1 x5 x6)), (V.d (.int .u8 x7))])] [] = some ([(V.d (.bool (law12_VoteMid_r0_0 x0 x1 x2 x4 x6 x7)))], []) := by
  unfold law12_VoteMid_c0 law12_VoteMid_r0_0
  cases h1 : tb (law12_VoteMid_S0_c0 x4 x6)
  · cases h2 : tb (law12_VoteMid_S1_c0 x0 x1 x2 x4 x6)
    · intro g0
      exact absurd g0 ft
    · cases h3 : tb (law12_VoteMid_S2_c0 (vote_Vote_ai3oo_r0_1 x0 x1 x2 x4 x6))
      · intro g0
        exact w11 [.s (law12_VoteMid_S0_t1 x0 x1 x2 false x5 x6 x7 false x3 x4 x5 x6 x7 (tbE h1)), .s (law12_VoteMid_S1_t0 x0 x1 x2 false x5 x6 x7 false x3 x4 x5 x6 x7 (tbE h2)), .s (law12_VoteMid_S2_t1 x0 x1 x2 false x5 x6 x7 false x3 x4 x5 x6 x7 (vote_Vote_ai3oo_r0_0 x0 x1 x2 x4 x6) (vote_Vote_ai3oo_r0_1 x0 x1 x2 x4 x6) (tbE h3))] (by kernel_rfl)
      · cases h4 : tb (law12_VoteMid_S3_c0 x4)
        · intro g0
          exact absurd g0 ft
        · cases h5 : tb (law12_VoteMid_S4_c0 x0 x1 x2 x4 x6 (vote_Vote_ai3oo_r0_0 x0 x1 x2 x4 x6) (order_Mid_o_r0_0 x4) (order_Mid_o_r0_1 x4))
          · cases h6 : tb (law12_VoteMid_S4_c1 x0 x1 x2 x4 x6 (vote_Vote_ai3oo_r0_0 x0 x1 x2 x4 x6) (order_Mid_o_r0_0 x4) (order_Mid_o_r0_1 x4))
            · intro g0
              exact absurd g0 ft
            · cases h7 : tb (law12_VoteMid_S5_c0 x0 x1 x4 x6)
              · intro g0
                exact absurd g0 ft
              · cases h8 : tb ((((x4.length : Nat) : Int) : Int) == 0)
                · cases h9 : tb (law12_VoteMid_S6_c0 x0 x1 x4 x6 (remI .i64 (wi (x7)) ((x4.length : Nat) : Int)))
                  · intro g0
                    exact absurd g0 ft
                  · intro g0
                    exact w11 [.s (law12_VoteMid_S0_t1 x0 x1 x2 false x5 x6 x7 false x3 x4 x5 x6 x7 (tbE h1)), .s (law12_VoteMid_S1_t0 x0 x1 x2 false x5 x6 x7 false x3 x4 x5 x6 x7 (tbE h2)), .s (law12_VoteMid_S2_t0 x0 x1 x2 false x5 x6 x7 false x3 x4 x5 x6 x7 (vote_Vote_ai3oo_r0_0 x0 x1 x2 x4 x6) (vote_Vote_ai3oo_r0_1 x0 x1 x2 x4 x6) (tbE h3)), .s (law12_VoteMid_S3_t0 x0 x1 x2 false x5 x6 x7 false x3 x4 x5 x6 x7 (vote_Vote_ai3oo_r0_0 x0 x1 x2 x4 x6) (tbE h4)), .s (law12_VoteMid_S4_t1 x0 x1 x2 false x5 x6 x7 false x3 x4 x5 x6 x7 (vote_Vote_ai3oo_r0_0 x0 x1 x2 x4 x6) (order_Mid_o_r0_0 x4) (order_Mid_o_r0_1 x4) (tbE h5) (tbE h6)), .s (law12_VoteMid_S5_t0 x0 x1 false x5 x6 x7 false x3 x4 x5 x6 x7 (order_Mid_o_r0_0 x4) (tbE h7)), .o 154 (fun _ => o_len_os (enc := (encI .i64)) (l := x4) (fl := true) (n := x3) (s := 1)), .o 155 (fun _ => o_rem (k := .i64) (x := (wi (x7))) (y := ((x4.length : Nat) : Int)) (tbE h8)), .s (law12_VoteMid_S6_t0 x0 x1 false x5 x6 x7 false x3 x4 x5 x6 (order_Mid_o_r0_0 x4) (vote_Vote_ai3oo_r0_0 x0 x1 0 x4 x6) (vote_Vote_ai3oo_r0_1 x0 x1 0 x4 x6) (remI .i64 (wi (x7)) ((x4.length : Nat) : Int)) (tbE h9)), .s (law12_VoteMid_S7_t0 x0 x1 false x5 x6 x7 false (order_Mid_o_r0_0 x4) (vote_Vote_ai3oo_r0_0 x0 x1 0 x4 x6) (vote_Vote_ai3oo_r0_1 x0 x1 0 x4 x6) (law12_VoteMid_e0 x0 x1 x4 x6 x7) (law12_VoteMid_e1 x0 x1 x4 x6 x7))] (by kernel_rfl)
                · intro g0
                  exact absurd g0 ft
          · intro g0
            exact w11 [.s (law12_VoteMid_S0_t1 x0 x1 x2 false x5 x6 x7 false x3 x4 x5 x6 x7 (tbE h1)), .s (law12_VoteMid_S1_t0 x0 x1 x2 false x5 x6 x7 false x3 x4 x5 x6 x7 (tbE h2)), .s (law12_VoteMid_S2_t0 x0 x1 x2 false x5 x6 x7 false x3 x4 x5 x6 x7 (vote_Vote_ai3oo_r0_0 x0 x1 x2 x4 x6) (vote_Vote_ai3oo_r0_1 x0 x1 x2 x4 x6) (tbE h3)), .s (law12_VoteMid_S3_t0 x0 x1 x2 false x5 x6 x7 false x3 x4 x5 x6 x7 (vote_Vote_ai3oo_r0_0 x0 x1 x2 x4 x6) (tbE h4)), .s (law12_VoteMid_S4_t0 x0 x1 x2 false x5 x6 x7 false x3 x4 x5 x6 x7 (vote_Vote_ai3oo_r0_0 x0 x1 x2 x4 x6) (order_Mid_o_r0_0 x4) (order_Mid_o_r0_1 x4) (tbE h5))] (by kernel_rfl)
  · intro g0
    exact w11 [.s (law12_VoteMid_S0_t0 x0 x1 x2 false x5 x6 x7 false x3 x4 x5 x6 x7 (tbE h1))] (by kernel_rfl)
end Go.Proofs.Ytdjmfcdopaejcaa.Den

namespace Go.Proofs.Ytdjmfcdopaejcaa.Den
open Go Go.Proofs
set_option linter.unusedVariables false
set_option linter.unusedSimpArgs false
set_option maxRecDepth 100000
theorem mid_in0 {l : List Int} (h : mid4 l = true) {a b : Int} (hb : ∀ z, z ∈ l → a ≤ z ∧ z ≤ b) : a ≤ midI l ∧ midI l ≤ b := by
  simp only [mid4, Bool.and_eq_true, decide_eq_true_eq] at h
  obtain ⟨h16, h1, h2⟩ := h
  have g := fun (i : Int) (x : 0 ≤ i) (y : i < l.length) => hb _ ((isort_perm l).mem_iff.1 (gt_mem (l := isort l) x (by rw [isort_len]; exact y)))
  have m1 := g (((l.length : Int) - 1) / 2) (by omega) (by omega)
  have m2 := g ((l.length : Int) / 2) (by omega) (by omega)
  unfold midI; omega
theorem mid_S4 {lo hi cl : Int} {v w : List Int} (h : vok lo hi cl v w) : law12_VoteMid_S4_c0 lo hi cl v w (max lo (min (flo (sums (midI v) cl v w v.length).1 (sums (midI v) cl v w v.length).2) hi)) (midI v) true = false ∧
    law12_VoteMid_S4_c1 lo hi cl v w (max lo (min (flo (sums (midI v) cl v w v.length).1 (sums (midI v) cl v w v.length).2) hi)) (midI v) true = true := by
  have hm4 := vok_mid h
  have h16 : lst16 v = true := by simp only [mid4, Bool.and_eq_true] at hm4; exact hm4.1
  have hlen := h.2.2.1
  obtain ⟨c0, -⟩ := Sort_c (l := v) (by omega)
  rw [h16] at c0
  obtain ⟨v1, v2⟩ := Sort_v h16
  have hsl := isort_len v
  have hw : wi ((v.length : Int) - 1) = (v.length : Int) - 1 := wi_eq (by omega) (by omega)
  have e0 : law12_VoteMid_S4_e0 v = gt (isort v) 0 := by unfold law12_VoteMid_S4_e0; rw [v2]
  have e1 : law12_VoteMid_S4_e1 v = gt (isort v) ((v.length : Int) - 1) := by unfold law12_VoteMid_S4_e1; rw [v2, v1, hw]
  have hrng : ∀ z, z ∈ v → gt (isort v) 0 ≤ z ∧ z ≤ gt (isort v) ((v.length : Int) - 1) := fun z hz => by
    have hz' := (isort_perm v).mem_iff.2 hz
    have := srt_last (isort_srt v) (by omega) z hz'
    rw [hsl] at this
    exact ⟨srt_first (isort_srt v) z hz', this⟩
  obtain ⟨b0, b1⟩ := mid_in0 hm4 hrng
  have hmb := mid_within hm4 h.2.2.2.1
  obtain ⟨⟨l1, l2⟩, ⟨l3, l4⟩, l5, l6, l7⟩ := h.1
  obtain ⟨f1, f2⟩ := vote_between h (A := midI v - cl) (B := midI v + cl) (fun z hz => by omega)
  obtain ⟨f3, f4⟩ := vote_between h (A := gt (isort v) 0) (B := gt (isort v) ((v.length : Int) - 1)) (fun z hz => by have := hrng z hz; omega)
  generalize hF : flo (sums (midI v) cl v w v.length).1 (sums (midI v) cl v w v.length).2 = F at *
  generalize hM : midI v = M at *
  generalize hA : gt (isort v) 0 = A at *
  generalize hB : gt (isort v) ((v.length : Int) - 1) = B at *
  have i0 : inb v.length 0 = true := inb_of (by omega) (by omega)
  have i1 : inb v.length ((v.length : Int) - 1) = true := inb_of (by omega) (by omega)
  have hbq : Nat.beq v.length (isort v).length = true := by rw [hsl]; simp
  have z0 : (((v.length : Nat) : Int) == 0) = false := by rw [beq_eq_false_iff_ne]; omega
  have ne0 : (((v.length : Nat) : Int) != ((w.length : Nat) : Int)) = false := by rw [h.2.1]; simp
  rw [v1] at v2
  have n1 : decide (max lo (min F hi) < lo) = false := decide_eq_false (by omega)
  have n2 : decide (hi < max lo (min F hi)) = false := decide_eq_false (by omega)
  have w1 : wi (M + cl) = M + cl := wi_eq (by omega) (by omega)
  have w2 : wi (M - cl) = M - cl := wi_eq (by omega) (by omega)
  simp only [law12_VoteMid_S4_c0, law12_VoteMid_S4_c1, c0, v1, v2, e0, e1, z0, ne0, i0, i1, hbq, n1, n2, hw, w1, w2, tb_eq, cond_true, cond_false]
  by_cases q1 : lo ≤ M <;> by_cases q2 : M ≤ hi
  · have n3 : decide (M + cl < max lo (min F hi)) = false := decide_eq_false (by omega)
    have n4 : decide (max lo (min F hi) < M - cl) = false := decide_eq_false (by omega)
    by_cases q3 : lo ≤ A <;> by_cases q4 : B ≤ hi
    · have n5 : decide (max lo (min F hi) < A) = false := decide_eq_false (by omega)
      have n6 : decide (B < max lo (min F hi)) = false := decide_eq_false (by omega)
      simp only [q1, q2, q3, q4, n3, n4, n5, n6, decide_true, cond_true, cond_false, and_self]
    all_goals simp [q1, q2, q3, q4, n3, n4]
  all_goals
    by_cases q3 : lo ≤ A <;> by_cases q4 : B ≤ hi
    · have n5 : decide (max lo (min F hi) < A) = false := decide_eq_false (by omega)
      have n6 : decide (B < max lo (min F hi)) = false := decide_eq_false (by omega)
      simp [q1, q2, q3, q4, n5, n6]
    all_goals simp [q1, q2, q3, q4]
theorem pure_VoteMid (x0 : Int) (x1 : Int) (x2 : Int) (x3 : Bool) (x4 : List Int) (x5 : Bool) (x6 : List Int) (x7 : Int) (wx0 : WfI .i64 x0) (wx1 : WfI .i64 x1) (wx2 : WfI .i64 x2) (wx4 : (x4.length ≤ maxLen ∧ x4.length * 8 ≤ 140737488351232 ∧ ∀ z ∈ x4, WfI .i64 z)) (wx6 : (x6.length ≤ maxLen ∧ x6.length * 8 ≤ 140737488351232 ∧ ∀ z ∈ x6, WfI .i64 z)) (wx7 : WfI .u8 x7) : law12_VoteMid_c0 x0 x1 x2 x4 x6 x7 = true ∧ (law12_VoteMid_r0_0 x0 x1 x2 x4 x6 x7) = true := by
  by_cases h4 : 40 < x4.length
  · have : decide (40 < ((x4.length : Nat) : Int)) = true := decide_eq_true (by omega)
    simp [law12_VoteMid_c0, law12_VoteMid_r0_0, law12_VoteMid_S0_c0, this]
  by_cases h6 : 40 < x6.length
  · have : decide (40 < ((x6.length : Nat) : Int)) = true := decide_eq_true (by omega)
    simp [law12_VoteMid_c0, law12_VoteMid_r0_0, law12_VoteMid_S0_c0, this]
  have d4 : decide (40 < ((x4.length : Nat) : Int)) = false := decide_eq_false (by omega)
  have d6 : decide (40 < ((x6.length : Nat) : Int)) = false := decide_eq_false (by omega)
  have S0 : law12_VoteMid_S0_c0 x4 x6 = false := by simp only [law12_VoteMid_S0_c0, d4, d6, tb_eq, cond_false]
  obtain ⟨k0, k1, k2⟩ := vote_r (lo := x0) (hi := x1) (cl := x2) (v := x4) (w := x6) (by omega) (by omega)
  by_cases hv : vok x0 x1 x2 x4 x6
  · obtain ⟨r0, r1⟩ := k1 hv
    obtain ⟨s1, s2⟩ := mid_S4 hv
    have hm4 := vok_mid hv
    have hn := hv.2.2.1
    obtain ⟨m0, m1, m2, -⟩ := Mid_r x4 (by omega)
    rw [hm4] at m1
    have m2 := m2 hm4
    obtain ⟨⟨l1, l2⟩, ⟨l3, l4⟩, l5, l6, l7⟩ := hv.1
    have hv0 : vok x0 x1 0 x4 x6 := ⟨⟨⟨l1, l2⟩, ⟨l3, l4⟩, l5, by omega, by omega⟩, hv.2⟩
    obtain ⟨j0, j1, -⟩ := vote_r (lo := x0) (hi := x1) (cl := 0) (v := x4) (w := x6) (by omega) (by omega)
    obtain ⟨p0, p1⟩ := j1 hv0
    obtain ⟨f1, f2⟩ := vote_between hv0 (A := midI x4) (B := midI x4) (fun z hz => by omega)
    have hF : flo (sums (midI x4) 0 x4 x6 x4.length).1 (sums (midI x4) 0 x4 x6 x4.length).2 = midI x4 := by omega
    rw [hF] at p0
    have hx7 := wfI_u8 wx7
    have hr : remI .i64 (wi x7) ((x4.length : Nat) : Int) = x7 % x4.length := by rw [wi_eq (by omega) (by omega), rem_i64 (by omega)]
    have hr0 : 0 ≤ x7 % (x4.length : Int) := Int.emod_nonneg _ (by omega)
    have hr1 : x7 % (x4.length : Int) < x4.length := Int.emod_lt_of_pos _ (by omega)
    obtain ⟨k, hk⟩ : ∃ k : Nat, x7 % (x4.length : Int) = k := ⟨(x7 % (x4.length : Int)).toNat, by omega⟩
    rw [hk] at hr
    have hkl : k < x4.length := by omega
    have hlen := hv.2.1
    have t1 : ∀ l : List Int, sub l (k : Int) ((l.length : Nat) : Int) = l.drop k := fun l => by
      rw [sub_nat, ← List.length_drop]; exact List.take_length
    have t2 : ∀ l : List Int, sub l 0 (k : Int) = l.take k := fun l => by
      have := sub_nat l 0 k
      simpa using this
    have hp : ∀ l : List Int, (l.drop k ++ l.take k).Perm l := fun l => List.perm_append_comm.trans (by rw [List.take_append_drop])
    have e6 : law12_VoteMid_S6_e0 x6 (k : Int) = x6.drop k ++ x6.take k := by unfold law12_VoteMid_S6_e0; rw [t1, t2]
    have l4' := (hp x4).length_eq
    have l6' := (hp x6).length_eq
    have hvt : vok x0 x1 0 (x4.drop k ++ x4.take k) (x6.drop k ++ x6.take k) :=
      ⟨hv0.1, by rw [l4', l6']; exact hlen, by rw [l4']; exact hn, fun z hz => hv.2.2.2.1 z ((hp x4).mem_iff.1 hz), fun z hz => hv.2.2.2.2 z ((hp x6).mem_iff.1 hz)⟩
    have hmt : midI (x4.drop k ++ x4.take k) = midI x4 := by unfold midI; rw [l4', isort_congr (hp x4)]
    obtain ⟨g0, g1, -⟩ := vote_r (lo := x0) (hi := x1) (cl := 0) (v := x4.drop k ++ x4.take k) (w := x6.drop k ++ x6.take k) (by omega) (by omega)
    obtain ⟨o0, o1⟩ := g1 hvt
    obtain ⟨f3, f4⟩ := vote_between hvt (A := midI x4) (B := midI x4) (fun z hz => by rw [hmt]; omega)
    have hG := Int.le_antisymm f4 f3
    rw [hG] at o0
    have b1 : ins x4.length (k : Int) ((x4.length : Nat) : Int) = true := by simp [ins]; omega
    have b2 : ins x4.length 0 (k : Int) = true := by simp [ins]; omega
    have b5 : ins x6.length (k : Int) ((x6.length : Nat) : Int) = true := by simp [ins]; omega
    have b6 : ins x6.length 0 (k : Int) = true := by simp [ins]; omega
    have b3 : decide ((([] : List Int).length + (x4.drop k).length) * 8 ≤ 140737488355328) = true := decide_eq_true (by simp; omega)
    have b4 : decide (((x4.drop k).length + (x4.take k).length) * 8 ≤ 140737488355328) = true := decide_eq_true (by simp; omega)
    have b7 : decide ((([] : List Int).length + (x6.drop k).length) * 8 ≤ 140737488355328) = true := decide_eq_true (by simp; omega)
    have b8 : decide (((x6.drop k).length + (x6.take k).length) * 8 ≤ 140737488355328) = true := decide_eq_true (by simp; omega)
    have z0 : (((x4.length : Nat) : Int) == 0) = false := by rw [beq_eq_false_iff_ne]; omega
    have S6 : law12_VoteMid_S6_c0 x0 x1 x4 x6 (k : Int) = true := by
      simp only [law12_VoteMid_S6_c0, t1, t2, e6, b1, b2, b3, b4, b5, b6, b7, b8, g0, tb_eq, cond_true]
    have E0' : law12_VoteMid_e0 x0 x1 x4 x6 x7 = max x0 (min (midI x4) x1) := by unfold law12_VoteMid_e0; rw [hr, t1, t2, e6, o0]
    have E1' : law12_VoteMid_e1 x0 x1 x4 x6 x7 = true := by unfold law12_VoteMid_e1; rw [hr, t1, t2, e6, o1]
    have hmm : mxI x0 (mnI x1 (midI x4)) = max x0 (min (midI x4) x1) := by rw [mxI_eq, mnI_eq]; omega
    have S7 : law12_VoteMid_S7_r0_0 x0 x1 (midI x4) (max x0 (min (midI x4) x1)) true (max x0 (min (midI x4) x1)) true = true := by
      simp only [law12_VoteMid_S7_r0_0, hmm, beq_self_eq_true, tb_eq, cond_true]
    simp only [law12_VoteMid_c0, law12_VoteMid_r0_0, S0, law12_VoteMid_S1_c0, law12_VoteMid_S2_c0, law12_VoteMid_S3_c0, law12_VoteMid_S5_c0, k0, r0, r1, m0, m1, m2, s1, s2, j0, p0, p1, z0, hr, S6, E0', E1', S7, tb_eq, cond_true, cond_false, and_self]
  · obtain ⟨r0, r1⟩ := k2 hv
    simp [law12_VoteMid_c0, law12_VoteMid_r0_0, S0, law12_VoteMid_S1_c0, law12_VoteMid_S2_c0, k0, r0, r1]
end Go.Proofs.Ytdjmfcdopaejcaa.Den

namespace Go.Proofs.Ytdjmfcdopaejcaa.Den
open Go Go.Proofs
set_option maxRecDepth 100000
theorem own : ownKnob Try.prog.godebug = none := by kernel_rfl
theorem laidOut : laidOutB Try.prog = true := by kernel_rfl
theorem mixed : Try.prog.follows .mixedOrders = true := by kernel_rfl
theorem envOK : EnvOK Try.prog E0 := ⟨e0_cf, fun f args m r m' h => by simp [E0] at h, e0_del⟩
theorem glOK (w : World) : GlOK E0 (cx0 w) := fun g cs h => by simp [E0] at h
end Go.Proofs.Ytdjmfcdopaejcaa.Den

namespace Go.Proofs.Ytdjmfcdopaejcaa.Den
open Go Go.Proofs Go.ChangeShapes Go.WideShapes Go.ChangeAt Go.RowKit
open Go.Proofs.Ytdjmfcdopaejcaa (Rows.voteMidSpec Rows.voteMidRow Rows.VoteMidSaid)
set_option maxRecDepth 100000
set_option linter.unusedSimpArgs false
set_option linter.unusedVariables false
theorem row11 (rs : List (List D)) (h : TyAll Try.prog 20 Try.f11.params.toList rs) : ∃ k m', callD E0 k 11 (argsV Try.prog Try.f11.params.toList rs) [] = some ([.d (.bool true)], m') := by
  rw [Try.params11] at h ⊢
  simp only [TyAll] at h
  obtain ⟨_, _, rfl, q0, _, _, rfl, q1, _, _, rfl, q2, rfl⟩ := h
  have k0 := flatK_ok 20 _ _ _ (show flatK Try.prog 20 65 = some [.i .i64, .i .i64, .i .i64] by kernel_rfl) q0
  simp only [CellsK, CellK] at k0
  obtain ⟨_, _, rfl, ⟨a0_0, rfl, w0_0⟩, _, _, rfl, ⟨a0_1, rfl, w0_1⟩, _, _, rfl, ⟨a0_2, rfl, w0_2⟩, rfl⟩ := k0
  have k1 := flatK_ok 20 _ _ _ (show flatK Try.prog 20 26 = some [.l 3] by kernel_rfl) q1
  simp only [CellsK, CellK] at k1
  obtain ⟨d1_0, _, rfl, y1_0, rfl⟩ := k1
  obtain ⟨n1_0, a1_0, rfl, v1_0⟩ : ∃ n l, d1_0 = slD (encI .i64) true 1 n l ∧ (l.length ≤ maxLen ∧ l.length * 8 ≤ 140737488351232 ∧ ∀ z ∈ l, WfI .i64 z) := by
    rcases y1_0 with rfl | ⟨rows1, rfl, hl1, hb1, m1, hr1⟩
    · exact ⟨true, [], rfl, by simp [maxLen], by simp, fun z hz => by simp at hz⟩
    · obtain ⟨l2, rfl, hw2⟩ : ∃ l : List Int, rows1 = l.map (encI .i64) ∧ ∀ z ∈ l, WfI .i64 z := rows_of (T := Ty Try.prog m1 3) (fun r hr => by
          have q := flatK_any (show flatK Try.prog 20 3 = some [.i .i64] by kernel_rfl) hr
          simp only [CellsK, CellK] at q
          obtain ⟨_, _, rfl, ⟨b0, rfl, w0⟩, rfl⟩ := q
          exact ⟨b0, rfl, w0⟩) rows1 hr1
      rw [List.length_map, show Try.prog.bytesOf 3 = 8 by kernel_rfl] at hb1
      rw [show isFlat Try.prog 3 = true by kernel_rfl, show Try.prog.cellsOf 3 = 1 by kernel_rfl]
      exact ⟨false, l2, slD_rs _ _ _ _, by simpa using hl1, hb1, hw2⟩
  have k2 := flatK_ok 20 _ _ _ (show flatK Try.prog 20 73 = some [.l 3, .i .u8] by kernel_rfl) q2
  simp only [CellsK, CellK] at k2
  obtain ⟨d2_0, _, rfl, y2_0, _, _, rfl, ⟨a2_1, rfl, w2_1⟩, rfl⟩ := k2
  obtain ⟨n2_0, a2_0, rfl, v2_0⟩ : ∃ n l, d2_0 = slD (encI .i64) true 1 n l ∧ (l.length ≤ maxLen ∧ l.length * 8 ≤ 140737488351232 ∧ ∀ z ∈ l, WfI .i64 z) := by
    rcases y2_0 with rfl | ⟨rows3, rfl, hl3, hb3, m3, hr3⟩
    · exact ⟨true, [], rfl, by simp [maxLen], by simp, fun z hz => by simp at hz⟩
    · obtain ⟨l4, rfl, hw4⟩ : ∃ l : List Int, rows3 = l.map (encI .i64) ∧ ∀ z ∈ l, WfI .i64 z := rows_of (T := Ty Try.prog m3 3) (fun r hr => by
          have q := flatK_any (show flatK Try.prog 20 3 = some [.i .i64] by kernel_rfl) hr
          simp only [CellsK, CellK] at q
          obtain ⟨_, _, rfl, ⟨b0, rfl, w0⟩, rfl⟩ := q
          exact ⟨b0, rfl, w0⟩) rows3 hr3
      rw [List.length_map, show Try.prog.bytesOf 3 = 8 by kernel_rfl] at hb3
      rw [show isFlat Try.prog 3 = true by kernel_rfl, show Try.prog.cellsOf 3 = 1 by kernel_rfl]
      exact ⟨false, l4, slD_rs _ _ _ _, by simpa using hl3, hb3, hw4⟩
  simp only [argsV, argV, Try.underlying26, Try.underlying65, Try.underlying73, List.map_cons, List.map_nil]
  obtain ⟨g1, g2⟩ := pure_VoteMid a0_0 a0_1 a0_2 n1_0 a1_0 n2_0 a2_0 a2_1 w0_0 w0_1 w0_2 v1_0 v2_0 w2_1
  have hc := law12_VoteMid_t0 a0_0 a0_1 a0_2 n1_0 a1_0 n2_0 a2_0 a2_1 g1
  rw [g2] at hc
  obtain ⟨k, hk⟩ := of_cl hc
  exact ⟨k, _, hk⟩
theorem voteMid_lifted (os : Os) (started : os.Started) (H : Type) (enc : TypeId × Value → H) :
    ReturnsInHanded {} Try.checked os 11 .any (Rows.voteMidSpec.pre6 enc Try.prog Try.f11 Rows.voteMidRow.domain false) (Rows.voteMidSpec.post enc Try.prog Try.f11 false true false false) :=
  law_lifted (C := Try.checked) (fn := Try.f11) mixed envOK glOK own started (by kernel_rfl) Try.func11 laidOut
    (ChangeSpec.witness6 (enc := enc) (C := Try.checked) false ⟨#[], #[.agg #[.int .i64 0, .int .i64 0, .int .i64 0], .slice none 0 0, .agg #[.slice none 0 0, .int .u8 0]], []⟩ 8 (by kernel_rfl) (by kernel_rfl) (by kernel_rfl) (by kernel_rfl))
    (by kernel_rfl) (rt := 4) rfl Try.underlying4 rfl
    (fun ds h => by
      match ds, h with
      | [_, _, _], _ => rfl)
    row11
theorem voteMid_holds : Rows.VoteMidSaid :=
  OpenClaim.holds_of_wide 11 Try.f11 rfl rfl rfl rfl rfl rfl rfl ⟨rfl, rfl, rfl, rfl, rfl⟩ rfl rfl rfl rfl rfl (by kernel_rfl) Try.func11 (by kernel_rfl)
    (of_decide_eq_true (by kernel_rfl)) (by unfold Func.isWrapper; first | (rw [if_pos (by decide +kernel)]; kernel_rfl) | (rw [if_neg (by decide +kernel)]; exact ⟨rfl, rfl⟩))
    (fun os started H enc _ => voteMid_lifted os started H enc)
end Go.Proofs.Ytdjmfcdopaejcaa.Den
