/- FreshPlays: part 6 of what its proof rests on: an evaluator of the program's code, proved sound; plain functions printed from the code by a program of this session, with proofs; plain laws. No condition. -/
import Derived.Test.YtkipngagfiaddaaDenfreshPlays5
import Derived.Test.YtkipngagfiaddaaRows

namespace Go.Proofs.Ytkipngagfiaddaa.Den
open Go
set_option linter.unusedVariables false
set_option linter.unusedSimpArgs false
theorem shl8_nat {n : Nat} (h : n < 4294967296) : shlI .i64 (n : Int) 8 = ((256 * n : Nat) : Int) := by
  show IntKind.i64.wrap ((n : Int) * 2 ^ (min (8 : Int).toNat 64)) = _
  have : (2 : Int) ^ (min (8 : Int).toNat 64) = 256 := by decide
  rw [this, wrap64 (by omega) (by omega)]; omega
theorem shl1_nat {n : Nat} (h : n < 4294967296) : shlI .i64 (n : Int) 1 = ((2 * n : Nat) : Int) := by
  show IntKind.i64.wrap ((n : Int) * 2 ^ (min (1 : Int).toNat 64)) = _
  have : (2 : Int) ^ (min (1 : Int).toNat 64) = 2 := by decide
  rw [this, wrap64 (by omega) (by omega)]; omega
theorem step_eq {n : Nat} (h : n < 65536) : crc_More_c1_p_Fi_r0_0 (n : Int) = (stepN n : Int) := by
  have e1 : andI .i64 (n : Int) 32768 = ((32768 * topN n : Nat) : Int) := by rw [← and_top]; exact andI_nat (b := 32768) (by omega) (by omega)
  have e2 : andI .i64 (shlI .i64 (n : Int) 1) 65535 = ((2 * n % 65536 : Nat) : Int) := by rw [shl1_nat (by omega), ← and_mask]; exact andI_nat (b := 65535) (by omega) (by omega)
  have e3 : xorI .i64 ((2 * n % 65536 : Nat) : Int) 4129 = (((2 * n % 65536) ^^^ 4129 : Nat) : Int) := xorI_nat (b := 4129) (by omega) (by omega)
  have ht : topN n < 2 := by unfold topN; omega
  unfold crc_More_c1_p_Fi_r0_0 stepN
  rw [e1, e2, e3]
  by_cases h1 : topN n = 1
  · simp [h1]
  · have : topN n = 0 := by omega
    simp [this]
theorem crcL0 {c : Nat} (h : c < 65536) : crc_More_io_L1_ok ⟨0, (c : Int)⟩ = true ∧ (crc_More_io_L1_end ⟨0, (c : Int)⟩).c5 = (itN 8 c : Int) := by
  obtain ⟨s1, e, ⟨k, h1, h2⟩, h3⟩ := idx_loop (sel := crc_More_io_L1_sel) (nx := crc_More_io_L1_nx) (s0 := ⟨0, (c : Int)⟩) 8 (fun s => s.c4) (fun s => ∃ k : Nat, s.c4 = k ∧ s.c5 = (itN k c : Int)) (by omega) ⟨0, rfl, rfl⟩ (by simp) (by simp)
    (fun s ⟨k, h1, h2⟩ g1 g2 => by
      have e : (wi (s.c4 + 1)) = s.c4 + 1 := wi_eq (by omega) (by omega)
      refine ⟨by simp [crc_More_io_L1_sel, g2], ⟨k + 1, ?_, ?_⟩, e⟩
      · simp only [crc_More_io_L1_nx, e]; omega
      · simp only [crc_More_io_L1_nx, h2]; exact step_eq (itN_lt k h))
    (fun s _ g => by simp [crc_More_io_L1_sel, g])
  have hk : k = 8 := by omega
  subst hk
  simp [crc_More_io_L1_ok, crc_More_io_L1_end, e, h2]
theorem take_nats {l : List Int} {k : Nat} (h : k < l.length) (c : Nat) : crcI c (l.take (k + 1)) = byteN (crcI c (l.take k)) (l[k]).toNat := by
  unfold crcI nats
  rw [List.take_succ_eq_append_getElem h, List.map_append, crcN_app]
  rfl
def Byt (l : List Int) : Prop := ∀ z ∈ l, WfI .u8 z
theorem Byt.take {l : List Int} (h : Byt l) (k : Nat) : Byt (l.take k) := fun z hz => h z (List.mem_of_mem_take hz)
theorem Byt.drop {l : List Int} (h : Byt l) (k : Nat) : Byt (l.drop k) := fun z hz => h z (List.mem_of_mem_drop hz)
theorem crcI_lt {c : Nat} {l : List Int} (hc : c < 65536) (h : Byt l) : crcI c l < 65536 := crcN_lt hc (nats_lt h)
theorem crcL1 {c : Nat} {l : List Int} (h : c < 65536) (hl : Byt l) (hn : l.length < 1152921504606846976) : ∃ s1, itS (crc_More_io_L2_sel l l.length) (crc_More_io_L2_nx l l.length) bound ⟨0, (c : Int)⟩ = some s1 ∧ s1.c3 = l.length ∧ s1.c4 = (crcI c l : Int) := by
  obtain ⟨s1, e, ⟨k, h1, h2, h4⟩, h3⟩ := idx_loop (sel := crc_More_io_L2_sel l l.length) (nx := crc_More_io_L2_nx l l.length) (s0 := ⟨0, (c : Int)⟩) l.length (fun s => s.c3) (fun s => ∃ k : Nat, s.c3 = k ∧ k ≤ l.length ∧ s.c4 = (crcI c (l.take k) : Int)) (by omega) ⟨0, rfl, by omega, rfl⟩ (by simp) (by simp)
    (fun s ⟨k, h1, h2, h4⟩ g1 g2 => by
      have e : (wi (s.c3 + 1)) = s.c3 + 1 := wi_eq (by omega) (by omega)
      have hk : k < l.length := by omega
      have hg : gt l s.c3 = ((l[k]).toNat : Int) := by
        rw [h1, gt_nat hk]; have := wfI_u8 (hl _ (List.getElem_mem hk)); omega
      have hb : (l[k]).toNat < 256 := by have := wfI_u8 (hl _ (List.getElem_mem hk)); omega
      have hc := crcI_lt h (hl.take k)
      have hx : xorI .i64 s.c4 (shlI .i64 (wi (gt l s.c3)) 8) = ((crcI c (l.take k) ^^^ (256 * (l[k]).toNat) : Nat) : Int) := by
        rw [hg, wi_eq (x := ((l[k]).toNat : Int)) (by omega) (by omega), shl8_nat (by omega), h4]; exact xorI_nat (by omega) (by omega)
      obtain ⟨q1, q2⟩ := crcL0 (xor16 hc (by omega : 256 * (l[k]).toNat < 65536))
      refine ⟨by simp [crc_More_io_L2_sel, g2, inb_of g1 g2, hx, q1], ⟨k + 1, ?_, by omega, ?_⟩, e⟩
      · simp only [crc_More_io_L2_nx, e]; omega
      · simp only [crc_More_io_L2_nx, crc_More_io_L2_h0_e0, hx, q2, take_nats hk]; rfl)
    (fun s _ g => by simp [crc_More_io_L2_sel, g])
  have hk : k = l.length := by omega
  subst hk
  exact ⟨s1, e, h1, by rw [h4, List.take_length]⟩
def moreI (x : Int) (l : List Int) : Int := if 0 ≤ x ∧ x ≤ 65535 then (crcI x.toNat l : Int) else 0
theorem more_eq (x : Int) {l : List Int} (hl : Byt l) (hn : l.length < 1152921504606846976) : crc_More_io_c0 x l = true ∧ crc_More_io_r0_0 x l = moreI x l := by
  by_cases h1 : x < 0
  · simp [crc_More_io_c0, crc_More_io_r0_0, crc_More_io_S0_c0, h1, moreI]; omega
  by_cases h2 : 65535 < x
  · simp [crc_More_io_c0, crc_More_io_r0_0, crc_More_io_S0_c0, h1, h2, moreI]; omega
  obtain ⟨s1, e, g1, g2⟩ := crcL1 (c := x.toNat) (by omega) hl hn
  rw [show ((x.toNat : Nat) : Int) = x by omega] at e
  have h3 : 0 ≤ x ∧ x ≤ 65535 := by omega
  simp [crc_More_io_c0, crc_More_io_r0_0, crc_More_io_S0_c0, crc_More_io_S3_c0, crc_More_io_S3_e0, h1, h2, moreI, h3, crc_More_io_L2_ok, crc_More_io_L2_end, e, crc_More_io_L2_c0, g1, g2]
theorem cross_eq {a b : Nat} (ha : a < 65536) (hb : b < 65536) : ref03_cross_ii_c0 (a : Int) (b : Int) = true ∧ (ref03_cross_ii_e0 (a : Int) (b : Int)).c0 = ((a ^^^ b : Nat) : Int) := by
  obtain ⟨s1, e, ⟨k, h1, h2, c, p, h4, h5, h6, h7, h8⟩, h3⟩ := idx_loop (sel := ref03_cross_ii_L0_sel) (nx := ref03_cross_ii_L0_nx) (s0 := ⟨0, 1, (a : Int), (b : Int), 0⟩) 16 (fun s => s.c4)
    (fun s => ∃ k : Nat, s.c4 = k ∧ k ≤ 16 ∧ ∃ c p : Nat, s.c0 = c ∧ s.c1 = p ∧ p = 2 ^ k ∧ (s.c2 = ((a / p : Nat) : Int) ∧ s.c3 = ((b / p : Nat) : Int)) ∧ c + p * ((a / p) ^^^ (b / p)) = a ^^^ b) (by omega) ⟨0, rfl, by omega, 0, 1, rfl, rfl, rfl, by simp, by simp⟩ (by simp) (by simp)
    (fun s ⟨k, h1, h2, c, p, h4, h5, h6, ⟨h7, h7'⟩, h8⟩ g1 g2 => by
      have e : (wi (s.c4 + 1)) = s.c4 + 1 := wi_eq (by omega) (by omega)
      have hp0 : 0 < p := by rw [h6]; exact Nat.two_pow_pos k
      have hp : p ≤ 32768 := by
        have : (2 : Nat) ^ k ≤ 2 ^ 15 := Nat.pow_le_pow_right (by omega) (by omega)
        omega
      have hx := xor16 ha hb
      have hc : c ≤ a ^^^ b := by rw [← h8]; omega
      have hpa : a / p ≤ a := Nat.div_le_self a p
      have hpb : b / p ≤ b := Nat.div_le_self b p
      have e1 : wi (2 * s.c1) = ((2 * p : Nat) : Int) := by rw [h5, wi_eq (x := 2 * (p : Int)) (by omega) (by omega)]; omega
      have e2 : wi (s.c0 + s.c1) = ((c + p : Nat) : Int) := by rw [h4, h5, wi_eq (x := (c : Int) + (p : Int)) (by omega) (by omega)]; omega
      have q : ∀ n : Nat, n < 65536 → quoI .i64 (n : Int) 2 = ((n / 2 : Nat) : Int) := fun n hn => by
        unfold quoI
        rw [show ((n : Int).tdiv 2) = ((n / 2 : Nat) : Int) from rfl]; exact wrap64 (by omega) (by omega)
      have r : ∀ n : Nat, remI .i64 (n : Int) 2 = ((n % 2 : Nat) : Int) := fun n => rfl
      have ea : a / (2 * p) = a / p / 2 := by rw [Nat.mul_comm, Nat.div_div_eq_div_mul]
      have eb : b / (2 * p) = b / p / 2 := by rw [Nat.mul_comm, Nat.div_div_eq_div_mul]
      have xm := @Nat.xor_mod_two_eq_one (a / p) (b / p)
      have xd := @Nat.xor_div_two (a / p) (b / p)
      have pk : 2 * p = 2 ^ (k + 1) := by rw [h6, Nat.pow_succ]; omega
      have fin : ∀ z : Nat, z = c + p * (((a / p) ^^^ (b / p)) % 2) → z + 2 * p * ((a / (2 * p)) ^^^ (b / (2 * p))) = a ^^^ b := fun z hz => by
        rw [ea, eb, ← xd, hz, ← h8]
        have : (a / p ^^^ b / p) = 2 * ((a / p ^^^ b / p) / 2) + (a / p ^^^ b / p) % 2 := by omega
        generalize (a / p ^^^ b / p) = y at *
        conv => rhs; rw [this, Nat.mul_add]
        rw [Nat.mul_comm 2 p, Nat.mul_assoc]
        omega
      refine ⟨by simp [ref03_cross_ii_L0_sel, g2], ?_, ?_⟩
      · by_cases hd : (remI .i64 s.c2 2 : Int) = remI .i64 s.c3 2
        · have hm : (a / p ^^^ b / p) % 2 = 0 := by
            rw [h7, h7', r, r] at hd
            have : (a / p) % 2 = (b / p) % 2 := by omega
            rw [this] at xm
            have : ¬ (a / p ^^^ b / p) % 2 = 1 := by rw [xm]; simp
            omega
          simp only [ref03_cross_ii_L0_nx, hd, bne_self_eq_false, tb_eq, cond_false]
          exact ⟨k + 1, by rw [e]; omega, by omega, c, 2 * p, h4, e1, pk, ⟨by rw [h7, q _ (by omega), ea], by rw [h7', q _ (by omega), eb]⟩, fin c (by rw [hm]; omega)⟩
        · have hm : (a / p ^^^ b / p) % 2 = 1 := by
            rw [h7, h7', r, r] at hd
            have : ¬ (a / p) % 2 = (b / p) % 2 := by omega
            rw [xm]; omega
          simp only [ref03_cross_ii_L0_nx, bne_iff_ne.2 hd, tb_eq, cond_true]
          exact ⟨k + 1, by rw [e]; omega, by omega, c + p, 2 * p, e2, e1, pk, ⟨by rw [h7, q _ (by omega), ea], by rw [h7', q _ (by omega), eb]⟩, fin (c + p) (by rw [hm]; omega)⟩
      · by_cases hd : tb ((remI .i64 s.c2 2 : Int) != remI .i64 s.c3 2) = true <;> simp only [ref03_cross_ii_L0_nx, hd, cond_true, cond_false, e])
    (fun s _ g => by simp [ref03_cross_ii_L0_sel, g])
  have hk : k = 16 := by omega
  subst hk
  have ea : a / p = 0 := by rw [h6]; exact Nat.div_eq_of_lt (by omega)
  have eb : b / p = 0 := by rw [h6]; exact Nat.div_eq_of_lt (by omega)
  rw [ea, eb, Nat.xor_self, Nat.mul_zero, Nat.add_zero] at h8
  simp [ref03_cross_ii_c0, ref03_cross_ii_e0, ref03_cross_ii_L0_ok, ref03_cross_ii_L0_end, e, h4, h8]
theorem top_iff {n : Nat} (h : n < 65536) : topN n = 1 ↔ 32768 ≤ n := by unfold topN; omega
theorem refL0 {c : Nat} (h : c < 65536) : ref03_More_io_L1_ok ⟨(c : Int), 0⟩ = true ∧ (ref03_More_io_L1_end ⟨(c : Int), 0⟩).c2 = (itN 8 c : Int) ∧ ref03_More_io_L1_c0 (ref03_More_io_L1_end ⟨(c : Int), 0⟩) = true := by
  obtain ⟨s1, e, ⟨k, h1, h2⟩, h3⟩ := idx_loop (sel := ref03_More_io_L1_sel) (nx := ref03_More_io_L1_nx) (s0 := ⟨(c : Int), 0⟩) 8 (fun s => s.c4) (fun s => ∃ k : Nat, s.c4 = k ∧ s.c2 = (itN k c : Int)) (by omega) ⟨0, rfl, rfl⟩ (by simp) (by simp)
    (fun s ⟨k, h1, h2⟩ g1 g2 => by
      have e : (wi (s.c4 + 1)) = s.c4 + 1 := wi_eq (by omega) (by omega)
      have hi := itN_lt k h
      have hm : remI .i64 (wi (2 * s.c2)) 65536 = ((2 * itN k c % 65536 : Nat) : Int) := by
        rw [h2, wi_eq (x := 2 * (itN k c : Int)) (by omega) (by omega)]
        unfold remI
        rw [show (2 * (itN k c : Int)) = ((2 * itN k c : Nat) : Int) by omega]; rfl
      obtain ⟨q1, q2⟩ := cross_eq (a := 2 * itN k c % 65536) (b := 4129) (by omega) (by omega)
      have q1' : ref03_cross_ii_c0 ((2 * itN k c % 65536 : Nat) : Int) 4129 = true := q1
      have q2' : (ref03_cross_ii_e0 ((2 * itN k c % 65536 : Nat) : Int) 4129).c0 = _ := q2
      by_cases hd : 32768 ≤ s.c2
      · have hs : stepN (itN k c) = (2 * itN k c % 65536) ^^^ 4129 := by unfold stepN; rw [if_pos ((top_iff hi).2 (by omega))]
        refine ⟨by simp only [ref03_More_io_L1_sel, g2, hd, hm, q1', decide_true, tb_eq, cond_true], ⟨k + 1, ?_, ?_⟩, ?_⟩
        · simp only [ref03_More_io_L1_nx, e, hd, decide_true, tb_eq, cond_true]; omega
        · simp only [ref03_More_io_L1_nx, hd, decide_true, tb_eq, cond_true, hm, q2']; rw [← hs]; rfl
        · simp only [ref03_More_io_L1_nx, e, hd, decide_true, tb_eq, cond_true]
      · have hs : stepN (itN k c) = (2 * itN k c % 65536) := by unfold stepN; rw [if_neg (by rw [top_iff hi]; omega)]
        refine ⟨by simp [ref03_More_io_L1_sel, g2, hd], ⟨k + 1, ?_, ?_⟩, ?_⟩
        · simp only [ref03_More_io_L1_nx, e, hd, decide_false, tb_eq, cond_false]; omega
        · simp only [ref03_More_io_L1_nx, hd, decide_false, tb_eq, cond_false, hm]; rw [← hs]; rfl
        · simp only [ref03_More_io_L1_nx, e, hd, decide_false, tb_eq, cond_false])
    (fun s _ g => by simp [ref03_More_io_L1_sel, g])
  have hk : k = 8 := by omega
  subst hk
  simp [ref03_More_io_L1_ok, ref03_More_io_L1_end, e, h2, ref03_More_io_L1_c0, h3]
theorem refL1 {c : Nat} {l : List Int} (h : c < 65536) (hl : Byt l) (hn : l.length < 1152921504606846976) : ∃ s1, itS (ref03_More_io_L2_sel l) (ref03_More_io_L2_nx l) bound ⟨(c : Int), 0⟩ = some s1 ∧ s1.c3 = l.length ∧ s1.c2 = (crcI c l : Int) := by
  obtain ⟨s1, e, ⟨k, h1, h2, h4⟩, h3⟩ := idx_loop (sel := ref03_More_io_L2_sel l) (nx := ref03_More_io_L2_nx l) (s0 := ⟨(c : Int), 0⟩) l.length (fun s => s.c3) (fun s => ∃ k : Nat, s.c3 = k ∧ k ≤ l.length ∧ s.c2 = (crcI c (l.take k) : Int)) (by omega) ⟨0, rfl, by omega, rfl⟩ (by simp) (by simp)
    (fun s ⟨k, h1, h2, h4⟩ g1 g2 => by
      have e : (wi (s.c3 + 1)) = s.c3 + 1 := wi_eq (by omega) (by omega)
      have hk : k < l.length := by omega
      have hg : gt l s.c3 = ((l[k]).toNat : Int) := by
        rw [h1, gt_nat hk]; have := wfI_u8 (hl _ (List.getElem_mem hk)); omega
      have hb : (l[k]).toNat < 256 := by have := wfI_u8 (hl _ (List.getElem_mem hk)); omega
      have hc := crcI_lt h (hl.take k)
      have hw : wi (256 * (wi (gt l s.c3))) = ((256 * (l[k]).toNat : Nat) : Int) := by
        rw [hg, wi_eq (x := ((l[k]).toNat : Int)) (by omega) (by omega), wi_eq (x := 256 * ((l[k]).toNat : Int)) (by omega) (by omega)]; omega
      obtain ⟨p1, p2⟩ := cross_eq hc (by omega : 256 * (l[k]).toNat < 65536)
      obtain ⟨q1, q2, q3⟩ := refL0 (xor16 hc (by omega : 256 * (l[k]).toNat < 65536))
      have he0 : ref03_More_io_L2_h0_e0 l s = ((crcI c (l.take k) ^^^ (256 * (l[k]).toNat) : Nat) : Int) := by unfold ref03_More_io_L2_h0_e0; rw [hw, h4, p2]
      refine ⟨by simp only [ref03_More_io_L2_sel, g2, inb_of g1 g2, hw, h4, p1, he0, q1, ref03_More_io_L2_h0_e1, q3, decide_true, tb_eq, cond_true], ⟨k + 1, ?_, by omega, ?_⟩, e⟩
      · simp only [ref03_More_io_L2_nx, e]; omega
      · simp only [ref03_More_io_L2_nx, ref03_More_io_L2_h0_e1, he0, q2, take_nats hk]; rfl)
    (fun s _ g => by simp [ref03_More_io_L2_sel, g])
  have hk : k = l.length := by omega
  subst hk
  exact ⟨s1, e, h1, by rw [h4, List.take_length]⟩
theorem rmore_eq (x : Int) {l : List Int} (hl : Byt l) (hn : l.length < 1152921504606846976) : ref03_More_io_c0 x l = true ∧ ref03_More_io_r0_0 x l = moreI x l := by
  by_cases h1 : x < 0
  · simp [ref03_More_io_c0, ref03_More_io_r0_0, ref03_More_io_S0_c0, ref03_More_io_S3_c0, h1, moreI]; omega
  by_cases h2 : 65535 < x
  · simp [ref03_More_io_c0, ref03_More_io_r0_0, ref03_More_io_S0_c0, ref03_More_io_S3_c0, h1, h2, moreI]; omega
  obtain ⟨s1, e, g1, g2⟩ := refL1 (c := x.toNat) (by omega) hl hn
  rw [show ((x.toNat : Nat) : Int) = x by omega] at e
  have h3 : 0 ≤ x ∧ x ≤ 65535 := by omega
  simp [ref03_More_io_c0, ref03_More_io_r0_0, ref03_More_io_S0_c0, ref03_More_io_S3_c0, h1, h2, moreI, h3, ref03_More_io_L2_ok, ref03_More_io_L2_end, e, ref03_More_io_L2_c0, g1, g2]
theorem equal_eq {l k : List Int} (hl : l.length < 1152921504606846976) : slices_Equal_byte_oo_c0 l k = true ∧ slices_Equal_byte_oo_r0_0 l k = decide (l = k) := by
  by_cases h : l.length = k.length
  · obtain ⟨s1, e, g0, g⟩ := eq_loop (sel := slices_Equal_byte_oo_L0_sel l k l.length) (nx := slices_Equal_byte_oo_L0_nx l k l.length) (s0 := ⟨0⟩) h (fun s => s.c5) hl rfl
      (fun s a1 a2 => by show wi _ = _; exact wi_eq (by omega) (by omega))
      (fun s a1 a2 => by
        by_cases hi : s.c5 < l.length
        · have i1 := inb_of a1 hi
          have i2 : inb k.length s.c5 = true := by rw [← h]; exact i1
          by_cases q : gt l s.c5 = gt k s.c5
          · simp [slices_Equal_byte_oo_L0_sel, hi, i1, i2, q]
          · simp [slices_Equal_byte_oo_L0_sel, hi, i1, i2, q, bne]
        · simp [slices_Equal_byte_oo_L0_sel, hi])
    have hne : ((((l.length : Nat) : Int) : Int) != ((k.length : Nat) : Int)) = false := by simp [h]
    simp only [slices_Equal_byte_oo_c0, slices_Equal_byte_oo_r0_0, slices_Equal_byte_oo_e0, slices_Equal_byte_oo_L0_ok, slices_Equal_byte_oo_L0_end, e, hne, tb_eq, cond_false, Option.isSome_some, cond_true, Option.getD_some]
    rcases g with ⟨a, b⟩ | ⟨a, b, c⟩
    · simp [slices_Equal_byte_oo_L0_c0, slices_Equal_byte_oo_L0_c1, a, b]
    · have i1 := inb_of g0 a
      have i2 : inb k.length s1.c5 = true := by rw [← h]; exact i1
      simp [slices_Equal_byte_oo_L0_c0, slices_Equal_byte_oo_L0_c1, a, c, i1, i2]
  · have hne : ((((l.length : Nat) : Int) : Int) != ((k.length : Nat) : Int)) = true := by simp; omega
    have : l ≠ k := fun e => h (by rw [e])
    simp [slices_Equal_byte_oo_c0, slices_Equal_byte_oo_r0_0, hne, this]
structure Sm (l : List Int) : Prop where
  b : Byt l
  n : l.length ≤ 1000
theorem Sm.n' {l : List Int} (h : Sm l) : l.length < 1152921504606846976 := by have := h.n; omega
def tail2 (l : List Int) : List Int := [((crcI 65535 l / 256 : Nat) : Int), ((crcI 65535 l % 256 : Nat) : Int)]
def sealed (l : List Int) : List Int := l ++ tail2 l
theorem u8_wrap {n : Nat} : IntKind.u8.wrap (n : Int) = ((n % 256 : Nat) : Int) := by
  unfold IntKind.wrap; simp [IntKind.bits, IntKind.signed]
theorem more_f {l : List Int} (h : Sm l) : crc_More_io_r0_0 65535 l = (crcI 65535 l : Int) := by
  rw [(more_eq 65535 h.b h.n').2]; simp [moreI]
theorem rmore_f {l : List Int} (h : Sm l) : ref03_More_io_r0_0 65535 l = (crcI 65535 l : Int) := by
  rw [(rmore_eq 65535 h.b h.n').2]; simp [moreI]
theorem sumc {l : List Int} (h : Sm l) : crc_Sum_o_c0 l = true := by simp [crc_Sum_o_c0, (more_eq 65535 h.b h.n').1]
theorem rsumc {l : List Int} (h : Sm l) : ref03_Sum_o_c0 l = true := by simp [ref03_Sum_o_c0, (rmore_eq 65535 h.b h.n').1]
theorem Sm.crc {l : List Int} (h : Sm l) : crcI 65535 l < 65536 := crcI_lt (by omega) h.b
theorem tail_eq {l : List Int} (h : Sm l) : [(IntKind.u8.wrap (shrI .i64 (crc_More_io_r0_0 65535 l) 8)), (IntKind.u8.wrap ((crc_More_io_r0_0 65535 l)))] = tail2 l := by
  have hc := h.crc
  have e : shrI .i64 (crcI 65535 l : Int) 8 = ((crcI 65535 l / 256 : Nat) : Int) := by
    show (crcI 65535 l : Int).fdiv (2 ^ (min (8 : Int).toNat 64)) = _
    rw [show (2 : Int) ^ (min (8 : Int).toNat 64) = 256 by decide, Int.fdiv_eq_ediv_of_nonneg _ (by omega)]; omega
  rw [more_f h, e, u8_wrap, u8_wrap, Nat.mod_eq_of_lt (a := crcI 65535 l / 256) (by omega)]
  rfl
theorem clone_r (a : Bool) {l : List Int} (h : Sm l) : slices_Clone_byte_o_c0 a l = true ∧ slices_Clone_byte_o_r0_0 a l = (a && l.isEmpty) ∧ slices_Clone_byte_o_r0_1 a l = l := by
  have h1 : ((([] : List Int).length + l.length) * 1 ≤ 140737488355328) := by have := h.n; simp; omega
  cases l with
  | nil => cases a <;> simp [slices_Clone_byte_o_c0, slices_Clone_byte_o_r0_0, slices_Clone_byte_o_r0_1]
  | cons x l =>
    simp only [slices_Clone_byte_o_c0, slices_Clone_byte_o_r0_0, slices_Clone_byte_o_r0_1, h1, tb_eq]
    simp
theorem seal_r (a : Bool) {l : List Int} (h : Sm l) : crc_Seal_o_c0 a l = true ∧ crc_Seal_o_e0 a l = sealed l := by
  obtain ⟨c1, c2, c3⟩ := clone_r a h
  have h1 : (l.length + (tail2 l).length) * 1 ≤ 140737488355328 := by have := h.n; show (l.length + 2) * 1 ≤ _; omega
  constructor
  · simp only [crc_Seal_o_c0, sumc h, c1, c3, tail_eq h, h1, decide_true, tb_eq, cond_true]
  · unfold crc_Seal_o_e0; rw [c3, tail_eq h]; rfl
theorem rtail {l : List Int} (h : Sm l) : quoI .i64 (ref03_More_io_r0_0 65535 l) 256 = ((crcI 65535 l / 256 : Nat) : Int) ∧ remI .i64 (ref03_More_io_r0_0 65535 l) 256 = ((crcI 65535 l % 256 : Nat) : Int) := by
  have hc := h.crc
  rw [rmore_f h]
  refine ⟨?_, rfl⟩
  unfold quoI
  rw [show ((crcI 65535 l : Int).tdiv 256) = ((crcI 65535 l / 256 : Nat) : Int) from rfl]
  exact wrap64 (by omega) (by omega)
def okS (l : List Int) : Bool := decide (2 ≤ l.length) && decide (sealed (l.take (l.length - 2)) = l)
theorem Sm.take {l : List Int} (h : Sm l) (k : Nat) : Sm (l.take k) := ⟨h.b.take k, by have := h.n; rw [List.length_take]; omega⟩
theorem cut_eq {l : List Int} (h : Sm l) (h2 : 2 ≤ l.length) : wi (((l.length : Nat) : Int) - 2) = ((l.length - 2 : Nat) : Int) ∧ sub l 0 (wi (((l.length : Nat) : Int) - 2)) = l.take (l.length - 2) ∧ ins l.length 0 (wi (((l.length : Nat) : Int) - 2)) = true := by
  have hn := h.n
  have e : wi (((l.length : Nat) : Int) - 2) = ((l.length - 2 : Nat) : Int) := by rw [wi_eq (x := (l.length : Int) - 2) (by omega) (by omega)]; omega
  refine ⟨e, ?_, ?_⟩
  · rw [e]; simp [sub]
  · rw [e]; simp [ins]
theorem sealed_short {l : List Int} (h : (l.length : Nat) ≤ 1000) : (sealed l).length < 1152921504606846976 := by simp [sealed, tail2]; omega
theorem open_r {l : List Int} (h : Sm l) (a : Bool) : crc_Open_o_c0 a l = true ∧ crc_Open_o_r0_0 a l = !(okS l) ∧ crc_Open_o_r0_1 a l = okS l ∧ crc_Open_o_r0_2 a l = if okS l then l.take (l.length - 2) else [] := by
  by_cases h2 : l.length < 2
  · have e : wi (((l.length : Nat) : Int) - 2) < 0 := by rw [wi_eq (x := (l.length : Int) - 2) (by omega) (by omega)]; omega
    have e3 : ¬ 2 ≤ l.length := by omega
    simp [okS, crc_Open_o_c0, crc_Open_o_r0_0, crc_Open_o_r0_1, crc_Open_o_r0_2, e, e3]
  have h3 : 2 ≤ l.length := by omega
  obtain ⟨c1, c2, c3⟩ := cut_eq h h3
  have hp := h.take (l.length - 2)
  have hne : l.isEmpty = false := by cases l <;> simp_all
  have hneg : ¬ (wi (((l.length : Nat) : Int) - 2) < 0) := by rw [c1]; omega
  have hE : crc_Open_o_e0 a l = sealed (l.take (l.length - 2)) := by unfold crc_Open_o_e0; rw [c2, (seal_r _ hp).2]
  have eq := equal_eq (l := sealed (l.take (l.length - 2))) (k := l) (sealed_short hp.n)
  obtain ⟨d1, d2, d3⟩ := clone_r false hp
  simp only [crc_Open_o_c0, crc_Open_o_r0_0, crc_Open_o_r0_1, crc_Open_o_r0_2, hneg, c3, c2, hE, (seal_r _ hp).1, d1, d2, d3, hne, eq.1, eq.2, okS, h3, Bool.and_false, Bool.false_and, decide_true, decide_false, tb_eq, cond_true, cond_false, Bool.true_and]
  cases decide (sealed (l.take (l.length - 2)) = l) <;> simp
theorem two_end {l : List Int} (h : 2 ≤ l.length) : l = l.take (l.length - 2) ++ [l[l.length - 2], l[l.length - 1]] := by
  conv => lhs; rw [← List.take_append_drop (l.length - 2) l]
  congr 1
  apply List.ext_getElem
  · simp; omega
  · intro i h1 h2
    rw [List.getElem_drop]
    simp at h2
    rcases (by omega : i = 0 ∨ i = 1) with rfl | rfl
    · simp
    · simp; congr 1; omega
theorem ropen_r {l : List Int} (h : Sm l) : ref03_Open_o_c0 l = true ∧ ref03_Open_o_r0_0 l = !(okS l) ∧ ref03_Open_o_r0_1 l = okS l ∧ ref03_Open_o_r0_2 l = if okS l then l.take (l.length - 2) else [] := by
  by_cases h2 : l.length < 2
  · have e2 : ((l.length : Nat) : Int) < 2 := by omega
    have e3 : ¬ 2 ≤ l.length := by omega
    simp [okS, ref03_Open_o_c0, ref03_Open_o_r0_0, ref03_Open_o_r0_1, ref03_Open_o_r0_2, e2, e3]
  have h3 : 2 ≤ l.length := by omega
  have hn := h.n
  obtain ⟨c1, c2, c3⟩ := cut_eq h h3
  rw [c1] at c2 c3
  have hp := h.take (l.length - 2)
  have hneg : ¬ (((l.length : Nat) : Int) < 2) := by omega
  have e1 : wi (((l.length : Nat) : Int) - 1) = ((l.length - 1 : Nat) : Int) := by rw [wi_eq (x := (l.length : Int) - 1) (by omega) (by omega)]; omega
  have g1 : gt l ((l.length - 2 : Nat) : Int) = l[l.length - 2] := gt_nat (by omega)
  have g2 : gt l ((l.length - 1 : Nat) : Int) = l[l.length - 1] := gt_nat (by omega)
  have b1 := wfI_u8 (h.b _ (List.getElem_mem (show l.length - 2 < l.length by omega)))
  have b2 := wfI_u8 (h.b _ (List.getElem_mem (show l.length - 1 < l.length by omega)))
  have i1 : inb l.length ((l.length - 2 : Nat) : Int) = true := inb_of (by omega) (by omega)
  have i2 : inb l.length ((l.length - 1 : Nat) : Int) = true := inb_of (by omega) (by omega)
  have hl : (([] : List Int).length + (l.take (l.length - 2)).length) * 1 ≤ 140737488355328 := by rw [List.length_take]; simp; omega
  have ok : okS l = (decide (l[l.length - 2] = ((crcI 65535 (l.take (l.length - 2)) / 256 : Nat) : Int)) && decide (l[l.length - 1] = ((crcI 65535 (l.take (l.length - 2)) % 256 : Nat) : Int))) := by
    have hs : sealed (l.take (l.length - 2)) = l ↔ tail2 (l.take (l.length - 2)) = [l[l.length - 2], l[l.length - 1]] := by
      conv => lhs; rhs; rw [two_end h3]
      unfold sealed
      rw [List.append_cancel_left_eq]
    unfold okS
    rw [Bool.eq_iff_iff]
    simp only [h3, decide_true, Bool.true_and, Bool.and_eq_true, decide_eq_true_eq, hs, tail2, List.cons.injEq, and_true]
    constructor <;> rintro ⟨a, b⟩ <;> exact ⟨a.symm, b.symm⟩
  rw [ok]
  simp only [ref03_Open_o_c0, ref03_Open_o_r0_0, ref03_Open_o_r0_1, ref03_Open_o_r0_2, ref03_Open_o_e0, ref03_Open_o_e1, hneg, c3, c2, c1, e1, rsumc hp, (rtail hp).1, (rtail hp).2, i1, i2, g1, g2, hl, decide_true, decide_false, tb_eq, cond_true, cond_false]
  rw [wi_eq (x := l[l.length - 2]) (by omega) (by omega), wi_eq (x := l[l.length - 1]) (by omega) (by omega)]
  simp only [bne]
  by_cases q1 : l[l.length - 2] = ((crcI 65535 (l.take (l.length - 2)) / 256 : Nat) : Int)
  · by_cases q2 : l[l.length - 1] = ((crcI 65535 (l.take (l.length - 2)) % 256 : Nat) : Int)
    · simp only [beq_iff_eq.2 q1, beq_iff_eq.2 q2, q1, q2]; simp
    · have : (l[l.length - 1] == ((crcI 65535 (l.take (l.length - 2)) % 256 : Nat) : Int)) = false := by simpa using q2
      simp only [beq_iff_eq.2 q1, this, q2, decide_false]; simp
  · have : (l[l.length - 2] == ((crcI 65535 (l.take (l.length - 2)) / 256 : Nat) : Int)) = false := by simpa using q1
    simp only [this, q1, decide_false]; simp
end Go.Proofs.Ytkipngagfiaddaa.Den

namespace Go.Proofs.Ytkipngagfiaddaa.Den
open Go Go.Proofs
set_option maxRecDepth 100000
set_option maxHeartbeats 4000000
set_option linter.unusedVariables false
set_option linter.unusedSimpArgs false
def frame_Decode_iabo_S0_c0 (x1 : Bool) (x3 : List Int) (x6 : Int) : Bool := (bif tb (x1) then (bif tb ((((x3.length : Nat) : Int) : Int) != 38) then true else (bif tb (inb x3.length 0) then (bif tb (((gt x3 0) : Int) != 165) then true else (bif tb (inb x3.length 1) then (bif tb (((wi (gt x3 1)) : Int) != x6) then true else false) else false)) else false)) else true)
def frame_Decode_iabo_S0_r0_0 (x1 : Bool) (x3 : List Int) : Int := (bif tb (x1) then (bif tb ((((x3.length : Nat) : Int) : Int) != 38) then 2 else (bif tb (((gt x3 0) : Int) != 165) then 3 else 4)) else 1)
def frame_Decode_iabo_S0_c1 (x1 : Bool) (x3 : List Int) (x6 : Int) : Bool := (bif tb (x1) then (bif tb ((((x3.length : Nat) : Int) : Int) != 38) then false else (bif tb (inb x3.length 0) then (bif tb (((gt x3 0) : Int) != 165) then false else (bif tb (inb x3.length 1) then (bif tb (((wi (gt x3 1)) : Int) != x6) then false else true) else false)) else false)) else false)
theorem frame_Decode_iabo_S0_t0 (x0 : List Int) (x1 : Bool) (x2 : Bool) (x3 : List Int) (x4 : Bool) (x6 : Int) : frame_Decode_iabo_S0_c0 x1 x3 x6 = true → segG (runC E0 (cl E0) S56_0) [0, 3, 4] [4, 5] [3, 4] 2 ([(V.d (.int .i64 x6)), (V.ptr 0 1 0 0), (V.ptr 1 1 0 0)], [(Blk.gen 39 2 [[(V.d (.bool x1)), (V.d (slD (encI .u8) true 1 x2 x3))]] x4), (Blk.flat 33 9 [([(.int .i64 0)] ++ arrD .i64 x0 8)] false)]) = some (.ret, ([(V.ptr 1 1 0 0), (V.d (.int .i64 (frame_Decode_iabo_S0_r0_0 x1 x3)))], [(Blk.gen 39 2 [[(V.d (.bool x1)), (V.d (slD (encI .u8) true 1 x2 x3))]] x4), (Blk.flat 33 9 [([(.int .i64 0)] ++ arrD .i64 [0, 0, 0, 0, 0, 0, 0, 0] 8)] false)])) := by
  unfold frame_Decode_iabo_S0_c0 frame_Decode_iabo_S0_r0_0
  cases h1 : tb (x1)
  · intro g0
    exact seg_walk [.b (notF (tbE h1))] (by kernel_rfl)
  · cases h2 : tb ((((x3.length : Nat) : Int) : Int) != 38)
    · cases h3 : tb (inb x3.length 0)
      · intro g0
        exact absurd g0 ft
      · cases h4 : tb (((gt x3 0) : Int) != 165)
        · cases h5 : tb (inb x3.length 1)
          · intro g0
            exact absurd g0 ft
          · cases h6 : tb (((wi (gt x3 1)) : Int) != x6)
            · intro g0
              exact absurd g0 ft
            · intro g0
              exact seg_walk [.b (notT (tbE h1)), .o 19 (fun _ => o_len_os (enc := (encI .u8)) (l := x3) (fl := true) (n := x2) (s := 1)), .b (tbE h2), .o 25 (fun _ => o_idx_os (enc := (encI .u8)) (l := x3) (fl := true) (n := x2) (s := 1) (k := .i64) (tbE h3)), .b (tbE h4), .o 32 (fun _ => o_idx_os (enc := (encI .u8)) (l := x3) (fl := true) (n := x2) (s := 1) (k := .i64) (tbE h5)), .b (tbE h6)] (by kernel_rfl)
        · intro g0
          exact seg_walk [.b (notT (tbE h1)), .o 19 (fun _ => o_len_os (enc := (encI .u8)) (l := x3) (fl := true) (n := x2) (s := 1)), .b (tbE h2), .o 25 (fun _ => o_idx_os (enc := (encI .u8)) (l := x3) (fl := true) (n := x2) (s := 1) (k := .i64) (tbE h3)), .b (tbE h4)] (by kernel_rfl)
    · intro g0
      exact seg_walk [.b (notT (tbE h1)), .o 19 (fun _ => o_len_os (enc := (encI .u8)) (l := x3) (fl := true) (n := x2) (s := 1)), .b (tbE h2)] (by kernel_rfl)
theorem frame_Decode_iabo_S0_t1 (x0 : List Int) (x1 : Bool) (x2 : Bool) (x3 : List Int) (x4 : Bool) (x6 : Int) : frame_Decode_iabo_S0_c0 x1 x3 x6 = false → frame_Decode_iabo_S0_c1 x1 x3 x6 = true → segG (runC E0 (cl E0) S56_0) [0, 3, 4] [4, 5] [3, 4] 2 ([(V.d (.int .i64 x6)), (V.ptr 0 1 0 0), (V.ptr 1 1 0 0)], [(Blk.gen 39 2 [[(V.d (.bool x1)), (V.d (slD (encI .u8) true 1 x2 x3))]] x4), (Blk.flat 33 9 [([(.int .i64 0)] ++ arrD .i64 x0 8)] false)]) = some (.normal, ([(V.ptr 0 1 0 0), (V.ptr 1 1 0 0)], [(Blk.gen 39 2 [[(V.d (.bool x1)), (V.d (slD (encI .u8) true 1 x2 x3))]] x4), (Blk.flat 33 9 [([(.int .i64 0)] ++ arrD .i64 x0 8)] false)])) := by
  unfold frame_Decode_iabo_S0_c0 frame_Decode_iabo_S0_c1
  cases h1 : tb (x1)
  · intro g0 g1
    exact absurd g0 tf
  · cases h2 : tb ((((x3.length : Nat) : Int) : Int) != 38)
    · cases h3 : tb (inb x3.length 0)
      · intro g0 g1
        exact absurd g1 ft
      · cases h4 : tb (((gt x3 0) : Int) != 165)
        · cases h5 : tb (inb x3.length 1)
          · intro g0 g1
            exact absurd g1 ft
          · cases h6 : tb (((wi (gt x3 1)) : Int) != x6)
            · intro g0 g1
              exact seg_walk [.b (notT (tbE h1)), .o 19 (fun _ => o_len_os (enc := (encI .u8)) (l := x3) (fl := true) (n := x2) (s := 1)), .b (tbE h2), .o 25 (fun _ => o_idx_os (enc := (encI .u8)) (l := x3) (fl := true) (n := x2) (s := 1) (k := .i64) (tbE h3)), .b (tbE h4), .o 32 (fun _ => o_idx_os (enc := (encI .u8)) (l := x3) (fl := true) (n := x2) (s := 1) (k := .i64) (tbE h5)), .b (tbE h6)] (by kernel_rfl)
            · intro g0 g1
              exact absurd g0 tf
        · intro g0 g1
          exact absurd g0 tf
    · intro g0 g1
      exact absurd g0 tf
def frame_Decode_iabo_S1_e0 (x2 : Bool) (x3 : List Int) : List Int := (sub (crc_Open_o_r0_2 x2 x3) 4 ((((crc_Open_o_r0_2 x2 x3).length) : Nat) : Int))
def frame_Decode_iabo_S1_c0 (x2 : Bool) (x3 : List Int) : Bool := (bif tb (crc_Open_o_c0 x2 x3) then (bif tb (crc_Open_o_r0_1 x2 x3) then (bif tb (ins ((crc_Open_o_r0_2 x2 x3).length) 2 4) then (bif tb (decide (2 < 4)) then (bif tb (word_Get2_o_c0 (sub (crc_Open_o_r0_2 x2 x3) 2 4)) then (bif tb (ins ((crc_Open_o_r0_2 x2 x3).length) 4 ((((crc_Open_o_r0_2 x2 x3).length) : Nat) : Int)) then (bif tb (decide (4 < ((((crc_Open_o_r0_2 x2 x3).length) : Nat) : Int))) then (bif tb (word_GetAll_o_c0 false (frame_Decode_iabo_S1_e0 x2 x3)) then (bif tb (word_GetAll_o_r0_0 false (frame_Decode_iabo_S1_e0 x2 x3)) then false else (bif tb (Nat.ble 8 ((word_GetAll_o_r0_2 false (frame_Decode_iabo_S1_e0 x2 x3)).length)) then true else false)) else false) else false) else false) else false) else (bif tb (crc_Open_o_r0_0 x2 x3) then false else (bif tb (ins ((crc_Open_o_r0_2 x2 x3).length) 4 ((((crc_Open_o_r0_2 x2 x3).length) : Nat) : Int)) then (bif tb (decide (4 < ((((crc_Open_o_r0_2 x2 x3).length) : Nat) : Int))) then (bif tb (word_GetAll_o_c0 false (frame_Decode_iabo_S1_e0 x2 x3)) then (bif tb (word_GetAll_o_r0_0 false (frame_Decode_iabo_S1_e0 x2 x3)) then false else (bif tb (Nat.ble 8 ((word_GetAll_o_r0_2 false (frame_Decode_iabo_S1_e0 x2 x3)).length)) then true else false)) else false) else false) else false))) else false) else false) else false)
def frame_Decode_iabo_S1_r0_5 (x2 : Bool) (x3 : List Int) : Int := (bif tb (decide (2 < 4)) then (word_Get2_o_r0_0 (sub (crc_Open_o_r0_2 x2 x3) 2 4)) else 0)
def frame_Decode_iabo_S1_c1 (x2 : Bool) (x3 : List Int) : Bool := (bif tb (crc_Open_o_c0 x2 x3) then (bif tb (crc_Open_o_r0_1 x2 x3) then false else true) else false)
theorem frame_Decode_iabo_S1_t0 (x0 : List Int) (x1 : Bool) (x2 : Bool) (x3 : List Int) (x4 : Bool) : frame_Decode_iabo_S1_c0 x2 x3 = true → segG (runC E0 (cl E0) S56_1) [3, 4] [4, 5] [4, 5] 2 ([(V.ptr 0 1 0 0), (V.ptr 1 1 0 0)], [(Blk.gen 39 2 [[(V.d (.bool x1)), (V.d (slD (encI .u8) true 1 x2 x3))]] x4), (Blk.flat 33 9 [([(.int .i64 0)] ++ arrD .i64 x0 8)] false)]) = some (.normal, ([(V.ptr 1 1 0 0), (V.d (.int .i64 0))], [(Blk.gen 39 2 [[(V.d (.bool x1)), (V.d (slD (encI .u8) true 1 x2 x3))]] x4), (Blk.flat 33 9 [([(.int .i64 (frame_Decode_iabo_S1_r0_5 x2 x3))] ++ arrD .i64 (word_GetAll_o_r0_2 false (frame_Decode_iabo_S1_e0 x2 x3)) 8)] false)])) := by
  unfold frame_Decode_iabo_S1_c0 frame_Decode_iabo_S1_r0_5
  cases h1 : tb (crc_Open_o_c0 x2 x3)
  · intro g0
    exact absurd g0 ft
  · cases h2 : tb (crc_Open_o_r0_1 x2 x3)
    · intro g0
      exact absurd g0 ft
    · cases h3 : tb (ins ((crc_Open_o_r0_2 x2 x3).length) 2 4)
      · intro g0
        exact absurd g0 ft
      · cases h4 : tb (decide (2 < 4))
        · cases h5 : tb (crc_Open_o_r0_0 x2 x3)
          · cases h6 : tb (ins ((crc_Open_o_r0_2 x2 x3).length) 4 ((((crc_Open_o_r0_2 x2 x3).length) : Nat) : Int))
            · intro g0
              exact absurd g0 ft
            · cases h7 : tb (decide (4 < ((((crc_Open_o_r0_2 x2 x3).length) : Nat) : Int)))
              · cases h8 : tb (word_GetAll_z_c0)
                · intro g0
                  exact absurd g0 ft
                · intro g0
                  exact absurd g0 ft
              · cases h8 : tb (word_GetAll_o_c0 false (frame_Decode_iabo_S1_e0 x2 x3))
                · intro g0
                  exact absurd g0 ft
                · cases h9 : tb (word_GetAll_o_r0_0 false (frame_Decode_iabo_S1_e0 x2 x3))
                  · cases h10 : tb (Nat.ble 8 ((word_GetAll_o_r0_2 false (frame_Decode_iabo_S1_e0 x2 x3)).length))
                    · intro g0
                      exact absurd g0 ft
                    · intro g0
                      exact seg_walk [.c (crc_Open_o_t0 x2 x3 (tbE h1)), .b (notT (tbE h2)), .m 49 (o_slice_sp0 (m := [(Blk.gen 39 2 [[(V.d (.bool x1)), (V.d (slD (encI .u8) true 1 x2 x3))]] x4), (Blk.flat 33 9 [([(.int .i64 0)] ++ arrD .i64 x0 8)] false), (Blk.flat 5 1 (List.map (encI .u8) (crc_Open_o_r0_2 x2 x3)) false), (Blk.flat 33 9 [[(.int .i64 0), (.int .i64 0), (.int .i64 0), (.int .i64 0), (.int .i64 0), (.int .i64 0), (.int .i64 0), (.int .i64 0), (.int .i64 0)]] false)]) (enc := (encI .u8)) (l := (crc_Open_o_r0_2 x2 x3)) (id := 2) (e := 5) (s := 1) (n := ((crc_Open_o_r0_2 x2 x3).length)) (p := false) (some (.i64, 2)) (some (.i64, 4)) (deSo_f (tbE h5)) (Nat.beq_refl _) (by kernel_rfl) (tbE h3) (tbE h4)), .c (word_Get2_z_t0), .m 56 (o_slice_spo (nl := (crc_Open_o_r0_0 x2 x3)) (m := [(Blk.gen 39 2 [[(V.d (.bool x1)), (V.d (slD (encI .u8) true 1 x2 x3))]] x4), (Blk.flat 33 9 [([(.int .i64 0)] ++ arrD .i64 x0 8)] false), (Blk.flat 5 1 (List.map (encI .u8) (crc_Open_o_r0_2 x2 x3)) false), (Blk.flat 33 9 [[(.int .i64 0), (.int .i64 0), (.int .i64 0), (.int .i64 0), (.int .i64 0), (.int .i64 0), (.int .i64 0), (.int .i64 0), (.int .i64 0)]] false)]) (enc := (encI .u8)) (l := (crc_Open_o_r0_2 x2 x3)) (id := 2) (e := 5) (s := 1) (n := ((crc_Open_o_r0_2 x2 x3).length)) (p := false) (some (.i64, 4)) none (by kernel_rfl) (tbE h6) (tbE h7)), .y (mm := [(Blk.gen 39 2 [[(V.d (.bool x1)), (V.d (slD (encI .u8) true 1 x2 x3))]] x4), (Blk.flat 33 9 [([(.int .i64 0)] ++ arrD .i64 x0 8)] false), (Blk.flat 5 1 (List.map (encI .u8) (crc_Open_o_r0_2 x2 x3)) false), (Blk.flat 33 9 [[(.int .i64 0), (.int .i64 0), (.int .i64 0), (.int .i64 0), (.int .i64 0), (.int .i64 0), (.int .i64 0), (.int .i64 0), (.int .i64 0)]] false)]) (args := [(V.sl 2 ((crc_Open_o_r0_2 x2 x3).length) (4 : Int).toNat ((((((crc_Open_o_r0_2 x2 x3).length) : Nat) : Int) : Int).toNat - (4 : Int).toNat))]) (args1 := [(V.d (.rs true 1 (List.map (encI .u8) (sub (crc_Open_o_r0_2 x2 x3) 4 ((((crc_Open_o_r0_2 x2 x3).length) : Nat) : Int))) false))]) (byvals_cons (byval_sp (enc := (encI .u8)) (l := (crc_Open_o_r0_2 x2 x3)) (e := 5) (s := 1) (p := false) (n := ((crc_Open_o_r0_2 x2 x3).length)) (lo := 4) (hi := ((((crc_Open_o_r0_2 x2 x3).length) : Nat) : Int)) (Nat.beq_refl _) (by kernel_rfl) (tbE h6)) (by kernel_rfl)), .c (word_GetAll_o_t0 false (frame_Decode_iabo_S1_e0 x2 x3) (tbE h8)), .m 61 (o_arrP (m := [(Blk.gen 39 2 [[(V.d (.bool x1)), (V.d (slD (encI .u8) true 1 x2 x3))]] x4), (Blk.flat 33 9 [([(.int .i64 0)] ++ arrD .i64 x0 8)] false), (Blk.flat 5 1 (List.map (encI .u8) (crc_Open_o_r0_2 x2 x3)) false), (Blk.flat 33 9 [[(.int .i64 0), (.int .i64 0), (.int .i64 0), (.int .i64 0), (.int .i64 0), (.int .i64 0), (.int .i64 0), (.int .i64 0), (.int .i64 0)]] false), (Blk.flat 3 1 (List.map (encI .i64) (word_GetAll_o_r0_2 false (frame_Decode_iabo_S1_e0 x2 x3))) false)]) (nl := (word_GetAll_o_r0_0 false (frame_Decode_iabo_S1_e0 x2 x3))) (id := 4) (n := ((word_GetAll_o_r0_2 false (frame_Decode_iabo_S1_e0 x2 x3)).length)) (k := 8) (s := 1) (tbE h9) (by kernel_rfl) (tbE h10)), .m 62 (o_load_pa (m := [(Blk.gen 39 2 [[(V.d (.bool x1)), (V.d (slD (encI .u8) true 1 x2 x3))]] x4), (Blk.flat 33 9 [([(.int .i64 0)] ++ arrD .i64 x0 8)] false), (Blk.flat 5 1 (List.map (encI .u8) (crc_Open_o_r0_2 x2 x3)) false), (Blk.flat 33 9 [[(.int .i64 0), (.int .i64 0), (.int .i64 0), (.int .i64 0), (.int .i64 0), (.int .i64 0), (.int .i64 0), (.int .i64 0), (.int .i64 0)]] false), (Blk.flat 3 1 (List.map (encI .i64) (word_GetAll_o_r0_2 false (frame_Decode_iabo_S1_e0 x2 x3))) false)]) (kd := .i64) (l := (word_GetAll_o_r0_2 false (frame_Decode_iabo_S1_e0 x2 x3))) (id := 4) (n := ((word_GetAll_o_r0_2 false (frame_Decode_iabo_S1_e0 x2 x3)).length)) (k := 8) (e := 3) (p := false) (Nat.beq_refl _) (by kernel_rfl) (tbE h10))] (by kernel_rfl)
                  · intro g0
                    exact absurd g0 ft
          · intro g0
            exact absurd g0 ft
        · cases h5 : tb (word_Get2_o_c0 (sub (crc_Open_o_r0_2 x2 x3) 2 4))
          · intro g0
            exact absurd g0 ft
          · cases h6 : tb (ins ((crc_Open_o_r0_2 x2 x3).length) 4 ((((crc_Open_o_r0_2 x2 x3).length) : Nat) : Int))
            · intro g0
              exact absurd g0 ft
            · cases h7 : tb (decide (4 < ((((crc_Open_o_r0_2 x2 x3).length) : Nat) : Int)))
              · cases h8 : tb (crc_Open_o_r0_0 x2 x3)
                · cases h9 : tb (word_GetAll_z_c0)
                  · intro g0
                    exact absurd g0 ft
                  · intro g0
                    exact absurd g0 ft
                · intro g0
                  exact absurd g0 ft
              · cases h8 : tb (word_GetAll_o_c0 false (frame_Decode_iabo_S1_e0 x2 x3))
                · intro g0
                  exact absurd g0 ft
                · cases h9 : tb (word_GetAll_o_r0_0 false (frame_Decode_iabo_S1_e0 x2 x3))
                  · cases h10 : tb (Nat.ble 8 ((word_GetAll_o_r0_2 false (frame_Decode_iabo_S1_e0 x2 x3)).length))
                    · intro g0
                      exact absurd g0 ft
                    · intro g0
                      exact seg_walk [.c (crc_Open_o_t0 x2 x3 (tbE h1)), .b (notT (tbE h2)), .m 49 (o_slice_spo (nl := (crc_Open_o_r0_0 x2 x3)) (m := [(Blk.gen 39 2 [[(V.d (.bool x1)), (V.d (slD (encI .u8) true 1 x2 x3))]] x4), (Blk.flat 33 9 [([(.int .i64 0)] ++ arrD .i64 x0 8)] false), (Blk.flat 5 1 (List.map (encI .u8) (crc_Open_o_r0_2 x2 x3)) false), (Blk.flat 33 9 [[(.int .i64 0), (.int .i64 0), (.int .i64 0), (.int .i64 0), (.int .i64 0), (.int .i64 0), (.int .i64 0), (.int .i64 0), (.int .i64 0)]] false)]) (enc := (encI .u8)) (l := (crc_Open_o_r0_2 x2 x3)) (id := 2) (e := 5) (s := 1) (n := ((crc_Open_o_r0_2 x2 x3).length)) (p := false) (some (.i64, 2)) (some (.i64, 4)) (by kernel_rfl) (tbE h3) (tbE h4)), .y (mm := [(Blk.gen 39 2 [[(V.d (.bool x1)), (V.d (slD (encI .u8) true 1 x2 x3))]] x4), (Blk.flat 33 9 [([(.int .i64 0)] ++ arrD .i64 x0 8)] false), (Blk.flat 5 1 (List.map (encI .u8) (crc_Open_o_r0_2 x2 x3)) false), (Blk.flat 33 9 [[(.int .i64 0), (.int .i64 0), (.int .i64 0), (.int .i64 0), (.int .i64 0), (.int .i64 0), (.int .i64 0), (.int .i64 0), (.int .i64 0)]] false)]) (args := [(V.sl 2 ((crc_Open_o_r0_2 x2 x3).length) (2 : Int).toNat ((4 : Int).toNat - (2 : Int).toNat))]) (args1 := [(V.d (.rs true 1 (List.map (encI .u8) (sub (crc_Open_o_r0_2 x2 x3) 2 4)) false))]) (byvals_cons (byval_sp (enc := (encI .u8)) (l := (crc_Open_o_r0_2 x2 x3)) (e := 5) (s := 1) (p := false) (n := ((crc_Open_o_r0_2 x2 x3).length)) (lo := 2) (hi := 4) (Nat.beq_refl _) (by kernel_rfl) (tbE h3)) (by kernel_rfl)), .c (word_Get2_o_t0 false (sub (crc_Open_o_r0_2 x2 x3) 2 4) (tbE h5)), .m 56 (o_slice_spo (nl := (crc_Open_o_r0_0 x2 x3)) (m := [(Blk.gen 39 2 [[(V.d (.bool x1)), (V.d (slD (encI .u8) true 1 x2 x3))]] x4), (Blk.flat 33 9 [([(.int .i64 0)] ++ arrD .i64 x0 8)] false), (Blk.flat 5 1 (List.map (encI .u8) (crc_Open_o_r0_2 x2 x3)) false), (Blk.flat 33 9 [[(.int .i64 (word_Get2_o_r0_0 (sub (crc_Open_o_r0_2 x2 x3) 2 4))), (.int .i64 0), (.int .i64 0), (.int .i64 0), (.int .i64 0), (.int .i64 0), (.int .i64 0), (.int .i64 0), (.int .i64 0)]] false)]) (enc := (encI .u8)) (l := (crc_Open_o_r0_2 x2 x3)) (id := 2) (e := 5) (s := 1) (n := ((crc_Open_o_r0_2 x2 x3).length)) (p := false) (some (.i64, 4)) none (by kernel_rfl) (tbE h6) (tbE h7)), .y (mm := [(Blk.gen 39 2 [[(V.d (.bool x1)), (V.d (slD (encI .u8) true 1 x2 x3))]] x4), (Blk.flat 33 9 [([(.int .i64 0)] ++ arrD .i64 x0 8)] false), (Blk.flat 5 1 (List.map (encI .u8) (crc_Open_o_r0_2 x2 x3)) false), (Blk.flat 33 9 [[(.int .i64 (word_Get2_o_r0_0 (sub (crc_Open_o_r0_2 x2 x3) 2 4))), (.int .i64 0), (.int .i64 0), (.int .i64 0), (.int .i64 0), (.int .i64 0), (.int .i64 0), (.int .i64 0), (.int .i64 0)]] false)]) (args := [(V.sl 2 ((crc_Open_o_r0_2 x2 x3).length) (4 : Int).toNat ((((((crc_Open_o_r0_2 x2 x3).length) : Nat) : Int) : Int).toNat - (4 : Int).toNat))]) (args1 := [(V.d (.rs true 1 (List.map (encI .u8) (sub (crc_Open_o_r0_2 x2 x3) 4 ((((crc_Open_o_r0_2 x2 x3).length) : Nat) : Int))) false))]) (byvals_cons (byval_sp (enc := (encI .u8)) (l := (crc_Open_o_r0_2 x2 x3)) (e := 5) (s := 1) (p := false) (n := ((crc_Open_o_r0_2 x2 x3).length)) (lo := 4) (hi := ((((crc_Open_o_r0_2 x2 x3).length) : Nat) : Int)) (Nat.beq_refl _) (by kernel_rfl) (tbE h6)) (by kernel_rfl)), .c (word_GetAll_o_t0 false (frame_Decode_iabo_S1_e0 x2 x3) (tbE h8)), .m 61 (o_arrP (m := [(Blk.gen 39 2 [[(V.d (.bool x1)), (V.d (slD (encI .u8) true 1 x2 x3))]] x4), (Blk.flat 33 9 [([(.int .i64 0)] ++ arrD .i64 x0 8)] false), (Blk.flat 5 1 (List.map (encI .u8) (crc_Open_o_r0_2 x2 x3)) false), (Blk.flat 33 9 [[(.int .i64 (word_Get2_o_r0_0 (sub (crc_Open_o_r0_2 x2 x3) 2 4))), (.int .i64 0), (.int .i64 0), (.int .i64 0), (.int .i64 0), (.int .i64 0), (.int .i64 0), (.int .i64 0), (.int .i64 0)]] false), (Blk.flat 3 1 (List.map (encI .i64) (word_GetAll_o_r0_2 false (frame_Decode_iabo_S1_e0 x2 x3))) false)]) (nl := (word_GetAll_o_r0_0 false (frame_Decode_iabo_S1_e0 x2 x3))) (id := 4) (n := ((word_GetAll_o_r0_2 false (frame_Decode_iabo_S1_e0 x2 x3)).length)) (k := 8) (s := 1) (tbE h9) (by kernel_rfl) (tbE h10)), .m 62 (o_load_pa (m := [(Blk.gen 39 2 [[(V.d (.bool x1)), (V.d (slD (encI .u8) true 1 x2 x3))]] x4), (Blk.flat 33 9 [([(.int .i64 0)] ++ arrD .i64 x0 8)] false), (Blk.flat 5 1 (List.map (encI .u8) (crc_Open_o_r0_2 x2 x3)) false), (Blk.flat 33 9 [[(.int .i64 (word_Get2_o_r0_0 (sub (crc_Open_o_r0_2 x2 x3) 2 4))), (.int .i64 0), (.int .i64 0), (.int .i64 0), (.int .i64 0), (.int .i64 0), (.int .i64 0), (.int .i64 0), (.int .i64 0)]] false), (Blk.flat 3 1 (List.map (encI .i64) (word_GetAll_o_r0_2 false (frame_Decode_iabo_S1_e0 x2 x3))) false)]) (kd := .i64) (l := (word_GetAll_o_r0_2 false (frame_Decode_iabo_S1_e0 x2 x3))) (id := 4) (n := ((word_GetAll_o_r0_2 false (frame_Decode_iabo_S1_e0 x2 x3)).length)) (k := 8) (e := 3) (p := false) (Nat.beq_refl _) (by kernel_rfl) (tbE h10))] (by kernel_rfl)
                  · intro g0
                    exact absurd g0 ft
theorem frame_Decode_iabo_S1_t1 (x0 : List Int) (x1 : Bool) (x2 : Bool) (x3 : List Int) (x4 : Bool) : frame_Decode_iabo_S1_c0 x2 x3 = false → frame_Decode_iabo_S1_c1 x2 x3 = true → segG (runC E0 (cl E0) S56_1) [3, 4] [4, 5] [4, 5] 2 ([(V.ptr 0 1 0 0), (V.ptr 1 1 0 0)], [(Blk.gen 39 2 [[(V.d (.bool x1)), (V.d (slD (encI .u8) true 1 x2 x3))]] x4), (Blk.flat 33 9 [([(.int .i64 0)] ++ arrD .i64 x0 8)] false)]) = some (.ret, ([(V.ptr 1 1 0 0), (V.d (.int .i64 5))], [(Blk.gen 39 2 [[(V.d (.bool x1)), (V.d (slD (encI .u8) true 1 x2 x3))]] x4), (Blk.flat 33 9 [([(.int .i64 0)] ++ arrD .i64 [0, 0, 0, 0, 0, 0, 0, 0] 8)] false)])) := by
  unfold frame_Decode_iabo_S1_c0 frame_Decode_iabo_S1_c1
  cases h1 : tb (crc_Open_o_c0 x2 x3)
  · intro g0 g1
    exact absurd g1 ft
  · cases h2 : tb (crc_Open_o_r0_1 x2 x3)
    · intro g0 g1
      exact seg_walk [.c (crc_Open_o_t0 x2 x3 (tbE h1)), .b (notF (tbE h2))] (by kernel_rfl)
    · cases h3 : tb (ins ((crc_Open_o_r0_2 x2 x3).length) 2 4)
      · intro g0 g1
        exact absurd g1 ft
      · cases h4 : tb (decide (2 < 4))
        · cases h5 : tb (crc_Open_o_r0_0 x2 x3)
          · cases h6 : tb (ins ((crc_Open_o_r0_2 x2 x3).length) 4 ((((crc_Open_o_r0_2 x2 x3).length) : Nat) : Int))
            · intro g0 g1
              exact absurd g1 ft
            · cases h7 : tb (decide (4 < ((((crc_Open_o_r0_2 x2 x3).length) : Nat) : Int)))
              · cases h8 : tb (word_GetAll_z_c0)
                · intro g0 g1
                  exact absurd g1 ft
                · intro g0 g1
                  exact absurd g1 ft
              · cases h8 : tb (word_GetAll_o_c0 false (frame_Decode_iabo_S1_e0 x2 x3))
                · intro g0 g1
                  exact absurd g1 ft
                · cases h9 : tb (word_GetAll_o_r0_0 false (frame_Decode_iabo_S1_e0 x2 x3))
                  · cases h10 : tb (Nat.ble 8 ((word_GetAll_o_r0_2 false (frame_Decode_iabo_S1_e0 x2 x3)).length))
                    · intro g0 g1
                      exact absurd g1 ft
                    · intro g0 g1
                      exact absurd g0 tf
                  · intro g0 g1
                    exact absurd g1 ft
          · intro g0 g1
            exact absurd g1 ft
        · cases h5 : tb (word_Get2_o_c0 (sub (crc_Open_o_r0_2 x2 x3) 2 4))
          · intro g0 g1
            exact absurd g1 ft
          · cases h6 : tb (ins ((crc_Open_o_r0_2 x2 x3).length) 4 ((((crc_Open_o_r0_2 x2 x3).length) : Nat) : Int))
            · intro g0 g1
              exact absurd g1 ft
            · cases h7 : tb (decide (4 < ((((crc_Open_o_r0_2 x2 x3).length) : Nat) : Int)))
              · cases h8 : tb (crc_Open_o_r0_0 x2 x3)
                · cases h9 : tb (word_GetAll_z_c0)
                  · intro g0 g1
                    exact absurd g1 ft
                  · intro g0 g1
                    exact absurd g1 ft
                · intro g0 g1
                  exact absurd g1 ft
              · cases h8 : tb (word_GetAll_o_c0 false (frame_Decode_iabo_S1_e0 x2 x3))
                · intro g0 g1
                  exact absurd g1 ft
                · cases h9 : tb (word_GetAll_o_r0_0 false (frame_Decode_iabo_S1_e0 x2 x3))
                  · cases h10 : tb (Nat.ble 8 ((word_GetAll_o_r0_2 false (frame_Decode_iabo_S1_e0 x2 x3)).length))
                    · intro g0 g1
                      exact absurd g1 ft
                    · intro g0 g1
                      exact absurd g0 tf
                  · intro g0 g1
                    exact absurd g1 ft
def frame_Decode_iabo_c0 (x0 : Int) (x1 : Bool) (x2 : Bool) (x3 : List Int) : Bool := (bif tb (frame_Decode_iabo_S0_c0 x1 x3 x0) then true else (bif tb (frame_Decode_iabo_S0_c1 x1 x3 x0) then (bif tb (frame_Decode_iabo_S1_c0 x2 x3) then true else (bif tb (frame_Decode_iabo_S1_c1 x2 x3) then true else false)) else false))
def frame_Decode_iabo_r0_0 (x0 : Int) (x1 : Bool) (x2 : Bool) (x3 : List Int) : Int := (bif tb (frame_Decode_iabo_S0_c0 x1 x3 x0) then 0 else (bif tb (frame_Decode_iabo_S1_c0 x2 x3) then (frame_Decode_iabo_S1_r0_5 x2 x3) else 0))
def frame_Decode_iabo_r0_1 (x0 : Int) (x1 : Bool) (x2 : Bool) (x3 : List Int) : List Int := (bif tb (frame_Decode_iabo_S0_c0 x1 x3 x0) then [0, 0, 0, 0, 0, 0, 0, 0] else (bif tb (frame_Decode_iabo_S1_c0 x2 x3) then (word_GetAll_o_r0_2 false (frame_Decode_iabo_S1_e0 x2 x3)) else [0, 0, 0, 0, 0, 0, 0, 0]))
def frame_Decode_iabo_r0_2 (x0 : Int) (x1 : Bool) (x2 : Bool) (x3 : List Int) : Int := (bif tb (frame_Decode_iabo_S0_c0 x1 x3 x0) then (frame_Decode_iabo_S0_r0_0 x1 x3) else (bif tb (frame_Decode_iabo_S1_c0 x2 x3) then 0 else 5))
theorem frame_Decode_iabo_t0 (x0 : Int) (x1 : Bool) (x2 : Bool) (x3 : List Int) : frame_Decode_iabo_c0 x0 x1 x2 x3 = true → cl E0 56 [(V.d (.int .i64 x0)), (V.agg [(V.d (.bool x1)), (V.d (slD (encI .u8) true 1 x2 x3))])] [] = some ([(V.agg [(V.d (.int .i64 (frame_Decode_iabo_r0_0 x0 x1 x2 x3))), (V.d (.int .i64 (gt (frame_Decode_iabo_r0_1 x0 x1 x2 x3) 0))), (V.d (.int .i64 (gt (frame_Decode_iabo_r0_1 x0 x1 x2 x3) 1))), (V.d (.int .i64 (gt (frame_Decode_iabo_r0_1 x0 x1 x2 x3) 2))), (V.d (.int .i64 (gt (frame_Decode_iabo_r0_1 x0 x1 x2 x3) 3))), (V.d (.int .i64 (gt (frame_Decode_iabo_r0_1 x0 x1 x2 x3) 4))), (V.d (.int .i64 (gt (frame_Decode_iabo_r0_1 x0 x1 x2 x3) 5))), (V.d (.int .i64 (gt (frame_Decode_iabo_r0_1 x0 x1 x2 x3) 6))), (V.d (.int .i64 (gt (frame_Decode_iabo_r0_1 x0 x1 x2 x3) 7)))]), (V.d (.int .i64 (frame_Decode_iabo_r0_2 x0 x1 x2 x3)))], []) := by
  unfold frame_Decode_iabo_c0 frame_Decode_iabo_r0_0 frame_Decode_iabo_r0_1 frame_Decode_iabo_r0_2
  cases h1 : tb (frame_Decode_iabo_S0_c0 x1 x3 x0)
  · cases h2 : tb (frame_Decode_iabo_S0_c1 x1 x3 x0)
    · intro g0
      exact absurd g0 ft
    · cases h3 : tb (frame_Decode_iabo_S1_c0 x2 x3)
      · cases h4 : tb (frame_Decode_iabo_S1_c1 x2 x3)
        · intro g0
          exact absurd g0 ft
        · intro g0
          exact w56 [.s (frame_Decode_iabo_S0_t1 [0, 0, 0, 0, 0, 0, 0, 0] x1 x2 x3 false x0 (tbE h1) (tbE h2)), .s (frame_Decode_iabo_S1_t1 [0, 0, 0, 0, 0, 0, 0, 0] x1 x2 x3 false (tbE h3) (tbE h4))] (by kernel_rfl)
      · intro g0
        exact w56 [.s (frame_Decode_iabo_S0_t1 [0, 0, 0, 0, 0, 0, 0, 0] x1 x2 x3 false x0 (tbE h1) (tbE h2)), .s (frame_Decode_iabo_S1_t0 [0, 0, 0, 0, 0, 0, 0, 0] x1 x2 x3 false (tbE h3))] (by kernel_rfl)
  · intro g0
    exact w56 [.s (frame_Decode_iabo_S0_t0 [0, 0, 0, 0, 0, 0, 0, 0] x1 x2 x3 false x0 (tbE h1))] (by kernel_rfl)
structure slices_IndexFunc_int_o_frame_Right_c1_L0_s0 where
  c3 : Int
  deriving Inhabited
end Go.Proofs.Ytkipngagfiaddaa.Den

namespace Go.Proofs.Ytkipngagfiaddaa.Den
open Go Go.Proofs
set_option maxRecDepth 100000
set_option maxHeartbeats 4000000
set_option linter.unusedVariables false
set_option linter.unusedSimpArgs false
def ref05_Decode_iabo_S0_c0 (x2 : Bool) : Bool := (bif tb (x2) then true else false)
theorem ref05_Decode_iabo_S0_t0 (x0 : List Int) (x1 : List Int) (x2 : Bool) (x3 : Bool) (x4 : List Int) (x5 : Bool) (x7 : Bool) (x8 : Int) : ref05_Decode_iabo_S0_c0 x2 = true → segG (runC E0 (cl E0) S28_0) [0, 3, 4, 6] [4, 5] [0, 3, 4, 6] 3 ([(V.d (.int .i64 x8)), (V.ptr 0 1 0 0), (V.ptr 1 1 0 0), (V.ptr 2 1 0 0)], [(Blk.gen 39 2 [[(V.d (.bool x2)), (V.d (slD (encI .u8) true 1 x3 x4))]] x5), (Blk.flat 33 9 [([(.int .i64 0)] ++ arrD .i64 x0 8)] false), (Blk.flat 33 9 [([(.int .i64 0)] ++ arrD .i64 x1 8)] x7)]) = some (.normal, ([(V.d (.int .i64 x8)), (V.ptr 0 1 0 0), (V.ptr 1 1 0 0), (V.ptr 2 1 0 0)], [(Blk.gen 39 2 [[(V.d (.bool x2)), (V.d (slD (encI .u8) true 1 x3 x4))]] x5), (Blk.flat 33 9 [([(.int .i64 0)] ++ arrD .i64 x0 8)] false), (Blk.flat 33 9 [([(.int .i64 0)] ++ arrD .i64 x1 8)] x7)])) := by
  unfold ref05_Decode_iabo_S0_c0
  cases h1 : tb (x2)
  · intro g0
    exact absurd g0 ft
  · intro g0
    exact seg_walk [.b (notT (tbE h1))] (by kernel_rfl)
theorem ref05_Decode_iabo_S0_t1 (x0 : List Int) (x1 : List Int) (x2 : Bool) (x3 : Bool) (x4 : List Int) (x5 : Bool) (x7 : Bool) (x8 : Int) : ref05_Decode_iabo_S0_c0 x2 = false → segG (runC E0 (cl E0) S28_0) [0, 3, 4, 6] [4, 5] [0, 3, 4, 6] 3 ([(V.d (.int .i64 x8)), (V.ptr 0 1 0 0), (V.ptr 1 1 0 0), (V.ptr 2 1 0 0)], [(Blk.gen 39 2 [[(V.d (.bool x2)), (V.d (slD (encI .u8) true 1 x3 x4))]] x5), (Blk.flat 33 9 [([(.int .i64 0)] ++ arrD .i64 x0 8)] false), (Blk.flat 33 9 [([(.int .i64 0)] ++ arrD .i64 x1 8)] x7)]) = some (.ret, ([(V.ptr 1 1 0 0), (V.d (.int .i64 1))], [(Blk.gen 39 2 [[(V.d (.bool x2)), (V.d (slD (encI .u8) true 1 x3 x4))]] x5), (Blk.flat 33 9 [([(.int .i64 0)] ++ arrD .i64 x1 8)] false), (Blk.flat 33 9 [([(.int .i64 0)] ++ arrD .i64 x1 8)] x7)])) := by
  unfold ref05_Decode_iabo_S0_c0
  cases h1 : tb (x2)
  · intro g0
    exact seg_walk [.b (notF (tbE h1))] (by kernel_rfl)
  · intro g0
    exact absurd g0 tf
def ref05_Decode_iabo_S1_c0 (x4 : List Int) : Bool := (bif tb ((((x4.length : Nat) : Int) : Int) != 38) then true else false)
theorem ref05_Decode_iabo_S1_t0 (x0 : List Int) (x1 : List Int) (x2 : Bool) (x3 : Bool) (x4 : List Int) (x5 : Bool) (x7 : Bool) (x8 : Int) : ref05_Decode_iabo_S1_c0 x4 = true → segG (runC E0 (cl E0) S28_1) [0, 3, 4, 6] [4, 5] [0, 3, 4, 6] 3 ([(V.d (.int .i64 x8)), (V.ptr 0 1 0 0), (V.ptr 1 1 0 0), (V.ptr 2 1 0 0)], [(Blk.gen 39 2 [[(V.d (.bool x2)), (V.d (slD (encI .u8) true 1 x3 x4))]] x5), (Blk.flat 33 9 [([(.int .i64 0)] ++ arrD .i64 x0 8)] false), (Blk.flat 33 9 [([(.int .i64 0)] ++ arrD .i64 x1 8)] x7)]) = some (.ret, ([(V.ptr 1 1 0 0), (V.d (.int .i64 2))], [(Blk.gen 39 2 [[(V.d (.bool x2)), (V.d (slD (encI .u8) true 1 x3 x4))]] x5), (Blk.flat 33 9 [([(.int .i64 0)] ++ arrD .i64 x1 8)] false), (Blk.flat 33 9 [([(.int .i64 0)] ++ arrD .i64 x1 8)] x7)])) := by
  unfold ref05_Decode_iabo_S1_c0
  cases h1 : tb ((((x4.length : Nat) : Int) : Int) != 38)
  · intro g0
    exact absurd g0 ft
  · intro g0
    exact seg_walk [.o 20 (fun _ => o_len_os (enc := (encI .u8)) (l := x4) (fl := true) (n := x3) (s := 1)), .b (tbE h1)] (by kernel_rfl)
theorem ref05_Decode_iabo_S1_t1 (x0 : List Int) (x1 : List Int) (x2 : Bool) (x3 : Bool) (x4 : List Int) (x5 : Bool) (x7 : Bool) (x8 : Int) : ref05_Decode_iabo_S1_c0 x4 = false → segG (runC E0 (cl E0) S28_1) [0, 3, 4, 6] [4, 5] [0, 3, 4, 6] 3 ([(V.d (.int .i64 x8)), (V.ptr 0 1 0 0), (V.ptr 1 1 0 0), (V.ptr 2 1 0 0)], [(Blk.gen 39 2 [[(V.d (.bool x2)), (V.d (slD (encI .u8) true 1 x3 x4))]] x5), (Blk.flat 33 9 [([(.int .i64 0)] ++ arrD .i64 x0 8)] false), (Blk.flat 33 9 [([(.int .i64 0)] ++ arrD .i64 x1 8)] x7)]) = some (.normal, ([(V.d (.int .i64 x8)), (V.ptr 0 1 0 0), (V.ptr 1 1 0 0), (V.ptr 2 1 0 0)], [(Blk.gen 39 2 [[(V.d (.bool x2)), (V.d (slD (encI .u8) true 1 x3 x4))]] x5), (Blk.flat 33 9 [([(.int .i64 0)] ++ arrD .i64 x0 8)] false), (Blk.flat 33 9 [([(.int .i64 0)] ++ arrD .i64 x1 8)] x7)])) := by
  unfold ref05_Decode_iabo_S1_c0
  cases h1 : tb ((((x4.length : Nat) : Int) : Int) != 38)
  · intro g0
    exact seg_walk [.o 20 (fun _ => o_len_os (enc := (encI .u8)) (l := x4) (fl := true) (n := x3) (s := 1)), .b (tbE h1)] (by kernel_rfl)
  · intro g0
    exact absurd g0 tf
def ref05_Decode_iabo_S2_c0 (x4 : List Int) : Bool := (bif tb (inb x4.length 0) then (bif tb (((gt x4 0) : Int) != 165) then true else false) else false)
def ref05_Decode_iabo_S2_c1 (x4 : List Int) : Bool := (bif tb (inb x4.length 0) then (bif tb (((gt x4 0) : Int) != 165) then false else true) else false)
theorem ref05_Decode_iabo_S2_t0 (x0 : List Int) (x1 : List Int) (x2 : Bool) (x3 : Bool) (x4 : List Int) (x5 : Bool) (x7 : Bool) (x8 : Int) : ref05_Decode_iabo_S2_c0 x4 = true → segG (runC E0 (cl E0) S28_2) [0, 3, 4, 6] [4, 5] [0, 3, 4, 6] 3 ([(V.d (.int .i64 x8)), (V.ptr 0 1 0 0), (V.ptr 1 1 0 0), (V.ptr 2 1 0 0)], [(Blk.gen 39 2 [[(V.d (.bool x2)), (V.d (slD (encI .u8) true 1 x3 x4))]] x5), (Blk.flat 33 9 [([(.int .i64 0)] ++ arrD .i64 x0 8)] false), (Blk.flat 33 9 [([(.int .i64 0)] ++ arrD .i64 x1 8)] x7)]) = some (.ret, ([(V.ptr 1 1 0 0), (V.d (.int .i64 3))], [(Blk.gen 39 2 [[(V.d (.bool x2)), (V.d (slD (encI .u8) true 1 x3 x4))]] x5), (Blk.flat 33 9 [([(.int .i64 0)] ++ arrD .i64 x1 8)] false), (Blk.flat 33 9 [([(.int .i64 0)] ++ arrD .i64 x1 8)] x7)])) := by
  unfold ref05_Decode_iabo_S2_c0
  cases h1 : tb (inb x4.length 0)
  · intro g0
    exact absurd g0 ft
  · cases h2 : tb (((gt x4 0) : Int) != 165)
    · intro g0
      exact absurd g0 ft
    · intro g0
      exact seg_walk [.o 25 (fun _ => o_idx_os (enc := (encI .u8)) (l := x4) (fl := true) (n := x3) (s := 1) (k := .i64) (tbE h1)), .b (tbE h2)] (by kernel_rfl)
theorem ref05_Decode_iabo_S2_t1 (x0 : List Int) (x1 : List Int) (x2 : Bool) (x3 : Bool) (x4 : List Int) (x5 : Bool) (x7 : Bool) (x8 : Int) : ref05_Decode_iabo_S2_c0 x4 = false → ref05_Decode_iabo_S2_c1 x4 = true → segG (runC E0 (cl E0) S28_2) [0, 3, 4, 6] [4, 5] [0, 3, 4, 6] 3 ([(V.d (.int .i64 x8)), (V.ptr 0 1 0 0), (V.ptr 1 1 0 0), (V.ptr 2 1 0 0)], [(Blk.gen 39 2 [[(V.d (.bool x2)), (V.d (slD (encI .u8) true 1 x3 x4))]] x5), (Blk.flat 33 9 [([(.int .i64 0)] ++ arrD .i64 x0 8)] false), (Blk.flat 33 9 [([(.int .i64 0)] ++ arrD .i64 x1 8)] x7)]) = some (.normal, ([(V.d (.int .i64 x8)), (V.ptr 0 1 0 0), (V.ptr 1 1 0 0), (V.ptr 2 1 0 0)], [(Blk.gen 39 2 [[(V.d (.bool x2)), (V.d (slD (encI .u8) true 1 x3 x4))]] x5), (Blk.flat 33 9 [([(.int .i64 0)] ++ arrD .i64 x0 8)] false), (Blk.flat 33 9 [([(.int .i64 0)] ++ arrD .i64 x1 8)] x7)])) := by
  unfold ref05_Decode_iabo_S2_c0 ref05_Decode_iabo_S2_c1
  cases h1 : tb (inb x4.length 0)
  · intro g0 g1
    exact absurd g1 ft
  · cases h2 : tb (((gt x4 0) : Int) != 165)
    · intro g0 g1
      exact seg_walk [.o 25 (fun _ => o_idx_os (enc := (encI .u8)) (l := x4) (fl := true) (n := x3) (s := 1) (k := .i64) (tbE h1)), .b (tbE h2)] (by kernel_rfl)
    · intro g0 g1
      exact absurd g0 tf
def ref05_Decode_iabo_S3_c0 (x4 : List Int) (x8 : Int) : Bool := (bif tb (inb x4.length 1) then (bif tb (((wi (gt x4 1)) : Int) != x8) then true else false) else false)
def ref05_Decode_iabo_S3_c1 (x4 : List Int) (x8 : Int) : Bool := (bif tb (inb x4.length 1) then (bif tb (((wi (gt x4 1)) : Int) != x8) then false else true) else false)
theorem ref05_Decode_iabo_S3_t0 (x0 : List Int) (x1 : List Int) (x2 : Bool) (x3 : Bool) (x4 : List Int) (x5 : Bool) (x7 : Bool) (x8 : Int) : ref05_Decode_iabo_S3_c0 x4 x8 = true → segG (runC E0 (cl E0) S28_3) [0, 3, 4, 6] [4, 5] [3, 4, 6] 3 ([(V.d (.int .i64 x8)), (V.ptr 0 1 0 0), (V.ptr 1 1 0 0), (V.ptr 2 1 0 0)], [(Blk.gen 39 2 [[(V.d (.bool x2)), (V.d (slD (encI .u8) true 1 x3 x4))]] x5), (Blk.flat 33 9 [([(.int .i64 0)] ++ arrD .i64 x0 8)] false), (Blk.flat 33 9 [([(.int .i64 0)] ++ arrD .i64 x1 8)] x7)]) = some (.ret, ([(V.ptr 1 1 0 0), (V.d (.int .i64 4))], [(Blk.gen 39 2 [[(V.d (.bool x2)), (V.d (slD (encI .u8) true 1 x3 x4))]] x5), (Blk.flat 33 9 [([(.int .i64 0)] ++ arrD .i64 x1 8)] false), (Blk.flat 33 9 [([(.int .i64 0)] ++ arrD .i64 x1 8)] x7)])) := by
  unfold ref05_Decode_iabo_S3_c0
  cases h1 : tb (inb x4.length 1)
  · intro g0
    exact absurd g0 ft
  · cases h2 : tb (((wi (gt x4 1)) : Int) != x8)
    · intro g0
      exact absurd g0 ft
    · intro g0
      exact seg_walk [.o 31 (fun _ => o_idx_os (enc := (encI .u8)) (l := x4) (fl := true) (n := x3) (s := 1) (k := .i64) (tbE h1)), .b (tbE h2)] (by kernel_rfl)
theorem ref05_Decode_iabo_S3_t1 (x0 : List Int) (x1 : List Int) (x2 : Bool) (x3 : Bool) (x4 : List Int) (x5 : Bool) (x7 : Bool) (x8 : Int) : ref05_Decode_iabo_S3_c0 x4 x8 = false → ref05_Decode_iabo_S3_c1 x4 x8 = true → segG (runC E0 (cl E0) S28_3) [0, 3, 4, 6] [4, 5] [3, 4, 6] 3 ([(V.d (.int .i64 x8)), (V.ptr 0 1 0 0), (V.ptr 1 1 0 0), (V.ptr 2 1 0 0)], [(Blk.gen 39 2 [[(V.d (.bool x2)), (V.d (slD (encI .u8) true 1 x3 x4))]] x5), (Blk.flat 33 9 [([(.int .i64 0)] ++ arrD .i64 x0 8)] false), (Blk.flat 33 9 [([(.int .i64 0)] ++ arrD .i64 x1 8)] x7)]) = some (.normal, ([(V.ptr 0 1 0 0), (V.ptr 1 1 0 0), (V.ptr 2 1 0 0)], [(Blk.gen 39 2 [[(V.d (.bool x2)), (V.d (slD (encI .u8) true 1 x3 x4))]] x5), (Blk.flat 33 9 [([(.int .i64 0)] ++ arrD .i64 x0 8)] false), (Blk.flat 33 9 [([(.int .i64 0)] ++ arrD .i64 x1 8)] x7)])) := by
  unfold ref05_Decode_iabo_S3_c0 ref05_Decode_iabo_S3_c1
  cases h1 : tb (inb x4.length 1)
  · intro g0 g1
    exact absurd g1 ft
  · cases h2 : tb (((wi (gt x4 1)) : Int) != x8)
    · intro g0 g1
      exact seg_walk [.o 31 (fun _ => o_idx_os (enc := (encI .u8)) (l := x4) (fl := true) (n := x3) (s := 1) (k := .i64) (tbE h1)), .b (tbE h2)] (by kernel_rfl)
    · intro g0 g1
      exact absurd g0 tf
structure ref05_Decode_iabo_L4_s0 where
  c1 : Int
  c10 : List Int
  deriving Inhabited
def ref05_Decode_iabo_L4_h0_e0 (x4 : List Int) (s0 : ref05_Decode_iabo_L4_s0) : List Int := (sub x4 (wi (4 + (wi (4 * s0.c1)))) (wi (8 + (wi (4 * s0.c1)))))
def ref05_Decode_iabo_L4_h0_e1 (x4 : List Int) (s0 : ref05_Decode_iabo_L4_s0) : List Int := sta s0.c10 8 s0.c1 (ref04_Get4_o_r0_0 (ref05_Decode_iabo_L4_h0_e0 x4 s0))
def ref05_Decode_iabo_L4_enc (x0 : Int) (x1 : List Int) (x2 : Int) (x3 : List Int) (x4 : List Int) (x5 : Bool) (x6 : Bool) (x7 : List Int) (x8 : Bool) (x9 : Bool) (x10 : Bool) (x11 : Bool) (x12 : Bool) (x13 : Int) (s0 : ref05_Decode_iabo_L4_s0) : List V × Mem := ([(V.ptr 1 1 0 0), (V.ptr 2 1 0 0), (V.so x12 3 x4.length), (V.d (.int .i64 s0.c1))], [(Blk.gen 39 2 [[(V.d (.bool x5)), (V.d (slD (encI .u8) true 1 x6 x7))]] x8), (Blk.flat 33 9 [([(.int .i64 x0)] ++ arrD .i64 x1 8)] x9), (Blk.flat 33 9 [([(.int .i64 x2)] ++ arrD .i64 s0.c10 8)] false), (Blk.flat 5 1 (List.map (encI .u8) x4) x11)])
def ref05_Decode_iabo_L4_sel (x4 : List Int) (x12 : Bool) (s0 : ref05_Decode_iabo_L4_s0) : Bool := (bif tb (decide (s0.c1 < 8)) then (bif tb (ins x4.length (wi (4 + (wi (4 * s0.c1)))) (wi (8 + (wi (4 * s0.c1))))) then (bif tb (decide ((wi (4 + (wi (4 * s0.c1)))) < (wi (8 + (wi (4 * s0.c1)))))) then (bif tb (ref04_Get4_o_c0 (ref05_Decode_iabo_L4_h0_e0 x4 s0)) then (bif tb (inb 8 s0.c1) then true else false) else false) else (bif tb (x12) then false else (bif tb (inb 8 s0.c1) then true else false))) else false) else false)
def ref05_Decode_iabo_L4_nx (x4 : List Int) (x12 : Bool) (s0 : ref05_Decode_iabo_L4_s0) : ref05_Decode_iabo_L4_s0 := ⟨(wi (s0.c1 + 1)), (bif tb (decide ((wi (4 + (wi (4 * s0.c1)))) < (wi (8 + (wi (4 * s0.c1)))))) then (ref05_Decode_iabo_L4_h0_e1 x4 s0) else (sta s0.c10 8 s0.c1 0))⟩
def ref05_Decode_iabo_L4_ok (x4 : List Int) (x12 : Bool) (s0 : ref05_Decode_iabo_L4_s0) : Bool := (itS (ref05_Decode_iabo_L4_sel x4 x12) (ref05_Decode_iabo_L4_nx x4 x12) bound s0).isSome
def ref05_Decode_iabo_L4_end (x4 : List Int) (x12 : Bool) (s0 : ref05_Decode_iabo_L4_s0) : ref05_Decode_iabo_L4_s0 := (itS (ref05_Decode_iabo_L4_sel x4 x12) (ref05_Decode_iabo_L4_nx x4 x12) bound s0).getD default
theorem ref05_Decode_iabo_L4_go (x0 : Int) (x1 : List Int) (x2 : Int) (x3 : List Int) (x4 : List Int) (x5 : Bool) (x6 : Bool) (x7 : List Int) (x8 : Bool) (x9 : Bool) (x10 : Bool) (x11 : Bool) (x12 : Bool) (x13 : Int) (s0 : ref05_Decode_iabo_L4_s0) : ref05_Decode_iabo_L4_sel x4 x12 s0 = true → (roundG (runC E0 (cl E0) L28_4) [4, 6, 7, 11] [4, 6] 4) (ref05_Decode_iabo_L4_enc x0 x1 x2 x3 x4 x5 x6 x7 x8 x9 x10 x11 x12 x13 s0) = some (.normal, ref05_Decode_iabo_L4_enc x0 x1 x2 x3 x4 x5 x6 x7 x8 x9 x10 x11 x12 x13 (ref05_Decode_iabo_L4_nx x4 x12 s0)) := by
  unfold ref05_Decode_iabo_L4_sel ref05_Decode_iabo_L4_nx
  cases h1 : tb (decide (s0.c1 < 8))
  · intro g0
    exact absurd g0 ft
  · cases h2 : tb (ins x4.length (wi (4 + (wi (4 * s0.c1)))) (wi (8 + (wi (4 * s0.c1)))))
    · intro g0
      exact absurd g0 ft
    · cases h3 : tb (decide ((wi (4 + (wi (4 * s0.c1)))) < (wi (8 + (wi (4 * s0.c1))))))
      · cases h4 : tb (x12)
        · cases h5 : tb (inb 8 s0.c1)
          · intro g0
            exact absurd g0 ft
          · intro _
            exact round_walk [.b (tbE h1), .m 66 (o_slice_sp0 (m := [(Blk.gen 39 2 [[(V.d (.bool x5)), (V.d (slD (encI .u8) true 1 x6 x7))]] x8), (Blk.flat 33 9 [([(.int .i64 x0)] ++ arrD .i64 x1 8)] x9), (Blk.flat 33 9 [([(.int .i64 x2)] ++ arrD .i64 s0.c10 8)] false), (Blk.flat 5 1 (List.map (encI .u8) x4) x11)]) (enc := (encI .u8)) (l := x4) (id := 3) (e := 5) (s := 1) (n := x4.length) (p := x11) (some (.i64, (wi (4 + (wi (4 * s0.c1)))))) (some (.i64, (wi (8 + (wi (4 * s0.c1)))))) (deSo_f (tbE h4)) (Nat.beq_refl _) (by kernel_rfl) (tbE h2) (tbE h3)), .c (ref04_Get4_z_t0), .o 73 (fun _ => o_idxAA (id := 2) (nn := 1) (row := 0) (off := 1) (n := 8) (s := 1) (k := .i64) (i := s0.c1) (tbE h5)), .m 100073 (o_store_arr (m := [(Blk.gen 39 2 [[(V.d (.bool x5)), (V.d (slD (encI .u8) true 1 x6 x7))]] x8), (Blk.flat 33 9 [([(.int .i64 x0)] ++ arrD .i64 x1 8)] x9), (Blk.flat 33 9 [([(.int .i64 x2)] ++ arrD .i64 s0.c10 8)] false), (Blk.flat 5 1 (List.map (encI .u8) x4) x11)]) (id := 2) (nn := 1) (row := 0) (off := 1) (n := 8) (s := 9) (e := 33) (rows := [([(.int .i64 x2)] ++ arrD .i64 s0.c10 8)]) (cs := ([(.int .i64 x2)] ++ arrD .i64 s0.c10 8)) (k := .i64) (T := s0.c10) (i := s0.c1) (v := 0) (by kernel_rfl) (by kernel_rfl) (by kernel_rfl) (by kernel_rfl) (tbE h5))] (by kernel_rfl)
        · intro g0
          exact absurd g0 ft
      · cases h4 : tb (ref04_Get4_o_c0 (ref05_Decode_iabo_L4_h0_e0 x4 s0))
        · intro g0
          exact absurd g0 ft
        · cases h5 : tb (inb 8 s0.c1)
          · intro g0
            exact absurd g0 ft
          · intro _
            exact round_walk [.b (tbE h1), .m 66 (o_slice_spo (nl := x12) (m := [(Blk.gen 39 2 [[(V.d (.bool x5)), (V.d (slD (encI .u8) true 1 x6 x7))]] x8), (Blk.flat 33 9 [([(.int .i64 x0)] ++ arrD .i64 x1 8)] x9), (Blk.flat 33 9 [([(.int .i64 x2)] ++ arrD .i64 s0.c10 8)] false), (Blk.flat 5 1 (List.map (encI .u8) x4) x11)]) (enc := (encI .u8)) (l := x4) (id := 3) (e := 5) (s := 1) (n := x4.length) (p := x11) (some (.i64, (wi (4 + (wi (4 * s0.c1)))))) (some (.i64, (wi (8 + (wi (4 * s0.c1)))))) (by kernel_rfl) (tbE h2) (tbE h3)), .y (mm := [(Blk.gen 39 2 [[(V.d (.bool x5)), (V.d (slD (encI .u8) true 1 x6 x7))]] x8), (Blk.flat 33 9 [([(.int .i64 x0)] ++ arrD .i64 x1 8)] x9), (Blk.flat 33 9 [([(.int .i64 x2)] ++ arrD .i64 s0.c10 8)] false), (Blk.flat 5 1 (List.map (encI .u8) x4) x11)]) (args := [(V.sl 3 x4.length ((wi (4 + (wi (4 * s0.c1)))) : Int).toNat (((wi (8 + (wi (4 * s0.c1)))) : Int).toNat - ((wi (4 + (wi (4 * s0.c1)))) : Int).toNat))]) (args1 := [(V.d (.rs true 1 (List.map (encI .u8) (sub x4 (wi (4 + (wi (4 * s0.c1)))) (wi (8 + (wi (4 * s0.c1)))))) false))]) (byvals_cons (byval_sp (enc := (encI .u8)) (l := x4) (e := 5) (s := 1) (p := x11) (n := x4.length) (lo := (wi (4 + (wi (4 * s0.c1))))) (hi := (wi (8 + (wi (4 * s0.c1))))) (Nat.beq_refl _) (by kernel_rfl) (tbE h2)) (by kernel_rfl)), .c (ref04_Get4_o_t0 false (ref05_Decode_iabo_L4_h0_e0 x4 s0) (tbE h4)), .o 73 (fun _ => o_idxAA (id := 2) (nn := 1) (row := 0) (off := 1) (n := 8) (s := 1) (k := .i64) (i := s0.c1) (tbE h5)), .m 100073 (o_store_arr (m := [(Blk.gen 39 2 [[(V.d (.bool x5)), (V.d (slD (encI .u8) true 1 x6 x7))]] x8), (Blk.flat 33 9 [([(.int .i64 x0)] ++ arrD .i64 x1 8)] x9), (Blk.flat 33 9 [([(.int .i64 x2)] ++ arrD .i64 s0.c10 8)] false), (Blk.flat 5 1 (List.map (encI .u8) x4) x11)]) (id := 2) (nn := 1) (row := 0) (off := 1) (n := 8) (s := 9) (e := 33) (rows := [([(.int .i64 x2)] ++ arrD .i64 s0.c10 8)]) (cs := ([(.int .i64 x2)] ++ arrD .i64 s0.c10 8)) (k := .i64) (T := s0.c10) (i := s0.c1) (v := (ref04_Get4_o_r0_0 (ref05_Decode_iabo_L4_h0_e0 x4 s0))) (by kernel_rfl) (by kernel_rfl) (by kernel_rfl) (by kernel_rfl) (tbE h5))] (by kernel_rfl)
def ref05_Decode_iabo_L4_c0 (s0 : ref05_Decode_iabo_L4_s0) : Bool := (bif tb (decide (s0.c1 < 8)) then false else true)
theorem ref05_Decode_iabo_L4_x0 (x0 : Int) (x1 : List Int) (x2 : Int) (x3 : List Int) (x4 : List Int) (x5 : Bool) (x6 : Bool) (x7 : List Int) (x8 : Bool) (x9 : Bool) (x10 : Bool) (x11 : Bool) (x12 : Bool) (x13 : Int) (s0 : ref05_Decode_iabo_L4_s0) : ref05_Decode_iabo_L4_sel x4 x12 s0 = false → ref05_Decode_iabo_L4_c0 s0 = true → (roundG (runC E0 (cl E0) L28_4) [4, 6, 7, 11] [4, 6] 4) (ref05_Decode_iabo_L4_enc x0 x1 x2 x3 x4 x5 x6 x7 x8 x9 x10 x11 x12 x13 s0) = some ((.exit 0), ([(V.ptr 1 1 0 0), (V.ptr 2 1 0 0)], [(Blk.gen 39 2 [[(V.d (.bool x5)), (V.d (slD (encI .u8) true 1 x6 x7))]] x8), (Blk.flat 33 9 [([(.int .i64 x0)] ++ arrD .i64 x1 8)] x9), (Blk.flat 33 9 [([(.int .i64 x2)] ++ arrD .i64 s0.c10 8)] false), (Blk.flat 5 1 (List.map (encI .u8) x4) x11)])) := by
  unfold ref05_Decode_iabo_L4_sel ref05_Decode_iabo_L4_c0
  cases h1 : tb (decide (s0.c1 < 8))
  · intro g0 g1
    exact round_walk [.b (tbE h1)] (by kernel_rfl)
  · cases h2 : tb (ins x4.length (wi (4 + (wi (4 * s0.c1)))) (wi (8 + (wi (4 * s0.c1)))))
    · intro g0 g1
      exact absurd g1 ft
    · cases h3 : tb (decide ((wi (4 + (wi (4 * s0.c1)))) < (wi (8 + (wi (4 * s0.c1))))))
      · cases h4 : tb (x12)
        · cases h5 : tb (inb 8 s0.c1)
          · intro g0 g1
            exact absurd g1 ft
          · intro g0 g1
            exact absurd g0 tf
        · intro g0 g1
          exact absurd g1 ft
      · cases h4 : tb (ref04_Get4_o_c0 (ref05_Decode_iabo_L4_h0_e0 x4 s0))
        · intro g0 g1
          exact absurd g1 ft
        · cases h5 : tb (inb 8 s0.c1)
          · intro g0 g1
            exact absurd g1 ft
          · intro g0 g1
            exact absurd g0 tf
theorem ref05_Decode_iabo_L4_f0_0 (x0 : Int) (x1 : List Int) (x2 : Int) (x3 : List Int) (x4 : List Int) (x5 : Bool) (x6 : Bool) (x7 : List Int) (x8 : Bool) (x9 : Bool) (x10 : Bool) (x11 : Bool) (x12 : Bool) (x13 : Int) (s : ref05_Decode_iabo_L4_s0) (hok : ref05_Decode_iabo_L4_ok x4 x12 s = true) (c0 : ref05_Decode_iabo_L4_c0 (ref05_Decode_iabo_L4_end x4 x12 s) = true) : loopG (roundG (runC E0 (cl E0) L28_4) [4, 6, 7, 11] [4, 6] 4) bound (ref05_Decode_iabo_L4_enc x0 x1 x2 x3 x4 x5 x6 x7 x8 x9 x10 x11 x12 x13 s) = some ((.exit 0), ([(V.ptr 1 1 0 0), (V.ptr 2 1 0 0)], [(Blk.gen 39 2 [[(V.d (.bool x5)), (V.d (slD (encI .u8) true 1 x6 x7))]] x8), (Blk.flat 33 9 [([(.int .i64 x0)] ++ arrD .i64 x1 8)] x9), (Blk.flat 33 9 [([(.int .i64 x2)] ++ arrD .i64 ((ref05_Decode_iabo_L4_end x4 x12 s).c10) 8)] false), (Blk.flat 5 1 (List.map (encI .u8) x4) x11)])) := by
  have e : itS (ref05_Decode_iabo_L4_sel x4 x12) (ref05_Decode_iabo_L4_nx x4 x12) bound s = some (ref05_Decode_iabo_L4_end x4 x12 s) := itS_get hok
  have f := itS_false e
  exact loop_it (ref05_Decode_iabo_L4_go x0 x1 x2 x3 x4 x5 x6 x7 x8 x9 x10 x11 x12 x13) bound s _ _ _ e (fun h => by cases h) (ref05_Decode_iabo_L4_x0 x0 x1 x2 x3 x4 x5 x6 x7 x8 x9 x10 x11 x12 x13 (ref05_Decode_iabo_L4_end x4 x12 s) f c0)
def ref05_Decode_iabo_S5_e0 (x1 : List Int) (x4 : List Int) : ref05_Decode_iabo_L4_s0 := ref05_Decode_iabo_L4_end (ref03_Open_o_r0_2 x4) (ref03_Open_o_r0_0 x4) (⟨0, x1⟩ : ref05_Decode_iabo_L4_s0)
def ref05_Decode_iabo_S5_c0 (x1 : List Int) (x4 : List Int) : Bool := (bif tb (ref03_Open_o_c0 x4) then (bif tb (ref03_Open_o_r0_1 x4) then (bif tb (ins ((ref03_Open_o_r0_2 x4).length) 2 4) then (bif tb (decide (2 < 4)) then (bif tb (ref04_Get2_o_c0 (sub (ref03_Open_o_r0_2 x4) 2 4)) then (bif tb (ref05_Decode_iabo_L4_ok (ref03_Open_o_r0_2 x4) (ref03_Open_o_r0_0 x4) (⟨0, x1⟩ : ref05_Decode_iabo_L4_s0)) then (bif tb (ref05_Decode_iabo_L4_c0 (ref05_Decode_iabo_S5_e0 x1 x4)) then true else false) else false) else false) else (bif tb (ref03_Open_o_r0_0 x4) then false else (bif tb (ref05_Decode_iabo_L4_ok (ref03_Open_o_r0_2 x4) (ref03_Open_o_r0_0 x4) (⟨0, x1⟩ : ref05_Decode_iabo_L4_s0)) then (bif tb (ref05_Decode_iabo_L4_c0 (ref05_Decode_iabo_S5_e0 x1 x4)) then true else false) else false))) else false) else false) else false)
def ref05_Decode_iabo_S5_r0_7 (x4 : List Int) : Int := (bif tb (decide (2 < 4)) then (ref04_Get2_o_r0_0 (sub (ref03_Open_o_r0_2 x4) 2 4)) else 0)
def ref05_Decode_iabo_S5_c1 (x4 : List Int) : Bool := (bif tb (ref03_Open_o_c0 x4) then (bif tb (ref03_Open_o_r0_1 x4) then false else true) else false)
theorem ref05_Decode_iabo_S5_t0 (x0 : List Int) (x1 : List Int) (x2 : Bool) (x3 : Bool) (x4 : List Int) (x5 : Bool) : ref05_Decode_iabo_S5_c0 x1 x4 = true → segG (runC E0 (cl E0) S28_5) [3, 4, 6] [4, 5] [4, 6] 3 ([(V.ptr 0 1 0 0), (V.ptr 1 1 0 0), (V.ptr 2 1 0 0)], [(Blk.gen 39 2 [[(V.d (.bool x2)), (V.d (slD (encI .u8) true 1 x3 x4))]] x5), (Blk.flat 33 9 [([(.int .i64 0)] ++ arrD .i64 x0 8)] false), (Blk.flat 33 9 [([(.int .i64 0)] ++ arrD .i64 x1 8)] false)]) = some (.normal, ([(V.ptr 1 1 0 0), (V.ptr 2 1 0 0)], [(Blk.gen 39 2 [[(V.d (.bool x2)), (V.d (slD (encI .u8) true 1 x3 x4))]] x5), (Blk.flat 33 9 [([(.int .i64 0)] ++ arrD .i64 x0 8)] false), (Blk.flat 33 9 [([(.int .i64 (ref05_Decode_iabo_S5_r0_7 x4))] ++ arrD .i64 ((ref05_Decode_iabo_S5_e0 x1 x4).c10) 8)] false)])) := by
  unfold ref05_Decode_iabo_S5_c0 ref05_Decode_iabo_S5_r0_7
  cases h1 : tb (ref03_Open_o_c0 x4)
  · intro g0
    exact absurd g0 ft
  · cases h2 : tb (ref03_Open_o_r0_1 x4)
    · intro g0
      exact absurd g0 ft
    · cases h3 : tb (ins ((ref03_Open_o_r0_2 x4).length) 2 4)
      · intro g0
        exact absurd g0 ft
      · cases h4 : tb (decide (2 < 4))
        · cases h5 : tb (ref03_Open_o_r0_0 x4)
          · cases h6 : tb (ref05_Decode_iabo_L4_ok (ref03_Open_o_r0_2 x4) (ref03_Open_o_r0_0 x4) (⟨0, x1⟩ : ref05_Decode_iabo_L4_s0))
            · intro g0
              exact absurd g0 ft
            · cases h7 : tb (ref05_Decode_iabo_L4_c0 (ref05_Decode_iabo_S5_e0 x1 x4))
              · intro g0
                exact absurd g0 ft
              · intro g0
                exact seg_walk [.c (ref03_Open_o_t0 x3 x4 (tbE h1)), .b (notT (tbE h2)), .m 48 (o_slice_sp0 (m := [(Blk.gen 39 2 [[(V.d (.bool x2)), (V.d (slD (encI .u8) true 1 x3 x4))]] x5), (Blk.flat 33 9 [([(.int .i64 0)] ++ arrD .i64 x0 8)] false), (Blk.flat 33 9 [([(.int .i64 0)] ++ arrD .i64 x1 8)] false), (Blk.flat 5 1 (List.map (encI .u8) (ref03_Open_o_r0_2 x4)) false)]) (enc := (encI .u8)) (l := (ref03_Open_o_r0_2 x4)) (id := 3) (e := 5) (s := 1) (n := ((ref03_Open_o_r0_2 x4).length)) (p := false) (some (.i64, 2)) (some (.i64, 4)) (deSo_f (tbE h5)) (Nat.beq_refl _) (by kernel_rfl) (tbE h3) (tbE h4)), .c (ref04_Get2_z_t0), .l (ref05_Decode_iabo_L4_f0_0 0 x0 0 x1 (ref03_Open_o_r0_2 x4) x2 x3 x4 x5 false false false (ref03_Open_o_r0_0 x4) 0 (⟨0, x1⟩ : ref05_Decode_iabo_L4_s0) (tbE h6) (tbE h7))] (by kernel_rfl)
          · intro g0
            exact absurd g0 ft
        · cases h5 : tb (ref04_Get2_o_c0 (sub (ref03_Open_o_r0_2 x4) 2 4))
          · intro g0
            exact absurd g0 ft
          · cases h6 : tb (ref05_Decode_iabo_L4_ok (ref03_Open_o_r0_2 x4) (ref03_Open_o_r0_0 x4) (⟨0, x1⟩ : ref05_Decode_iabo_L4_s0))
            · intro g0
              exact absurd g0 ft
            · cases h7 : tb (ref05_Decode_iabo_L4_c0 (ref05_Decode_iabo_S5_e0 x1 x4))
              · intro g0
                exact absurd g0 ft
              · intro g0
                exact seg_walk [.c (ref03_Open_o_t0 x3 x4 (tbE h1)), .b (notT (tbE h2)), .m 48 (o_slice_spo (nl := (ref03_Open_o_r0_0 x4)) (m := [(Blk.gen 39 2 [[(V.d (.bool x2)), (V.d (slD (encI .u8) true 1 x3 x4))]] x5), (Blk.flat 33 9 [([(.int .i64 0)] ++ arrD .i64 x0 8)] false), (Blk.flat 33 9 [([(.int .i64 0)] ++ arrD .i64 x1 8)] false), (Blk.flat 5 1 (List.map (encI .u8) (ref03_Open_o_r0_2 x4)) false)]) (enc := (encI .u8)) (l := (ref03_Open_o_r0_2 x4)) (id := 3) (e := 5) (s := 1) (n := ((ref03_Open_o_r0_2 x4).length)) (p := false) (some (.i64, 2)) (some (.i64, 4)) (by kernel_rfl) (tbE h3) (tbE h4)), .y (mm := [(Blk.gen 39 2 [[(V.d (.bool x2)), (V.d (slD (encI .u8) true 1 x3 x4))]] x5), (Blk.flat 33 9 [([(.int .i64 0)] ++ arrD .i64 x0 8)] false), (Blk.flat 33 9 [([(.int .i64 0)] ++ arrD .i64 x1 8)] false), (Blk.flat 5 1 (List.map (encI .u8) (ref03_Open_o_r0_2 x4)) false)]) (args := [(V.sl 3 ((ref03_Open_o_r0_2 x4).length) (2 : Int).toNat ((4 : Int).toNat - (2 : Int).toNat))]) (args1 := [(V.d (.rs true 1 (List.map (encI .u8) (sub (ref03_Open_o_r0_2 x4) 2 4)) false))]) (byvals_cons (byval_sp (enc := (encI .u8)) (l := (ref03_Open_o_r0_2 x4)) (e := 5) (s := 1) (p := false) (n := ((ref03_Open_o_r0_2 x4).length)) (lo := 2) (hi := 4) (Nat.beq_refl _) (by kernel_rfl) (tbE h3)) (by kernel_rfl)), .c (ref04_Get2_o_t0 false (sub (ref03_Open_o_r0_2 x4) 2 4) (tbE h5)), .l (ref05_Decode_iabo_L4_f0_0 0 x0 (ref04_Get2_o_r0_0 (sub (ref03_Open_o_r0_2 x4) 2 4)) x1 (ref03_Open_o_r0_2 x4) x2 x3 x4 x5 false false false (ref03_Open_o_r0_0 x4) 0 (⟨0, x1⟩ : ref05_Decode_iabo_L4_s0) (tbE h6) (tbE h7))] (by kernel_rfl)
theorem ref05_Decode_iabo_S5_t1 (x0 : List Int) (x1 : List Int) (x2 : Bool) (x3 : Bool) (x4 : List Int) (x5 : Bool) : ref05_Decode_iabo_S5_c0 x1 x4 = false → ref05_Decode_iabo_S5_c1 x4 = true → segG (runC E0 (cl E0) S28_5) [3, 4, 6] [4, 5] [4, 6] 3 ([(V.ptr 0 1 0 0), (V.ptr 1 1 0 0), (V.ptr 2 1 0 0)], [(Blk.gen 39 2 [[(V.d (.bool x2)), (V.d (slD (encI .u8) true 1 x3 x4))]] x5), (Blk.flat 33 9 [([(.int .i64 0)] ++ arrD .i64 x0 8)] false), (Blk.flat 33 9 [([(.int .i64 0)] ++ arrD .i64 x1 8)] false)]) = some (.ret, ([(V.ptr 1 1 0 0), (V.d (.int .i64 5))], [(Blk.gen 39 2 [[(V.d (.bool x2)), (V.d (slD (encI .u8) true 1 x3 x4))]] x5), (Blk.flat 33 9 [([(.int .i64 0)] ++ arrD .i64 x1 8)] false), (Blk.flat 33 9 [([(.int .i64 0)] ++ arrD .i64 x1 8)] false)])) := by
  unfold ref05_Decode_iabo_S5_c0 ref05_Decode_iabo_S5_c1
  cases h1 : tb (ref03_Open_o_c0 x4)
  · intro g0 g1
    exact absurd g1 ft
  · cases h2 : tb (ref03_Open_o_r0_1 x4)
    · intro g0 g1
      exact seg_walk [.c (ref03_Open_o_t0 x3 x4 (tbE h1)), .b (notF (tbE h2))] (by kernel_rfl)
    · cases h3 : tb (ins ((ref03_Open_o_r0_2 x4).length) 2 4)
      · intro g0 g1
        exact absurd g1 ft
      · cases h4 : tb (decide (2 < 4))
        · cases h5 : tb (ref03_Open_o_r0_0 x4)
          · cases h6 : tb (ref05_Decode_iabo_L4_ok (ref03_Open_o_r0_2 x4) (ref03_Open_o_r0_0 x4) (⟨0, x1⟩ : ref05_Decode_iabo_L4_s0))
            · intro g0 g1
              exact absurd g1 ft
            · cases h7 : tb (ref05_Decode_iabo_L4_c0 (ref05_Decode_iabo_S5_e0 x1 x4))
              · intro g0 g1
                exact absurd g1 ft
              · intro g0 g1
                exact absurd g0 tf
          · intro g0 g1
            exact absurd g1 ft
        · cases h5 : tb (ref04_Get2_o_c0 (sub (ref03_Open_o_r0_2 x4) 2 4))
          · intro g0 g1
            exact absurd g1 ft
          · cases h6 : tb (ref05_Decode_iabo_L4_ok (ref03_Open_o_r0_2 x4) (ref03_Open_o_r0_0 x4) (⟨0, x1⟩ : ref05_Decode_iabo_L4_s0))
            · intro g0 g1
              exact absurd g1 ft
            · cases h7 : tb (ref05_Decode_iabo_L4_c0 (ref05_Decode_iabo_S5_e0 x1 x4))
              · intro g0 g1
                exact absurd g1 ft
              · intro g0 g1
                exact absurd g0 tf
def ref05_Decode_iabo_c0 (x0 : Int) (x1 : Bool) (x3 : List Int) : Bool := (bif tb (ref05_Decode_iabo_S0_c0 x1) then (bif tb (ref05_Decode_iabo_S1_c0 x3) then true else (bif tb (ref05_Decode_iabo_S2_c0 x3) then true else (bif tb (ref05_Decode_iabo_S2_c1 x3) then (bif tb (ref05_Decode_iabo_S3_c0 x3 x0) then true else (bif tb (ref05_Decode_iabo_S3_c1 x3 x0) then (bif tb (ref05_Decode_iabo_S5_c0 [0, 0, 0, 0, 0, 0, 0, 0] x3) then true else (bif tb (ref05_Decode_iabo_S5_c1 x3) then true else false)) else false)) else false))) else true)
def ref05_Decode_iabo_r0_0 (x0 : Int) (x1 : Bool) (x3 : List Int) : Int := (bif tb (ref05_Decode_iabo_S0_c0 x1) then (bif tb (ref05_Decode_iabo_S1_c0 x3) then 0 else (bif tb (ref05_Decode_iabo_S2_c0 x3) then 0 else (bif tb (ref05_Decode_iabo_S3_c0 x3 x0) then 0 else (bif tb (ref05_Decode_iabo_S5_c0 [0, 0, 0, 0, 0, 0, 0, 0] x3) then (ref05_Decode_iabo_S5_r0_7 x3) else 0)))) else 0)
def ref05_Decode_iabo_r0_1 (x0 : Int) (x1 : Bool) (x3 : List Int) : List Int := (bif tb (ref05_Decode_iabo_S0_c0 x1) then (bif tb (ref05_Decode_iabo_S1_c0 x3) then [0, 0, 0, 0, 0, 0, 0, 0] else (bif tb (ref05_Decode_iabo_S2_c0 x3) then [0, 0, 0, 0, 0, 0, 0, 0] else (bif tb (ref05_Decode_iabo_S3_c0 x3 x0) then [0, 0, 0, 0, 0, 0, 0, 0] else (bif tb (ref05_Decode_iabo_S5_c0 [0, 0, 0, 0, 0, 0, 0, 0] x3) then ((ref05_Decode_iabo_S5_e0 [0, 0, 0, 0, 0, 0, 0, 0] x3).c10) else [0, 0, 0, 0, 0, 0, 0, 0])))) else [0, 0, 0, 0, 0, 0, 0, 0])
def ref05_Decode_iabo_r0_2 (x0 : Int) (x1 : Bool) (x3 : List Int) : Int := (bif tb (ref05_Decode_iabo_S0_c0 x1) then (bif tb (ref05_Decode_iabo_S1_c0 x3) then 2 else (bif tb (ref05_Decode_iabo_S2_c0 x3) then 3 else (bif tb (ref05_Decode_iabo_S3_c0 x3 x0) then 4 else (bif tb (ref05_Decode_iabo_S5_c0 [0, 0, 0, 0, 0, 0, 0, 0] x3) then 0 else 5)))) else 1)
theorem ref05_Decode_iabo_t0 (x0 : Int) (x1 : Bool) (x2 : Bool) (x3 : List Int) : ref05_Decode_iabo_c0 x0 x1 x3 = true → cl E0 28 [(V.d (.int .i64 x0)), (V.agg [(V.d (.bool x1)), (V.d (slD (encI .u8) true 1 x2 x3))])] [] = some ([(V.agg [(V.d (.int .i64 (ref05_Decode_iabo_r0_0 x0 x1 x3))), (V.d (.int .i64 (gt (ref05_Decode_iabo_r0_1 x0 x1 x3) 0))), (V.d (.int .i64 (gt (ref05_Decode_iabo_r0_1 x0 x1 x3) 1))), (V.d (.int .i64 (gt (ref05_Decode_iabo_r0_1 x0 x1 x3) 2))), (V.d (.int .i64 (gt (ref05_Decode_iabo_r0_1 x0 x1 x3) 3))), (V.d (.int .i64 (gt (ref05_Decode_iabo_r0_1 x0 x1 x3) 4))), (V.d (.int .i64 (gt (ref05_Decode_iabo_r0_1 x0 x1 x3) 5))), (V.d (.int .i64 (gt (ref05_Decode_iabo_r0_1 x0 x1 x3) 6))), (V.d (.int .i64 (gt (ref05_Decode_iabo_r0_1 x0 x1 x3) 7)))]), (V.d (.int .i64 (ref05_Decode_iabo_r0_2 x0 x1 x3)))], []) := by
  unfold ref05_Decode_iabo_c0 ref05_Decode_iabo_r0_0 ref05_Decode_iabo_r0_1 ref05_Decode_iabo_r0_2
  cases h1 : tb (ref05_Decode_iabo_S0_c0 x1)
  · intro g0
    exact w28 [.s (ref05_Decode_iabo_S0_t1 [0, 0, 0, 0, 0, 0, 0, 0] [0, 0, 0, 0, 0, 0, 0, 0] x1 x2 x3 false false x0 (tbE h1))] (by kernel_rfl)
  · cases h2 : tb (ref05_Decode_iabo_S1_c0 x3)
    · cases h3 : tb (ref05_Decode_iabo_S2_c0 x3)
      · cases h4 : tb (ref05_Decode_iabo_S2_c1 x3)
        · intro g0
          exact absurd g0 ft
        · cases h5 : tb (ref05_Decode_iabo_S3_c0 x3 x0)
          · cases h6 : tb (ref05_Decode_iabo_S3_c1 x3 x0)
            · intro g0
              exact absurd g0 ft
            · cases h7 : tb (ref05_Decode_iabo_S5_c0 [0, 0, 0, 0, 0, 0, 0, 0] x3)
              · cases h8 : tb (ref05_Decode_iabo_S5_c1 x3)
                · intro g0
                  exact absurd g0 ft
                · intro g0
                  exact w28 [.s (ref05_Decode_iabo_S0_t0 [0, 0, 0, 0, 0, 0, 0, 0] [0, 0, 0, 0, 0, 0, 0, 0] x1 x2 x3 false false x0 (tbE h1)), .s (ref05_Decode_iabo_S1_t1 [0, 0, 0, 0, 0, 0, 0, 0] [0, 0, 0, 0, 0, 0, 0, 0] x1 x2 x3 false false x0 (tbE h2)), .s (ref05_Decode_iabo_S2_t1 [0, 0, 0, 0, 0, 0, 0, 0] [0, 0, 0, 0, 0, 0, 0, 0] x1 x2 x3 false false x0 (tbE h3) (tbE h4)), .s (ref05_Decode_iabo_S3_t1 [0, 0, 0, 0, 0, 0, 0, 0] [0, 0, 0, 0, 0, 0, 0, 0] x1 x2 x3 false false x0 (tbE h5) (tbE h6)), .s (ref05_Decode_iabo_S5_t1 [0, 0, 0, 0, 0, 0, 0, 0] [0, 0, 0, 0, 0, 0, 0, 0] x1 x2 x3 false (tbE h7) (tbE h8))] (by kernel_rfl)
              · intro g0
                exact w28 [.s (ref05_Decode_iabo_S0_t0 [0, 0, 0, 0, 0, 0, 0, 0] [0, 0, 0, 0, 0, 0, 0, 0] x1 x2 x3 false false x0 (tbE h1)), .s (ref05_Decode_iabo_S1_t1 [0, 0, 0, 0, 0, 0, 0, 0] [0, 0, 0, 0, 0, 0, 0, 0] x1 x2 x3 false false x0 (tbE h2)), .s (ref05_Decode_iabo_S2_t1 [0, 0, 0, 0, 0, 0, 0, 0] [0, 0, 0, 0, 0, 0, 0, 0] x1 x2 x3 false false x0 (tbE h3) (tbE h4)), .s (ref05_Decode_iabo_S3_t1 [0, 0, 0, 0, 0, 0, 0, 0] [0, 0, 0, 0, 0, 0, 0, 0] x1 x2 x3 false false x0 (tbE h5) (tbE h6)), .s (ref05_Decode_iabo_S5_t0 [0, 0, 0, 0, 0, 0, 0, 0] [0, 0, 0, 0, 0, 0, 0, 0] x1 x2 x3 false (tbE h7))] (by kernel_rfl)
          · intro g0
            exact w28 [.s (ref05_Decode_iabo_S0_t0 [0, 0, 0, 0, 0, 0, 0, 0] [0, 0, 0, 0, 0, 0, 0, 0] x1 x2 x3 false false x0 (tbE h1)), .s (ref05_Decode_iabo_S1_t1 [0, 0, 0, 0, 0, 0, 0, 0] [0, 0, 0, 0, 0, 0, 0, 0] x1 x2 x3 false false x0 (tbE h2)), .s (ref05_Decode_iabo_S2_t1 [0, 0, 0, 0, 0, 0, 0, 0] [0, 0, 0, 0, 0, 0, 0, 0] x1 x2 x3 false false x0 (tbE h3) (tbE h4)), .s (ref05_Decode_iabo_S3_t0 [0, 0, 0, 0, 0, 0, 0, 0] [0, 0, 0, 0, 0, 0, 0, 0] x1 x2 x3 false false x0 (tbE h5))] (by kernel_rfl)
      · intro g0
        exact w28 [.s (ref05_Decode_iabo_S0_t0 [0, 0, 0, 0, 0, 0, 0, 0] [0, 0, 0, 0, 0, 0, 0, 0] x1 x2 x3 false false x0 (tbE h1)), .s (ref05_Decode_iabo_S1_t1 [0, 0, 0, 0, 0, 0, 0, 0] [0, 0, 0, 0, 0, 0, 0, 0] x1 x2 x3 false false x0 (tbE h2)), .s (ref05_Decode_iabo_S2_t0 [0, 0, 0, 0, 0, 0, 0, 0] [0, 0, 0, 0, 0, 0, 0, 0] x1 x2 x3 false false x0 (tbE h3))] (by kernel_rfl)
    · intro g0
      exact w28 [.s (ref05_Decode_iabo_S0_t0 [0, 0, 0, 0, 0, 0, 0, 0] [0, 0, 0, 0, 0, 0, 0, 0] x1 x2 x3 false false x0 (tbE h1)), .s (ref05_Decode_iabo_S1_t0 [0, 0, 0, 0, 0, 0, 0, 0] [0, 0, 0, 0, 0, 0, 0, 0] x1 x2 x3 false false x0 (tbE h2))] (by kernel_rfl)
end Go.Proofs.Ytkipngagfiaddaa.Den

namespace Go.Proofs.Ytkipngagfiaddaa.Den
open Go Go.Proofs
set_option linter.unusedVariables false
set_option linter.unusedSimpArgs false
theorem GetAll_n {b : List Int} (hb : Byts b) (hl : b.length ≤ 1000000) (x : Bool) : word_GetAll_o_r0_0 x b = (if b.length % 4 = 0 then b.length / 4 == 0 else true) := by
  have hrun := fours_run hb hl x
  have he : word_fours_c1_yp_Y43_1pGvLGo_e0 [] true x b = ⟨b.length / 4 == 0, fours b (b.length / 4), (b.length / 4 == 0) && x, b.drop (4 * (b.length / 4))⟩ := by
    simp only [word_fours_c1_yp_Y43_1pGvLGo_e0, word_fours_c1_yp_Y43_1pGvLGo_L0_end, hrun]; rfl
  simp only [word_GetAll_o_r0_0, rem4, he, tb_eq]
  by_cases h : b.length % 4 = 0
  · simp [h]
  · have : (((b.length % 4 : Nat) : Int) != 0) = true := by simp; omega
    simp only [this, cond_true, h, if_false]
def z8 : List Int := [0, 0, 0, 0, 0, 0, 0, 0]
def rejOf (ch : Int) (is : Bool) (l : List Int) : Int := if is = true then (if l.length = 38 then (if gt l 0 = 165 then (if gt l 1 = ch then (if okS l = true then 0 else 5) else 4) else 3) else 2) else 1
def seqOf (l : List Int) : Int := g2 (((l.take 36).drop 2).take 2)
def valsOf (l : List Int) : List Int := fours ((l.take 36).drop 4) 8
theorem byt_byts {l : List Int} (h : Byt l) : Byts l := byts_of h
theorem decode_S0 {ch : Int} {is : Bool} {l : List Int} (h : Byt l) :
    frame_Decode_iabo_S0_c0 is l ch = !(is && decide (l.length = 38) && decide (gt l 0 = 165) && decide (gt l 1 = ch)) ∧
    frame_Decode_iabo_S0_c1 is l ch = (is && decide (l.length = 38) && decide (gt l 0 = 165) && decide (gt l 1 = ch)) ∧
    frame_Decode_iabo_S0_r0_0 is l = (if is = true then (if l.length = 38 then (if gt l 0 = 165 then 4 else 3) else 2) else 1) := by
  cases is with
  | false => simp [frame_Decode_iabo_S0_c0, frame_Decode_iabo_S0_c1, frame_Decode_iabo_S0_r0_0]
  | true =>
    by_cases h1 : l.length = 38
    · have e1 : ((((l.length : Nat) : Int) : Int) != 38) = false := by simp [h1]
      have i0 : inb l.length 0 = true := inb_of (by omega) (by omega)
      have i1 : inb l.length 1 = true := inb_of (by omega) (by omega)
      have i0' : inb 38 0 = true := rfl
      have i1' : inb 38 1 = true := rfl
      have b1 := wfI_u8 (h _ (gt_mem (l := l) (i := 1) (by omega) (by omega)))
      have w1 : wi (gt l 1) = gt l 1 := wi_eq (by omega) (by omega)
      by_cases h2 : gt l 0 = 165
      · have e2 : ((gt l 0 : Int) != 165) = false := by simp [h2]
        by_cases h3 : gt l 1 = ch
        · have w1' : wi ch = ch := by rw [← h3]; exact w1
          have e3 : ((gt l 1 : Int) != ch) = false := by simp [h3]
          simp [frame_Decode_iabo_S0_c0, frame_Decode_iabo_S0_c1, frame_Decode_iabo_S0_r0_0, e1, e2, e3, i0, i1, i0', i1', w1, w1', h1, h2, h3]
        · have e3 : ((gt l 1 : Int) != ch) = true := by simp [h3]
          simp [frame_Decode_iabo_S0_c0, frame_Decode_iabo_S0_c1, frame_Decode_iabo_S0_r0_0, e1, e2, e3, i0, i1, i0', i1', w1, h1, h2, h3]
      · have e2 : ((gt l 0 : Int) != 165) = true := by simp [h2]
        simp [frame_Decode_iabo_S0_c0, frame_Decode_iabo_S0_c1, frame_Decode_iabo_S0_r0_0, e1, e2, i0, i0', h1, h2]
    · have e1 : ((((l.length : Nat) : Int) : Int) != 38) = true := by simp; omega
      simp [frame_Decode_iabo_S0_c0, frame_Decode_iabo_S0_c1, frame_Decode_iabo_S0_r0_0, e1, h1]
theorem sub_24 {b : List Int} : sub b 2 4 = (b.drop 2).take 2 := by unfold sub; rfl
theorem sub_4e {b : List Int} (h : b.length = 36) : sub b 4 ((b.length : Nat) : Int) = b.drop 4 := by
  unfold sub; rw [h]
  show (b.drop 4).take 32 = _
  rw [List.take_of_length_le (by simp; omega)]
theorem decode_eq (ch : Int) (is nl : Bool) {l : List Int} (h : Sm l) : frame_Decode_iabo_c0 ch is nl l = true ∧ frame_Decode_iabo_r0_2 ch is nl l = rejOf ch is l ∧
    frame_Decode_iabo_r0_0 ch is nl l = (if rejOf ch is l = 0 then seqOf l else 0) ∧ frame_Decode_iabo_r0_1 ch is nl l = (if rejOf ch is l = 0 then valsOf l else z8) := by
  obtain ⟨s1, s2, s3⟩ := decode_S0 (ch := ch) (is := is) h.b
  by_cases hok : (is && decide (l.length = 38) && decide (gt l 0 = 165) && decide (gt l 1 = ch)) = true
  · rw [hok] at s1 s2
    simp only [Bool.and_eq_true, decide_eq_true_eq] at hok
    obtain ⟨⟨⟨hi, h1⟩, h2⟩, h3⟩ := hok
    have hr : rejOf ch is l = if okS l = true then 0 else 5 := by simp [rejOf, hi, h1, h2, h3]
    obtain ⟨o1, o2, o3, o4⟩ := open_r h nl
    cases ho : okS l with
    | true =>
      rw [ho] at o2 o3 o4 hr
      rw [if_pos rfl, h1] at o4
      have o4 : crc_Open_o_r0_2 nl l = l.take 36 := o4
      simp only [if_true] at hr
      have hl : (l.take 36).length = 36 := by simp [h1]
      have hby : Byts (l.take 36) := byt_byts (h.b.take 36)
      have i1 : ins (l.take 36).length 2 4 = true := by rw [hl]; rfl
      have i2 : ins (l.take 36).length 4 (((l.take 36).length : Nat) : Int) = true := by rw [hl]; rfl
      have i3 : decide ((4 : Int) < (((l.take 36).length : Nat) : Int)) = true := by rw [hl]; rfl
      obtain ⟨q1, _, q3, _⟩ := Get2_eq (l := sub (l.take 36) 2 4) (by rw [sub_24]; exact byts_take (byts_drop hby 2) 2)
      have e0 : frame_Decode_iabo_S1_e0 nl l = (l.take 36).drop 4 := by unfold frame_Decode_iabo_S1_e0; rw [o4]; exact sub_4e hl
      have hl4 : ((l.take 36).drop 4).length = 32 := by simp [h1]
      obtain ⟨g1, g2', g3⟩ := GetAll_r (byts_drop hby 4) (by omega) false
      have g4 := GetAll_n (byts_drop hby 4) (by omega) false
      rw [hl4] at g4
      have ga : getAll ((l.take 36).drop 4) = valsOf l := by unfold getAll; rw [hl4]; rfl
      have g5 : Nat.ble 8 (getAll ((l.take 36).drop 4)).length = true := by rw [ga]; simp [valsOf, fours_len]
      have c1 : frame_Decode_iabo_S1_c0 nl l = true := by
        simp only [frame_Decode_iabo_S1_c0, o1, o2, o3, o4, i1, i2, i3, q1, e0, g1, g3, g4, g5, tb_eq, cond_true, show decide (2 < 4) = true from rfl]
        rfl
      have r5 : frame_Decode_iabo_S1_r0_5 nl l = seqOf l := by
        simp only [frame_Decode_iabo_S1_r0_5, o4, tb_eq, show decide (2 < 4) = true from rfl, cond_true]; rw [q3, sub_24]; rfl
      simp only [frame_Decode_iabo_c0, frame_Decode_iabo_r0_0, frame_Decode_iabo_r0_1, frame_Decode_iabo_r0_2, s1, s2, c1, r5, e0, g3, ga, hr, tb_eq, Bool.not_true, cond_true, cond_false, if_true, and_self]
    | false =>
      rw [ho] at o2 o3 o4 hr
      simp only [Bool.false_eq_true, if_false] at hr
      have c0 : frame_Decode_iabo_S1_c0 nl l = false := by
        simp only [frame_Decode_iabo_S1_c0, o1, o2, o3, tb_eq, cond_true]
        cases tb (ins (crc_Open_o_r0_2 nl l).length 2 4) <;> simp
      have c1 : frame_Decode_iabo_S1_c1 nl l = true := by simp only [frame_Decode_iabo_S1_c1, o1, o3, tb_eq]; rfl
      have hz : (if (5 : Int) = 0 then valsOf l else z8) = z8 := by simp
      have hz2 : (if (5 : Int) = 0 then seqOf l else 0) = 0 := by simp
      simp only [frame_Decode_iabo_c0, frame_Decode_iabo_r0_0, frame_Decode_iabo_r0_1, frame_Decode_iabo_r0_2, s1, s2, c0, c1, hr, hz, hz2, tb_eq, Bool.not_true, cond_true, cond_false, true_and]
      trivial
  · have hf : (is && decide (l.length = 38) && decide (gt l 0 = 165) && decide (gt l 1 = ch)) = false := by simpa using hok
    rw [hf] at s1 s2
    have hr : rejOf ch is l = frame_Decode_iabo_S0_r0_0 is l ∧ rejOf ch is l ≠ 0 := by
      rw [s3]
      unfold rejOf
      cases is with
      | false => simp
      | true =>
        by_cases h1 : l.length = 38
        · by_cases h2 : gt l 0 = 165
          · have h3 : ¬ gt l 1 = ch := by intro h3; simp [h1, h2, h3] at hf
            simp [h1, h2, h3]
          · simp [h1, h2]
        · simp [h1]
    simp only [frame_Decode_iabo_c0, frame_Decode_iabo_r0_0, frame_Decode_iabo_r0_1, frame_Decode_iabo_r0_2, s1, tb_eq, Bool.not_false, cond_true, hr.2, if_false, hr.1, true_and]
    rw [if_neg (by rw [← hr.1]; exact hr.2), if_neg (by rw [← hr.1]; exact hr.2)]
    exact ⟨rfl, rfl⟩
theorem sta_fill {B : List Int} {k : Nat} (hk : k < 8) : sta (fours B k ++ List.replicate (8 - k) 0) 8 (k : Int) (g4 ((B.drop (4 * k)).take 4)) = fours B (k + 1) ++ List.replicate (8 - (k + 1)) 0 := by
  have hl : (fours B k ++ List.replicate (8 - k) (0 : Int)).length = 8 := by simp [fours_len]; omega
  have ht : tab (fours B k ++ List.replicate (8 - k) (0 : Int)) 8 = fours B k ++ List.replicate (8 - k) 0 := by
    apply List.ext_getElem
    · rw [tab_len, hl]
    · intro i h1 h2
      simp only [tab, List.getElem_map, List.getElem_range]
      rw [gt_nat h2]
  unfold sta st
  rw [ht, fours_succ]
  obtain ⟨m, hm⟩ : ∃ m, 8 - k = m + 1 := ⟨8 - k - 1, by omega⟩
  have hm2 : 8 - (k + 1) = m := by omega
  rw [hm, hm2, List.replicate_succ, Int.toNat_natCast, List.set_append_right _ _ (by rw [fours_len]; omega), fours_len, Nat.sub_self]
  simp
theorem refvals {b : List Int} (hb : Byts b) (hl : b.length = 36) (x : Bool) : ref05_Decode_iabo_L4_ok b x ⟨0, z8⟩ = true ∧ ref05_Decode_iabo_L4_end b x ⟨0, z8⟩ = ⟨8, fours (b.drop 4) 8⟩ := by
  have hit : itS (ref05_Decode_iabo_L4_sel b x) (ref05_Decode_iabo_L4_nx b x) bound (⟨((0 : Nat) : Int), fours (b.drop 4) 0 ++ List.replicate (8 - 0) 0⟩ : ref05_Decode_iabo_L4_s0) = some ⟨((8 : Nat) : Int), fours (b.drop 4) 8 ++ List.replicate (8 - 8) 0⟩ := by
    refine loop_seq (fun k => (⟨(k : Int), fours (b.drop 4) k ++ List.replicate (8 - k) 0⟩ : ref05_Decode_iabo_L4_s0)) 8 (by omega) (fun k hk => ?_) ?_
    · have w0 : wi (4 * (k : Int)) = ((4 * k : Nat) : Int) := by rw [wi_eq (by omega) (by omega)]; omega
      have w1 : wi (4 + wi (4 * (k : Int))) = ((4 + 4 * k : Nat) : Int) := by rw [w0, wi_eq (by omega) (by omega)]; omega
      have w2 : wi (8 + wi (4 * (k : Int))) = ((8 + 4 * k : Nat) : Int) := by rw [w0, wi_eq (by omega) (by omega)]; omega
      have w3 : wi ((k : Int) + 1) = ((k + 1 : Nat) : Int) := by rw [wi_eq (by omega) (by omega)]; omega
      have i1 : ins b.length ((4 + 4 * k : Nat) : Int) ((8 + 4 * k : Nat) : Int) = true := by simp only [ins, hl, Bool.and_eq_true, decide_eq_true_eq]; omega
      have i2 : decide (((4 + 4 * k : Nat) : Int) < ((8 + 4 * k : Nat) : Int)) = true := decide_eq_true (by omega)
      have i3 : inb 8 (k : Int) = true := inb_of (by omega) (by omega)
      have e0 : ref05_Decode_iabo_L4_h0_e0 b ⟨(k : Int), fours (b.drop 4) k ++ List.replicate (8 - k) 0⟩ = ((b.drop 4).drop (4 * k)).take 4 := by
        simp only [ref05_Decode_iabo_L4_h0_e0, w1, w2]
        rw [sub_nat, List.drop_drop]; congr 1; omega
      obtain ⟨g1, g2', _⟩ := rGet4 (l := ((b.drop 4).drop (4 * k)).take 4) (byts_take (byts_drop (byts_drop hb 4) _) 4)
      constructor
      · simp only [ref05_Decode_iabo_L4_sel, w1, w2, i1, i2, i3, e0, g1, tb_eq]
        simp; omega
      · simp only [ref05_Decode_iabo_L4_nx, ref05_Decode_iabo_L4_h0_e1, w1, w2, w3, i2, e0, g2', tb_eq, cond_true, sta_fill hk]
    · simp [ref05_Decode_iabo_L4_sel]
  have h0 : (⟨((0 : Nat) : Int), fours (b.drop 4) 0 ++ List.replicate (8 - 0) 0⟩ : ref05_Decode_iabo_L4_s0) = ⟨0, z8⟩ := rfl
  rw [h0] at hit
  constructor
  · simp only [ref05_Decode_iabo_L4_ok, hit]; rfl
  · simp only [ref05_Decode_iabo_L4_end, hit]; simp
theorem rdecode_eq (ch : Int) (is : Bool) {l : List Int} (h : Sm l) : ref05_Decode_iabo_c0 ch is l = true ∧ ref05_Decode_iabo_r0_2 ch is l = rejOf ch is l ∧
    ref05_Decode_iabo_r0_0 ch is l = (if rejOf ch is l = 0 then seqOf l else 0) ∧ ref05_Decode_iabo_r0_1 ch is l = (if rejOf ch is l = 0 then valsOf l else z8) := by
  have hz : ([0, 0, 0, 0, 0, 0, 0, 0] : List Int) = z8 := rfl
  simp only [ref05_Decode_iabo_c0, ref05_Decode_iabo_r0_0, ref05_Decode_iabo_r0_1, ref05_Decode_iabo_r0_2, hz]
  cases is with
  | false => simp [ref05_Decode_iabo_S0_c0, rejOf]
  | true =>
    have s0 : ref05_Decode_iabo_S0_c0 true = true := by simp [ref05_Decode_iabo_S0_c0]
    by_cases h1 : l.length = 38
    · have s1 : ref05_Decode_iabo_S1_c0 l = false := by simp [ref05_Decode_iabo_S1_c0, h1]
      have i0 : inb l.length 0 = true := inb_of (by omega) (by omega)
      have i1 : inb l.length 1 = true := inb_of (by omega) (by omega)
      have i0' : inb 38 0 = true := rfl
      have i1' : inb 38 1 = true := rfl
      have b1 := wfI_u8 (h.b _ (gt_mem (l := l) (i := 1) (by omega) (by omega)))
      have w1 : wi (gt l 1) = gt l 1 := wi_eq (by omega) (by omega)
      by_cases h2 : gt l 0 = 165
      · have s2 : ref05_Decode_iabo_S2_c0 l = false := by simp [ref05_Decode_iabo_S2_c0, i0, h2]
        have s3 : ref05_Decode_iabo_S2_c1 l = true := by simp [ref05_Decode_iabo_S2_c1, i0, h2]
        by_cases h3 : gt l 1 = ch
        · have w1' : wi ch = ch := by rw [← h3]; exact w1
          have s4 : ref05_Decode_iabo_S3_c0 l ch = false := by simp [ref05_Decode_iabo_S3_c0, i1, w1, w1', h3]
          have s5 : ref05_Decode_iabo_S3_c1 l ch = true := by simp [ref05_Decode_iabo_S3_c1, i1, w1, w1', h3]
          have hr : rejOf ch true l = if okS l = true then 0 else 5 := by simp [rejOf, h1, h2, h3]
          obtain ⟨o1, o2, o3, o4⟩ := ropen_r h
          cases ho : okS l with
          | true =>
            rw [ho] at o2 o3 o4 hr
            rw [if_pos rfl, h1] at o4
            have o4 : ref03_Open_o_r0_2 l = l.take 36 := o4
            simp only [if_true] at hr
            have hl : (l.take 36).length = 36 := by simp [h1]
            have hby : Byts (l.take 36) := byt_byts (h.b.take 36)
            have j1 : ins (l.take 36).length 2 4 = true := by rw [hl]; rfl
            obtain ⟨_, q1, _, q3, _⟩ := Get2_eq (l := sub (l.take 36) 2 4) (by rw [sub_24]; exact byts_take (byts_drop hby 2) 2)
            obtain ⟨v1, v2⟩ := refvals hby hl false
            have e0 : ref05_Decode_iabo_S5_e0 z8 l = ⟨8, valsOf l⟩ := by simp only [ref05_Decode_iabo_S5_e0, o4, o2, Bool.not_true, v2]; rfl
            have c0 : ref05_Decode_iabo_S5_c0 z8 l = true := by
              simp only [ref05_Decode_iabo_S5_c0, o1, o2, o3, o4, j1, q1, Bool.not_true, v1, e0, ref05_Decode_iabo_L4_c0, tb_eq, cond_true, show decide (2 < 4) = true from rfl]
              rfl
            have r7 : ref05_Decode_iabo_S5_r0_7 l = seqOf l := by
              simp only [ref05_Decode_iabo_S5_r0_7, o4, tb_eq, show decide (2 < 4) = true from rfl, cond_true]; rw [q3, sub_24]; rfl
            simp only [s0, s1, s2, s3, s4, s5, c0, e0, r7, hr, tb_eq, cond_true, cond_false, if_true, and_self]
          | false =>
            rw [ho] at o2 o3 o4 hr
            simp only [Bool.false_eq_true, if_false] at hr
            have c0 : ref05_Decode_iabo_S5_c0 z8 l = false := by simp only [ref05_Decode_iabo_S5_c0, o1, o2, o3, tb_eq]; rfl
            have c1 : ref05_Decode_iabo_S5_c1 l = true := by simp only [ref05_Decode_iabo_S5_c1, o1, o3, tb_eq]; rfl
            simp only [s0, s1, s2, s3, s4, s5, c0, c1, hr, tb_eq, cond_true, cond_false]
            simp
        · have s4 : ref05_Decode_iabo_S3_c0 l ch = true := by simp [ref05_Decode_iabo_S3_c0, i1, w1, h3]
          have hr : rejOf ch true l = 4 := by simp [rejOf, h1, h2, h3]
          simp only [s0, s1, s2, s3, s4, hr, tb_eq, cond_true, cond_false]
          simp
      · have s2 : ref05_Decode_iabo_S2_c0 l = true := by simp [ref05_Decode_iabo_S2_c0, i0, h2]
        have hr : rejOf ch true l = 3 := by simp [rejOf, h1, h2]
        simp only [s0, s1, s2, hr, tb_eq, cond_true, cond_false]
        simp
    · have s1 : ref05_Decode_iabo_S1_c0 l = true := by simp [ref05_Decode_iabo_S1_c0]; omega
      have hr : rejOf ch true l = 2 := by simp [rejOf, h1]
      simp only [s0, s1, hr, tb_eq, cond_true]
      simp
end Go.Proofs.Ytkipngagfiaddaa.Den

namespace Go.Proofs.Ytkipngagfiaddaa.Den
open Go Go.Proofs
set_option maxRecDepth 100000
set_option maxHeartbeats 4000000
set_option linter.unusedVariables false
set_option linter.unusedSimpArgs false
def fresh_New_i_c0 (x0 : Int) : Bool := (bif tb (decide (x0 < 0)) then true else (bif tb (decide (4 ≤ x0)) then true else false))
theorem fresh_New_i_t0 (x0 : Int) : fresh_New_i_c0 x0 = true → cl E0 9 [(V.d (.int .i64 x0))] [] = some ([(V.d .nilp), (V.d (.int .i64 1))], []) := by
  unfold fresh_New_i_c0
  cases h1 : tb (decide (x0 < 0))
  · cases h2 : tb (decide (4 ≤ x0))
    · intro g0
      exact absurd g0 ft
    · intro g0
      exact w9 [.b (tbE h1), .b (tbE h2)] (by kernel_rfl)
  · intro g0
    exact w9 [.b (tbE h1)] (by kernel_rfl)
theorem fresh_New_i_t1 (x0 : Int) : fresh_New_i_c0 x0 = false → cl E0 9 [(V.d (.int .i64 x0))] [] = some ([(V.ptr 0 1 0 0), (V.d (.int .i64 0))], [(Blk.flat 67 10 [([(.int .i64 x0), (.int .i64 0), (.bool false)] ++ arrD .i64 [0, 0, 0, 0, 0, 0, 0] 7)] false)]) := by
  unfold fresh_New_i_c0
  cases h1 : tb (decide (x0 < 0))
  · cases h2 : tb (decide (4 ≤ x0))
    · intro g0
      exact w9 [.b (tbE h1), .b (tbE h2)] (by kernel_rfl)
    · intro g0
      exact absurd g0 tf
  · intro g0
    exact absurd g0 tf
def fresh_Track_take_pabo_Fi2bi7_c0 (x0 : Int) (x5 : Bool) (x6 : Bool) (x7 : List Int) : Bool := (bif tb (frame_Decode_iabo_c0 x0 x5 x6 x7) then true else false)
def fresh_Track_take_pabo_Fi2bi7_r0_0 (x0 : Int) (x1 : Int) (x2 : Bool) (x5 : Bool) (x6 : Bool) (x7 : List Int) : Int := (bif tb (((frame_Decode_iabo_r0_2 x0 x5 x6 x7) : Int) != 0) then 0 else (bif tb (x2) then (bif tb (((frame_Decode_iabo_r0_0 x0 x5 x6 x7) : Int) == (word_Next_i_r0_0 x1)) then (frame_Decode_iabo_r0_0 x0 x5 x6 x7) else 0) else (frame_Decode_iabo_r0_0 x0 x5 x6 x7)))
def fresh_Track_take_pabo_Fi2bi7_r0_1 (x0 : Int) (x1 : Int) (x2 : Bool) (x5 : Bool) (x6 : Bool) (x7 : List Int) : List Int := (bif tb (((frame_Decode_iabo_r0_2 x0 x5 x6 x7) : Int) != 0) then [0, 0, 0, 0, 0, 0, 0, 0] else (bif tb (x2) then (bif tb (((frame_Decode_iabo_r0_0 x0 x5 x6 x7) : Int) == (word_Next_i_r0_0 x1)) then (frame_Decode_iabo_r0_1 x0 x5 x6 x7) else [0, 0, 0, 0, 0, 0, 0, 0]) else (frame_Decode_iabo_r0_1 x0 x5 x6 x7)))
def fresh_Track_take_pabo_Fi2bi7_r0_2 (x0 : Int) (x1 : Int) (x2 : Bool) (x5 : Bool) (x6 : Bool) (x7 : List Int) : Int := (bif tb (((frame_Decode_iabo_r0_2 x0 x5 x6 x7) : Int) != 0) then (frame_Decode_iabo_r0_2 x0 x5 x6 x7) else (bif tb (x2) then (bif tb (((frame_Decode_iabo_r0_0 x0 x5 x6 x7) : Int) == (word_Next_i_r0_0 x1)) then 0 else 6) else 0))
def fresh_Track_take_pabo_Fi2bi7_r0_4 (x0 : Int) (x1 : Int) (x5 : Bool) (x6 : Bool) (x7 : List Int) : Int := (bif tb (((frame_Decode_iabo_r0_2 x0 x5 x6 x7) : Int) != 0) then x1 else (frame_Decode_iabo_r0_0 x0 x5 x6 x7))
def fresh_Track_take_pabo_Fi2bi7_r0_5 (x0 : Int) (x2 : Bool) (x5 : Bool) (x6 : Bool) (x7 : List Int) : Bool := (bif tb (((frame_Decode_iabo_r0_2 x0 x5 x6 x7) : Int) != 0) then x2 else true)
theorem fresh_Track_take_pabo_Fi2bi7_t0 (x0 : Int) (x1 : Int) (x2 : Bool) (x3 : List Int) (x5 : Bool) (x6 : Bool) (x7 : List Int) : fresh_Track_take_pabo_Fi2bi7_c0 x0 x5 x6 x7 = true → cl E0 27 [(V.ptr 0 1 0 0), (V.agg [(V.d (.bool x5)), (V.d (slD (encI .u8) true 1 x6 x7))])] [(Blk.flat 67 10 [([(.int .i64 x0), (.int .i64 x1), (.bool x2)] ++ arrD .i64 x3 7)] false)] = some ([(V.agg [(V.d (.int .i64 (fresh_Track_take_pabo_Fi2bi7_r0_0 x0 x1 x2 x5 x6 x7))), (V.d (.int .i64 (gt (fresh_Track_take_pabo_Fi2bi7_r0_1 x0 x1 x2 x5 x6 x7) 0))), (V.d (.int .i64 (gt (fresh_Track_take_pabo_Fi2bi7_r0_1 x0 x1 x2 x5 x6 x7) 1))), (V.d (.int .i64 (gt (fresh_Track_take_pabo_Fi2bi7_r0_1 x0 x1 x2 x5 x6 x7) 2))), (V.d (.int .i64 (gt (fresh_Track_take_pabo_Fi2bi7_r0_1 x0 x1 x2 x5 x6 x7) 3))), (V.d (.int .i64 (gt (fresh_Track_take_pabo_Fi2bi7_r0_1 x0 x1 x2 x5 x6 x7) 4))), (V.d (.int .i64 (gt (fresh_Track_take_pabo_Fi2bi7_r0_1 x0 x1 x2 x5 x6 x7) 5))), (V.d (.int .i64 (gt (fresh_Track_take_pabo_Fi2bi7_r0_1 x0 x1 x2 x5 x6 x7) 6))), (V.d (.int .i64 (gt (fresh_Track_take_pabo_Fi2bi7_r0_1 x0 x1 x2 x5 x6 x7) 7)))]), (V.d (.int .i64 (fresh_Track_take_pabo_Fi2bi7_r0_2 x0 x1 x2 x5 x6 x7)))], [(Blk.flat 67 10 [([(.int .i64 x0), (.int .i64 (fresh_Track_take_pabo_Fi2bi7_r0_4 x0 x1 x5 x6 x7)), (.bool (fresh_Track_take_pabo_Fi2bi7_r0_5 x0 x2 x5 x6 x7))] ++ arrD .i64 x3 7)] false)]) := by
  unfold fresh_Track_take_pabo_Fi2bi7_c0 fresh_Track_take_pabo_Fi2bi7_r0_0 fresh_Track_take_pabo_Fi2bi7_r0_1 fresh_Track_take_pabo_Fi2bi7_r0_2 fresh_Track_take_pabo_Fi2bi7_r0_4 fresh_Track_take_pabo_Fi2bi7_r0_5
  cases h1 : tb (frame_Decode_iabo_c0 x0 x5 x6 x7)
  · intro g0
    exact absurd g0 ft
  · cases h2 : tb (((frame_Decode_iabo_r0_2 x0 x5 x6 x7) : Int) != 0)
    · cases h3 : tb (x2)
      · intro g0
        exact w27 [.c (frame_Decode_iabo_t0 x0 x5 x6 x7 (tbE h1)), .b (tbE h2), .b (notF (tbE h3))] (by kernel_rfl)
      · cases h4 : tb (((frame_Decode_iabo_r0_0 x0 x5 x6 x7) : Int) == (word_Next_i_r0_0 x1))
        · intro g0
          exact w27 [.c (frame_Decode_iabo_t0 x0 x5 x6 x7 (tbE h1)), .b (tbE h2), .b (notT (tbE h3)), .c (word_Next_i_t0 x1), .b (notF (tbE h4))] (by kernel_rfl)
        · intro g0
          exact w27 [.c (frame_Decode_iabo_t0 x0 x5 x6 x7 (tbE h1)), .b (tbE h2), .b (notT (tbE h3)), .c (word_Next_i_t0 x1), .b (notT (tbE h4))] (by kernel_rfl)
    · intro g0
      exact w27 [.c (frame_Decode_iabo_t0 x0 x5 x6 x7 (tbE h1)), .b (tbE h2)] (by kernel_rfl)
def fresh_Track_Take_pabo_Fi2bi7_e0 (x0 : Int) (x1 : Int) (x2 : Bool) (x3 : List Int) (x5 : Bool) (x6 : Bool) (x7 : List Int) : Int := wi ((gt x3 (fresh_Track_take_pabo_Fi2bi7_r0_2 x0 x1 x2 x5 x6 x7)) + 1)
def fresh_Track_Take_pabo_Fi2bi7_e1 (x0 : Int) (x1 : Int) (x2 : Bool) (x3 : List Int) (x5 : Bool) (x6 : Bool) (x7 : List Int) : List Int := sta x3 7 (fresh_Track_take_pabo_Fi2bi7_r0_2 x0 x1 x2 x5 x6 x7) (fresh_Track_Take_pabo_Fi2bi7_e0 x0 x1 x2 x3 x5 x6 x7)
def fresh_Track_Take_pabo_Fi2bi7_c0 (x0 : Int) (x1 : Int) (x2 : Bool) (x5 : Bool) (x6 : Bool) (x7 : List Int) : Bool := (bif tb (fresh_Track_take_pabo_Fi2bi7_c0 x0 x5 x6 x7) then (bif tb (inb 7 (fresh_Track_take_pabo_Fi2bi7_r0_2 x0 x1 x2 x5 x6 x7)) then true else false) else false)
theorem fresh_Track_Take_pabo_Fi2bi7_t0 (x0 : Int) (x1 : Int) (x2 : Bool) (x3 : List Int) (x5 : Bool) (x6 : Bool) (x7 : List Int) : fresh_Track_Take_pabo_Fi2bi7_c0 x0 x1 x2 x5 x6 x7 = true → cl E0 11 [(V.ptr 0 1 0 0), (V.agg [(V.d (.bool x5)), (V.d (slD (encI .u8) true 1 x6 x7))])] [(Blk.flat 67 10 [([(.int .i64 x0), (.int .i64 x1), (.bool x2)] ++ arrD .i64 x3 7)] false)] = some ([(V.agg [(V.d (.int .i64 (fresh_Track_take_pabo_Fi2bi7_r0_0 x0 x1 x2 x5 x6 x7))), (V.d (.int .i64 (gt (fresh_Track_take_pabo_Fi2bi7_r0_1 x0 x1 x2 x5 x6 x7) 0))), (V.d (.int .i64 (gt (fresh_Track_take_pabo_Fi2bi7_r0_1 x0 x1 x2 x5 x6 x7) 1))), (V.d (.int .i64 (gt (fresh_Track_take_pabo_Fi2bi7_r0_1 x0 x1 x2 x5 x6 x7) 2))), (V.d (.int .i64 (gt (fresh_Track_take_pabo_Fi2bi7_r0_1 x0 x1 x2 x5 x6 x7) 3))), (V.d (.int .i64 (gt (fresh_Track_take_pabo_Fi2bi7_r0_1 x0 x1 x2 x5 x6 x7) 4))), (V.d (.int .i64 (gt (fresh_Track_take_pabo_Fi2bi7_r0_1 x0 x1 x2 x5 x6 x7) 5))), (V.d (.int .i64 (gt (fresh_Track_take_pabo_Fi2bi7_r0_1 x0 x1 x2 x5 x6 x7) 6))), (V.d (.int .i64 (gt (fresh_Track_take_pabo_Fi2bi7_r0_1 x0 x1 x2 x5 x6 x7) 7)))]), (V.d (.int .i64 (fresh_Track_take_pabo_Fi2bi7_r0_2 x0 x1 x2 x5 x6 x7)))], [(Blk.flat 67 10 [([(.int .i64 x0), (.int .i64 (fresh_Track_take_pabo_Fi2bi7_r0_4 x0 x1 x5 x6 x7)), (.bool (fresh_Track_take_pabo_Fi2bi7_r0_5 x0 x2 x5 x6 x7))] ++ arrD .i64 (fresh_Track_Take_pabo_Fi2bi7_e1 x0 x1 x2 x3 x5 x6 x7) 7)] false)]) := by
  unfold fresh_Track_Take_pabo_Fi2bi7_c0
  cases h1 : tb (fresh_Track_take_pabo_Fi2bi7_c0 x0 x5 x6 x7)
  · intro g0
    exact absurd g0 ft
  · cases h2 : tb (inb 7 (fresh_Track_take_pabo_Fi2bi7_r0_2 x0 x1 x2 x5 x6 x7))
    · intro g0
      exact absurd g0 ft
    · intro g0
      exact w11 [.k false, .c (fresh_Track_take_pabo_Fi2bi7_t0 x0 x1 x2 x3 x5 x6 x7 (tbE h1)), .o 21 (fun _ => o_idxAA (id := 0) (nn := 1) (row := 0) (off := 3) (n := 7) (s := 1) (k := .i64) (i := (fresh_Track_take_pabo_Fi2bi7_r0_2 x0 x1 x2 x5 x6 x7)) (tbE h2)), .m 22 (o_load_arr (m := [(Blk.flat 67 10 [([(.int .i64 x0), (.int .i64 (fresh_Track_take_pabo_Fi2bi7_r0_4 x0 x1 x5 x6 x7)), (.bool (fresh_Track_take_pabo_Fi2bi7_r0_5 x0 x2 x5 x6 x7))] ++ arrD .i64 x3 7)] true), (Blk.gen 39 2 [[(V.d (.bool x5)), (V.d (slD (encI .u8) true 1 x6 x7))]] true), (Blk.flat 33 9 [[(.int .i64 0), (.int .i64 0), (.int .i64 0), (.int .i64 0), (.int .i64 0), (.int .i64 0), (.int .i64 0), (.int .i64 0), (.int .i64 0)]] true), (Blk.flat 33 9 [([(.int .i64 (fresh_Track_take_pabo_Fi2bi7_r0_0 x0 x1 x2 x5 x6 x7))] ++ arrD .i64 (fresh_Track_take_pabo_Fi2bi7_r0_1 x0 x1 x2 x5 x6 x7) 8)] true)]) (id := 0) (nn := 1) (row := 0) (off := 3) (n := 7) (k := .i64) (T := x3) (i := (fresh_Track_take_pabo_Fi2bi7_r0_2 x0 x1 x2 x5 x6 x7)) (by kernel_rfl) (tbE h2)), .o 26 (fun _ => o_idxAA (id := 0) (nn := 1) (row := 0) (off := 3) (n := 7) (s := 1) (k := .i64) (i := (fresh_Track_take_pabo_Fi2bi7_r0_2 x0 x1 x2 x5 x6 x7)) (tbE h2)), .m 100026 (o_store_arr (m := [(Blk.flat 67 10 [([(.int .i64 x0), (.int .i64 (fresh_Track_take_pabo_Fi2bi7_r0_4 x0 x1 x5 x6 x7)), (.bool (fresh_Track_take_pabo_Fi2bi7_r0_5 x0 x2 x5 x6 x7))] ++ arrD .i64 x3 7)] false), (Blk.gen 39 2 [[(V.d (.bool x5)), (V.d (slD (encI .u8) true 1 x6 x7))]] false), (Blk.flat 33 9 [[(.int .i64 0), (.int .i64 0), (.int .i64 0), (.int .i64 0), (.int .i64 0), (.int .i64 0), (.int .i64 0), (.int .i64 0), (.int .i64 0)]] false), (Blk.flat 33 9 [([(.int .i64 (fresh_Track_take_pabo_Fi2bi7_r0_0 x0 x1 x2 x5 x6 x7))] ++ arrD .i64 (fresh_Track_take_pabo_Fi2bi7_r0_1 x0 x1 x2 x5 x6 x7) 8)] false)]) (id := 0) (nn := 1) (row := 0) (off := 3) (n := 7) (s := 10) (e := 67) (rows := [([(.int .i64 x0), (.int .i64 (fresh_Track_take_pabo_Fi2bi7_r0_4 x0 x1 x5 x6 x7)), (.bool (fresh_Track_take_pabo_Fi2bi7_r0_5 x0 x2 x5 x6 x7))] ++ arrD .i64 x3 7)]) (cs := ([(.int .i64 x0), (.int .i64 (fresh_Track_take_pabo_Fi2bi7_r0_4 x0 x1 x5 x6 x7)), (.bool (fresh_Track_take_pabo_Fi2bi7_r0_5 x0 x2 x5 x6 x7))] ++ arrD .i64 x3 7)) (k := .i64) (T := x3) (i := (fresh_Track_take_pabo_Fi2bi7_r0_2 x0 x1 x2 x5 x6 x7)) (v := (fresh_Track_Take_pabo_Fi2bi7_e0 x0 x1 x2 x3 x5 x6 x7)) (by kernel_rfl) (by kernel_rfl) (by kernel_rfl) (by kernel_rfl) (tbE h2))] (by kernel_rfl)
theorem fresh_Track_Last_p_Fi2bi7_t0 (x0 : Int) (x1 : Int) (x2 : Bool) (x3 : List Int) (x4 : Bool) : cl E0 13 [(V.ptr 0 1 0 0)] [(Blk.flat 67 10 [([(.int .i64 x0), (.int .i64 x1), (.bool x2)] ++ arrD .i64 x3 7)] x4)] = some ([(V.d (.int .i64 x1)), (V.d (.bool x2))], [(Blk.flat 67 10 [([(.int .i64 x0), (.int .i64 x1), (.bool x2)] ++ arrD .i64 x3 7)] x4)]) := by
  exact w13 [.k false] (by kernel_rfl)
theorem fresh_Track_Counts_p_Fi2bi7_t0 (x0 : Int) (x1 : Int) (x2 : Bool) (x3 : List Int) (x4 : Bool) : cl E0 14 [(V.ptr 0 1 0 0)] [(Blk.flat 67 10 [([(.int .i64 x0), (.int .i64 x1), (.bool x2)] ++ arrD .i64 x3 7)] x4)] = some ([(V.agg [(V.d (.int .i64 (gt x3 0))), (V.d (.int .i64 (gt x3 1))), (V.d (.int .i64 (gt x3 2))), (V.d (.int .i64 (gt x3 3))), (V.d (.int .i64 (gt x3 4))), (V.d (.int .i64 (gt x3 5))), (V.d (.int .i64 (gt x3 6)))])], [(Blk.flat 67 10 [([(.int .i64 x0), (.int .i64 x1), (.bool x2)] ++ arrD .i64 x3 7)] x4)]) := by
  exact w14 [.k false] (by kernel_rfl)
theorem fresh_Track_Take_nabn_t0 (x0 : Bool) : cl E0 11 [(V.d .nilp), (V.agg [(V.d (.bool x0)), (V.d .nils)])] [] = some ([(V.agg [(V.d (.int .i64 0)), (V.d (.int .i64 (gt [0, 0, 0, 0, 0, 0, 0, 0] 0))), (V.d (.int .i64 (gt [0, 0, 0, 0, 0, 0, 0, 0] 1))), (V.d (.int .i64 (gt [0, 0, 0, 0, 0, 0, 0, 0] 2))), (V.d (.int .i64 (gt [0, 0, 0, 0, 0, 0, 0, 0] 3))), (V.d (.int .i64 (gt [0, 0, 0, 0, 0, 0, 0, 0] 4))), (V.d (.int .i64 (gt [0, 0, 0, 0, 0, 0, 0, 0] 5))), (V.d (.int .i64 (gt [0, 0, 0, 0, 0, 0, 0, 0] 6))), (V.d (.int .i64 (gt [0, 0, 0, 0, 0, 0, 0, 0] 7)))]), (V.d (.int .i64 1))], []) := by
  exact w11 [.k true] (by kernel_rfl)
theorem fresh_Track_Last_n_t0  : cl E0 13 [(V.d .nilp)] [] = some ([(V.d (.int .i64 0)), (V.d (.bool false))], []) := by
  exact w13 [.k true] (by kernel_rfl)
theorem fresh_Track_Counts_n_t0  : cl E0 14 [(V.d .nilp)] [] = some ([(V.agg [(V.d (.int .i64 (gt [0, 0, 0, 0, 0, 0, 0] 0))), (V.d (.int .i64 (gt [0, 0, 0, 0, 0, 0, 0] 1))), (V.d (.int .i64 (gt [0, 0, 0, 0, 0, 0, 0] 2))), (V.d (.int .i64 (gt [0, 0, 0, 0, 0, 0, 0] 3))), (V.d (.int .i64 (gt [0, 0, 0, 0, 0, 0, 0] 4))), (V.d (.int .i64 (gt [0, 0, 0, 0, 0, 0, 0] 5))), (V.d (.int .i64 (gt [0, 0, 0, 0, 0, 0, 0] 6)))])], []) := by
  exact w14 [.k true] (by kernel_rfl)
end Go.Proofs.Ytkipngagfiaddaa.Den

namespace Go.Proofs.Ytkipngagfiaddaa.Den
open Go Go.Proofs
set_option maxRecDepth 100000
set_option maxHeartbeats 4000000
set_option linter.unusedVariables false
set_option linter.unusedSimpArgs false
structure law06_Fits_L0_s0 where
  c2 : Int
  deriving Inhabited
def law06_Fits_L0_enc (x0 : Bool) (x1 : List R_bool_Su811) (x2 : Int) (s0 : law06_Fits_L0_s0) : List V × Mem := ([(V.d (slD enc_R_bool_Su811 false 2 x0 x1)), (V.d (.int .i64 s0.c2))], [])
def law06_Fits_L0_sel (x1 : List R_bool_Su811) (s0 : law06_Fits_L0_s0) : Bool := (bif tb (decide (s0.c2 < ((x1.length : Nat) : Int))) then (bif tb (inb x1.length s0.c2) then (bif tb (decide (100 < ((((gt x1 s0.c2).c2).length : Nat) : Int))) then false else true) else false) else false)
def law06_Fits_L0_nx (x1 : List R_bool_Su811) (s0 : law06_Fits_L0_s0) : law06_Fits_L0_s0 := ⟨(wi (s0.c2 + 1))⟩
def law06_Fits_L0_ok (x1 : List R_bool_Su811) (s0 : law06_Fits_L0_s0) : Bool := (itS (law06_Fits_L0_sel x1) (law06_Fits_L0_nx x1) bound s0).isSome
def law06_Fits_L0_end (x1 : List R_bool_Su811) (s0 : law06_Fits_L0_s0) : law06_Fits_L0_s0 := (itS (law06_Fits_L0_sel x1) (law06_Fits_L0_nx x1) bound s0).getD default
theorem law06_Fits_L0_go (x0 : Bool) (x1 : List R_bool_Su811) (x2 : Int) (s0 : law06_Fits_L0_s0) : law06_Fits_L0_sel x1 s0 = true → (roundG (runC E0 (cl E0) L7_0) [0, 3] [2] 0) (law06_Fits_L0_enc x0 x1 x2 s0) = some (.normal, law06_Fits_L0_enc x0 x1 x2 (law06_Fits_L0_nx x1 s0)) := by
  unfold law06_Fits_L0_sel law06_Fits_L0_nx
  cases h1 : tb (decide (s0.c2 < ((x1.length : Nat) : Int)))
  · intro g0
    exact absurd g0 ft
  · cases h2 : tb (inb x1.length s0.c2)
    · intro g0
      exact absurd g0 ft
    · cases h3 : tb (decide (100 < ((((gt x1 s0.c2).c2).length : Nat) : Int)))
      · intro _
        exact round_walk [.o 9 (fun _ => o_len_os (enc := enc_R_bool_Su811) (l := x1) (fl := false) (n := x0) (s := 2)), .b (tbE h1), .o 15 (fun _ => o_idx_os (enc := enc_R_bool_Su811) (l := x1) (fl := false) (n := x0) (s := 2) (k := .i64) (tbE h2)), .o 18 (fun _ => o_len_os (enc := (encI .u8)) (l := ((gt x1 s0.c2).c2)) (fl := true) (n := ((gt x1 s0.c2).c1)) (s := 1)), .b (tbE h3)] (by kernel_rfl)
      · intro g0
        exact absurd g0 ft
def law06_Fits_L0_c0 (x1 : List R_bool_Su811) (s0 : law06_Fits_L0_s0) : Bool := (bif tb (decide (s0.c2 < ((x1.length : Nat) : Int))) then (bif tb (inb x1.length s0.c2) then true else false) else false)
def law06_Fits_L0_c1 (x1 : List R_bool_Su811) (s0 : law06_Fits_L0_s0) : Bool := (bif tb (decide (s0.c2 < ((x1.length : Nat) : Int))) then false else true)
theorem law06_Fits_L0_x0 (x0 : Bool) (x1 : List R_bool_Su811) (x2 : Int) (s0 : law06_Fits_L0_s0) : law06_Fits_L0_sel x1 s0 = false → law06_Fits_L0_c0 x1 s0 = true → (roundG (runC E0 (cl E0) L7_0) [0, 3] [2] 0) (law06_Fits_L0_enc x0 x1 x2 s0) = some (.ret, ([(V.d (.bool false))], [])) := by
  unfold law06_Fits_L0_sel law06_Fits_L0_c0
  cases h1 : tb (decide (s0.c2 < ((x1.length : Nat) : Int)))
  · intro g0 g1
    exact absurd g1 ft
  · cases h2 : tb (inb x1.length s0.c2)
    · intro g0 g1
      exact absurd g1 ft
    · cases h3 : tb (decide (100 < ((((gt x1 s0.c2).c2).length : Nat) : Int)))
      · intro g0 g1
        exact absurd g0 tf
      · intro g0 g1
        exact round_walk [.o 9 (fun _ => o_len_os (enc := enc_R_bool_Su811) (l := x1) (fl := false) (n := x0) (s := 2)), .b (tbE h1), .o 15 (fun _ => o_idx_os (enc := enc_R_bool_Su811) (l := x1) (fl := false) (n := x0) (s := 2) (k := .i64) (tbE h2)), .o 18 (fun _ => o_len_os (enc := (encI .u8)) (l := ((gt x1 s0.c2).c2)) (fl := true) (n := ((gt x1 s0.c2).c1)) (s := 1)), .b (tbE h3)] (by kernel_rfl)
theorem law06_Fits_L0_x1 (x0 : Bool) (x1 : List R_bool_Su811) (x2 : Int) (s0 : law06_Fits_L0_s0) : law06_Fits_L0_sel x1 s0 = false → law06_Fits_L0_c0 x1 s0 = false → law06_Fits_L0_c1 x1 s0 = true → (roundG (runC E0 (cl E0) L7_0) [0, 3] [2] 0) (law06_Fits_L0_enc x0 x1 x2 s0) = some ((.exit 0), ([V.un], [])) := by
  unfold law06_Fits_L0_sel law06_Fits_L0_c0 law06_Fits_L0_c1
  cases h1 : tb (decide (s0.c2 < ((x1.length : Nat) : Int)))
  · intro g0 g1 g2
    exact round_walk [.o 9 (fun _ => o_len_os (enc := enc_R_bool_Su811) (l := x1) (fl := false) (n := x0) (s := 2)), .b (tbE h1)] (by kernel_rfl)
  · cases h2 : tb (inb x1.length s0.c2)
    · intro g0 g1 g2
      exact absurd g2 ft
    · cases h3 : tb (decide (100 < ((((gt x1 s0.c2).c2).length : Nat) : Int)))
      · intro g0 g1 g2
        exact absurd g0 tf
      · intro g0 g1 g2
        exact absurd g1 tf
theorem law06_Fits_L0_f0_0 (x0 : Bool) (x1 : List R_bool_Su811) (x2 : Int) (s : law06_Fits_L0_s0) (hok : law06_Fits_L0_ok x1 s = true) (c0 : law06_Fits_L0_c0 x1 (law06_Fits_L0_end x1 s) = true) : loopG (roundG (runC E0 (cl E0) L7_0) [0, 3] [2] 0) bound (law06_Fits_L0_enc x0 x1 x2 s) = some (.ret, ([(V.d (.bool false))], [])) := by
  have e : itS (law06_Fits_L0_sel x1) (law06_Fits_L0_nx x1) bound s = some (law06_Fits_L0_end x1 s) := itS_get hok
  have f := itS_false e
  exact loop_it (law06_Fits_L0_go x0 x1 x2) bound s _ _ _ e (fun h => by cases h) (law06_Fits_L0_x0 x0 x1 x2 (law06_Fits_L0_end x1 s) f c0)
theorem law06_Fits_L0_f0_1 (x0 : Bool) (x1 : List R_bool_Su811) (x2 : Int) (s : law06_Fits_L0_s0) (hok : law06_Fits_L0_ok x1 s = true) (c0 : law06_Fits_L0_c0 x1 (law06_Fits_L0_end x1 s) = false) (c1 : law06_Fits_L0_c1 x1 (law06_Fits_L0_end x1 s) = true) : loopG (roundG (runC E0 (cl E0) L7_0) [0, 3] [2] 0) bound (law06_Fits_L0_enc x0 x1 x2 s) = some ((.exit 0), ([V.un], [])) := by
  have e : itS (law06_Fits_L0_sel x1) (law06_Fits_L0_nx x1) bound s = some (law06_Fits_L0_end x1 s) := itS_get hok
  have f := itS_false e
  exact loop_it (law06_Fits_L0_go x0 x1 x2) bound s _ _ _ e (fun h => by cases h) (law06_Fits_L0_x1 x0 x1 x2 (law06_Fits_L0_end x1 s) f c0 c1)
def law06_Fits_c0 (x1 : List R_bool_Su811) : Bool := (bif tb (decide (60 < ((x1.length : Nat) : Int))) then true else (bif tb (law06_Fits_L0_ok x1 (⟨0⟩ : law06_Fits_L0_s0)) then (bif tb (law06_Fits_L0_c0 x1 (law06_Fits_L0_end x1 (⟨0⟩ : law06_Fits_L0_s0))) then true else (bif tb (law06_Fits_L0_c1 x1 (law06_Fits_L0_end x1 (⟨0⟩ : law06_Fits_L0_s0))) then true else false)) else false))
def law06_Fits_r0_0 (x1 : List R_bool_Su811) : Bool := (bif tb (decide (60 < ((x1.length : Nat) : Int))) then false else (bif tb (law06_Fits_L0_c0 x1 (law06_Fits_L0_end x1 (⟨0⟩ : law06_Fits_L0_s0))) then false else true))
theorem law06_Fits_t0 (x0 : Bool) (x1 : List R_bool_Su811) : law06_Fits_c0 x1 = true → cl E0 7 [(V.d (slD enc_R_bool_Su811 false 2 x0 x1))] [] = some ([(V.d (.bool (law06_Fits_r0_0 x1)))], []) := by
  unfold law06_Fits_c0 law06_Fits_r0_0
  cases h1 : tb (decide (60 < ((x1.length : Nat) : Int)))
  · cases h2 : tb (law06_Fits_L0_ok x1 (⟨0⟩ : law06_Fits_L0_s0))
    · intro g0
      exact absurd g0 ft
    · cases h3 : tb (law06_Fits_L0_c0 x1 (law06_Fits_L0_end x1 (⟨0⟩ : law06_Fits_L0_s0)))
      · cases h4 : tb (law06_Fits_L0_c1 x1 (law06_Fits_L0_end x1 (⟨0⟩ : law06_Fits_L0_s0)))
        · intro g0
          exact absurd g0 ft
        · intro g0
          exact w7 [.o 5 (fun _ => o_len_os (enc := enc_R_bool_Su811) (l := x1) (fl := false) (n := x0) (s := 2)), .b (tbE h1), .l (law06_Fits_L0_f0_1 x0 x1 0 (⟨0⟩ : law06_Fits_L0_s0) (tbE h2) (tbE h3) (tbE h4))] (by kernel_rfl)
      · intro g0
        exact w7 [.o 5 (fun _ => o_len_os (enc := enc_R_bool_Su811) (l := x1) (fl := false) (n := x0) (s := 2)), .b (tbE h1), .l (law06_Fits_L0_f0_0 x0 x1 0 (⟨0⟩ : law06_Fits_L0_s0) (tbE h2) (tbE h3))] (by kernel_rfl)
  · intro g0
    exact w7 [.o 5 (fun _ => o_len_os (enc := enc_R_bool_Su811) (l := x1) (fl := false) (n := x0) (s := 2)), .b (tbE h1)] (by kernel_rfl)
end Go.Proofs.Ytkipngagfiaddaa.Den

namespace Go.Proofs.Ytkipngagfiaddaa.Den
open Go Go.Proofs
set_option maxRecDepth 100000
set_option maxHeartbeats 4000000
set_option linter.unusedVariables false
set_option linter.unusedSimpArgs false
theorem law06_alive_t0 : cl E0 8 [] [] = some ([(V.d (.bool true))], []) := cl_of (n := 60) (by kernel_rfl)
end Go.Proofs.Ytkipngagfiaddaa.Den

namespace Go.Proofs.Ytkipngagfiaddaa.Den
open Go Go.Proofs
set_option maxRecDepth 100000
set_option maxHeartbeats 4000000
set_option linter.unusedVariables false
set_option linter.unusedSimpArgs false
theorem ref06_Begin_i_t0 (x0 : Int) : cl E0 10 [(V.d (.int .i64 x0))] [] = some ([(V.ptr 0 1 0 0)], [(Blk.flat 44 9 [([(.int .i64 x0), (.int .i64 (-1))] ++ arrD .i64 [0, 0, 0, 0, 0, 0, 0] 7)] false)]) := by
  exact w10 [] (by kernel_rfl)
def ref06_Track_Take_pabo_Fi9_e0 (x0 : Int) (x2 : List Int) (x4 : Bool) (x6 : List Int) : List Int := sta x2 7 (ref05_Decode_iabo_r0_2 x0 x4 x6) (wi ((gt x2 (ref05_Decode_iabo_r0_2 x0 x4 x6)) + 1))
def ref06_Track_Take_pabo_Fi9_c0 (x0 : Int) (x1 : Int) (x4 : Bool) (x6 : List Int) : Bool := (bif tb (ref05_Decode_iabo_c0 x0 x4 x6) then (bif tb (((ref05_Decode_iabo_r0_2 x0 x4 x6) : Int) == 0) then (bif tb (decide (0 ≤ x1)) then (bif tb (((ref05_Decode_iabo_r0_0 x0 x4 x6) : Int) != (ref04_Next_i_r0_0 x1)) then true else (bif tb (inb 7 (ref05_Decode_iabo_r0_2 x0 x4 x6)) then true else false)) else (bif tb (inb 7 (ref05_Decode_iabo_r0_2 x0 x4 x6)) then true else false)) else (bif tb (inb 7 (ref05_Decode_iabo_r0_2 x0 x4 x6)) then true else false)) else false)
def ref06_Track_Take_pabo_Fi9_r0_0 (x0 : Int) (x1 : Int) (x4 : Bool) (x6 : List Int) : Int := (bif tb (((ref05_Decode_iabo_r0_2 x0 x4 x6) : Int) == 0) then (bif tb (decide (0 ≤ x1)) then (bif tb (((ref05_Decode_iabo_r0_0 x0 x4 x6) : Int) != (ref04_Next_i_r0_0 x1)) then 0 else (bif tb (((ref05_Decode_iabo_r0_2 x0 x4 x6) : Int) != 0) then 0 else (ref05_Decode_iabo_r0_0 x0 x4 x6))) else (bif tb (((ref05_Decode_iabo_r0_2 x0 x4 x6) : Int) != 0) then 0 else (ref05_Decode_iabo_r0_0 x0 x4 x6))) else (bif tb (((ref05_Decode_iabo_r0_2 x0 x4 x6) : Int) != 0) then 0 else (ref05_Decode_iabo_r0_0 x0 x4 x6)))
def ref06_Track_Take_pabo_Fi9_r0_1 (x0 : Int) (x1 : Int) (x4 : Bool) (x6 : List Int) : List Int := (bif tb (((ref05_Decode_iabo_r0_2 x0 x4 x6) : Int) == 0) then (bif tb (decide (0 ≤ x1)) then (bif tb (((ref05_Decode_iabo_r0_0 x0 x4 x6) : Int) != (ref04_Next_i_r0_0 x1)) then [0, 0, 0, 0, 0, 0, 0, 0] else (bif tb (((ref05_Decode_iabo_r0_2 x0 x4 x6) : Int) != 0) then [0, 0, 0, 0, 0, 0, 0, 0] else (ref05_Decode_iabo_r0_1 x0 x4 x6))) else (bif tb (((ref05_Decode_iabo_r0_2 x0 x4 x6) : Int) != 0) then [0, 0, 0, 0, 0, 0, 0, 0] else (ref05_Decode_iabo_r0_1 x0 x4 x6))) else (bif tb (((ref05_Decode_iabo_r0_2 x0 x4 x6) : Int) != 0) then [0, 0, 0, 0, 0, 0, 0, 0] else (ref05_Decode_iabo_r0_1 x0 x4 x6)))
def ref06_Track_Take_pabo_Fi9_r0_2 (x0 : Int) (x1 : Int) (x4 : Bool) (x6 : List Int) : Int := (bif tb (((ref05_Decode_iabo_r0_2 x0 x4 x6) : Int) == 0) then (bif tb (decide (0 ≤ x1)) then (bif tb (((ref05_Decode_iabo_r0_0 x0 x4 x6) : Int) != (ref04_Next_i_r0_0 x1)) then 6 else (bif tb (((ref05_Decode_iabo_r0_2 x0 x4 x6) : Int) != 0) then (ref05_Decode_iabo_r0_2 x0 x4 x6) else 0)) else (bif tb (((ref05_Decode_iabo_r0_2 x0 x4 x6) : Int) != 0) then (ref05_Decode_iabo_r0_2 x0 x4 x6) else 0)) else (bif tb (((ref05_Decode_iabo_r0_2 x0 x4 x6) : Int) != 0) then (ref05_Decode_iabo_r0_2 x0 x4 x6) else 0))
def ref06_Track_Take_pabo_Fi9_r0_4 (x0 : Int) (x1 : Int) (x4 : Bool) (x6 : List Int) : Int := (bif tb (((ref05_Decode_iabo_r0_2 x0 x4 x6) : Int) == 0) then (ref05_Decode_iabo_r0_0 x0 x4 x6) else x1)
def ref06_Track_Take_pabo_Fi9_r0_5 (x0 : Int) (x1 : Int) (x2 : List Int) (x4 : Bool) (x6 : List Int) : List Int := (bif tb (((ref05_Decode_iabo_r0_2 x0 x4 x6) : Int) == 0) then (bif tb (decide (0 ≤ x1)) then (bif tb (((ref05_Decode_iabo_r0_0 x0 x4 x6) : Int) != (ref04_Next_i_r0_0 x1)) then [(gt x2 0), (gt x2 1), (gt x2 2), (gt x2 3), (gt x2 4), (gt x2 5), (wi ((gt x2 6) + 1))] else (ref06_Track_Take_pabo_Fi9_e0 x0 x2 x4 x6)) else (ref06_Track_Take_pabo_Fi9_e0 x0 x2 x4 x6)) else (ref06_Track_Take_pabo_Fi9_e0 x0 x2 x4 x6))
theorem ref06_Track_Take_pabo_Fi9_t0 (x0 : Int) (x1 : Int) (x2 : List Int) (x4 : Bool) (x5 : Bool) (x6 : List Int) : ref06_Track_Take_pabo_Fi9_c0 x0 x1 x4 x6 = true → cl E0 12 [(V.ptr 0 1 0 0), (V.agg [(V.d (.bool x4)), (V.d (slD (encI .u8) true 1 x5 x6))])] [(Blk.flat 44 9 [([(.int .i64 x0), (.int .i64 x1)] ++ arrD .i64 x2 7)] false)] = some ([(V.agg [(V.d (.int .i64 (ref06_Track_Take_pabo_Fi9_r0_0 x0 x1 x4 x6))), (V.d (.int .i64 (gt (ref06_Track_Take_pabo_Fi9_r0_1 x0 x1 x4 x6) 0))), (V.d (.int .i64 (gt (ref06_Track_Take_pabo_Fi9_r0_1 x0 x1 x4 x6) 1))), (V.d (.int .i64 (gt (ref06_Track_Take_pabo_Fi9_r0_1 x0 x1 x4 x6) 2))), (V.d (.int .i64 (gt (ref06_Track_Take_pabo_Fi9_r0_1 x0 x1 x4 x6) 3))), (V.d (.int .i64 (gt (ref06_Track_Take_pabo_Fi9_r0_1 x0 x1 x4 x6) 4))), (V.d (.int .i64 (gt (ref06_Track_Take_pabo_Fi9_r0_1 x0 x1 x4 x6) 5))), (V.d (.int .i64 (gt (ref06_Track_Take_pabo_Fi9_r0_1 x0 x1 x4 x6) 6))), (V.d (.int .i64 (gt (ref06_Track_Take_pabo_Fi9_r0_1 x0 x1 x4 x6) 7)))]), (V.d (.int .i64 (ref06_Track_Take_pabo_Fi9_r0_2 x0 x1 x4 x6)))], [(Blk.flat 44 9 [([(.int .i64 x0), (.int .i64 (ref06_Track_Take_pabo_Fi9_r0_4 x0 x1 x4 x6))] ++ arrD .i64 (ref06_Track_Take_pabo_Fi9_r0_5 x0 x1 x2 x4 x6) 7)] false)]) := by
  unfold ref06_Track_Take_pabo_Fi9_c0 ref06_Track_Take_pabo_Fi9_r0_0 ref06_Track_Take_pabo_Fi9_r0_1 ref06_Track_Take_pabo_Fi9_r0_2 ref06_Track_Take_pabo_Fi9_r0_4 ref06_Track_Take_pabo_Fi9_r0_5
  cases h1 : tb (ref05_Decode_iabo_c0 x0 x4 x6)
  · intro g0
    exact absurd g0 ft
  · cases h2 : tb (((ref05_Decode_iabo_r0_2 x0 x4 x6) : Int) == 0)
    · cases h3 : tb (inb 7 (ref05_Decode_iabo_r0_2 x0 x4 x6))
      · intro g0
        exact absurd g0 ft
      · cases h4 : tb (((ref05_Decode_iabo_r0_2 x0 x4 x6) : Int) != 0)
        · intro g0
          exact w12 [.c (ref05_Decode_iabo_t0 x0 x4 x5 x6 (tbE h1)), .b (tbE h2), .o 43 (fun _ => o_idxAA (id := 0) (nn := 1) (row := 0) (off := 2) (n := 7) (s := 1) (k := .i64) (i := (ref05_Decode_iabo_r0_2 x0 x4 x6)) (tbE h3)), .m 44 (o_load_arr (m := [(Blk.flat 44 9 [([(.int .i64 x0), (.int .i64 x1)] ++ arrD .i64 x2 7)] true), (Blk.gen 39 2 [[(V.d (.bool x4)), (V.d (slD (encI .u8) true 1 x5 x6))]] true), (Blk.flat 33 9 [[(.int .i64 0), (.int .i64 0), (.int .i64 0), (.int .i64 0), (.int .i64 0), (.int .i64 0), (.int .i64 0), (.int .i64 0), (.int .i64 0)]] true), (Blk.flat 33 9 [([(.int .i64 (ref05_Decode_iabo_r0_0 x0 x4 x6))] ++ arrD .i64 (ref05_Decode_iabo_r0_1 x0 x4 x6) 8)] true)]) (id := 0) (nn := 1) (row := 0) (off := 2) (n := 7) (k := .i64) (T := x2) (i := (ref05_Decode_iabo_r0_2 x0 x4 x6)) (by kernel_rfl) (tbE h3)), .o 48 (fun _ => o_idxAA (id := 0) (nn := 1) (row := 0) (off := 2) (n := 7) (s := 1) (k := .i64) (i := (ref05_Decode_iabo_r0_2 x0 x4 x6)) (tbE h3)), .m 100048 (o_store_arr (m := [(Blk.flat 44 9 [([(.int .i64 x0), (.int .i64 x1)] ++ arrD .i64 x2 7)] false), (Blk.gen 39 2 [[(V.d (.bool x4)), (V.d (slD (encI .u8) true 1 x5 x6))]] false), (Blk.flat 33 9 [[(.int .i64 0), (.int .i64 0), (.int .i64 0), (.int .i64 0), (.int .i64 0), (.int .i64 0), (.int .i64 0), (.int .i64 0), (.int .i64 0)]] false), (Blk.flat 33 9 [([(.int .i64 (ref05_Decode_iabo_r0_0 x0 x4 x6))] ++ arrD .i64 (ref05_Decode_iabo_r0_1 x0 x4 x6) 8)] false)]) (id := 0) (nn := 1) (row := 0) (off := 2) (n := 7) (s := 9) (e := 44) (rows := [([(.int .i64 x0), (.int .i64 x1)] ++ arrD .i64 x2 7)]) (cs := ([(.int .i64 x0), (.int .i64 x1)] ++ arrD .i64 x2 7)) (k := .i64) (T := x2) (i := (ref05_Decode_iabo_r0_2 x0 x4 x6)) (v := (wi ((gt x2 (ref05_Decode_iabo_r0_2 x0 x4 x6)) + 1))) (by kernel_rfl) (by kernel_rfl) (by kernel_rfl) (by kernel_rfl) (tbE h3)), .b (tbE h4)] (by kernel_rfl)
        · intro g0
          exact w12 [.c (ref05_Decode_iabo_t0 x0 x4 x5 x6 (tbE h1)), .b (tbE h2), .o 43 (fun _ => o_idxAA (id := 0) (nn := 1) (row := 0) (off := 2) (n := 7) (s := 1) (k := .i64) (i := (ref05_Decode_iabo_r0_2 x0 x4 x6)) (tbE h3)), .m 44 (o_load_arr (m := [(Blk.flat 44 9 [([(.int .i64 x0), (.int .i64 x1)] ++ arrD .i64 x2 7)] true), (Blk.gen 39 2 [[(V.d (.bool x4)), (V.d (slD (encI .u8) true 1 x5 x6))]] true), (Blk.flat 33 9 [[(.int .i64 0), (.int .i64 0), (.int .i64 0), (.int .i64 0), (.int .i64 0), (.int .i64 0), (.int .i64 0), (.int .i64 0), (.int .i64 0)]] true), (Blk.flat 33 9 [([(.int .i64 (ref05_Decode_iabo_r0_0 x0 x4 x6))] ++ arrD .i64 (ref05_Decode_iabo_r0_1 x0 x4 x6) 8)] true)]) (id := 0) (nn := 1) (row := 0) (off := 2) (n := 7) (k := .i64) (T := x2) (i := (ref05_Decode_iabo_r0_2 x0 x4 x6)) (by kernel_rfl) (tbE h3)), .o 48 (fun _ => o_idxAA (id := 0) (nn := 1) (row := 0) (off := 2) (n := 7) (s := 1) (k := .i64) (i := (ref05_Decode_iabo_r0_2 x0 x4 x6)) (tbE h3)), .m 100048 (o_store_arr (m := [(Blk.flat 44 9 [([(.int .i64 x0), (.int .i64 x1)] ++ arrD .i64 x2 7)] false), (Blk.gen 39 2 [[(V.d (.bool x4)), (V.d (slD (encI .u8) true 1 x5 x6))]] false), (Blk.flat 33 9 [[(.int .i64 0), (.int .i64 0), (.int .i64 0), (.int .i64 0), (.int .i64 0), (.int .i64 0), (.int .i64 0), (.int .i64 0), (.int .i64 0)]] false), (Blk.flat 33 9 [([(.int .i64 (ref05_Decode_iabo_r0_0 x0 x4 x6))] ++ arrD .i64 (ref05_Decode_iabo_r0_1 x0 x4 x6) 8)] false)]) (id := 0) (nn := 1) (row := 0) (off := 2) (n := 7) (s := 9) (e := 44) (rows := [([(.int .i64 x0), (.int .i64 x1)] ++ arrD .i64 x2 7)]) (cs := ([(.int .i64 x0), (.int .i64 x1)] ++ arrD .i64 x2 7)) (k := .i64) (T := x2) (i := (ref05_Decode_iabo_r0_2 x0 x4 x6)) (v := (wi ((gt x2 (ref05_Decode_iabo_r0_2 x0 x4 x6)) + 1))) (by kernel_rfl) (by kernel_rfl) (by kernel_rfl) (by kernel_rfl) (tbE h3)), .b (tbE h4)] (by kernel_rfl)
    · cases h3 : tb (decide (0 ≤ x1))
      · cases h4 : tb (inb 7 (ref05_Decode_iabo_r0_2 x0 x4 x6))
        · intro g0
          exact absurd g0 ft
        · cases h5 : tb (((ref05_Decode_iabo_r0_2 x0 x4 x6) : Int) != 0)
          · intro g0
            exact w12 [.c (ref05_Decode_iabo_t0 x0 x4 x5 x6 (tbE h1)), .b (tbE h2), .b (tbE h3), .o 43 (fun _ => o_idxAA (id := 0) (nn := 1) (row := 0) (off := 2) (n := 7) (s := 1) (k := .i64) (i := (ref05_Decode_iabo_r0_2 x0 x4 x6)) (tbE h4)), .m 44 (o_load_arr (m := [(Blk.flat 44 9 [([(.int .i64 x0), (.int .i64 (ref05_Decode_iabo_r0_0 x0 x4 x6))] ++ arrD .i64 x2 7)] true), (Blk.gen 39 2 [[(V.d (.bool x4)), (V.d (slD (encI .u8) true 1 x5 x6))]] true), (Blk.flat 33 9 [[(.int .i64 0), (.int .i64 0), (.int .i64 0), (.int .i64 0), (.int .i64 0), (.int .i64 0), (.int .i64 0), (.int .i64 0), (.int .i64 0)]] true), (Blk.flat 33 9 [([(.int .i64 (ref05_Decode_iabo_r0_0 x0 x4 x6))] ++ arrD .i64 (ref05_Decode_iabo_r0_1 x0 x4 x6) 8)] true)]) (id := 0) (nn := 1) (row := 0) (off := 2) (n := 7) (k := .i64) (T := x2) (i := (ref05_Decode_iabo_r0_2 x0 x4 x6)) (by kernel_rfl) (tbE h4)), .o 48 (fun _ => o_idxAA (id := 0) (nn := 1) (row := 0) (off := 2) (n := 7) (s := 1) (k := .i64) (i := (ref05_Decode_iabo_r0_2 x0 x4 x6)) (tbE h4)), .m 100048 (o_store_arr (m := [(Blk.flat 44 9 [([(.int .i64 x0), (.int .i64 (ref05_Decode_iabo_r0_0 x0 x4 x6))] ++ arrD .i64 x2 7)] false), (Blk.gen 39 2 [[(V.d (.bool x4)), (V.d (slD (encI .u8) true 1 x5 x6))]] false), (Blk.flat 33 9 [[(.int .i64 0), (.int .i64 0), (.int .i64 0), (.int .i64 0), (.int .i64 0), (.int .i64 0), (.int .i64 0), (.int .i64 0), (.int .i64 0)]] false), (Blk.flat 33 9 [([(.int .i64 (ref05_Decode_iabo_r0_0 x0 x4 x6))] ++ arrD .i64 (ref05_Decode_iabo_r0_1 x0 x4 x6) 8)] false)]) (id := 0) (nn := 1) (row := 0) (off := 2) (n := 7) (s := 9) (e := 44) (rows := [([(.int .i64 x0), (.int .i64 (ref05_Decode_iabo_r0_0 x0 x4 x6))] ++ arrD .i64 x2 7)]) (cs := ([(.int .i64 x0), (.int .i64 (ref05_Decode_iabo_r0_0 x0 x4 x6))] ++ arrD .i64 x2 7)) (k := .i64) (T := x2) (i := (ref05_Decode_iabo_r0_2 x0 x4 x6)) (v := (wi ((gt x2 (ref05_Decode_iabo_r0_2 x0 x4 x6)) + 1))) (by kernel_rfl) (by kernel_rfl) (by kernel_rfl) (by kernel_rfl) (tbE h4)), .b (tbE h5)] (by kernel_rfl)
          · intro g0
            exact w12 [.c (ref05_Decode_iabo_t0 x0 x4 x5 x6 (tbE h1)), .b (tbE h2), .b (tbE h3), .o 43 (fun _ => o_idxAA (id := 0) (nn := 1) (row := 0) (off := 2) (n := 7) (s := 1) (k := .i64) (i := (ref05_Decode_iabo_r0_2 x0 x4 x6)) (tbE h4)), .m 44 (o_load_arr (m := [(Blk.flat 44 9 [([(.int .i64 x0), (.int .i64 (ref05_Decode_iabo_r0_0 x0 x4 x6))] ++ arrD .i64 x2 7)] true), (Blk.gen 39 2 [[(V.d (.bool x4)), (V.d (slD (encI .u8) true 1 x5 x6))]] true), (Blk.flat 33 9 [[(.int .i64 0), (.int .i64 0), (.int .i64 0), (.int .i64 0), (.int .i64 0), (.int .i64 0), (.int .i64 0), (.int .i64 0), (.int .i64 0)]] true), (Blk.flat 33 9 [([(.int .i64 (ref05_Decode_iabo_r0_0 x0 x4 x6))] ++ arrD .i64 (ref05_Decode_iabo_r0_1 x0 x4 x6) 8)] true)]) (id := 0) (nn := 1) (row := 0) (off := 2) (n := 7) (k := .i64) (T := x2) (i := (ref05_Decode_iabo_r0_2 x0 x4 x6)) (by kernel_rfl) (tbE h4)), .o 48 (fun _ => o_idxAA (id := 0) (nn := 1) (row := 0) (off := 2) (n := 7) (s := 1) (k := .i64) (i := (ref05_Decode_iabo_r0_2 x0 x4 x6)) (tbE h4)), .m 100048 (o_store_arr (m := [(Blk.flat 44 9 [([(.int .i64 x0), (.int .i64 (ref05_Decode_iabo_r0_0 x0 x4 x6))] ++ arrD .i64 x2 7)] false), (Blk.gen 39 2 [[(V.d (.bool x4)), (V.d (slD (encI .u8) true 1 x5 x6))]] false), (Blk.flat 33 9 [[(.int .i64 0), (.int .i64 0), (.int .i64 0), (.int .i64 0), (.int .i64 0), (.int .i64 0), (.int .i64 0), (.int .i64 0), (.int .i64 0)]] false), (Blk.flat 33 9 [([(.int .i64 (ref05_Decode_iabo_r0_0 x0 x4 x6))] ++ arrD .i64 (ref05_Decode_iabo_r0_1 x0 x4 x6) 8)] false)]) (id := 0) (nn := 1) (row := 0) (off := 2) (n := 7) (s := 9) (e := 44) (rows := [([(.int .i64 x0), (.int .i64 (ref05_Decode_iabo_r0_0 x0 x4 x6))] ++ arrD .i64 x2 7)]) (cs := ([(.int .i64 x0), (.int .i64 (ref05_Decode_iabo_r0_0 x0 x4 x6))] ++ arrD .i64 x2 7)) (k := .i64) (T := x2) (i := (ref05_Decode_iabo_r0_2 x0 x4 x6)) (v := (wi ((gt x2 (ref05_Decode_iabo_r0_2 x0 x4 x6)) + 1))) (by kernel_rfl) (by kernel_rfl) (by kernel_rfl) (by kernel_rfl) (tbE h4)), .b (tbE h5)] (by kernel_rfl)
      · cases h4 : tb (((ref05_Decode_iabo_r0_0 x0 x4 x6) : Int) != (ref04_Next_i_r0_0 x1))
        · cases h5 : tb (inb 7 (ref05_Decode_iabo_r0_2 x0 x4 x6))
          · intro g0
            exact absurd g0 ft
          · cases h6 : tb (((ref05_Decode_iabo_r0_2 x0 x4 x6) : Int) != 0)
            · intro g0
              exact w12 [.c (ref05_Decode_iabo_t0 x0 x4 x5 x6 (tbE h1)), .b (tbE h2), .b (tbE h3), .c (ref04_Next_i_t0 x1), .b (tbE h4), .o 43 (fun _ => o_idxAA (id := 0) (nn := 1) (row := 0) (off := 2) (n := 7) (s := 1) (k := .i64) (i := (ref05_Decode_iabo_r0_2 x0 x4 x6)) (tbE h5)), .m 44 (o_load_arr (m := [(Blk.flat 44 9 [([(.int .i64 x0), (.int .i64 (ref05_Decode_iabo_r0_0 x0 x4 x6))] ++ arrD .i64 x2 7)] true), (Blk.gen 39 2 [[(V.d (.bool x4)), (V.d (slD (encI .u8) true 1 x5 x6))]] true), (Blk.flat 33 9 [[(.int .i64 0), (.int .i64 0), (.int .i64 0), (.int .i64 0), (.int .i64 0), (.int .i64 0), (.int .i64 0), (.int .i64 0), (.int .i64 0)]] true), (Blk.flat 33 9 [([(.int .i64 (ref05_Decode_iabo_r0_0 x0 x4 x6))] ++ arrD .i64 (ref05_Decode_iabo_r0_1 x0 x4 x6) 8)] true)]) (id := 0) (nn := 1) (row := 0) (off := 2) (n := 7) (k := .i64) (T := x2) (i := (ref05_Decode_iabo_r0_2 x0 x4 x6)) (by kernel_rfl) (tbE h5)), .o 48 (fun _ => o_idxAA (id := 0) (nn := 1) (row := 0) (off := 2) (n := 7) (s := 1) (k := .i64) (i := (ref05_Decode_iabo_r0_2 x0 x4 x6)) (tbE h5)), .m 100048 (o_store_arr (m := [(Blk.flat 44 9 [([(.int .i64 x0), (.int .i64 (ref05_Decode_iabo_r0_0 x0 x4 x6))] ++ arrD .i64 x2 7)] false), (Blk.gen 39 2 [[(V.d (.bool x4)), (V.d (slD (encI .u8) true 1 x5 x6))]] false), (Blk.flat 33 9 [[(.int .i64 0), (.int .i64 0), (.int .i64 0), (.int .i64 0), (.int .i64 0), (.int .i64 0), (.int .i64 0), (.int .i64 0), (.int .i64 0)]] false), (Blk.flat 33 9 [([(.int .i64 (ref05_Decode_iabo_r0_0 x0 x4 x6))] ++ arrD .i64 (ref05_Decode_iabo_r0_1 x0 x4 x6) 8)] false)]) (id := 0) (nn := 1) (row := 0) (off := 2) (n := 7) (s := 9) (e := 44) (rows := [([(.int .i64 x0), (.int .i64 (ref05_Decode_iabo_r0_0 x0 x4 x6))] ++ arrD .i64 x2 7)]) (cs := ([(.int .i64 x0), (.int .i64 (ref05_Decode_iabo_r0_0 x0 x4 x6))] ++ arrD .i64 x2 7)) (k := .i64) (T := x2) (i := (ref05_Decode_iabo_r0_2 x0 x4 x6)) (v := (wi ((gt x2 (ref05_Decode_iabo_r0_2 x0 x4 x6)) + 1))) (by kernel_rfl) (by kernel_rfl) (by kernel_rfl) (by kernel_rfl) (tbE h5)), .b (tbE h6)] (by kernel_rfl)
            · intro g0
              exact w12 [.c (ref05_Decode_iabo_t0 x0 x4 x5 x6 (tbE h1)), .b (tbE h2), .b (tbE h3), .c (ref04_Next_i_t0 x1), .b (tbE h4), .o 43 (fun _ => o_idxAA (id := 0) (nn := 1) (row := 0) (off := 2) (n := 7) (s := 1) (k := .i64) (i := (ref05_Decode_iabo_r0_2 x0 x4 x6)) (tbE h5)), .m 44 (o_load_arr (m := [(Blk.flat 44 9 [([(.int .i64 x0), (.int .i64 (ref05_Decode_iabo_r0_0 x0 x4 x6))] ++ arrD .i64 x2 7)] true), (Blk.gen 39 2 [[(V.d (.bool x4)), (V.d (slD (encI .u8) true 1 x5 x6))]] true), (Blk.flat 33 9 [[(.int .i64 0), (.int .i64 0), (.int .i64 0), (.int .i64 0), (.int .i64 0), (.int .i64 0), (.int .i64 0), (.int .i64 0), (.int .i64 0)]] true), (Blk.flat 33 9 [([(.int .i64 (ref05_Decode_iabo_r0_0 x0 x4 x6))] ++ arrD .i64 (ref05_Decode_iabo_r0_1 x0 x4 x6) 8)] true)]) (id := 0) (nn := 1) (row := 0) (off := 2) (n := 7) (k := .i64) (T := x2) (i := (ref05_Decode_iabo_r0_2 x0 x4 x6)) (by kernel_rfl) (tbE h5)), .o 48 (fun _ => o_idxAA (id := 0) (nn := 1) (row := 0) (off := 2) (n := 7) (s := 1) (k := .i64) (i := (ref05_Decode_iabo_r0_2 x0 x4 x6)) (tbE h5)), .m 100048 (o_store_arr (m := [(Blk.flat 44 9 [([(.int .i64 x0), (.int .i64 (ref05_Decode_iabo_r0_0 x0 x4 x6))] ++ arrD .i64 x2 7)] false), (Blk.gen 39 2 [[(V.d (.bool x4)), (V.d (slD (encI .u8) true 1 x5 x6))]] false), (Blk.flat 33 9 [[(.int .i64 0), (.int .i64 0), (.int .i64 0), (.int .i64 0), (.int .i64 0), (.int .i64 0), (.int .i64 0), (.int .i64 0), (.int .i64 0)]] false), (Blk.flat 33 9 [([(.int .i64 (ref05_Decode_iabo_r0_0 x0 x4 x6))] ++ arrD .i64 (ref05_Decode_iabo_r0_1 x0 x4 x6) 8)] false)]) (id := 0) (nn := 1) (row := 0) (off := 2) (n := 7) (s := 9) (e := 44) (rows := [([(.int .i64 x0), (.int .i64 (ref05_Decode_iabo_r0_0 x0 x4 x6))] ++ arrD .i64 x2 7)]) (cs := ([(.int .i64 x0), (.int .i64 (ref05_Decode_iabo_r0_0 x0 x4 x6))] ++ arrD .i64 x2 7)) (k := .i64) (T := x2) (i := (ref05_Decode_iabo_r0_2 x0 x4 x6)) (v := (wi ((gt x2 (ref05_Decode_iabo_r0_2 x0 x4 x6)) + 1))) (by kernel_rfl) (by kernel_rfl) (by kernel_rfl) (by kernel_rfl) (tbE h5)), .b (tbE h6)] (by kernel_rfl)
        · intro g0
          exact w12 [.c (ref05_Decode_iabo_t0 x0 x4 x5 x6 (tbE h1)), .b (tbE h2), .b (tbE h3), .c (ref04_Next_i_t0 x1), .b (tbE h4), .k true] (by kernel_rfl)
end Go.Proofs.Ytkipngagfiaddaa.Den

namespace Go.Proofs.Ytkipngagfiaddaa.Den
open Go Go.Proofs
set_option maxRecDepth 100000
set_option maxHeartbeats 4000000
set_option linter.unusedVariables false
set_option linter.unusedSimpArgs false
def law06_FreshPlays_S0_c0 (x10 : List R_bool_Su811) (x11 : Int) : Bool := (bif tb (decide (x11 < ((x10.length : Nat) : Int))) then true else false)
theorem law06_FreshPlays_S0_t0 (x0 : Int) (x1 : Int) (x2 : Bool) (x3 : List Int) (x4 : Int) (x5 : Int) (x6 : List Int) (x7 : Bool) (x8 : Bool) (x9 : Bool) (x10 : List R_bool_Su811) (x11 : Int) : law06_FreshPlays_S0_c0 x10 x11 = true → segG (runC E0 (cl E0) S3_0) [1, 6, 8, 9] [] [1, 6, 8, 9] 2 ([(V.d (slD enc_R_bool_Su811 false 2 x9 x10)), (V.ptr 0 1 0 0), (V.ptr 1 1 0 0), (V.d (.int .i64 x11))], [(Blk.flat 67 10 [([(.int .i64 x0), (.int .i64 x1), (.bool x2)] ++ arrD .i64 x3 7)] x7), (Blk.flat 44 9 [([(.int .i64 x4), (.int .i64 x5)] ++ arrD .i64 x6 7)] x8)]) = some (.normal, ([(V.d (slD enc_R_bool_Su811 false 2 x9 x10)), (V.ptr 0 1 0 0), (V.ptr 1 1 0 0), (V.d (.int .i64 x11))], [(Blk.flat 67 10 [([(.int .i64 x0), (.int .i64 x1), (.bool x2)] ++ arrD .i64 x3 7)] x7), (Blk.flat 44 9 [([(.int .i64 x4), (.int .i64 x5)] ++ arrD .i64 x6 7)] x8)])) := by
  unfold law06_FreshPlays_S0_c0
  cases h1 : tb (decide (x11 < ((x10.length : Nat) : Int)))
  · intro g0
    exact absurd g0 ft
  · intro g0
    exact seg_walk [.o 56 (fun _ => o_len_os (enc := enc_R_bool_Su811) (l := x10) (fl := false) (n := x9) (s := 2)), .b (tbE h1)] (by kernel_rfl)
theorem law06_FreshPlays_S0_t1 (x0 : Int) (x1 : Int) (x2 : Bool) (x3 : List Int) (x4 : Int) (x5 : Int) (x6 : List Int) (x7 : Bool) (x8 : Bool) (x9 : Bool) (x10 : List R_bool_Su811) (x11 : Int) : law06_FreshPlays_S0_c0 x10 x11 = false → segG (runC E0 (cl E0) S3_0) [1, 6, 8, 9] [] [1, 6, 8, 9] 2 ([(V.d (slD enc_R_bool_Su811 false 2 x9 x10)), (V.ptr 0 1 0 0), (V.ptr 1 1 0 0), (V.d (.int .i64 x11))], [(Blk.flat 67 10 [([(.int .i64 x0), (.int .i64 x1), (.bool x2)] ++ arrD .i64 x3 7)] x7), (Blk.flat 44 9 [([(.int .i64 x4), (.int .i64 x5)] ++ arrD .i64 x6 7)] x8)]) = some ((.exit 0), ([], [(Blk.flat 67 10 [([(.int .i64 x0), (.int .i64 x1), (.bool x2)] ++ arrD .i64 x3 7)] x7), (Blk.flat 44 9 [([(.int .i64 x4), (.int .i64 x5)] ++ arrD .i64 x6 7)] x8)])) := by
  unfold law06_FreshPlays_S0_c0
  cases h1 : tb (decide (x11 < ((x10.length : Nat) : Int)))
  · intro g0
    exact seg_walk [.o 56 (fun _ => o_len_os (enc := enc_R_bool_Su811) (l := x10) (fl := false) (n := x9) (s := 2)), .b (tbE h1)] (by kernel_rfl)
  · intro g0
    exact absurd g0 tf
def law06_FreshPlays_S1_e0 (x0 : Int) (x1 : Int) (x2 : Bool) (x10 : List R_bool_Su811) (x11 : Int) : List Int := (fresh_Track_take_pabo_Fi2bi7_r0_1 x0 x1 x2 ((gt x10 x11).c0) ((gt x10 x11).c1) ((gt x10 x11).c2))
def law06_FreshPlays_S1_e1 (x0 : Int) (x1 : Int) (x2 : Bool) (x3 : List Int) (x10 : List R_bool_Su811) (x11 : Int) : List Int := (fresh_Track_Take_pabo_Fi2bi7_e1 x0 x1 x2 x3 ((gt x10 x11).c0) ((gt x10 x11).c1) ((gt x10 x11).c2))
def law06_FreshPlays_S1_e2 (x4 : Int) (x5 : Int) (x10 : List R_bool_Su811) (x11 : Int) : List Int := (ref06_Track_Take_pabo_Fi9_r0_1 x4 x5 ((gt x10 x11).c0) ((gt x10 x11).c2))
def law06_FreshPlays_S1_e3 (x4 : Int) (x5 : Int) (x6 : List Int) (x10 : List R_bool_Su811) (x11 : Int) : List Int := (ref06_Track_Take_pabo_Fi9_r0_5 x4 x5 x6 ((gt x10 x11).c0) ((gt x10 x11).c2))
def law06_FreshPlays_S1_e4 (x0 : Int) (x1 : Int) (x10 : List R_bool_Su811) (x11 : Int) : Int := (fresh_Track_take_pabo_Fi2bi7_r0_4 x0 x1 ((gt x10 x11).c0) ((gt x10 x11).c1) ((gt x10 x11).c2))
def law06_FreshPlays_S1_e5 (x0 : Int) (x2 : Bool) (x10 : List R_bool_Su811) (x11 : Int) : Bool := (fresh_Track_take_pabo_Fi2bi7_r0_5 x0 x2 ((gt x10 x11).c0) ((gt x10 x11).c1) ((gt x10 x11).c2))
def law06_FreshPlays_S1_e6 (x0 : Int) (x1 : Int) (x2 : Bool) (x4 : Int) (x5 : Int) (x10 : List R_bool_Su811) (x11 : Int) : Bool := (true != ((((fresh_Track_take_pabo_Fi2bi7_r0_0 x0 x1 x2 ((gt x10 x11).c0) ((gt x10 x11).c1) ((gt x10 x11).c2)) : Int) == (ref06_Track_Take_pabo_Fi9_r0_0 x4 x5 ((gt x10 x11).c0) ((gt x10 x11).c2))) && ((((gt (law06_FreshPlays_S1_e0 x0 x1 x2 x10 x11) 0) : Int) == (gt (law06_FreshPlays_S1_e2 x4 x5 x10 x11) 0)) && ((((gt (law06_FreshPlays_S1_e0 x0 x1 x2 x10 x11) 1) : Int) == (gt (law06_FreshPlays_S1_e2 x4 x5 x10 x11) 1)) && ((((gt (law06_FreshPlays_S1_e0 x0 x1 x2 x10 x11) 2) : Int) == (gt (law06_FreshPlays_S1_e2 x4 x5 x10 x11) 2)) && ((((gt (law06_FreshPlays_S1_e0 x0 x1 x2 x10 x11) 3) : Int) == (gt (law06_FreshPlays_S1_e2 x4 x5 x10 x11) 3)) && ((((gt (law06_FreshPlays_S1_e0 x0 x1 x2 x10 x11) 4) : Int) == (gt (law06_FreshPlays_S1_e2 x4 x5 x10 x11) 4)) && ((((gt (law06_FreshPlays_S1_e0 x0 x1 x2 x10 x11) 5) : Int) == (gt (law06_FreshPlays_S1_e2 x4 x5 x10 x11) 5)) && ((((gt (law06_FreshPlays_S1_e0 x0 x1 x2 x10 x11) 6) : Int) == (gt (law06_FreshPlays_S1_e2 x4 x5 x10 x11) 6)) && ((((gt (law06_FreshPlays_S1_e0 x0 x1 x2 x10 x11) 7) : Int) == (gt (law06_FreshPlays_S1_e2 x4 x5 x10 x11) 7)) && true))))))))))
def law06_FreshPlays_S1_e7 (x0 : Int) (x1 : Int) (x2 : Bool) (x3 : List Int) (x4 : Int) (x5 : Int) (x6 : List Int) (x10 : List R_bool_Su811) (x11 : Int) : Bool := (true != ((((gt (law06_FreshPlays_S1_e1 x0 x1 x2 x3 x10 x11) 0) : Int) == (gt (law06_FreshPlays_S1_e3 x4 x5 x6 x10 x11) 0)) && ((((gt (law06_FreshPlays_S1_e1 x0 x1 x2 x3 x10 x11) 1) : Int) == (gt (law06_FreshPlays_S1_e3 x4 x5 x6 x10 x11) 1)) && ((((gt (law06_FreshPlays_S1_e1 x0 x1 x2 x3 x10 x11) 2) : Int) == (gt (law06_FreshPlays_S1_e3 x4 x5 x6 x10 x11) 2)) && ((((gt (law06_FreshPlays_S1_e1 x0 x1 x2 x3 x10 x11) 3) : Int) == (gt (law06_FreshPlays_S1_e3 x4 x5 x6 x10 x11) 3)) && ((((gt (law06_FreshPlays_S1_e1 x0 x1 x2 x3 x10 x11) 4) : Int) == (gt (law06_FreshPlays_S1_e3 x4 x5 x6 x10 x11) 4)) && ((((gt (law06_FreshPlays_S1_e1 x0 x1 x2 x3 x10 x11) 5) : Int) == (gt (law06_FreshPlays_S1_e3 x4 x5 x6 x10 x11) 5)) && ((((gt (law06_FreshPlays_S1_e1 x0 x1 x2 x3 x10 x11) 6) : Int) == (gt (law06_FreshPlays_S1_e3 x4 x5 x6 x10 x11) 6)) && true))))))))
def law06_FreshPlays_S1_c0 (x0 : Int) (x1 : Int) (x2 : Bool) (x4 : Int) (x5 : Int) (x10 : List R_bool_Su811) (x11 : Int) : Bool := (bif tb (inb x10.length x11) then (bif tb (fresh_Track_Take_pabo_Fi2bi7_c0 x0 x1 x2 ((gt x10 x11).c0) ((gt x10 x11).c1) ((gt x10 x11).c2)) then (bif tb (ref06_Track_Take_pabo_Fi9_c0 x4 x5 ((gt x10 x11).c0) ((gt x10 x11).c2)) then true else false) else false) else false)
def law06_FreshPlays_S1_r0_3 (x0 : Int) (x1 : Int) (x2 : Bool) (x3 : List Int) (x4 : Int) (x5 : Int) (x6 : List Int) (x10 : List R_bool_Su811) (x11 : Int) : Bool := (bif tb (law06_FreshPlays_S1_e6 x0 x1 x2 x4 x5 x10 x11) then true else (bif tb (((fresh_Track_take_pabo_Fi2bi7_r0_2 x0 x1 x2 ((gt x10 x11).c0) ((gt x10 x11).c1) ((gt x10 x11).c2)) : Int) != (ref06_Track_Take_pabo_Fi9_r0_2 x4 x5 ((gt x10 x11).c0) ((gt x10 x11).c2))) then true else (bif tb (true != ((law06_FreshPlays_S1_e5 x0 x2 x10 x11) == (decide (0 ≤ (ref06_Track_Take_pabo_Fi9_r0_4 x4 x5 ((gt x10 x11).c0) ((gt x10 x11).c2)))))) then true else (bif tb (law06_FreshPlays_S1_e5 x0 x2 x10 x11) then (bif tb (((law06_FreshPlays_S1_e4 x0 x1 x10 x11) : Int) != (ref06_Track_Take_pabo_Fi9_r0_4 x4 x5 ((gt x10 x11).c0) ((gt x10 x11).c2))) then true else (law06_FreshPlays_S1_e7 x0 x1 x2 x3 x4 x5 x6 x10 x11)) else (bif tb (((law06_FreshPlays_S1_e4 x0 x1 x10 x11) : Int) != 0) then true else (law06_FreshPlays_S1_e7 x0 x1 x2 x3 x4 x5 x6 x10 x11))))))
theorem law06_FreshPlays_S1_t0 (x0 : Int) (x1 : Int) (x2 : Bool) (x3 : List Int) (x4 : Int) (x5 : Int) (x6 : List Int) (x9 : Bool) (x10 : List R_bool_Su811) (x11 : Int) : law06_FreshPlays_S1_c0 x0 x1 x2 x4 x5 x10 x11 = true → segG (runC E0 (cl E0) S3_1) [1, 6, 8, 9] [] [1, 6, 8, 9, 127] 2 ([(V.d (slD enc_R_bool_Su811 false 2 x9 x10)), (V.ptr 0 1 0 0), (V.ptr 1 1 0 0), (V.d (.int .i64 x11))], [(Blk.flat 67 10 [([(.int .i64 x0), (.int .i64 x1), (.bool x2)] ++ arrD .i64 x3 7)] false), (Blk.flat 44 9 [([(.int .i64 x4), (.int .i64 x5)] ++ arrD .i64 x6 7)] false)]) = some (.normal, ([(V.d (slD enc_R_bool_Su811 false 2 x9 x10)), (V.ptr 0 1 0 0), (V.ptr 1 1 0 0), (V.d (.int .i64 x11)), (V.d (.bool (law06_FreshPlays_S1_r0_3 x0 x1 x2 x3 x4 x5 x6 x10 x11)))], [(Blk.flat 67 10 [([(.int .i64 x0), (.int .i64 (law06_FreshPlays_S1_e4 x0 x1 x10 x11)), (.bool (law06_FreshPlays_S1_e5 x0 x2 x10 x11))] ++ arrD .i64 (law06_FreshPlays_S1_e1 x0 x1 x2 x3 x10 x11) 7)] false), (Blk.flat 44 9 [([(.int .i64 x4), (.int .i64 (ref06_Track_Take_pabo_Fi9_r0_4 x4 x5 ((gt x10 x11).c0) ((gt x10 x11).c2)))] ++ arrD .i64 (law06_FreshPlays_S1_e3 x4 x5 x6 x10 x11) 7)] false)])) := by
  unfold law06_FreshPlays_S1_c0 law06_FreshPlays_S1_r0_3
  cases h1 : tb (inb x10.length x11)
  · intro g0
    exact absurd g0 ft
  · cases h2 : tb (fresh_Track_Take_pabo_Fi2bi7_c0 x0 x1 x2 ((gt x10 x11).c0) ((gt x10 x11).c1) ((gt x10 x11).c2))
    · intro g0
      exact absurd g0 ft
    · cases h3 : tb (ref06_Track_Take_pabo_Fi9_c0 x4 x5 ((gt x10 x11).c0) ((gt x10 x11).c2))
      · intro g0
        exact absurd g0 ft
      · cases h4 : tb (law06_FreshPlays_S1_e6 x0 x1 x2 x4 x5 x10 x11)
        · cases h5 : tb (((fresh_Track_take_pabo_Fi2bi7_r0_2 x0 x1 x2 ((gt x10 x11).c0) ((gt x10 x11).c1) ((gt x10 x11).c2)) : Int) != (ref06_Track_Take_pabo_Fi9_r0_2 x4 x5 ((gt x10 x11).c0) ((gt x10 x11).c2)))
          · cases h6 : tb (true != ((law06_FreshPlays_S1_e5 x0 x2 x10 x11) == (decide (0 ≤ (ref06_Track_Take_pabo_Fi9_r0_4 x4 x5 ((gt x10 x11).c0) ((gt x10 x11).c2))))))
            · cases h7 : tb (law06_FreshPlays_S1_e5 x0 x2 x10 x11)
              · cases h8 : tb (((law06_FreshPlays_S1_e4 x0 x1 x10 x11) : Int) != 0)
                · intro g0
                  exact seg_walk [.o 64 (fun _ => o_idx_os (enc := enc_R_bool_Su811) (l := x10) (fl := false) (n := x9) (s := 2) (k := .i64) (tbE h1)), .c (fresh_Track_Take_pabo_Fi2bi7_t0 x0 x1 x2 x3 ((gt x10 x11).c0) ((gt x10 x11).c1) ((gt x10 x11).c2) (tbE h2)), .o 73 (fun _ => o_idx_os (enc := enc_R_bool_Su811) (l := x10) (fl := false) (n := x9) (s := 2) (k := .i64) (tbE h1)), .c (ref06_Track_Take_pabo_Fi9_t0 x4 x5 x6 ((gt x10 x11).c0) ((gt x10 x11).c1) ((gt x10 x11).c2) (tbE h3)), .c (fresh_Track_Last_p_Fi2bi7_t0 x0 (law06_FreshPlays_S1_e4 x0 x1 x10 x11) (law06_FreshPlays_S1_e5 x0 x2 x10 x11) (law06_FreshPlays_S1_e1 x0 x1 x2 x3 x10 x11) false), .b (tbE h4), .b (tbE h5), .b (tbE h6), .b (tbE h7), .b (notF (tbE h7)), .b (tbE h8), .c (fresh_Track_Counts_p_Fi2bi7_t0 x0 (law06_FreshPlays_S1_e4 x0 x1 x10 x11) (law06_FreshPlays_S1_e5 x0 x2 x10 x11) (law06_FreshPlays_S1_e1 x0 x1 x2 x3 x10 x11) true)] (by kernel_rfl)
                · intro g0
                  exact seg_walk [.o 64 (fun _ => o_idx_os (enc := enc_R_bool_Su811) (l := x10) (fl := false) (n := x9) (s := 2) (k := .i64) (tbE h1)), .c (fresh_Track_Take_pabo_Fi2bi7_t0 x0 x1 x2 x3 ((gt x10 x11).c0) ((gt x10 x11).c1) ((gt x10 x11).c2) (tbE h2)), .o 73 (fun _ => o_idx_os (enc := enc_R_bool_Su811) (l := x10) (fl := false) (n := x9) (s := 2) (k := .i64) (tbE h1)), .c (ref06_Track_Take_pabo_Fi9_t0 x4 x5 x6 ((gt x10 x11).c0) ((gt x10 x11).c1) ((gt x10 x11).c2) (tbE h3)), .c (fresh_Track_Last_p_Fi2bi7_t0 x0 (law06_FreshPlays_S1_e4 x0 x1 x10 x11) (law06_FreshPlays_S1_e5 x0 x2 x10 x11) (law06_FreshPlays_S1_e1 x0 x1 x2 x3 x10 x11) false), .b (tbE h4), .b (tbE h5), .b (tbE h6), .b (tbE h7), .b (notF (tbE h7)), .b (tbE h8)] (by kernel_rfl)
              · cases h8 : tb (((law06_FreshPlays_S1_e4 x0 x1 x10 x11) : Int) != (ref06_Track_Take_pabo_Fi9_r0_4 x4 x5 ((gt x10 x11).c0) ((gt x10 x11).c2)))
                · intro g0
                  exact seg_walk [.o 64 (fun _ => o_idx_os (enc := enc_R_bool_Su811) (l := x10) (fl := false) (n := x9) (s := 2) (k := .i64) (tbE h1)), .c (fresh_Track_Take_pabo_Fi2bi7_t0 x0 x1 x2 x3 ((gt x10 x11).c0) ((gt x10 x11).c1) ((gt x10 x11).c2) (tbE h2)), .o 73 (fun _ => o_idx_os (enc := enc_R_bool_Su811) (l := x10) (fl := false) (n := x9) (s := 2) (k := .i64) (tbE h1)), .c (ref06_Track_Take_pabo_Fi9_t0 x4 x5 x6 ((gt x10 x11).c0) ((gt x10 x11).c1) ((gt x10 x11).c2) (tbE h3)), .c (fresh_Track_Last_p_Fi2bi7_t0 x0 (law06_FreshPlays_S1_e4 x0 x1 x10 x11) (law06_FreshPlays_S1_e5 x0 x2 x10 x11) (law06_FreshPlays_S1_e1 x0 x1 x2 x3 x10 x11) false), .b (tbE h4), .b (tbE h5), .b (tbE h6), .b (tbE h7), .b (tbE h8), .b (notT (tbE h7)), .c (fresh_Track_Counts_p_Fi2bi7_t0 x0 (law06_FreshPlays_S1_e4 x0 x1 x10 x11) (law06_FreshPlays_S1_e5 x0 x2 x10 x11) (law06_FreshPlays_S1_e1 x0 x1 x2 x3 x10 x11) true)] (by kernel_rfl)
                · intro g0
                  exact seg_walk [.o 64 (fun _ => o_idx_os (enc := enc_R_bool_Su811) (l := x10) (fl := false) (n := x9) (s := 2) (k := .i64) (tbE h1)), .c (fresh_Track_Take_pabo_Fi2bi7_t0 x0 x1 x2 x3 ((gt x10 x11).c0) ((gt x10 x11).c1) ((gt x10 x11).c2) (tbE h2)), .o 73 (fun _ => o_idx_os (enc := enc_R_bool_Su811) (l := x10) (fl := false) (n := x9) (s := 2) (k := .i64) (tbE h1)), .c (ref06_Track_Take_pabo_Fi9_t0 x4 x5 x6 ((gt x10 x11).c0) ((gt x10 x11).c1) ((gt x10 x11).c2) (tbE h3)), .c (fresh_Track_Last_p_Fi2bi7_t0 x0 (law06_FreshPlays_S1_e4 x0 x1 x10 x11) (law06_FreshPlays_S1_e5 x0 x2 x10 x11) (law06_FreshPlays_S1_e1 x0 x1 x2 x3 x10 x11) false), .b (tbE h4), .b (tbE h5), .b (tbE h6), .b (tbE h7), .b (tbE h8)] (by kernel_rfl)
            · intro g0
              exact seg_walk [.o 64 (fun _ => o_idx_os (enc := enc_R_bool_Su811) (l := x10) (fl := false) (n := x9) (s := 2) (k := .i64) (tbE h1)), .c (fresh_Track_Take_pabo_Fi2bi7_t0 x0 x1 x2 x3 ((gt x10 x11).c0) ((gt x10 x11).c1) ((gt x10 x11).c2) (tbE h2)), .o 73 (fun _ => o_idx_os (enc := enc_R_bool_Su811) (l := x10) (fl := false) (n := x9) (s := 2) (k := .i64) (tbE h1)), .c (ref06_Track_Take_pabo_Fi9_t0 x4 x5 x6 ((gt x10 x11).c0) ((gt x10 x11).c1) ((gt x10 x11).c2) (tbE h3)), .c (fresh_Track_Last_p_Fi2bi7_t0 x0 (law06_FreshPlays_S1_e4 x0 x1 x10 x11) (law06_FreshPlays_S1_e5 x0 x2 x10 x11) (law06_FreshPlays_S1_e1 x0 x1 x2 x3 x10 x11) false), .b (tbE h4), .b (tbE h5), .b (tbE h6)] (by kernel_rfl)
          · intro g0
            exact seg_walk [.o 64 (fun _ => o_idx_os (enc := enc_R_bool_Su811) (l := x10) (fl := false) (n := x9) (s := 2) (k := .i64) (tbE h1)), .c (fresh_Track_Take_pabo_Fi2bi7_t0 x0 x1 x2 x3 ((gt x10 x11).c0) ((gt x10 x11).c1) ((gt x10 x11).c2) (tbE h2)), .o 73 (fun _ => o_idx_os (enc := enc_R_bool_Su811) (l := x10) (fl := false) (n := x9) (s := 2) (k := .i64) (tbE h1)), .c (ref06_Track_Take_pabo_Fi9_t0 x4 x5 x6 ((gt x10 x11).c0) ((gt x10 x11).c1) ((gt x10 x11).c2) (tbE h3)), .c (fresh_Track_Last_p_Fi2bi7_t0 x0 (law06_FreshPlays_S1_e4 x0 x1 x10 x11) (law06_FreshPlays_S1_e5 x0 x2 x10 x11) (law06_FreshPlays_S1_e1 x0 x1 x2 x3 x10 x11) false), .b (tbE h4), .b (tbE h5)] (by kernel_rfl)
        · intro g0
          exact seg_walk [.o 64 (fun _ => o_idx_os (enc := enc_R_bool_Su811) (l := x10) (fl := false) (n := x9) (s := 2) (k := .i64) (tbE h1)), .c (fresh_Track_Take_pabo_Fi2bi7_t0 x0 x1 x2 x3 ((gt x10 x11).c0) ((gt x10 x11).c1) ((gt x10 x11).c2) (tbE h2)), .o 73 (fun _ => o_idx_os (enc := enc_R_bool_Su811) (l := x10) (fl := false) (n := x9) (s := 2) (k := .i64) (tbE h1)), .c (ref06_Track_Take_pabo_Fi9_t0 x4 x5 x6 ((gt x10 x11).c0) ((gt x10 x11).c1) ((gt x10 x11).c2) (tbE h3)), .c (fresh_Track_Last_p_Fi2bi7_t0 x0 (law06_FreshPlays_S1_e4 x0 x1 x10 x11) (law06_FreshPlays_S1_e5 x0 x2 x10 x11) (law06_FreshPlays_S1_e1 x0 x1 x2 x3 x10 x11) false), .b (tbE h4)] (by kernel_rfl)
def law06_FreshPlays_S2_c0 (x0 : Int) (x1 : Int) (x2 : Bool) (x3 : List Int) (x4 : Int) (x5 : Int) (x6 : List Int) (x10 : List R_bool_Su811) (x11 : Int) : Bool := (bif tb (law06_FreshPlays_S1_c0 x0 x1 x2 x4 x5 x10 x11) then (bif tb (law06_FreshPlays_S1_r0_3 x0 x1 x2 x3 x4 x5 x6 x10 x11) then true else false) else false)
def law06_FreshPlays_S2_c1 (x0 : Int) (x1 : Int) (x2 : Bool) (x3 : List Int) (x4 : Int) (x5 : Int) (x6 : List Int) (x10 : List R_bool_Su811) (x11 : Int) : Bool := (bif tb (law06_FreshPlays_S1_c0 x0 x1 x2 x4 x5 x10 x11) then (bif tb (law06_FreshPlays_S1_r0_3 x0 x1 x2 x3 x4 x5 x6 x10 x11) then false else true) else false)
theorem law06_FreshPlays_S2_t0 (x0 : Int) (x1 : Int) (x2 : Bool) (x3 : List Int) (x4 : Int) (x5 : Int) (x6 : List Int) (x9 : Bool) (x10 : List R_bool_Su811) (x11 : Int) : law06_FreshPlays_S2_c0 x0 x1 x2 x3 x4 x5 x6 x10 x11 = true → segG (runC E0 (cl E0) S3_2) [1, 6, 8, 9] [4] [1, 6, 8, 9] 2 ([(V.d (slD enc_R_bool_Su811 false 2 x9 x10)), (V.ptr 0 1 0 0), (V.ptr 1 1 0 0), (V.d (.int .i64 x11))], [(Blk.flat 67 10 [([(.int .i64 x0), (.int .i64 x1), (.bool x2)] ++ arrD .i64 x3 7)] false), (Blk.flat 44 9 [([(.int .i64 x4), (.int .i64 x5)] ++ arrD .i64 x6 7)] false)]) = some (.ret, ([(V.d (.bool false))], [(Blk.flat 67 10 [([(.int .i64 x0), (.int .i64 (law06_FreshPlays_S1_e4 x0 x1 x10 x11)), (.bool (law06_FreshPlays_S1_e5 x0 x2 x10 x11))] ++ arrD .i64 (law06_FreshPlays_S1_e1 x0 x1 x2 x3 x10 x11) 7)] false), (Blk.flat 44 9 [([(.int .i64 x4), (.int .i64 (ref06_Track_Take_pabo_Fi9_r0_4 x4 x5 ((gt x10 x11).c0) ((gt x10 x11).c2)))] ++ arrD .i64 (law06_FreshPlays_S1_e3 x4 x5 x6 x10 x11) 7)] false)])) := by
  unfold law06_FreshPlays_S2_c0
  cases h1 : tb (law06_FreshPlays_S1_c0 x0 x1 x2 x4 x5 x10 x11)
  · intro g0
    exact absurd g0 ft
  · cases h2 : tb (law06_FreshPlays_S1_r0_3 x0 x1 x2 x3 x4 x5 x6 x10 x11)
    · intro g0
      exact absurd g0 ft
    · intro g0
      exact seg_walk [.s (law06_FreshPlays_S1_t0 x0 x1 x2 x3 x4 x5 x6 x9 x10 x11 (tbE h1)), .b (tbE h2)] (by kernel_rfl)
theorem law06_FreshPlays_S2_t1 (x0 : Int) (x1 : Int) (x2 : Bool) (x3 : List Int) (x4 : Int) (x5 : Int) (x6 : List Int) (x9 : Bool) (x10 : List R_bool_Su811) (x11 : Int) : law06_FreshPlays_S2_c0 x0 x1 x2 x3 x4 x5 x6 x10 x11 = false → law06_FreshPlays_S2_c1 x0 x1 x2 x3 x4 x5 x6 x10 x11 = true → segG (runC E0 (cl E0) S3_2) [1, 6, 8, 9] [4] [1, 6, 8, 9] 2 ([(V.d (slD enc_R_bool_Su811 false 2 x9 x10)), (V.ptr 0 1 0 0), (V.ptr 1 1 0 0), (V.d (.int .i64 x11))], [(Blk.flat 67 10 [([(.int .i64 x0), (.int .i64 x1), (.bool x2)] ++ arrD .i64 x3 7)] false), (Blk.flat 44 9 [([(.int .i64 x4), (.int .i64 x5)] ++ arrD .i64 x6 7)] false)]) = some (.normal, ([(V.d (slD enc_R_bool_Su811 false 2 x9 x10)), (V.ptr 0 1 0 0), (V.ptr 1 1 0 0), (V.d (.int .i64 x11))], [(Blk.flat 67 10 [([(.int .i64 x0), (.int .i64 (law06_FreshPlays_S1_e4 x0 x1 x10 x11)), (.bool (law06_FreshPlays_S1_e5 x0 x2 x10 x11))] ++ arrD .i64 (law06_FreshPlays_S1_e1 x0 x1 x2 x3 x10 x11) 7)] false), (Blk.flat 44 9 [([(.int .i64 x4), (.int .i64 (ref06_Track_Take_pabo_Fi9_r0_4 x4 x5 ((gt x10 x11).c0) ((gt x10 x11).c2)))] ++ arrD .i64 (law06_FreshPlays_S1_e3 x4 x5 x6 x10 x11) 7)] false)])) := by
  unfold law06_FreshPlays_S2_c0 law06_FreshPlays_S2_c1
  cases h1 : tb (law06_FreshPlays_S1_c0 x0 x1 x2 x4 x5 x10 x11)
  · intro g0 g1
    exact absurd g1 ft
  · cases h2 : tb (law06_FreshPlays_S1_r0_3 x0 x1 x2 x3 x4 x5 x6 x10 x11)
    · intro g0 g1
      exact seg_walk [.s (law06_FreshPlays_S1_t0 x0 x1 x2 x3 x4 x5 x6 x9 x10 x11 (tbE h1)), .b (tbE h2)] (by kernel_rfl)
    · intro g0 g1
      exact absurd g0 tf
structure law06_FreshPlays_L3_s0 where
  c2 : Int
  c4 : Int
  c5 : Bool
  c6 : List Int
  c9 : Int
  c10 : List Int
  deriving Inhabited
def law06_FreshPlays_L3_enc (x0 : Int) (x1 : Int) (x2 : Bool) (x3 : List Int) (x4 : Int) (x5 : Int) (x6 : List Int) (x7 : Bool) (x8 : Bool) (x9 : Bool) (x10 : List R_bool_Su811) (x11 : Int) (s0 : law06_FreshPlays_L3_s0) : List V × Mem := ([(V.d (slD enc_R_bool_Su811 false 2 x9 x10)), (V.ptr 0 1 0 0), (V.ptr 1 1 0 0), (V.d (.int .i64 s0.c2))], [(Blk.flat 67 10 [([(.int .i64 x0), (.int .i64 s0.c4), (.bool s0.c5)] ++ arrD .i64 s0.c6 7)] false), (Blk.flat 44 9 [([(.int .i64 x4), (.int .i64 s0.c9)] ++ arrD .i64 s0.c10 7)] false)])
def law06_FreshPlays_L3_sel (x0 : Int) (x4 : Int) (x10 : List R_bool_Su811) (s0 : law06_FreshPlays_L3_s0) : Bool := (bif tb (law06_FreshPlays_S0_c0 x10 s0.c2) then (bif tb (law06_FreshPlays_S2_c0 x0 s0.c4 s0.c5 s0.c6 x4 s0.c9 s0.c10 x10 s0.c2) then false else (bif tb (law06_FreshPlays_S2_c1 x0 s0.c4 s0.c5 s0.c6 x4 s0.c9 s0.c10 x10 s0.c2) then true else false)) else false)
def law06_FreshPlays_L3_nx (x0 : Int) (x4 : Int) (x10 : List R_bool_Su811) (s0 : law06_FreshPlays_L3_s0) : law06_FreshPlays_L3_s0 := ⟨(wi (s0.c2 + 1)), (law06_FreshPlays_S1_e4 x0 s0.c4 x10 s0.c2), (law06_FreshPlays_S1_e5 x0 s0.c5 x10 s0.c2), (law06_FreshPlays_S1_e1 x0 s0.c4 s0.c5 s0.c6 x10 s0.c2), (ref06_Track_Take_pabo_Fi9_r0_4 x4 s0.c9 ((gt x10 s0.c2).c0) ((gt x10 s0.c2).c2)), (law06_FreshPlays_S1_e3 x4 s0.c9 s0.c10 x10 s0.c2)⟩
def law06_FreshPlays_L3_ok (x0 : Int) (x4 : Int) (x10 : List R_bool_Su811) (s0 : law06_FreshPlays_L3_s0) : Bool := (itS (law06_FreshPlays_L3_sel x0 x4 x10) (law06_FreshPlays_L3_nx x0 x4 x10) bound s0).isSome
def law06_FreshPlays_L3_end (x0 : Int) (x4 : Int) (x10 : List R_bool_Su811) (s0 : law06_FreshPlays_L3_s0) : law06_FreshPlays_L3_s0 := (itS (law06_FreshPlays_L3_sel x0 x4 x10) (law06_FreshPlays_L3_nx x0 x4 x10) bound s0).getD default
theorem law06_FreshPlays_L3_go (x0 : Int) (x1 : Int) (x2 : Bool) (x3 : List Int) (x4 : Int) (x5 : Int) (x6 : List Int) (x7 : Bool) (x8 : Bool) (x9 : Bool) (x10 : List R_bool_Su811) (x11 : Int) (s0 : law06_FreshPlays_L3_s0) : law06_FreshPlays_L3_sel x0 x4 x10 s0 = true → (roundG (runC E0 (cl E0) L3_3) [1, 6, 8, 9] [4] 2) (law06_FreshPlays_L3_enc x0 x1 x2 x3 x4 x5 x6 x7 x8 x9 x10 x11 s0) = some (.normal, law06_FreshPlays_L3_enc x0 x1 x2 x3 x4 x5 x6 x7 x8 x9 x10 x11 (law06_FreshPlays_L3_nx x0 x4 x10 s0)) := by
  unfold law06_FreshPlays_L3_sel law06_FreshPlays_L3_nx
  cases h1 : tb (law06_FreshPlays_S0_c0 x10 s0.c2)
  · intro g0
    exact absurd g0 ft
  · cases h2 : tb (law06_FreshPlays_S2_c0 x0 s0.c4 s0.c5 s0.c6 x4 s0.c9 s0.c10 x10 s0.c2)
    · cases h3 : tb (law06_FreshPlays_S2_c1 x0 s0.c4 s0.c5 s0.c6 x4 s0.c9 s0.c10 x10 s0.c2)
      · intro g0
        exact absurd g0 ft
      · intro _
        exact round_walk [.s (law06_FreshPlays_S0_t0 x0 s0.c4 s0.c5 s0.c6 x4 s0.c9 s0.c10 false false x9 x10 s0.c2 (tbE h1)), .s (law06_FreshPlays_S2_t1 x0 s0.c4 s0.c5 s0.c6 x4 s0.c9 s0.c10 x9 x10 s0.c2 (tbE h2) (tbE h3))] (by kernel_rfl)
    · intro g0
      exact absurd g0 ft
def law06_FreshPlays_L3_c0 (x0 : Int) (x4 : Int) (x10 : List R_bool_Su811) (s0 : law06_FreshPlays_L3_s0) : Bool := (bif tb (law06_FreshPlays_S0_c0 x10 s0.c2) then (bif tb (law06_FreshPlays_S2_c0 x0 s0.c4 s0.c5 s0.c6 x4 s0.c9 s0.c10 x10 s0.c2) then true else false) else false)
def law06_FreshPlays_L3_c1 (x10 : List R_bool_Su811) (s0 : law06_FreshPlays_L3_s0) : Bool := (bif tb (law06_FreshPlays_S0_c0 x10 s0.c2) then false else true)
theorem law06_FreshPlays_L3_x0 (x0 : Int) (x1 : Int) (x2 : Bool) (x3 : List Int) (x4 : Int) (x5 : Int) (x6 : List Int) (x7 : Bool) (x8 : Bool) (x9 : Bool) (x10 : List R_bool_Su811) (x11 : Int) (s0 : law06_FreshPlays_L3_s0) : law06_FreshPlays_L3_sel x0 x4 x10 s0 = false → law06_FreshPlays_L3_c0 x0 x4 x10 s0 = true → (roundG (runC E0 (cl E0) L3_3) [1, 6, 8, 9] [4] 2) (law06_FreshPlays_L3_enc x0 x1 x2 x3 x4 x5 x6 x7 x8 x9 x10 x11 s0) = some (.ret, ([(V.d (.bool false))], [(Blk.flat 67 10 [([(.int .i64 x0), (.int .i64 (law06_FreshPlays_S1_e4 x0 s0.c4 x10 s0.c2)), (.bool (law06_FreshPlays_S1_e5 x0 s0.c5 x10 s0.c2))] ++ arrD .i64 (law06_FreshPlays_S1_e1 x0 s0.c4 s0.c5 s0.c6 x10 s0.c2) 7)] false), (Blk.flat 44 9 [([(.int .i64 x4), (.int .i64 (ref06_Track_Take_pabo_Fi9_r0_4 x4 s0.c9 ((gt x10 s0.c2).c0) ((gt x10 s0.c2).c2)))] ++ arrD .i64 (law06_FreshPlays_S1_e3 x4 s0.c9 s0.c10 x10 s0.c2) 7)] false)])) := by
  unfold law06_FreshPlays_L3_sel law06_FreshPlays_L3_c0
  cases h1 : tb (law06_FreshPlays_S0_c0 x10 s0.c2)
  · intro g0 g1
    exact absurd g1 ft
  · cases h2 : tb (law06_FreshPlays_S2_c0 x0 s0.c4 s0.c5 s0.c6 x4 s0.c9 s0.c10 x10 s0.c2)
    · cases h3 : tb (law06_FreshPlays_S2_c1 x0 s0.c4 s0.c5 s0.c6 x4 s0.c9 s0.c10 x10 s0.c2)
      · intro g0 g1
        exact absurd g1 ft
      · intro g0 g1
        exact absurd g0 tf
    · intro g0 g1
      exact round_walk [.s (law06_FreshPlays_S0_t0 x0 s0.c4 s0.c5 s0.c6 x4 s0.c9 s0.c10 false false x9 x10 s0.c2 (tbE h1)), .s (law06_FreshPlays_S2_t0 x0 s0.c4 s0.c5 s0.c6 x4 s0.c9 s0.c10 x9 x10 s0.c2 (tbE h2))] (by kernel_rfl)
theorem law06_FreshPlays_L3_x1 (x0 : Int) (x1 : Int) (x2 : Bool) (x3 : List Int) (x4 : Int) (x5 : Int) (x6 : List Int) (x7 : Bool) (x8 : Bool) (x9 : Bool) (x10 : List R_bool_Su811) (x11 : Int) (s0 : law06_FreshPlays_L3_s0) : law06_FreshPlays_L3_sel x0 x4 x10 s0 = false → law06_FreshPlays_L3_c0 x0 x4 x10 s0 = false → law06_FreshPlays_L3_c1 x10 s0 = true → (roundG (runC E0 (cl E0) L3_3) [1, 6, 8, 9] [4] 2) (law06_FreshPlays_L3_enc x0 x1 x2 x3 x4 x5 x6 x7 x8 x9 x10 x11 s0) = some ((.exit 0), ([V.un], [(Blk.flat 67 10 [([(.int .i64 x0), (.int .i64 s0.c4), (.bool s0.c5)] ++ arrD .i64 s0.c6 7)] false), (Blk.flat 44 9 [([(.int .i64 x4), (.int .i64 s0.c9)] ++ arrD .i64 s0.c10 7)] false)])) := by
  unfold law06_FreshPlays_L3_sel law06_FreshPlays_L3_c0 law06_FreshPlays_L3_c1
  cases h1 : tb (law06_FreshPlays_S0_c0 x10 s0.c2)
  · intro g0 g1 g2
    exact round_walk [.s (law06_FreshPlays_S0_t1 x0 s0.c4 s0.c5 s0.c6 x4 s0.c9 s0.c10 false false x9 x10 s0.c2 (tbE h1))] (by kernel_rfl)
  · cases h2 : tb (law06_FreshPlays_S2_c0 x0 s0.c4 s0.c5 s0.c6 x4 s0.c9 s0.c10 x10 s0.c2)
    · cases h3 : tb (law06_FreshPlays_S2_c1 x0 s0.c4 s0.c5 s0.c6 x4 s0.c9 s0.c10 x10 s0.c2)
      · intro g0 g1 g2
        exact absurd g2 ft
      · intro g0 g1 g2
        exact absurd g0 tf
    · intro g0 g1 g2
      exact absurd g1 tf
theorem law06_FreshPlays_L3_f0_0 (x0 : Int) (x1 : Int) (x2 : Bool) (x3 : List Int) (x4 : Int) (x5 : Int) (x6 : List Int) (x7 : Bool) (x8 : Bool) (x9 : Bool) (x10 : List R_bool_Su811) (x11 : Int) (s : law06_FreshPlays_L3_s0) (hok : law06_FreshPlays_L3_ok x0 x4 x10 s = true) (c0 : law06_FreshPlays_L3_c0 x0 x4 x10 (law06_FreshPlays_L3_end x0 x4 x10 s) = true) : loopG (roundG (runC E0 (cl E0) L3_3) [1, 6, 8, 9] [4] 2) bound (law06_FreshPlays_L3_enc x0 x1 x2 x3 x4 x5 x6 x7 x8 x9 x10 x11 s) = some (.ret, ([(V.d (.bool false))], [(Blk.flat 67 10 [([(.int .i64 x0), (.int .i64 (law06_FreshPlays_S1_e4 x0 (law06_FreshPlays_L3_end x0 x4 x10 s).c4 x10 (law06_FreshPlays_L3_end x0 x4 x10 s).c2)), (.bool (law06_FreshPlays_S1_e5 x0 (law06_FreshPlays_L3_end x0 x4 x10 s).c5 x10 (law06_FreshPlays_L3_end x0 x4 x10 s).c2))] ++ arrD .i64 (law06_FreshPlays_S1_e1 x0 (law06_FreshPlays_L3_end x0 x4 x10 s).c4 (law06_FreshPlays_L3_end x0 x4 x10 s).c5 (law06_FreshPlays_L3_end x0 x4 x10 s).c6 x10 (law06_FreshPlays_L3_end x0 x4 x10 s).c2) 7)] false), (Blk.flat 44 9 [([(.int .i64 x4), (.int .i64 (ref06_Track_Take_pabo_Fi9_r0_4 x4 (law06_FreshPlays_L3_end x0 x4 x10 s).c9 ((gt x10 (law06_FreshPlays_L3_end x0 x4 x10 s).c2).c0) ((gt x10 (law06_FreshPlays_L3_end x0 x4 x10 s).c2).c2)))] ++ arrD .i64 (law06_FreshPlays_S1_e3 x4 (law06_FreshPlays_L3_end x0 x4 x10 s).c9 (law06_FreshPlays_L3_end x0 x4 x10 s).c10 x10 (law06_FreshPlays_L3_end x0 x4 x10 s).c2) 7)] false)])) := by
  have e : itS (law06_FreshPlays_L3_sel x0 x4 x10) (law06_FreshPlays_L3_nx x0 x4 x10) bound s = some (law06_FreshPlays_L3_end x0 x4 x10 s) := itS_get hok
  have f := itS_false e
  exact loop_it (law06_FreshPlays_L3_go x0 x1 x2 x3 x4 x5 x6 x7 x8 x9 x10 x11) bound s _ _ _ e (fun h => by cases h) (law06_FreshPlays_L3_x0 x0 x1 x2 x3 x4 x5 x6 x7 x8 x9 x10 x11 (law06_FreshPlays_L3_end x0 x4 x10 s) f c0)
theorem law06_FreshPlays_L3_f0_1 (x0 : Int) (x1 : Int) (x2 : Bool) (x3 : List Int) (x4 : Int) (x5 : Int) (x6 : List Int) (x7 : Bool) (x8 : Bool) (x9 : Bool) (x10 : List R_bool_Su811) (x11 : Int) (s : law06_FreshPlays_L3_s0) (hok : law06_FreshPlays_L3_ok x0 x4 x10 s = true) (c0 : law06_FreshPlays_L3_c0 x0 x4 x10 (law06_FreshPlays_L3_end x0 x4 x10 s) = false) (c1 : law06_FreshPlays_L3_c1 x10 (law06_FreshPlays_L3_end x0 x4 x10 s) = true) : loopG (roundG (runC E0 (cl E0) L3_3) [1, 6, 8, 9] [4] 2) bound (law06_FreshPlays_L3_enc x0 x1 x2 x3 x4 x5 x6 x7 x8 x9 x10 x11 s) = some ((.exit 0), ([V.un], [(Blk.flat 67 10 [([(.int .i64 x0), (.int .i64 ((law06_FreshPlays_L3_end x0 x4 x10 s).c4)), (.bool ((law06_FreshPlays_L3_end x0 x4 x10 s).c5))] ++ arrD .i64 ((law06_FreshPlays_L3_end x0 x4 x10 s).c6) 7)] false), (Blk.flat 44 9 [([(.int .i64 x4), (.int .i64 ((law06_FreshPlays_L3_end x0 x4 x10 s).c9))] ++ arrD .i64 ((law06_FreshPlays_L3_end x0 x4 x10 s).c10) 7)] false)])) := by
  have e : itS (law06_FreshPlays_L3_sel x0 x4 x10) (law06_FreshPlays_L3_nx x0 x4 x10) bound s = some (law06_FreshPlays_L3_end x0 x4 x10 s) := itS_get hok
  have f := itS_false e
  exact loop_it (law06_FreshPlays_L3_go x0 x1 x2 x3 x4 x5 x6 x7 x8 x9 x10 x11) bound s _ _ _ e (fun h => by cases h) (law06_FreshPlays_L3_x1 x0 x1 x2 x3 x4 x5 x6 x7 x8 x9 x10 x11 (law06_FreshPlays_L3_end x0 x4 x10 s) f c0 c1)
def law06_FreshPlays_S4_e0 (x0 : Int) (x2 : List R_bool_Su811) : law06_FreshPlays_L3_s0 := law06_FreshPlays_L3_end x0 x0 x2 (⟨0, 0, false, [0, 0, 0, 0, 0, 0, 0], (-1), [0, 0, 0, 0, 0, 0, 0]⟩ : law06_FreshPlays_L3_s0)
def law06_FreshPlays_S4_c0 (x0 : Int) (x2 : List R_bool_Su811) : Bool := (bif tb (fresh_New_i_c0 x0) then true else (bif tb (decide (x0 < 0)) then true else (bif tb (decide (3 < x0)) then true else (bif tb (law06_FreshPlays_L3_ok x0 x0 x2 (⟨0, 0, false, [0, 0, 0, 0, 0, 0, 0], (-1), [0, 0, 0, 0, 0, 0, 0]⟩ : law06_FreshPlays_L3_s0)) then (bif tb (law06_FreshPlays_L3_c0 x0 x0 x2 (law06_FreshPlays_S4_e0 x0 x2)) then true else false) else false))))
def law06_FreshPlays_S4_r0_0 (x0 : Int) : Bool := (bif tb (fresh_New_i_c0 x0) then (bif tb (decide (x0 < 0)) then true else (bif tb (decide (3 < x0)) then true else false)) else false)
def law06_FreshPlays_S4_c1 (x0 : Int) (x2 : List R_bool_Su811) : Bool := (bif tb (fresh_New_i_c0 x0) then false else (bif tb (decide (x0 < 0)) then false else (bif tb (decide (3 < x0)) then false else (bif tb (law06_FreshPlays_L3_ok x0 x0 x2 (⟨0, 0, false, [0, 0, 0, 0, 0, 0, 0], (-1), [0, 0, 0, 0, 0, 0, 0]⟩ : law06_FreshPlays_L3_s0)) then (bif tb (law06_FreshPlays_L3_c0 x0 x0 x2 (law06_FreshPlays_S4_e0 x0 x2)) then false else (bif tb (law06_FreshPlays_L3_c1 x2 (law06_FreshPlays_S4_e0 x0 x2)) then true else false)) else false))))
theorem law06_FreshPlays_S4_t0 (x0 : Int) (x1 : Bool) (x2 : List R_bool_Su811) : law06_FreshPlays_S4_c0 x0 x2 = true → segG (runC E0 (cl E0) S3_4) [0, 1] [4] [] 0 ([(V.d (.int .i64 x0)), (V.d (slD enc_R_bool_Su811 false 2 x1 x2))], []) = some (.ret, ([(V.d (.bool (law06_FreshPlays_S4_r0_0 x0)))], [])) := by
  unfold law06_FreshPlays_S4_c0 law06_FreshPlays_S4_r0_0
  cases h1 : tb (fresh_New_i_c0 x0)
  · cases h2 : tb (decide (x0 < 0))
    · cases h3 : tb (decide (3 < x0))
      · cases h4 : tb (law06_FreshPlays_L3_ok x0 x0 x2 (⟨0, 0, false, [0, 0, 0, 0, 0, 0, 0], (-1), [0, 0, 0, 0, 0, 0, 0]⟩ : law06_FreshPlays_L3_s0))
        · intro g0
          exact absurd g0 ft
        · cases h5 : tb (law06_FreshPlays_L3_c0 x0 x0 x2 (law06_FreshPlays_S4_e0 x0 x2))
          · cases h6 : tb (law06_FreshPlays_L3_c1 x2 (law06_FreshPlays_S4_e0 x0 x2))
            · intro g0
              exact absurd g0 ft
            · intro g0
              exact absurd g0 ft
          · intro g0
            exact seg_walk [.c (fresh_New_i_t1 x0 (tbE h1)), .b (tbE h2), .b (tbE h3), .k false, .k false, .c (ref06_Begin_i_t0 x0), .l (law06_FreshPlays_L3_f0_0 x0 0 false [0, 0, 0, 0, 0, 0, 0] x0 (-1) [0, 0, 0, 0, 0, 0, 0] false false x1 x2 0 (⟨0, 0, false, [0, 0, 0, 0, 0, 0, 0], (-1), [0, 0, 0, 0, 0, 0, 0]⟩ : law06_FreshPlays_L3_s0) (tbE h4) (tbE h5))] (by kernel_rfl)
      · intro g0
        exact seg_walk [.c (fresh_New_i_t1 x0 (tbE h1)), .b (tbE h2), .b (tbE h3), .c (law06_alive_t0), .k true, .k false] (by kernel_rfl)
    · intro g0
      exact seg_walk [.c (fresh_New_i_t1 x0 (tbE h1)), .b (tbE h2), .c (law06_alive_t0), .k true, .k false] (by kernel_rfl)
  · cases h2 : tb (decide (x0 < 0))
    · cases h3 : tb (decide (3 < x0))
      · intro g0
        exact seg_walk [.c (fresh_New_i_t0 x0 (tbE h1)), .b (tbE h2), .b (tbE h3), .k true] (by kernel_rfl)
      · intro g0
        exact seg_walk [.c (fresh_New_i_t0 x0 (tbE h1)), .b (tbE h2), .b (tbE h3), .c (law06_alive_t0), .k true, .k true] (by kernel_rfl)
    · intro g0
      exact seg_walk [.c (fresh_New_i_t0 x0 (tbE h1)), .b (tbE h2), .c (law06_alive_t0), .k true, .k true] (by kernel_rfl)
theorem law06_FreshPlays_S4_t1 (x0 : Int) (x1 : Bool) (x2 : List R_bool_Su811) : law06_FreshPlays_S4_c0 x0 x2 = false → law06_FreshPlays_S4_c1 x0 x2 = true → segG (runC E0 (cl E0) S3_4) [0, 1] [4] [] 0 ([(V.d (.int .i64 x0)), (V.d (slD enc_R_bool_Su811 false 2 x1 x2))], []) = some (.normal, ([], [])) := by
  unfold law06_FreshPlays_S4_c0 law06_FreshPlays_S4_c1
  cases h1 : tb (fresh_New_i_c0 x0)
  · cases h2 : tb (decide (x0 < 0))
    · cases h3 : tb (decide (3 < x0))
      · cases h4 : tb (law06_FreshPlays_L3_ok x0 x0 x2 (⟨0, 0, false, [0, 0, 0, 0, 0, 0, 0], (-1), [0, 0, 0, 0, 0, 0, 0]⟩ : law06_FreshPlays_L3_s0))
        · intro g0 g1
          exact absurd g1 ft
        · cases h5 : tb (law06_FreshPlays_L3_c0 x0 x0 x2 (law06_FreshPlays_S4_e0 x0 x2))
          · cases h6 : tb (law06_FreshPlays_L3_c1 x2 (law06_FreshPlays_S4_e0 x0 x2))
            · intro g0 g1
              exact absurd g1 ft
            · intro g0 g1
              exact seg_walk [.c (fresh_New_i_t1 x0 (tbE h1)), .b (tbE h2), .b (tbE h3), .k false, .k false, .c (ref06_Begin_i_t0 x0), .l (law06_FreshPlays_L3_f0_1 x0 0 false [0, 0, 0, 0, 0, 0, 0] x0 (-1) [0, 0, 0, 0, 0, 0, 0] false false x1 x2 0 (⟨0, 0, false, [0, 0, 0, 0, 0, 0, 0], (-1), [0, 0, 0, 0, 0, 0, 0]⟩ : law06_FreshPlays_L3_s0) (tbE h4) (tbE h5) (tbE h6))] (by kernel_rfl)
          · intro g0 g1
            exact absurd g0 tf
      · intro g0 g1
        exact absurd g0 tf
    · intro g0 g1
      exact absurd g0 tf
  · cases h2 : tb (decide (x0 < 0))
    · cases h3 : tb (decide (3 < x0))
      · intro g0 g1
        exact absurd g0 tf
      · intro g0 g1
        exact absurd g0 tf
    · intro g0 g1
      exact absurd g0 tf
theorem law06_FreshPlays_S5_t0  : segG (runC E0 (cl E0) S3_5) [16] [] [16, 18] 0 ([(V.d .nilp)], []) = some (.normal, ([(V.d .nilp), (V.d (.int .i64 1))], [])) := by
  exact seg_walk [.c (fresh_Track_Take_nabn_t0 false)] (by kernel_rfl)
theorem law06_FreshPlays_S6_t0  : segG (runC E0 (cl E0) S3_6) [16, 18] [] [16, 18, 19, 20] 0 ([(V.d .nilp), (V.d (.int .i64 1))], []) = some (.normal, ([(V.d .nilp), (V.d (.int .i64 1)), (V.d (.int .i64 0)), (V.d (.bool false))], [])) := by
  exact seg_walk [.c (fresh_Track_Last_n_t0)] (by kernel_rfl)
def law06_FreshPlays_S7_e0  : Bool := (false != ((((gt [0, 0, 0, 0, 0, 0, 0] 0) : Int) == 0) && ((((gt [0, 0, 0, 0, 0, 0, 0] 1) : Int) == 0) && ((((gt [0, 0, 0, 0, 0, 0, 0] 2) : Int) == 0) && ((((gt [0, 0, 0, 0, 0, 0, 0] 3) : Int) == 0) && ((((gt [0, 0, 0, 0, 0, 0, 0] 4) : Int) == 0) && ((((gt [0, 0, 0, 0, 0, 0, 0] 5) : Int) == 0) && ((((gt [0, 0, 0, 0, 0, 0, 0] 6) : Int) == 0) && true))))))))
theorem law06_FreshPlays_S7_t0  : segG (runC E0 (cl E0) S3_7) [16, 18, 19, 20] [] [4] 0 ([(V.d .nilp), (V.d (.int .i64 1)), (V.d (.int .i64 0)), (V.d (.bool false))], []) = some (.normal, ([(V.d (.bool law06_FreshPlays_S7_e0))], [])) := by
  exact seg_walk [.c (law06_alive_t0), .k true, .k true, .k true, .k true, .c (fresh_Track_Counts_n_t0)] (by kernel_rfl)
def law06_FreshPlays_c0 (x0 : Int) (x2 : List R_bool_Su811) : Bool := (bif tb (law06_Fits_c0 x2) then (bif tb (law06_Fits_r0_0 x2) then (bif tb (law06_FreshPlays_S4_c0 x0 x2) then true else (bif tb (law06_FreshPlays_S4_c1 x0 x2) then true else false)) else true) else false)
def law06_FreshPlays_r0_0 (x0 : Int) (x2 : List R_bool_Su811) : Bool := (bif tb (law06_Fits_r0_0 x2) then (bif tb (law06_FreshPlays_S4_c0 x0 x2) then (law06_FreshPlays_S4_r0_0 x0) else law06_FreshPlays_S7_e0) else true)
theorem law06_FreshPlays_t0 (x0 : Int) (x1 : Bool) (x2 : List R_bool_Su811) : law06_FreshPlays_c0 x0 x2 = true → cl E0 3 [(V.d (.int .i64 x0)), (V.d (slD enc_R_bool_Su811 false 2 x1 x2))] [] = some ([(V.d (.bool (law06_FreshPlays_r0_0 x0 x2)))], []) := by
  unfold law06_FreshPlays_c0 law06_FreshPlays_r0_0
  cases h1 : tb (law06_Fits_c0 x2)
  · intro g0
    exact absurd g0 ft
  · cases h2 : tb (law06_Fits_r0_0 x2)
    · intro g0
      exact w3 [.c (law06_Fits_t0 x1 x2 (tbE h1)), .b (notF (tbE h2)), .c (law06_alive_t0)] (by kernel_rfl)
    · cases h3 : tb (law06_FreshPlays_S4_c0 x0 x2)
      · cases h4 : tb (law06_FreshPlays_S4_c1 x0 x2)
        · intro g0
          exact absurd g0 ft
        · intro g0
          exact w3 [.c (law06_Fits_t0 x1 x2 (tbE h1)), .b (notT (tbE h2)), .s (law06_FreshPlays_S4_t1 x0 x1 x2 (tbE h3) (tbE h4)), .s (law06_FreshPlays_S5_t0), .s (law06_FreshPlays_S6_t0), .s (law06_FreshPlays_S7_t0)] (by kernel_rfl)
      · intro g0
        exact w3 [.c (law06_Fits_t0 x1 x2 (tbE h1)), .b (notT (tbE h2)), .s (law06_FreshPlays_S4_t0 x0 x1 x2 (tbE h3))] (by kernel_rfl)
end Go.Proofs.Ytkipngagfiaddaa.Den

namespace Go.Proofs.Ytkipngagfiaddaa.Den
open Go Go.Proofs
set_option linter.unusedVariables false
set_option linter.unusedSimpArgs false
theorem rejOf_rng (ch : Int) (is : Bool) (l : List Int) : 0 ≤ rejOf ch is l ∧ rejOf ch is l ≤ 5 := by
  unfold rejOf; repeat' split
  all_goals omega
theorem g2_rng {l : List Int} (h : Byts l) : 0 ≤ g2 l ∧ g2 l ≤ 65535 := by
  by_cases hl : l.length = 2
  · obtain ⟨a, b, rfl⟩ := len2 hl
    have ha := h a (by simp)
    have hb := h b (by simp)
    simp only [g2]; omega
  · rw [g2_len hl]; omega
theorem seqOf_rng {l : List Int} (h : Byts l) : 0 ≤ seqOf l ∧ seqOf l ≤ 65535 := g2_rng (byts_take (byts_drop (byts_take h 36) 2) 2)
def rjOf (ch : Int) (last : Int) (begun : Bool) (is : Bool) (l : List Int) : Int :=
  if rejOf ch is l = 0 then (if begun = true then (if seqOf l = word_Next_i_r0_0 last then 0 else 6) else 0) else rejOf ch is l
theorem rjOf_rng (ch last : Int) (begun is : Bool) (l : List Int) : 0 ≤ rjOf ch last begun is l ∧ rjOf ch last begun is l ≤ 6 := by
  have := rejOf_rng ch is l
  unfold rjOf; repeat' split
  all_goals omega
theorem take_eq (ch last : Int) (begun is nl : Bool) {l : List Int} (h : Sm l) :
    fresh_Track_take_pabo_Fi2bi7_c0 ch is nl l = true ∧
    fresh_Track_take_pabo_Fi2bi7_r0_0 ch last begun is nl l = (if rjOf ch last begun is l = 0 then seqOf l else 0) ∧
    fresh_Track_take_pabo_Fi2bi7_r0_1 ch last begun is nl l = (if rjOf ch last begun is l = 0 then valsOf l else z8) ∧
    fresh_Track_take_pabo_Fi2bi7_r0_2 ch last begun is nl l = rjOf ch last begun is l ∧
    fresh_Track_take_pabo_Fi2bi7_r0_4 ch last is nl l = (if rejOf ch is l = 0 then seqOf l else last) ∧
    fresh_Track_take_pabo_Fi2bi7_r0_5 ch begun is nl l = (if rejOf ch is l = 0 then true else begun) := by
  obtain ⟨d1, d2, d3, d4⟩ := decode_eq ch is nl h
  simp only [fresh_Track_take_pabo_Fi2bi7_c0, fresh_Track_take_pabo_Fi2bi7_r0_0, fresh_Track_take_pabo_Fi2bi7_r0_1, fresh_Track_take_pabo_Fi2bi7_r0_2, fresh_Track_take_pabo_Fi2bi7_r0_4, fresh_Track_take_pabo_Fi2bi7_r0_5, d1, d2, d3, d4, rjOf, tb_eq]
  by_cases hd : rejOf ch is l = 0
  · simp only [hd, if_true]
    cases begun with
    | false => simp
    | true =>
      by_cases hq : seqOf l = word_Next_i_r0_0 last
      · simp [hq, z8]
      · have hq' : (seqOf l == word_Next_i_r0_0 last) = false := by simpa using hq
        simp [hq, hq', z8]
  · have hd' : (rejOf ch is l != 0) = true := by simp [hd]
    simp only [hd, hd', if_false, cond_true, z8]
    simp
theorem stale_list (N : List Int) (v : Int) : [gt N 0, gt N 1, gt N 2, gt N 3, gt N 4, gt N 5, v] = sta N 7 6 v := rfl
theorem rtake_eq (ch last : Int) (N : List Int) (begun is : Bool) {l : List Int} (h : Sm l) (hb : begun = decide (0 ≤ last)) :
    ref06_Track_Take_pabo_Fi9_c0 ch last is l = true ∧
    ref06_Track_Take_pabo_Fi9_r0_0 ch last is l = (if rjOf ch last begun is l = 0 then seqOf l else 0) ∧
    ref06_Track_Take_pabo_Fi9_r0_1 ch last is l = (if rjOf ch last begun is l = 0 then valsOf l else z8) ∧
    ref06_Track_Take_pabo_Fi9_r0_2 ch last is l = rjOf ch last begun is l ∧
    ref06_Track_Take_pabo_Fi9_r0_4 ch last is l = (if rejOf ch is l = 0 then seqOf l else last) ∧
    ref06_Track_Take_pabo_Fi9_r0_5 ch last N is l = sta N 7 (rjOf ch last begun is l) (wi (gt N (rjOf ch last begun is l) + 1)) := by
  obtain ⟨d1, d2, d3, d4⟩ := rdecode_eq ch is h
  have hr := rejOf_rng ch is l
  have hi : inb 7 (rejOf ch is l) = true := inb_of (by omega) (by omega)
  subst hb
  simp only [ref06_Track_Take_pabo_Fi9_c0, ref06_Track_Take_pabo_Fi9_r0_0, ref06_Track_Take_pabo_Fi9_r0_1, ref06_Track_Take_pabo_Fi9_r0_2, ref06_Track_Take_pabo_Fi9_r0_4, ref06_Track_Take_pabo_Fi9_r0_5, ref06_Track_Take_pabo_Fi9_e0, d1, d2, d3, d4, rjOf, ← Next_eq, hi, tb_eq, stale_list]
  by_cases hd : rejOf ch is l = 0
  · simp only [hd, if_true]
    by_cases hl : 0 ≤ last
    · by_cases hq : seqOf l = word_Next_i_r0_0 last
      · simp [hq, hl, z8]
      · have hq' : (seqOf l != word_Next_i_r0_0 last) = true := by simpa using hq
        simp [hq, hq', hl, z8]
    · simp [hl]
  · have hd' : (rejOf ch is l != 0) = true := by simp [hd]
    have hd2 : (rejOf ch is l == 0) = false := by simp [hd]
    simp only [hd, hd', hd2, if_false, cond_true, cond_false, z8]
    simp
structure FitsP (l : List R_bool_Su811) : Prop where
  n : l.length ≤ 60
  b : ∀ z ∈ l, Sm z.c2
theorem fits_eq {l : List R_bool_Su811} (w : ∀ z ∈ l, Byt z.c2) (hn : l.length < 1152921504606846976) (hn2 : ∀ z ∈ l, z.c2.length ≤ maxLen) : law06_Fits_c0 l = true ∧ (law06_Fits_r0_0 l = true → FitsP l) := by
  by_cases hl : 60 < l.length
  · have h1 : decide ((60 : Int) < ((l.length : Nat) : Int)) = true := decide_eq_true (by omega)
    simp [law06_Fits_c0, law06_Fits_r0_0, h1]
  · have h1 : decide ((60 : Int) < ((l.length : Nat) : Int)) = false := decide_eq_false (by omega)
    obtain ⟨s1, e, _, a1, a2⟩ := all_loop (sel := law06_Fits_L0_sel l) (nx := law06_Fits_L0_nx l) (s0 := ⟨0⟩) l (fun s => s.c2) (fun z => !decide ((100 : Int) < ((z.c2.length : Nat) : Int))) (fun _ => True) hn rfl trivial
      (fun s _ b1 b2 _ => ⟨by show wi _ = _; exact wi_eq (by omega) (by omega), trivial⟩)
      (fun s _ b1 b2 => by
        by_cases hi : s.c2 < l.length
        · have i1 := inb_of b1 hi
          simp only [law06_Fits_L0_sel, i1, hi, tb_eq, decide_true, cond_true, Bool.true_and]
          cases decide ((100 : Int) < (((gt l s.c2).c2.length : Nat) : Int)) <;> rfl
        · simp [law06_Fits_L0_sel, hi])
    simp only [law06_Fits_c0, law06_Fits_r0_0, law06_Fits_L0_ok, law06_Fits_L0_end, e, h1, tb_eq, cond_false, Option.isSome_some, cond_true, Option.getD_some]
    rcases a2 with ⟨b1, b2⟩ | ⟨b1, b2, b3⟩
    · refine ⟨by simp [law06_Fits_L0_c0, law06_Fits_L0_c1, b1], fun _ => ⟨by omega, fun z hz => ⟨w z hz, ?_⟩⟩⟩
      have := List.all_eq_true.1 b2 z hz
      simp at this; omega
    · have i1 := inb_of a1 b1
      refine ⟨by simp [law06_Fits_L0_c0, b1, i1], fun h => ?_⟩
      simp [law06_Fits_L0_c0, b1, i1] at h
structure FInv (last : Int) (begun : Bool) (N : List Int) (rlast : Int) : Prop where
  len : N.length = 7
  yes : begun = true → rlast = last ∧ 0 ≤ last
  no : begun = false → last = 0 ∧ rlast = -1
theorem FInv.b {last : Int} {begun : Bool} {N : List Int} {rlast : Int} (h : FInv last begun N rlast) : begun = decide (0 ≤ rlast) := by
  cases hb : begun with
  | true => obtain ⟨h1, h2⟩ := h.yes hb; rw [h1]; exact (decide_eq_true h2).symm
  | false => rw [(h.no hb).2]; rfl
theorem rj_same {ch last rlast : Int} {begun is : Bool} {N l : List Int} (h : FInv last begun N rlast) : rjOf ch last begun is l = rjOf ch rlast begun is l := by
  unfold rjOf
  cases hb : begun with
  | true => rw [(h.yes hb).1]
  | false => simp
theorem fresh_round {ch last rlast : Int} {begun : Bool} {N : List Int} {L : List R_bool_Su811} {k : Nat} (hk : k < L.length) (hf : FitsP L) (h : FInv last begun N rlast) :
    law06_FreshPlays_S2_c0 ch last begun N ch rlast N L (k : Int) = false ∧ law06_FreshPlays_S2_c1 ch last begun N ch rlast N L (k : Int) = true ∧
    law06_FreshPlays_S1_e1 ch last begun N L (k : Int) = law06_FreshPlays_S1_e3 ch rlast N L (k : Int) ∧
    FInv (law06_FreshPlays_S1_e4 ch last L (k : Int)) (law06_FreshPlays_S1_e5 ch begun L (k : Int)) (law06_FreshPlays_S1_e1 ch last begun N L (k : Int)) (ref06_Track_Take_pabo_Fi9_r0_4 ch rlast ((gt L (k : Int)).c0) ((gt L (k : Int)).c2)) := by
  have hz : gt L (k : Int) ∈ L := gt_mem (by omega) (by omega)
  have hs := hf.b _ hz
  have hi : inb L.length (k : Int) = true := inb_of (by omega) (by omega)
  obtain ⟨z, hzz⟩ : ∃ z, gt L (k : Int) = z := ⟨_, rfl⟩
  rw [hzz] at hz hs
  obtain ⟨t1, t2, t3, t4, t5, t6⟩ := take_eq ch last begun z.c0 z.c1 hs
  obtain ⟨q1, q2, q3, q4, q5, q6⟩ := rtake_eq ch rlast N begun z.c0 hs h.b
  rw [← rj_same h] at q2 q3 q4 q6
  have hr := rjOf_rng ch last begun z.c0 z.c2
  have hi7 : inb 7 (rjOf ch last begun z.c0 z.c2) = true := inb_of (by omega) (by omega)
  have E1 : law06_FreshPlays_S1_e1 ch last begun N L (k : Int) = sta N 7 (rjOf ch last begun z.c0 z.c2) (wi (gt N (rjOf ch last begun z.c0 z.c2) + 1)) := by
    simp only [law06_FreshPlays_S1_e1, fresh_Track_Take_pabo_Fi2bi7_e1, fresh_Track_Take_pabo_Fi2bi7_e0, hzz, t4]
  have E3 : law06_FreshPlays_S1_e3 ch rlast N L (k : Int) = sta N 7 (rjOf ch last begun z.c0 z.c2) (wi (gt N (rjOf ch last begun z.c0 z.c2) + 1)) := by
    simp only [law06_FreshPlays_S1_e3, hzz, q6]
  have E4 : law06_FreshPlays_S1_e4 ch last L (k : Int) = (if rejOf ch z.c0 z.c2 = 0 then seqOf z.c2 else last) := by simp only [law06_FreshPlays_S1_e4, hzz, t5]
  have E5 : law06_FreshPlays_S1_e5 ch begun L (k : Int) = (if rejOf ch z.c0 z.c2 = 0 then true else begun) := by simp only [law06_FreshPlays_S1_e5, hzz, t6]
  have E6 : law06_FreshPlays_S1_e6 ch last begun ch rlast L (k : Int) = false := by
    simp only [law06_FreshPlays_S1_e6, law06_FreshPlays_S1_e0, law06_FreshPlays_S1_e2, hzz, t2, t3, q2, q3]; simp
  have E7 : law06_FreshPlays_S1_e7 ch last begun N ch rlast N L (k : Int) = false := by
    simp only [law06_FreshPlays_S1_e7, E1, E3]; simp
  have hsq := seqOf_rng (byt_byts hs.b)
  have hI : FInv (law06_FreshPlays_S1_e4 ch last L (k : Int)) (law06_FreshPlays_S1_e5 ch begun L (k : Int)) (law06_FreshPlays_S1_e1 ch last begun N L (k : Int)) (ref06_Track_Take_pabo_Fi9_r0_4 ch rlast z.c0 z.c2) := by
    rw [E1, E4, E5, q5]
    refine ⟨sta_len _ _ _ _, fun hb => ?_, fun hb => ?_⟩
    · by_cases hd : rejOf ch z.c0 z.c2 = 0
      · simp only [hd, if_true, true_and]; exact hsq.1
      · simp only [hd, if_false] at hb ⊢; exact h.yes hb
    · by_cases hd : rejOf ch z.c0 z.c2 = 0
      · simp only [hd, if_true] at hb; cases hb
      · simp only [hd, if_false] at hb ⊢; exact h.no hb
  have C0 : law06_FreshPlays_S1_c0 ch last begun ch rlast L (k : Int) = true := by
    simp only [law06_FreshPlays_S1_c0, fresh_Track_Take_pabo_Fi2bi7_c0, hi, hzz, t1, t4, hi7, q1, tb_eq, cond_true]
  have R3 : law06_FreshPlays_S1_r0_3 ch last begun N ch rlast N L (k : Int) = false := by
    have hbb := hI.b
    have hyes := hI.yes
    have hno := hI.no
    simp only [law06_FreshPlays_S1_r0_3, E6, E7, hzz, t4, q4, tb_eq, cond_false]
    rw [← hbb]
    cases hb5 : law06_FreshPlays_S1_e5 ch begun L (k : Int) with
    | true => rw [(hyes hb5).1]; simp
    | false => rw [(hno hb5).1]; simp
  refine ⟨?_, ?_, by rw [E1, E3], by rw [hzz]; exact hI⟩
  · simp only [law06_FreshPlays_S2_c0, C0, R3, tb_eq, cond_true, cond_false]
  · simp only [law06_FreshPlays_S2_c1, C0, R3, tb_eq, cond_true, cond_false]
theorem pure_FreshPlays (x0 : Int) (x1 : Bool) (x2 : List R_bool_Su811) (wx0 : WfI .i64 x0) (wx2 : (x2.length ≤ maxLen ∧ x2.length * 32 ≤ 140737488351232 ∧ ∀ z ∈ x2, (z.c2.length ≤ maxLen ∧ z.c2.length * 1 ≤ 140737488351232 ∧ ∀ zz ∈ z.c2, WfI .u8 zz) ∧ True)) : law06_FreshPlays_c0 x0 x2 = true ∧ (law06_FreshPlays_r0_0 x0 x2) = true := by
  obtain ⟨w1, w2, w3⟩ := wx2
  obtain ⟨f1, f2⟩ := fits_eq (l := x2) (fun z hz => (w3 z hz).1.2.2) (by omega) (fun z hz => (w3 z hz).1.1)
  cases hf : law06_Fits_r0_0 x2 with
  | false => simp [law06_FreshPlays_c0, law06_FreshPlays_r0_0, f1, hf]
  | true =>
    have hF := f2 hf
    by_cases hc : fresh_New_i_c0 x0 = true
    · have hcc : x0 < 0 ∨ 4 ≤ x0 := by
        simp only [fresh_New_i_c0, tb_eq] at hc
        by_cases h1 : x0 < 0
        · exact .inl h1
        · right; simpa [h1] using hc
      have hs : law06_FreshPlays_S4_r0_0 x0 = true := by
        simp only [law06_FreshPlays_S4_r0_0, hc, tb_eq, cond_true]
        by_cases h1 : x0 < 0
        · simp [h1]
        · have : 3 < x0 := by omega
          simp [h1, this]
      simp only [law06_FreshPlays_c0, law06_FreshPlays_r0_0, law06_FreshPlays_S4_c0, f1, hf, hc, hs, tb_eq, cond_true, and_self]
    · have hc' : fresh_New_i_c0 x0 = false := by simpa using hc
      have hcc : 0 ≤ x0 ∧ x0 ≤ 3 := by
        simp only [fresh_New_i_c0, tb_eq] at hc'
        by_cases h1 : x0 < 0
        · simp [h1] at hc'
        · simp [h1] at hc'; omega
      have g1 : decide (x0 < 0) = false := decide_eq_false (by omega)
      have g2' : decide (3 < x0) = false := decide_eq_false (by omega)
      obtain ⟨s1, e, ⟨hI, hN⟩, hk⟩ := idx_loop (sel := law06_FreshPlays_L3_sel x0 x0 x2) (nx := law06_FreshPlays_L3_nx x0 x0 x2) (s0 := ⟨0, 0, false, [0, 0, 0, 0, 0, 0, 0], -1, [0, 0, 0, 0, 0, 0, 0]⟩) (x2.length : Int) (fun s => s.c2)
        (fun s => FInv s.c4 s.c5 s.c6 s.c9 ∧ s.c10 = s.c6) (by have := hF.n; omega) ⟨⟨rfl, (fun h => by cases h), fun _ => ⟨rfl, rfl⟩⟩, rfl⟩ (by simp) (by simp)
        (fun s ⟨hI, hN⟩ a1 a2 => by
          obtain ⟨k, hk⟩ : ∃ k : Nat, s.c2 = k := ⟨s.c2.toNat, by omega⟩
          obtain ⟨r1, r2, r3, r4⟩ := fresh_round (ch := x0) (L := x2) (k := k) (by omega) hF hI
          have h0 : law06_FreshPlays_S0_c0 x2 (k : Int) = true := by simp [law06_FreshPlays_S0_c0]; omega
          refine ⟨?_, ⟨?_, ?_⟩, ?_⟩
          · simp only [law06_FreshPlays_L3_sel, hk, hN, h0, r1, r2, tb_eq, cond_true, cond_false]
          · simp only [law06_FreshPlays_L3_nx, hk]; exact r4
          · simp only [law06_FreshPlays_L3_nx, hk, hN]; exact r3.symm
          · show wi (s.c2 + 1) = _; exact wi_eq (by omega) (by have := hF.n; omega))
        (fun s _ h => by simp [law06_FreshPlays_L3_sel, law06_FreshPlays_S0_c0, h])
      have h0 : law06_FreshPlays_S0_c0 x2 s1.c2 = false := by simp [law06_FreshPlays_S0_c0, hk]
      have e0 : law06_FreshPlays_S4_e0 x0 x2 = s1 := by simp only [law06_FreshPlays_S4_e0, law06_FreshPlays_L3_end, e, Option.getD_some]
      have c0 : law06_FreshPlays_S4_c0 x0 x2 = false := by
        simp only [law06_FreshPlays_S4_c0, hc', g1, g2', law06_FreshPlays_L3_ok, e, e0, law06_FreshPlays_L3_c0, h0, tb_eq, cond_false, Option.isSome_some, cond_true]
      have c1 : law06_FreshPlays_S4_c1 x0 x2 = true := by
        simp only [law06_FreshPlays_S4_c1, hc', g1, g2', law06_FreshPlays_L3_ok, e, e0, law06_FreshPlays_L3_c0, law06_FreshPlays_L3_c1, h0, tb_eq, cond_false, Option.isSome_some, cond_true]
      have s7 : law06_FreshPlays_S7_e0 = true := rfl
      simp only [law06_FreshPlays_c0, law06_FreshPlays_r0_0, f1, hf, c0, c1, s7, tb_eq, cond_true, cond_false, and_self]
end Go.Proofs.Ytkipngagfiaddaa.Den

namespace Go.Proofs.Ytkipngagfiaddaa.Den
open Go Go.Proofs
set_option maxRecDepth 100000
theorem own : ownKnob Try.prog.godebug = none := by kernel_rfl
theorem laidOut : laidOutB Try.prog = true := by kernel_rfl
theorem mixed : Try.prog.follows .mixedOrders = true := by kernel_rfl
theorem envOK : EnvOK Try.prog E0 := ⟨e0_cf, ext_ok rfl e0_x, e0_del⟩
theorem glOK (w : World) : GlOK E0 (cx0 w) := fun g cs h => by simp [E0] at h
end Go.Proofs.Ytkipngagfiaddaa.Den

namespace Go.Proofs.Ytkipngagfiaddaa.Den
open Go Go.Proofs Go.ChangeShapes Go.WideShapes Go.ChangeAt Go.RowKit
open Go.Proofs.Ytkipngagfiaddaa (Rows.freshPlaysSpec Rows.freshPlaysRow Rows.FreshPlaysSaid)
set_option maxRecDepth 100000
set_option linter.unusedSimpArgs false
set_option linter.unusedVariables false
theorem row3 (rs : List (List D)) (h : TyAll Try.prog 20 Try.f3.params.toList rs) : ∃ k m', callD E0 k 3 (argsV Try.prog Try.f3.params.toList rs) [] = some ([.d (.bool true)], m') := by
  rw [Try.params3] at h ⊢
  simp only [TyAll] at h
  obtain ⟨_, _, rfl, q0, _, _, rfl, q1, rfl⟩ := h
  have k0 := flatK_ok 20 _ _ _ (show flatK Try.prog 20 3 = some [.i .i64] by kernel_rfl) q0
  simp only [CellsK, CellK] at k0
  obtain ⟨_, _, rfl, ⟨a0_0, rfl, w0_0⟩, rfl⟩ := k0
  have k1 := flatK_ok 20 _ _ _ (show flatK Try.prog 20 22 = some [.l 39] by kernel_rfl) q1
  simp only [CellsK, CellK] at k1
  obtain ⟨d1_0, _, rfl, y1_0, rfl⟩ := k1
  obtain ⟨n1_0, a1_0, rfl, v1_0⟩ : ∃ n l, d1_0 = slD enc_R_bool_Su811 false 2 n l ∧ (l.length ≤ maxLen ∧ l.length * 32 ≤ 140737488351232 ∧ ∀ z ∈ l, (z.c2.length ≤ maxLen ∧ z.c2.length * 1 ≤ 140737488351232 ∧ ∀ zz ∈ z.c2, WfI .u8 zz) ∧ True) := by
    rcases y1_0 with rfl | ⟨rows1, rfl, hl1, hb1, m1, hr1⟩
    · exact ⟨true, [], rfl, by simp [maxLen], by simp, fun z hz => by simp at hz⟩
    · obtain ⟨l2, rfl, hw2⟩ : ∃ l : List R_bool_Su811, rows1 = l.map enc_R_bool_Su811 ∧ ∀ z ∈ l, (z.c2.length ≤ maxLen ∧ z.c2.length * 1 ≤ 140737488351232 ∧ ∀ zz ∈ z.c2, WfI .u8 zz) ∧ True := rows_of (T := Ty Try.prog m1 39) (fun r hr => by
          have q := flatK_any (show flatK Try.prog 20 39 = some [.b, .l 5] by kernel_rfl) hr
          simp only [CellsK, CellK] at q
          obtain ⟨_, _, rfl, ⟨b0, rfl⟩, d1, _, rfl, w1, rfl⟩ := q
          obtain ⟨n1, b1, rfl, v1⟩ : ∃ n l, d1 = slD (encI .u8) true 1 n l ∧ (l.length ≤ maxLen ∧ l.length * 1 ≤ 140737488351232 ∧ ∀ z ∈ l, WfI .u8 z) := by
            rcases w1 with rfl | ⟨rows3, rfl, hl3, hb3, m3, hr3⟩
            · exact ⟨true, [], rfl, by simp [maxLen], by simp, fun z hz => by simp at hz⟩
            · obtain ⟨l4, rfl, hw4⟩ : ∃ l : List Int, rows3 = l.map (encI .u8) ∧ ∀ z ∈ l, WfI .u8 z := rows_of (T := Ty Try.prog m3 5) (fun r hr => by
                  have q := flatK_any (show flatK Try.prog 20 5 = some [.i .u8] by kernel_rfl) hr
                  simp only [CellsK, CellK] at q
                  obtain ⟨_, _, rfl, ⟨b0, rfl, w0⟩, rfl⟩ := q
                  exact ⟨b0, rfl, w0⟩) rows3 hr3
              rw [List.length_map, show Try.prog.bytesOf 5 = 1 by kernel_rfl] at hb3
              rw [show isFlat Try.prog 5 = true by kernel_rfl, show Try.prog.cellsOf 5 = 1 by kernel_rfl]
              exact ⟨false, l4, slD_rs _ _ _ _, by simpa using hl3, hb3, hw4⟩
          exact ⟨⟨b0, n1, b1⟩, rfl, ⟨v1, trivial⟩⟩) rows1 hr1
      rw [List.length_map, show Try.prog.bytesOf 39 = 32 by kernel_rfl] at hb1
      rw [show isFlat Try.prog 39 = false by kernel_rfl, show Try.prog.cellsOf 39 = 2 by kernel_rfl]
      exact ⟨false, l2, slD_rs _ _ _ _, by simpa using hl1, hb1, hw2⟩
  simp only [argsV, argV, Try.underlying3, Try.underlying22, List.map_cons, List.map_nil]
  obtain ⟨g1, g2⟩ := pure_FreshPlays a0_0 n1_0 a1_0 w0_0 v1_0
  have hc := law06_FreshPlays_t0 a0_0 n1_0 a1_0 g1
  rw [g2] at hc
  obtain ⟨k, hk⟩ := of_cl hc
  exact ⟨k, _, hk⟩
theorem freshPlays_lifted (os : Os) (started : os.Started) (H : Type) (enc : TypeId × Value → H) :
    ReturnsInHanded {} Try.checked os 3 .any (Rows.freshPlaysSpec.pre6 enc Try.prog Try.f3 Rows.freshPlaysRow.domain false) (Rows.freshPlaysSpec.post enc Try.prog Try.f3 false true false false) :=
  law_lifted (C := Try.checked) (fn := Try.f3) mixed envOK glOK own started (by kernel_rfl) Try.func3 laidOut
    (ChangeSpec.witness6 (enc := enc) (C := Try.checked) false ⟨#[], #[.int .i64 0, .slice none 0 0], []⟩ 8 (by kernel_rfl) (by kernel_rfl) (by kernel_rfl) (by kernel_rfl))
    (by kernel_rfl) (rt := 4) rfl Try.underlying4 rfl
    (fun ds h => by
      match ds, h with
      | [_, _], _ => rfl)
    row3
theorem freshPlays_holds : Rows.FreshPlaysSaid :=
  OpenClaim.holds_of_wide 3 Try.f3 rfl rfl rfl rfl rfl rfl rfl ⟨rfl, rfl, rfl, rfl, rfl⟩ rfl rfl rfl rfl rfl (by kernel_rfl) Try.func3 (by kernel_rfl)
    (of_decide_eq_true (by kernel_rfl)) (by unfold Func.isWrapper; first | (rw [if_pos (by decide +kernel)]; kernel_rfl) | (rw [if_neg (by decide +kernel)]; exact ⟨rfl, rfl⟩))
    (fun os started H enc _ => freshPlays_lifted os started H enc)
end Go.Proofs.Ytkipngagfiaddaa.Den
