/- CrcTells: part 6 of what its proof rests on: an evaluator of the program's code, proved sound; plain functions printed from the code by a program of this session, with proofs; plain laws. No condition. -/
import Derived.Test.YtgalchmjpfmemaaDencrcTells5
import Derived.Test.YtgalchmjpfmemaaRows

/- The sum of bytes: the program's functions, told plainly. -/
namespace Go.Proofs.Ytgalchmjpfmemaa.Den
open Go
set_option linter.unusedVariables false
set_option linter.unusedSimpArgs false

theorem shl8_nat {n : Nat} (h : n < 4294967296) : shlI .i64 (n : Int) 8 = ((256 * n : Nat) : Int) := by
  show IntKind.i64.wrap ((n : Int) * 2 ^ (min (8 : Int).toNat 64)) = _
  have : (2 : Int) ^ (min (8 : Int).toNat 64) = 256 := by decide
  rw [this, wrap64 (by omega) (by omega)]; omega

theorem shl1_nat {n : Nat} (h : n < 4294967296) : shlI .i64 (n : Int) 1 = ((2 * n : Nat) : Int) := by
  show IntKind.i64.wrap ((n : Int) * 2 ^ (min (1 : Int).toNat 64)) = _
  have : (2 : Int) ^ (min (1 : Int).toNat 64) = 2 := by decide
  rw [this, wrap64 (by omega) (by omega)]; omega

theorem step_eq {n : Nat} (h : n < 65536) : crc_More_c1_p_Fi_r0_0 (n : Int) = (stepN n : Int) := by
  have e1 : andI .i64 (n : Int) 32768 = ((32768 * topN n : Nat) : Int) := by rw [← and_top]; exact andI_nat (b := 32768) (by omega) (by omega)
  have e2 : andI .i64 (shlI .i64 (n : Int) 1) 65535 = ((2 * n % 65536 : Nat) : Int) := by rw [shl1_nat (by omega), ← and_mask]; exact andI_nat (b := 65535) (by omega) (by omega)
  have e3 : xorI .i64 ((2 * n % 65536 : Nat) : Int) 4129 = (((2 * n % 65536) ^^^ 4129 : Nat) : Int) := xorI_nat (b := 4129) (by omega) (by omega)
  have ht : topN n < 2 := by unfold topN; omega
  unfold crc_More_c1_p_Fi_r0_0 stepN
  rw [e1, e2, e3]
  by_cases h1 : topN n = 1
  · simp [h1]
  · have : topN n = 0 := by omega
    simp [this]

theorem crcL0 {c : Nat} (h : c < 65536) : crc_More_io_L0_ok ⟨0, (c : Int)⟩ = true ∧ (crc_More_io_L0_end ⟨0, (c : Int)⟩).c5 = (itN 8 c : Int) := by
  obtain ⟨s1, e, ⟨k, h1, h2⟩, h3⟩ := idx_loop (sel := crc_More_io_L0_sel) (nx := crc_More_io_L0_nx) (s0 := ⟨0, (c : Int)⟩) 8 (fun s => s.c4) (fun s => ∃ k : Nat, s.c4 = k ∧ s.c5 = (itN k c : Int)) (by omega) ⟨0, rfl, rfl⟩ (by simp) (by simp)
    (fun s ⟨k, h1, h2⟩ g1 g2 => by
      have e : (wi (s.c4 + 1)) = s.c4 + 1 := wi_eq (by omega) (by omega)
      refine ⟨by simp [crc_More_io_L0_sel, g2], ⟨k + 1, ?_, ?_⟩, e⟩
      · simp only [crc_More_io_L0_nx, e]; omega
      · simp only [crc_More_io_L0_nx, h2]; exact step_eq (itN_lt k h))
    (fun s _ g => by simp [crc_More_io_L0_sel, g])
  have hk : k = 8 := by omega
  subst hk
  simp [crc_More_io_L0_ok, crc_More_io_L0_end, e, h2]

theorem take_nats {l : List Int} {k : Nat} (h : k < l.length) (c : Nat) : crcI c (l.take (k + 1)) = byteN (crcI c (l.take k)) (l[k]).toNat := by
  unfold crcI nats
  rw [List.take_succ_eq_append_getElem h, List.map_append, crcN_app]
  rfl

def Byt (l : List Int) : Prop := ∀ z ∈ l, WfI .u8 z

theorem Byt.take {l : List Int} (h : Byt l) (k : Nat) : Byt (l.take k) := fun z hz => h z (List.mem_of_mem_take hz)
theorem Byt.drop {l : List Int} (h : Byt l) (k : Nat) : Byt (l.drop k) := fun z hz => h z (List.mem_of_mem_drop hz)
theorem crcI_lt {c : Nat} {l : List Int} (hc : c < 65536) (h : Byt l) : crcI c l < 65536 := crcN_lt hc (nats_lt h)

theorem crcL1 {c : Nat} {l : List Int} (h : c < 65536) (hl : Byt l) (hn : l.length < 1152921504606846976) : ∃ s1, itS (crc_More_io_L1_sel l l.length) (crc_More_io_L1_nx l l.length) bound ⟨0, (c : Int)⟩ = some s1 ∧ s1.c3 = l.length ∧ s1.c4 = (crcI c l : Int) := by
  obtain ⟨s1, e, ⟨k, h1, h2, h4⟩, h3⟩ := idx_loop (sel := crc_More_io_L1_sel l l.length) (nx := crc_More_io_L1_nx l l.length) (s0 := ⟨0, (c : Int)⟩) l.length (fun s => s.c3) (fun s => ∃ k : Nat, s.c3 = k ∧ k ≤ l.length ∧ s.c4 = (crcI c (l.take k) : Int)) (by omega) ⟨0, rfl, by omega, rfl⟩ (by simp) (by simp)
    (fun s ⟨k, h1, h2, h4⟩ g1 g2 => by
      have e : (wi (s.c3 + 1)) = s.c3 + 1 := wi_eq (by omega) (by omega)
      have hk : k < l.length := by omega
      have hg : gt l s.c3 = ((l[k]).toNat : Int) := by
        rw [h1, gt_nat hk]; have := wfI_u8 (hl _ (List.getElem_mem hk)); omega
      have hb : (l[k]).toNat < 256 := by have := wfI_u8 (hl _ (List.getElem_mem hk)); omega
      have hc := crcI_lt h (hl.take k)
      have hx : xorI .i64 s.c4 (shlI .i64 (wi (gt l s.c3)) 8) = ((crcI c (l.take k) ^^^ (256 * (l[k]).toNat) : Nat) : Int) := by
        rw [hg, wi_eq (x := ((l[k]).toNat : Int)) (by omega) (by omega), shl8_nat (by omega), h4]; exact xorI_nat (by omega) (by omega)
      obtain ⟨q1, q2⟩ := crcL0 (xor16 hc (by omega : 256 * (l[k]).toNat < 65536))
      refine ⟨by simp [crc_More_io_L1_sel, g2, inb_of g1 g2, hx, q1], ⟨k + 1, ?_, by omega, ?_⟩, e⟩
      · simp only [crc_More_io_L1_nx, e]; omega
      · simp only [crc_More_io_L1_nx, crc_More_io_L1_h0_e0, hx, q2, take_nats hk]; rfl)
    (fun s _ g => by simp [crc_More_io_L1_sel, g])
  have hk : k = l.length := by omega
  subst hk
  exact ⟨s1, e, h1, by rw [h4, List.take_length]⟩

def moreI (x : Int) (l : List Int) : Int := if 0 ≤ x ∧ x ≤ 65535 then (crcI x.toNat l : Int) else 0

theorem more_eq (x : Int) {l : List Int} (hl : Byt l) (hn : l.length < 1152921504606846976) : crc_More_io_c0 x l = true ∧ crc_More_io_r0_0 x l = moreI x l := by
  by_cases h1 : x < 0
  · simp [crc_More_io_c0, crc_More_io_r0_0, h1, moreI]; omega
  by_cases h2 : 65535 < x
  · simp [crc_More_io_c0, crc_More_io_r0_0, h1, h2, moreI]; omega
  obtain ⟨s1, e, g1, g2⟩ := crcL1 (c := x.toNat) (by omega) hl hn
  rw [show ((x.toNat : Nat) : Int) = x by omega] at e
  have h3 : 0 ≤ x ∧ x ≤ 65535 := by omega
  simp [crc_More_io_c0, crc_More_io_r0_0, crc_More_io_e0, h1, h2, moreI, h3, crc_More_io_L1_ok, crc_More_io_L1_end, e, crc_More_io_L1_c0, g1, g2]

/-! ### the reference -/

theorem cross_eq {a b : Nat} (ha : a < 65536) (hb : b < 65536) : ref03_cross_ii_c0 (a : Int) (b : Int) = true ∧ (ref03_cross_ii_e0 (a : Int) (b : Int)).c0 = ((a ^^^ b : Nat) : Int) := by
  obtain ⟨s1, e, ⟨k, h1, h2, c, p, h4, h5, h6, h7, h8⟩, h3⟩ := idx_loop (sel := ref03_cross_ii_L0_sel) (nx := ref03_cross_ii_L0_nx) (s0 := ⟨0, 1, (a : Int), (b : Int), 0⟩) 16 (fun s => s.c4)
    (fun s => ∃ k : Nat, s.c4 = k ∧ k ≤ 16 ∧ ∃ c p : Nat, s.c0 = c ∧ s.c1 = p ∧ p = 2 ^ k ∧ (s.c2 = ((a / p : Nat) : Int) ∧ s.c3 = ((b / p : Nat) : Int)) ∧ c + p * ((a / p) ^^^ (b / p)) = a ^^^ b) (by omega) ⟨0, rfl, by omega, 0, 1, rfl, rfl, rfl, by simp, by simp⟩ (by simp) (by simp)
    (fun s ⟨k, h1, h2, c, p, h4, h5, h6, ⟨h7, h7'⟩, h8⟩ g1 g2 => by
      have e : (wi (s.c4 + 1)) = s.c4 + 1 := wi_eq (by omega) (by omega)
      have hp0 : 0 < p := by rw [h6]; exact Nat.two_pow_pos k
      have hp : p ≤ 32768 := by
        have : (2 : Nat) ^ k ≤ 2 ^ 15 := Nat.pow_le_pow_right (by omega) (by omega)
        omega
      have hx := xor16 ha hb
      have hc : c ≤ a ^^^ b := by rw [← h8]; omega
      have hpa : a / p ≤ a := Nat.div_le_self a p
      have hpb : b / p ≤ b := Nat.div_le_self b p
      have e1 : wi (2 * s.c1) = ((2 * p : Nat) : Int) := by rw [h5, wi_eq (x := 2 * (p : Int)) (by omega) (by omega)]; omega
      have e2 : wi (s.c0 + s.c1) = ((c + p : Nat) : Int) := by rw [h4, h5, wi_eq (x := (c : Int) + (p : Int)) (by omega) (by omega)]; omega
      have q : ∀ n : Nat, n < 65536 → quoI .i64 (n : Int) 2 = ((n / 2 : Nat) : Int) := fun n hn => by
        unfold quoI
        rw [show ((n : Int).tdiv 2) = ((n / 2 : Nat) : Int) from rfl]; exact wrap64 (by omega) (by omega)
      have r : ∀ n : Nat, remI .i64 (n : Int) 2 = ((n % 2 : Nat) : Int) := fun n => rfl
      have ea : a / (2 * p) = a / p / 2 := by rw [Nat.mul_comm, Nat.div_div_eq_div_mul]
      have eb : b / (2 * p) = b / p / 2 := by rw [Nat.mul_comm, Nat.div_div_eq_div_mul]
      have xm := @Nat.xor_mod_two_eq_one (a / p) (b / p)
      have xd := @Nat.xor_div_two (a / p) (b / p)
      have pk : 2 * p = 2 ^ (k + 1) := by rw [h6, Nat.pow_succ]; omega
      have fin : ∀ z : Nat, z = c + p * (((a / p) ^^^ (b / p)) % 2) → z + 2 * p * ((a / (2 * p)) ^^^ (b / (2 * p))) = a ^^^ b := fun z hz => by
        rw [ea, eb, ← xd, hz, ← h8]
        have : (a / p ^^^ b / p) = 2 * ((a / p ^^^ b / p) / 2) + (a / p ^^^ b / p) % 2 := by omega
        generalize (a / p ^^^ b / p) = y at *
        conv => rhs; rw [this, Nat.mul_add]
        rw [Nat.mul_comm 2 p, Nat.mul_assoc]
        omega
      refine ⟨by simp [ref03_cross_ii_L0_sel, g2], ?_, ?_⟩
      · by_cases hd : (remI .i64 s.c2 2 : Int) = remI .i64 s.c3 2
        · have hm : (a / p ^^^ b / p) % 2 = 0 := by
            rw [h7, h7', r, r] at hd
            have : (a / p) % 2 = (b / p) % 2 := by omega
            rw [this] at xm
            have : ¬ (a / p ^^^ b / p) % 2 = 1 := by rw [xm]; simp
            omega
          simp only [ref03_cross_ii_L0_nx, hd, bne_self_eq_false, tb_eq, cond_false]
          exact ⟨k + 1, by rw [e]; omega, by omega, c, 2 * p, h4, e1, pk, ⟨by rw [h7, q _ (by omega), ea], by rw [h7', q _ (by omega), eb]⟩, fin c (by rw [hm]; omega)⟩
        · have hm : (a / p ^^^ b / p) % 2 = 1 := by
            rw [h7, h7', r, r] at hd
            have : ¬ (a / p) % 2 = (b / p) % 2 := by omega
            rw [xm]; omega
          simp only [ref03_cross_ii_L0_nx, bne_iff_ne.2 hd, tb_eq, cond_true]
          exact ⟨k + 1, by rw [e]; omega, by omega, c + p, 2 * p, e2, e1, pk, ⟨by rw [h7, q _ (by omega), ea], by rw [h7', q _ (by omega), eb]⟩, fin (c + p) (by rw [hm]; omega)⟩
      · by_cases hd : tb ((remI .i64 s.c2 2 : Int) != remI .i64 s.c3 2) = true <;> simp only [ref03_cross_ii_L0_nx, hd, cond_true, cond_false, e])
    (fun s _ g => by simp [ref03_cross_ii_L0_sel, g])
  have hk : k = 16 := by omega
  subst hk
  have ea : a / p = 0 := by rw [h6]; exact Nat.div_eq_of_lt (by omega)
  have eb : b / p = 0 := by rw [h6]; exact Nat.div_eq_of_lt (by omega)
  rw [ea, eb, Nat.xor_self, Nat.mul_zero, Nat.add_zero] at h8
  simp [ref03_cross_ii_c0, ref03_cross_ii_e0, ref03_cross_ii_L0_ok, ref03_cross_ii_L0_end, e, h4, h8]

theorem top_iff {n : Nat} (h : n < 65536) : topN n = 1 ↔ 32768 ≤ n := by unfold topN; omega

theorem refL0 {c : Nat} (h : c < 65536) : ref03_More_io_L0_ok ⟨(c : Int), 0⟩ = true ∧ (ref03_More_io_L0_end ⟨(c : Int), 0⟩).c2 = (itN 8 c : Int) ∧ ref03_More_io_L0_c0 (ref03_More_io_L0_end ⟨(c : Int), 0⟩) = true := by
  obtain ⟨s1, e, ⟨k, h1, h2⟩, h3⟩ := idx_loop (sel := ref03_More_io_L0_sel) (nx := ref03_More_io_L0_nx) (s0 := ⟨(c : Int), 0⟩) 8 (fun s => s.c4) (fun s => ∃ k : Nat, s.c4 = k ∧ s.c2 = (itN k c : Int)) (by omega) ⟨0, rfl, rfl⟩ (by simp) (by simp)
    (fun s ⟨k, h1, h2⟩ g1 g2 => by
      have e : (wi (s.c4 + 1)) = s.c4 + 1 := wi_eq (by omega) (by omega)
      have hi := itN_lt k h
      have hm : remI .i64 (wi (2 * s.c2)) 65536 = ((2 * itN k c % 65536 : Nat) : Int) := by
        rw [h2, wi_eq (x := 2 * (itN k c : Int)) (by omega) (by omega)]
        unfold remI
        rw [show (2 * (itN k c : Int)) = ((2 * itN k c : Nat) : Int) by omega]; rfl
      obtain ⟨q1, q2⟩ := cross_eq (a := 2 * itN k c % 65536) (b := 4129) (by omega) (by omega)
      have q1' : ref03_cross_ii_c0 ((2 * itN k c % 65536 : Nat) : Int) 4129 = true := q1
      have q2' : (ref03_cross_ii_e0 ((2 * itN k c % 65536 : Nat) : Int) 4129).c0 = _ := q2
      by_cases hd : 32768 ≤ s.c2
      · have hs : stepN (itN k c) = (2 * itN k c % 65536) ^^^ 4129 := by unfold stepN; rw [if_pos ((top_iff hi).2 (by omega))]
        refine ⟨by simp only [ref03_More_io_L0_sel, g2, hd, hm, q1', decide_true, tb_eq, cond_true], ⟨k + 1, ?_, ?_⟩, ?_⟩
        · simp only [ref03_More_io_L0_nx, e, hd, decide_true, tb_eq, cond_true]; omega
        · simp only [ref03_More_io_L0_nx, hd, decide_true, tb_eq, cond_true, hm, q2']; rw [← hs]; rfl
        · simp only [ref03_More_io_L0_nx, e, hd, decide_true, tb_eq, cond_true]
      · have hs : stepN (itN k c) = (2 * itN k c % 65536) := by unfold stepN; rw [if_neg (by rw [top_iff hi]; omega)]
        refine ⟨by simp [ref03_More_io_L0_sel, g2, hd], ⟨k + 1, ?_, ?_⟩, ?_⟩
        · simp only [ref03_More_io_L0_nx, e, hd, decide_false, tb_eq, cond_false]; omega
        · simp only [ref03_More_io_L0_nx, hd, decide_false, tb_eq, cond_false, hm]; rw [← hs]; rfl
        · simp only [ref03_More_io_L0_nx, e, hd, decide_false, tb_eq, cond_false])
    (fun s _ g => by simp [ref03_More_io_L0_sel, g])
  have hk : k = 8 := by omega
  subst hk
  simp [ref03_More_io_L0_ok, ref03_More_io_L0_end, e, h2, ref03_More_io_L0_c0, h3]

theorem refL1 {c : Nat} {l : List Int} (h : c < 65536) (hl : Byt l) (hn : l.length < 1152921504606846976) : ∃ s1, itS (ref03_More_io_L1_sel l) (ref03_More_io_L1_nx l) bound ⟨(c : Int), 0⟩ = some s1 ∧ s1.c3 = l.length ∧ s1.c2 = (crcI c l : Int) := by
  obtain ⟨s1, e, ⟨k, h1, h2, h4⟩, h3⟩ := idx_loop (sel := ref03_More_io_L1_sel l) (nx := ref03_More_io_L1_nx l) (s0 := ⟨(c : Int), 0⟩) l.length (fun s => s.c3) (fun s => ∃ k : Nat, s.c3 = k ∧ k ≤ l.length ∧ s.c2 = (crcI c (l.take k) : Int)) (by omega) ⟨0, rfl, by omega, rfl⟩ (by simp) (by simp)
    (fun s ⟨k, h1, h2, h4⟩ g1 g2 => by
      have e : (wi (s.c3 + 1)) = s.c3 + 1 := wi_eq (by omega) (by omega)
      have hk : k < l.length := by omega
      have hg : gt l s.c3 = ((l[k]).toNat : Int) := by
        rw [h1, gt_nat hk]; have := wfI_u8 (hl _ (List.getElem_mem hk)); omega
      have hb : (l[k]).toNat < 256 := by have := wfI_u8 (hl _ (List.getElem_mem hk)); omega
      have hc := crcI_lt h (hl.take k)
      have hw : wi (256 * (wi (gt l s.c3))) = ((256 * (l[k]).toNat : Nat) : Int) := by
        rw [hg, wi_eq (x := ((l[k]).toNat : Int)) (by omega) (by omega), wi_eq (x := 256 * ((l[k]).toNat : Int)) (by omega) (by omega)]; omega
      obtain ⟨p1, p2⟩ := cross_eq hc (by omega : 256 * (l[k]).toNat < 65536)
      obtain ⟨q1, q2, q3⟩ := refL0 (xor16 hc (by omega : 256 * (l[k]).toNat < 65536))
      have he0 : ref03_More_io_L1_h0_e0 l s = ((crcI c (l.take k) ^^^ (256 * (l[k]).toNat) : Nat) : Int) := by unfold ref03_More_io_L1_h0_e0; rw [hw, h4, p2]
      refine ⟨by simp only [ref03_More_io_L1_sel, g2, inb_of g1 g2, hw, h4, p1, he0, q1, ref03_More_io_L1_h0_e1, q3, decide_true, tb_eq, cond_true], ⟨k + 1, ?_, by omega, ?_⟩, e⟩
      · simp only [ref03_More_io_L1_nx, e]; omega
      · simp only [ref03_More_io_L1_nx, ref03_More_io_L1_h0_e1, he0, q2, take_nats hk]; rfl)
    (fun s _ g => by simp [ref03_More_io_L1_sel, g])
  have hk : k = l.length := by omega
  subst hk
  exact ⟨s1, e, h1, by rw [h4, List.take_length]⟩

theorem rmore_eq (x : Int) {l : List Int} (hl : Byt l) (hn : l.length < 1152921504606846976) : ref03_More_io_c0 x l = true ∧ ref03_More_io_r0_0 x l = moreI x l := by
  by_cases h1 : x < 0
  · simp [ref03_More_io_c0, ref03_More_io_r0_0, h1, moreI]; omega
  by_cases h2 : 65535 < x
  · simp [ref03_More_io_c0, ref03_More_io_r0_0, h1, h2, moreI]; omega
  obtain ⟨s1, e, g1, g2⟩ := refL1 (c := x.toNat) (by omega) hl hn
  rw [show ((x.toNat : Nat) : Int) = x by omega] at e
  have h3 : 0 ≤ x ∧ x ≤ 65535 := by omega
  simp [ref03_More_io_c0, ref03_More_io_r0_0, h1, h2, moreI, h3, ref03_More_io_L1_ok, ref03_More_io_L1_end, e, ref03_More_io_L1_c0, g1, g2]

end Go.Proofs.Ytgalchmjpfmemaa.Den

/- Seal, Open, and what tells lists alike, told plainly. -/
namespace Go.Proofs.Ytgalchmjpfmemaa.Den
open Go
set_option linter.unusedVariables false
set_option linter.unusedSimpArgs false

theorem gt_zip {l k : List Int} (h : l.length = k.length) {i : Int} (h1 : 0 ≤ i) (h2 : i < l.length) : gt (l.zip k) i = (gt l i, gt k i) := by
  rw [gt_getElem h1 (by rw [List.length_zip]; omega), gt_getElem h1 (by omega), gt_getElem h1 (by omega), List.getElem_zip]

theorem zip_all : ∀ {l k : List Int}, l.length = k.length → ((l.zip k).all fun p => p.1 == p.2) = decide (l = k)
  | [], [], _ => by simp
  | x :: l, y :: k, h => by
    rw [List.zip_cons_cons, List.all_cons, zip_all (by simpa using h), Bool.eq_iff_iff]
    simp
  | [], _ :: _, h => by simp at h
  | _ :: _, [], h => by simp at h

/-- A loop that goes on while two lists are alike. -/
theorem eq_loop {S : Type} {sel : S → Bool} {nx : S → S} {s0 : S} {l k : List Int} (hlk : l.length = k.length) (ix : S → Int) (hl : l.length < 1152921504606846976) (h0 : ix s0 = 0)
    (hnx : ∀ s, 0 ≤ ix s → ix s < l.length → ix (nx s) = ix s + 1) (hsel : ∀ s, 0 ≤ ix s → ix s ≤ l.length → sel s = (decide (ix s < l.length) && (gt l (ix s) == gt k (ix s)))) :
    ∃ s1, itS sel nx bound s0 = some s1 ∧ 0 ≤ ix s1 ∧ ((ix s1 = l.length ∧ l = k) ∨ (ix s1 < l.length ∧ (gt l (ix s1) == gt k (ix s1)) = false ∧ l ≠ k)) := by
  have hz : (l.zip k).length = l.length := by rw [List.length_zip]; omega
  obtain ⟨s1, e, -, g0, g⟩ := all_loop (sel := sel) (nx := nx) (s0 := s0) (l.zip k) ix (fun p => p.1 == p.2) (fun _ => True) (by omega) h0 trivial
    (fun s _ a1 a2 _ => ⟨hnx s a1 (by omega), trivial⟩)
    (fun s _ a1 a2 => by
      rw [hsel s a1 (by omega), hz]
      by_cases h : ix s < l.length
      · rw [gt_zip hlk a1 h]
      · simp [h])
  rw [zip_all hlk, hz] at g
  refine ⟨s1, e, g0, ?_⟩
  rcases g with ⟨a, b⟩ | ⟨a, b, c⟩
  · exact .inl ⟨a, by simpa using b⟩
  · rw [gt_zip hlk g0 a] at b
    exact .inr ⟨a, b, by simpa using c⟩

theorem equal_eq {l k : List Int} (hl : l.length < 1152921504606846976) : slices_Equal_byte_oo_c0 l k = true ∧ slices_Equal_byte_oo_r0_0 l k = decide (l = k) := by
  by_cases h : l.length = k.length
  · obtain ⟨s1, e, g0, g⟩ := eq_loop (sel := slices_Equal_byte_oo_L0_sel l k l.length) (nx := slices_Equal_byte_oo_L0_nx l k l.length) (s0 := ⟨0⟩) h (fun s => s.c5) hl rfl
      (fun s a1 a2 => by show wi _ = _; exact wi_eq (by omega) (by omega))
      (fun s a1 a2 => by
        by_cases hi : s.c5 < l.length
        · have i1 := inb_of a1 hi
          have i2 : inb k.length s.c5 = true := by rw [← h]; exact i1
          by_cases q : gt l s.c5 = gt k s.c5
          · simp [slices_Equal_byte_oo_L0_sel, hi, i1, i2, q]
          · simp [slices_Equal_byte_oo_L0_sel, hi, i1, i2, q, bne]
        · simp [slices_Equal_byte_oo_L0_sel, hi])
    have hne : ((((l.length : Nat) : Int) : Int) != ((k.length : Nat) : Int)) = false := by simp [h]
    simp only [slices_Equal_byte_oo_c0, slices_Equal_byte_oo_r0_0, slices_Equal_byte_oo_e0, slices_Equal_byte_oo_L0_ok, slices_Equal_byte_oo_L0_end, e, hne, tb_eq, cond_false, Option.isSome_some, cond_true, Option.getD_some]
    rcases g with ⟨a, b⟩ | ⟨a, b, c⟩
    · simp [slices_Equal_byte_oo_L0_c0, slices_Equal_byte_oo_L0_c1, a, b]
    · have i1 := inb_of g0 a
      have i2 : inb k.length s1.c5 = true := by rw [← h]; exact i1
      simp [slices_Equal_byte_oo_L0_c0, slices_Equal_byte_oo_L0_c1, a, c, i1, i2]
  · have hne : ((((l.length : Nat) : Int) : Int) != ((k.length : Nat) : Int)) = true := by simp; omega
    have : l ≠ k := fun e => h (by rw [e])
    simp [slices_Equal_byte_oo_c0, slices_Equal_byte_oo_r0_0, hne, this]

theorem same_eq {l k : List Int} (hl : l.length < 1152921504606846976) : ref03_Same_oo_c0 l k = true ∧ ref03_Same_oo_r0_0 l k = decide (l = k) := by
  by_cases h : l.length = k.length
  · obtain ⟨s1, e, g0, g⟩ := eq_loop (sel := ref03_Same_oo_L0_sel l k) (nx := ref03_Same_oo_L0_nx l k) (s0 := ⟨0⟩) h (fun s => s.c4) hl rfl
      (fun s a1 a2 => by show wi _ = _; exact wi_eq (by omega) (by omega))
      (fun s a1 a2 => by
        by_cases hi : s.c4 < l.length
        · have i1 := inb_of a1 hi
          have i2 : inb k.length s.c4 = true := by rw [← h]; exact i1
          by_cases q : gt l s.c4 = gt k s.c4
          · simp [ref03_Same_oo_L0_sel, hi, i1, i2, q]
          · simp [ref03_Same_oo_L0_sel, hi, i1, i2, q, bne]
        · simp [ref03_Same_oo_L0_sel, hi])
    have hne : ((((l.length : Nat) : Int) : Int) != ((k.length : Nat) : Int)) = false := by simp [h]
    simp only [ref03_Same_oo_c0, ref03_Same_oo_r0_0, ref03_Same_oo_L0_ok, ref03_Same_oo_L0_end, e, hne, tb_eq, cond_false, Option.isSome_some, cond_true, Option.getD_some]
    rcases g with ⟨a, b⟩ | ⟨a, b, c⟩
    · simp [ref03_Same_oo_L0_c0, ref03_Same_oo_L0_c1, a, b]
    · have i1 := inb_of g0 a
      have i2 : inb k.length s1.c4 = true := by rw [← h]; exact i1
      simp [ref03_Same_oo_L0_c0, ref03_Same_oo_L0_c1, a, c, i1, i2]
  · have hne : ((((l.length : Nat) : Int) : Int) != ((k.length : Nat) : Int)) = true := by simp; omega
    have : l ≠ k := fun e => h (by rw [e])
    simp [ref03_Same_oo_c0, ref03_Same_oo_r0_0, hne, this]

/-! ### Seal -/

structure Sm (l : List Int) : Prop where
  b : Byt l
  n : l.length ≤ 1000

theorem Sm.n' {l : List Int} (h : Sm l) : l.length < 1152921504606846976 := by have := h.n; omega

/-- A sum as two bytes. -/
def tail2 (l : List Int) : List Int := [((crcI 65535 l / 256 : Nat) : Int), ((crcI 65535 l % 256 : Nat) : Int)]
def sealed (l : List Int) : List Int := l ++ tail2 l

theorem u8_wrap {n : Nat} : IntKind.u8.wrap (n : Int) = ((n % 256 : Nat) : Int) := by
  unfold IntKind.wrap; simp [IntKind.bits, IntKind.signed]

theorem more_f {l : List Int} (h : Sm l) : crc_More_io_r0_0 65535 l = (crcI 65535 l : Int) := by
  rw [(more_eq 65535 h.b h.n').2]; simp [moreI]
theorem rmore_f {l : List Int} (h : Sm l) : ref03_More_io_r0_0 65535 l = (crcI 65535 l : Int) := by
  rw [(rmore_eq 65535 h.b h.n').2]; simp [moreI]
theorem sumc {l : List Int} (h : Sm l) : crc_Sum_o_c0 l = true := by simp [crc_Sum_o_c0, (more_eq 65535 h.b h.n').1]
theorem rsumc {l : List Int} (h : Sm l) : ref03_Sum_o_c0 l = true := by simp [ref03_Sum_o_c0, (rmore_eq 65535 h.b h.n').1]
theorem Sm.crc {l : List Int} (h : Sm l) : crcI 65535 l < 65536 := crcI_lt (by omega) h.b

theorem tail_eq {l : List Int} (h : Sm l) : [(IntKind.u8.wrap (shrI .i64 (crc_More_io_r0_0 65535 l) 8)), (IntKind.u8.wrap ((crc_More_io_r0_0 65535 l)))] = tail2 l := by
  have hc := h.crc
  have e : shrI .i64 (crcI 65535 l : Int) 8 = ((crcI 65535 l / 256 : Nat) : Int) := by
    show (crcI 65535 l : Int).fdiv (2 ^ (min (8 : Int).toNat 64)) = _
    rw [show (2 : Int) ^ (min (8 : Int).toNat 64) = 256 by decide, Int.fdiv_eq_ediv_of_nonneg _ (by omega)]; omega
  rw [more_f h, e, u8_wrap, u8_wrap, Nat.mod_eq_of_lt (a := crcI 65535 l / 256) (by omega)]
  rfl

theorem seal_e0 {l : List Int} (h : Sm l) : crc_Seal_o_e0 l = sealed l := by unfold crc_Seal_o_e0; rw [tail_eq h]; rfl
theorem clone_c0 (a : Bool) (l : List Int) : slices_Clone_byte_o_c0 a l = (a && l.isEmpty) := by
  simp only [slices_Clone_byte_o_c0, tb_eq]; cases (a && l.isEmpty) <;> rfl
theorem clone_c1 (a : Bool) {l : List Int} (h : Sm l) : slices_Clone_byte_o_c1 a l = !(a && l.isEmpty) := by
  have : l.length * 1 ≤ 140737488355328 := by have := h.n; omega
  simp only [slices_Clone_byte_o_c1, tb_eq, this, decide_true]; cases (a && l.isEmpty) <;> rfl

theorem seal_c0 (a : Bool) {l : List Int} (h : Sm l) : crc_Seal_o_c0 a l = (a && l.isEmpty) := by
  simp only [crc_Seal_o_c0, sumc h, clone_c0, tb_eq, cond_true]; cases (a && l.isEmpty) <;> rfl
theorem seal_c1 (a : Bool) {l : List Int} (h : Sm l) : crc_Seal_o_c1 a l = !(a && l.isEmpty) := by
  have : (l.length + (tail2 l).length) * 1 ≤ 140737488355328 := by have := h.n; show (l.length + 2) * 1 ≤ _; omega
  simp only [crc_Seal_o_c1, sumc h, clone_c0, clone_c1 a h, tail_eq h, this, decide_true, tb_eq, cond_true]; cases (a && l.isEmpty) <;> rfl

theorem rtail {l : List Int} (h : Sm l) : quoI .i64 (ref03_More_io_r0_0 65535 l) 256 = ((crcI 65535 l / 256 : Nat) : Int) ∧ remI .i64 (ref03_More_io_r0_0 65535 l) 256 = ((crcI 65535 l % 256 : Nat) : Int) := by
  have hc := h.crc
  rw [rmore_f h]
  refine ⟨?_, rfl⟩
  unfold quoI
  rw [show ((crcI 65535 l : Int).tdiv 256) = ((crcI 65535 l / 256 : Nat) : Int) from rfl]
  exact wrap64 (by omega) (by omega)

theorem rseal_e {l : List Int} (h : Sm l) : [ref03_Seal_o_e0 l, ref03_Seal_o_e1 l] = tail2 l := by
  have hc := h.crc
  unfold ref03_Seal_o_e0 ref03_Seal_o_e1
  rw [(rtail h).1, (rtail h).2, u8_wrap, u8_wrap, Nat.mod_eq_of_lt (a := crcI 65535 l / 256) (by omega), Nat.mod_mod]
  rfl
theorem rseal_c0 {l : List Int} (h : Sm l) : ref03_Seal_o_c0 l = true := by
  have h1 : l.length * 1 ≤ 140737488355328 := by have := h.n; omega
  have h2 : (l.length + (tail2 l).length) * 1 ≤ 140737488355328 := by have := h.n; show (l.length + 2) * 1 ≤ _; omega
  simp only [ref03_Seal_o_c0, rsumc h, rseal_e h, h1, h2, decide_true, tb_eq, cond_true]

/-! ### Open -/

def okS (l : List Int) : Bool := decide (2 ≤ l.length) && decide (sealed (l.take (l.length - 2)) = l)

theorem Sm.take {l : List Int} (h : Sm l) (k : Nat) : Sm (l.take k) := ⟨h.b.take k, by have := h.n; rw [List.length_take]; omega⟩

theorem cut_eq {l : List Int} (h : Sm l) (h2 : 2 ≤ l.length) : wi (((l.length : Nat) : Int) - 2) = ((l.length - 2 : Nat) : Int) ∧ sub l 0 (wi (((l.length : Nat) : Int) - 2)) = l.take (l.length - 2) ∧ ins l.length 0 (wi (((l.length : Nat) : Int) - 2)) = true := by
  have hn := h.n
  have e : wi (((l.length : Nat) : Int) - 2) = ((l.length - 2 : Nat) : Int) := by rw [wi_eq (x := (l.length : Int) - 2) (by omega) (by omega)]; omega
  refine ⟨e, ?_, ?_⟩
  · rw [e]; simp [sub]
  · rw [e]; simp [ins]

theorem sealed_short {l : List Int} (h : (l.length : Nat) ≤ 1000) : (sealed l).length < 1152921504606846976 := by simp [sealed, tail2]; omega

theorem open_short {l : List Int} (h : Sm l) (h2 : l.length < 2) (a : Bool) : okS l = false ∧ crc_Open_o_c0 a l = true ∧ crc_Open_o_r0_0 a l = false ∧ crc_Open_o_c1 a l = false ∧ ref03_Open_o_c0 l = true ∧ ref03_Open_o_c1 l = false := by
  have e : wi (((l.length : Nat) : Int) - 2) < 0 := by rw [wi_eq (x := (l.length : Int) - 2) (by omega) (by omega)]; omega
  have e2 : ((l.length : Nat) : Int) < 2 := by omega
  have e3 : ¬ 2 ≤ l.length := by omega
  simp only [okS, crc_Open_o_c0, crc_Open_o_r0_0, crc_Open_o_c1, ref03_Open_o_c0, ref03_Open_o_c1, e, e2, e3, decide_true, decide_false, tb_eq, cond_true, Bool.false_and, and_self]

theorem open_eq {l : List Int} (h : Sm l) (a : Bool) : crc_Open_o_c0 a l = !(okS l) ∧ crc_Open_o_r0_0 a l = okS l ∧ crc_Open_o_c1 a l = okS l := by
  by_cases h2 : l.length < 2
  · obtain ⟨q1, q2, q3, q4, -⟩ := open_short h h2 a
    rw [q1, q2, q3, q4]; simp
  have h3 : 2 ≤ l.length := by omega
  obtain ⟨c1, c2, c3⟩ := cut_eq h h3
  have hp := h.take (l.length - 2)
  have hne : l.isEmpty = false := by cases l <;> simp_all
  have hneg : ¬ (wi (((l.length : Nat) : Int) - 2) < 0) := by rw [c1]; omega
  have hE : crc_Open_o_e1 l = sealed (l.take (l.length - 2)) := by unfold crc_Open_o_e1; rw [c2, seal_e0 hp]
  have eq := equal_eq (l := sealed (l.take (l.length - 2))) (k := l) (sealed_short hp.n)
  simp only [crc_Open_o_c0, crc_Open_o_r0_0, crc_Open_o_c1, hneg, c3, c2, hE, seal_c0 _ hp, seal_c1 _ hp, clone_c0, clone_c1 _ hp, hne, eq.1, eq.2, okS, h3, Bool.and_false, Bool.false_and, Bool.not_false, decide_true, decide_false, tb_eq, cond_true, cond_false, Bool.true_and]
  cases decide (sealed (l.take (l.length - 2)) = l) <;> simp

theorem two_end {l : List Int} (h : 2 ≤ l.length) : l = l.take (l.length - 2) ++ [l[l.length - 2], l[l.length - 1]] := by
  conv => lhs; rw [← List.take_append_drop (l.length - 2) l]
  congr 1
  apply List.ext_getElem
  · simp; omega
  · intro i h1 h2
    rw [List.getElem_drop]
    simp at h2
    rcases (by omega : i = 0 ∨ i = 1) with rfl | rfl
    · simp
    · simp; congr 1; omega

theorem ropen_eq {l : List Int} (h : Sm l) : ref03_Open_o_c0 l = !(okS l) ∧ ref03_Open_o_c1 l = okS l := by
  by_cases h2 : l.length < 2
  · obtain ⟨q1, q2, q3, q4, q5, q6⟩ := open_short h h2 false
    rw [q1, q5, q6]; simp
  have h3 : 2 ≤ l.length := by omega
  have hn := h.n
  obtain ⟨c1, c2, c3⟩ := cut_eq h h3
  rw [c1] at c2 c3
  have hp := h.take (l.length - 2)
  have hneg : ¬ (((l.length : Nat) : Int) < 2) := by omega
  have e1 : wi (((l.length : Nat) : Int) - 1) = ((l.length - 1 : Nat) : Int) := by rw [wi_eq (x := (l.length : Int) - 1) (by omega) (by omega)]; omega
  have g1 : gt l ((l.length - 2 : Nat) : Int) = l[l.length - 2] := gt_nat (by omega)
  have g2 : gt l ((l.length - 1 : Nat) : Int) = l[l.length - 1] := gt_nat (by omega)
  have b1 := wfI_u8 (h.b _ (List.getElem_mem (show l.length - 2 < l.length by omega)))
  have b2 := wfI_u8 (h.b _ (List.getElem_mem (show l.length - 1 < l.length by omega)))
  have i1 : inb l.length ((l.length - 2 : Nat) : Int) = true := inb_of (by omega) (by omega)
  have i2 : inb l.length ((l.length - 1 : Nat) : Int) = true := inb_of (by omega) (by omega)
  have hl : (l.take (l.length - 2)).length * 1 ≤ 140737488355328 := by rw [List.length_take]; omega
  have ok : okS l = (decide (l[l.length - 2] = ((crcI 65535 (l.take (l.length - 2)) / 256 : Nat) : Int)) && decide (l[l.length - 1] = ((crcI 65535 (l.take (l.length - 2)) % 256 : Nat) : Int))) := by
    have hs : sealed (l.take (l.length - 2)) = l ↔ tail2 (l.take (l.length - 2)) = [l[l.length - 2], l[l.length - 1]] := by
      conv => lhs; rhs; rw [two_end h3]
      unfold sealed
      rw [List.append_cancel_left_eq]
    unfold okS
    rw [Bool.eq_iff_iff]
    simp only [h3, decide_true, Bool.true_and, Bool.and_eq_true, decide_eq_true_eq, hs, tail2, List.cons.injEq, and_true]
    constructor <;> rintro ⟨a, b⟩ <;> exact ⟨a.symm, b.symm⟩
  rw [ok]
  simp only [ref03_Open_o_c0, ref03_Open_o_c1, ref03_Open_o_e0, ref03_Open_o_e1, hneg, c3, c2, c1, e1, rsumc hp, (rtail hp).1, (rtail hp).2, i1, i2, g1, g2, hl, decide_true, decide_false, tb_eq, cond_true, cond_false]
  rw [wi_eq (x := l[l.length - 2]) (by omega) (by omega), wi_eq (x := l[l.length - 1]) (by omega) (by omega)]
  simp only [bne]
  by_cases q1 : l[l.length - 2] = ((crcI 65535 (l.take (l.length - 2)) / 256 : Nat) : Int)
  · by_cases q2 : l[l.length - 1] = ((crcI 65535 (l.take (l.length - 2)) % 256 : Nat) : Int)
    · simp only [beq_iff_eq.2 q1, beq_iff_eq.2 q2, q1, q2]; simp
    · have : (l[l.length - 1] == ((crcI 65535 (l.take (l.length - 2)) % 256 : Nat) : Int)) = false := by simpa using q2
      simp only [beq_iff_eq.2 q1, this, q2, decide_false]; simp
  · have : (l[l.length - 2] == ((crcI 65535 (l.take (l.length - 2)) / 256 : Nat) : Int)) = false := by simpa using q1
    simp only [this, q1, decide_false]; simp

end Go.Proofs.Ytgalchmjpfmemaa.Den

/- CrcTells, told plainly. -/
namespace Go.Proofs.Ytgalchmjpfmemaa.Den
open Go
set_option linter.unusedVariables false
set_option linter.unusedSimpArgs false

theorem pure_CrcTells (x0 : Bool) (x1 : List Int) (x2 : Int) (wx1 : (x1.length ≤ maxLen ∧ ∀ z ∈ x1, WfI .u8 z)) (wx2 : WfI .i64 x2) : law03_CrcTells_c0 x0 x1 x2 = true ∧ (law03_CrcTells_r0_0 x0 x1 x2) = true := by
  obtain ⟨_, hl⟩ := wx1
  have hb : Byt x1 := hl
  by_cases h : (300 : Int) < x1.length
  · simp only [law03_CrcTells_c0, law03_CrcTells_r0_0, h, decide_true, tb_eq, cond_true, and_self]
  have hs : Sm x1 := ⟨hb, by omega⟩
  have hr : x1 ++ [(ref03_Seal_o_e0 x1), (ref03_Seal_o_e1 x1)] = sealed x1 := by rw [rseal_e hs]; rfl
  have he : law03_CrcTells_e0 x1 = tail2 x1 := tail_eq hs
  have hss := sealed_short hs.n
  obtain ⟨o1, o2, o3⟩ := open_eq hs x0
  obtain ⟨p1, p2⟩ := ropen_eq hs
  have s1 := same_eq (l := sealed x1) (k := sealed x1) hss
  have s2 := same_eq (l := []) (k := []) (by simp)
  have s3 := same_eq (l := tail2 x1) (k := sealed x1) (by simp [tail2])
  have m1 := more_eq x2 hb hs.n'
  have m2 := rmore_eq x2 hb hs.n'
  have nil : (x0 && x1.isEmpty) = true → tail2 x1 = sealed x1 := by
    intro hh
    have : x1 = [] := by cases x1 <;> simp_all
    subst this; rfl
  have s4 : okS x1 = true → ref03_Same_oo_c0 (sub x1 0 (wi (((x1.length : Nat) : Int) - 2))) (sub x1 0 (wi (((x1.length : Nat) : Int) - 2))) = true ∧ ref03_Same_oo_r0_0 (sub x1 0 (wi (((x1.length : Nat) : Int) - 2))) (sub x1 0 (wi (((x1.length : Nat) : Int) - 2))) = true := by
    intro hh
    have h2 : 2 ≤ x1.length := by simp [okS] at hh; exact hh.1
    obtain ⟨c1, c2, c3⟩ := cut_eq hs h2
    rw [c2]
    have := same_eq (l := x1.take (x1.length - 2)) (k := x1.take (x1.length - 2)) (hs.take _).n'
    exact ⟨this.1, by rw [this.2]; simp⟩
  simp only [law03_CrcTells_c0, law03_CrcTells_r0_0, h, o1, o2, o3, p1, p2, seal_c0 x0 hs, seal_c1 x0 hs, rseal_c0 hs, hr, he, seal_e0 hs, s1.1, s1.2, s2.1, s2.2, s3.1, s3.2, sumc hs, rsumc hs, more_f hs, rmore_f hs, m1.1, m1.2, m2.1, m2.2, decide_true, decide_false, tb_eq, cond_true, cond_false, beq_self_eq_true]
  cases hk : okS x1
  · cases hn : (x0 && x1.isEmpty)
    · simp
    · simp [nil hn]
  · obtain ⟨q1, q2⟩ := s4 hk
    simp only [q1, q2]
    cases hn : (x0 && x1.isEmpty)
    · simp
    · simp [nil hn]

end Go.Proofs.Ytgalchmjpfmemaa.Den

/- What all rows of a seat rest on. -/
namespace Go.Proofs.Ytgalchmjpfmemaa.Den
open Go Go.Proofs
set_option maxRecDepth 100000

theorem own : ownKnob Try.prog.godebug = none := by kernel_rfl
theorem laidOut : laidOutB Try.prog = true := by kernel_rfl
theorem mixed : Try.prog.follows .mixedOrders = true := by kernel_rfl
theorem envOK : EnvOK Try.prog E0 := ⟨e0_cf, fun f args m r m' h => by simp [E0] at h⟩
theorem glOK (w : World) : GlOK E0 (cx0 w) := fun g cs h => by simp [E0] at h
end Go.Proofs.Ytgalchmjpfmemaa.Den

/- The row of CrcTells. -/
namespace Go.Proofs.Ytgalchmjpfmemaa.Den
open Go Go.Proofs Go.ChangeShapes Go.WideShapes Go.ChangeAt Go.RowKit
open Go.Proofs.Ytgalchmjpfmemaa (Rows.crcTellsSpec Rows.crcTellsRow Rows.CrcTellsSaid)
set_option maxRecDepth 100000
set_option linter.unusedSimpArgs false
set_option linter.unusedVariables false

theorem row7 (rs : List (List D)) (h : TyAll Try.prog 20 Try.f7.params.toList rs) : ∃ k m', callD E0 k 7 (argsV Try.prog Try.f7.params.toList rs) [] = some ([.d (.bool true)], m') := by
  rw [Try.params7] at h ⊢
  simp only [TyAll] at h
  obtain ⟨_, _, rfl, q0, _, _, rfl, q1, rfl⟩ := h
  have k0 := flatK_ok 20 _ _ _ (show flatK Try.prog 20 56 = some [.l 5] by kernel_rfl) q0
  simp only [CellsK, CellK] at k0
  obtain ⟨d0_0, _, rfl, y0_0, rfl⟩ := k0
  obtain ⟨n0_0, a0_0, rfl, v0_0⟩ : ∃ n l, d0_0 = slD (encI .u8) true 1 n l ∧ (l.length ≤ maxLen ∧ ∀ z ∈ l, WfI .u8 z) := by
    rcases y0_0 with rfl | ⟨rows1, rfl, hl1, m1, hr1⟩
    · exact ⟨true, [], rfl, by simp [maxLen], fun z hz => by simp at hz⟩
    · obtain ⟨l2, rfl, hw2⟩ : ∃ l : List Int, rows1 = l.map (encI .u8) ∧ ∀ z ∈ l, WfI .u8 z := rows_of (T := Ty Try.prog m1 5) (fun r hr => by
          have q := flatK_any (show flatK Try.prog 20 5 = some [.i .u8] by kernel_rfl) hr
          simp only [CellsK, CellK] at q
          obtain ⟨_, _, rfl, ⟨b0, rfl, w0⟩, rfl⟩ := q
          exact ⟨b0, rfl, w0⟩) rows1 hr1
      rw [show isFlat Try.prog 5 = true by kernel_rfl, show Try.prog.cellsOf 5 = 1 by kernel_rfl]
      exact ⟨false, l2, slD_rs _ _ _ _, by simpa using hl1, hw2⟩
  have k1 := flatK_ok 20 _ _ _ (show flatK Try.prog 20 3 = some [.i .i64] by kernel_rfl) q1
  simp only [CellsK, CellK] at k1
  obtain ⟨_, _, rfl, ⟨a1_0, rfl, w1_0⟩, rfl⟩ := k1
  simp only [argsV, argV, Try.underlying3, Try.underlying56, List.map_cons, List.map_nil]
  obtain ⟨g1, g2⟩ := pure_CrcTells n0_0 a0_0 a1_0 v0_0 w1_0
  have hc := law03_CrcTells_t0 n0_0 a0_0 a1_0 g1
  rw [g2] at hc
  obtain ⟨k, hk⟩ := of_cl hc
  exact ⟨k, _, hk⟩

theorem crcTells_lifted (os : Os) (started : os.Started) (H : Type) (enc : TypeId × Value → H) :
    ReturnsInHanded {} Try.checked os 7 .any (Rows.crcTellsSpec.pre6 enc Try.prog Try.f7 Rows.crcTellsRow.domain false) (Rows.crcTellsSpec.post enc Try.prog Try.f7 false true false false) :=
  law_lifted (C := Try.checked) (fn := Try.f7) mixed envOK glOK own started (by kernel_rfl) Try.func7 laidOut
    (ChangeSpec.witness6 (enc := enc) (C := Try.checked) false ⟨#[], #[.slice none 0 0, .int .i64 0], []⟩ 8 (by kernel_rfl) (by kernel_rfl) (by kernel_rfl) (by kernel_rfl))
    (by kernel_rfl) (rt := 4) rfl Try.underlying4 rfl
    (fun ds h => by
      match ds, h with
      | [_, _], _ => rfl)
    row7

theorem crcTells_holds : Rows.CrcTellsSaid :=
  OpenClaim.holds_of_wide 7 Try.f7 rfl rfl rfl rfl rfl rfl rfl ⟨rfl, rfl, rfl, rfl, rfl⟩ rfl rfl rfl rfl rfl (by kernel_rfl) Try.func7 (by kernel_rfl)
    (of_decide_eq_true (by kernel_rfl)) (by unfold Func.isWrapper; first | (rw [if_pos (by decide +kernel)]; kernel_rfl) | (rw [if_neg (by decide +kernel)]; exact ⟨rfl, rfl⟩))
    (fun os started H enc _ => crcTells_lifted os started H enc)

end Go.Proofs.Ytgalchmjpfmemaa.Den
