/- The laws of layer 10 (drift). -/
import Derived.Test.YtgalchmjpfmemaaDenDA
namespace Go.Proofs.Ytgalchmjpfmemaa.Den
open Go Go.Proofs
set_option maxRecDepth 100000
set_option linter.unusedSimpArgs false
set_option linter.unusedVariables false

attribute [local simp] newBlk mkBlk V.cells V.cellsOk V.cellOk allSs toSs D.scalar packV unV binV binInt shiftInt tidy_data V.idss V.ids fillRows fillV

theorem f15 (n : Nat) : callD E0 (n + 12) 15 [] [] = some ([.bool true], []) := by kernel_rfl

theorem alive15 (n : Nat) (m : Mem) : callOf (callD E0 (n + 12)) (.fn (.func 15) [] []) [] m = some (.bool true, m) := by
  have := callOf_data (m := m) (args := []) (f15 n)
  simpa [packV] using this

def comeRows (l : List (Bool × Int)) : List (List D) := l.map fun c => [.bool c.1, .int .i64 c.2]
@[simp] theorem comeRows_len (l : List (Bool × Int)) : (comeRows l).length = l.length := by simp [comeRows]
@[simp] theorem comeRows_at (l : List (Bool × Int)) (i : Nat) : (comeRows l)[i]? = (l[i]?).map fun c => [.bool c.1, .int .i64 c.2] := by simp [comeRows]

section
attribute [local simp] callOf callV V.slidss V.slids V.byvals V.byval reach Blk.ids distinct pickBlks idxOf idxFrom Blk.ren V.rens V.ren layBack restBlks backRen

theorem at18 (n : Nat) (g b l : Int) : callOf (callD E0 (n + 1)) (.fn (.func 18) [] []) [.ptr 0 1 0 0] [flt g b l] = some (.tup [], [flt g b 0]) := by
  have h := f18_ok n g b l
  unfold flt at h ⊢
  simp [h]

theorem at21 (n : Nat) (g b l : Int) : callOf (callD E0 (n + 1)) (.fn (.func 21) [] []) [.ptr 0 1 0 0] [flt g b l] = some (.i l, [flt g b l]) := by
  have h := f21_ok n g b l
  unfold flt at h ⊢
  simp [h]

theorem at19 (n : Nat) (g b l d : Int) (hg : 0 ≤ g ∧ g ≤ 8) (hl : -4294967296 ≤ l ∧ l ≤ 4294967296) (hd : -4294967296 ≤ d ∧ d ≤ 4294967296) :
    callOf (callD E0 (n + 4)) (.fn (.func 19) [] []) [.ptr 0 1 0 0, .i d] [flt g b l] = some (.tup [.bool (decide (max (lev g l d) (-(lev g l d)) > b)), .i 0], [flt g b (lev g l d)]) := by
  have h := f19_ok n g b l d hg hl hd
  unfold flt at h ⊢
  simp [h]

theorem at19_far (n : Nat) (g b l d : Int) (hd : ¬ (-4294967296 ≤ d ∧ d ≤ 4294967296)) :
    callOf (callD E0 (n + 1)) (.fn (.func 19) [] []) [.ptr 0 1 0 0, .i d] [flt g b l] = some (.tup [.bool false, .i 1], [flt g b l]) := by
  have h := f19_far n g b l d hd
  unfold flt at h ⊢
  simp [h]

end

theorem at20 (n : Nat) (m : Mem) (g l d : Int) (hg : 0 ≤ g ∧ g ≤ 8) (hl : -4294967296 ≤ l ∧ l ≤ 4294967296) (hd : -4294967296 ≤ d ∧ d ≤ 4294967296) :
    callOf (callD E0 (n + 5)) (.fn (.func 20) [] []) [.i g, .i l, .i d] m = some (.tup [.i (lev g l d), .i 0], m) := by
  have h := f20 n g l d hg hl
  rw [if_pos hd] at h
  have := callOf_data (m := m) (args := [.i g, .i l, .i d]) h
  simpa only [packV] using this

theorem at20_far (n : Nat) (m : Mem) (g l d : Int) (hg : 0 ≤ g ∧ g ≤ 8) (hl : -4294967296 ≤ l ∧ l ≤ 4294967296) (hd : ¬ (-4294967296 ≤ d ∧ d ≤ 4294967296)) :
    callOf (callD E0 (n + 5)) (.fn (.func 20) [] []) [.i g, .i l, .i d] m = some (.tup [.i l, .i 1], m) := by
  have h := f20 n g l d hg hl
  rw [if_neg hd] at h
  have := callOf_data (m := m) (args := [.i g, .i l, .i d]) h
  simpa only [packV] using this


theorem l3 {n : Nat} {t : Nat → V} {g b lv : Int} {x : V} {i len : Nat} {c : Bool × Int} (hg : 0 ≤ g ∧ g ≤ 8) (hb : 0 ≤ b ∧ b ≤ 2147483647) (hl : -4294967296 ≤ lv ∧ lv ≤ 4294967296) (h0 : t 0 = .i g) (h1 : t 1 = .i b) (h2 : t 2 = x) (h7 : t 7 = .ptr 0 1 0 0) (h10 : t 10 = .i lv) (h11 : t 11 = .i i)
    (hx : lenV x = some len) (hsz : ∀ m, sizeOk m 2 x = true) (hi : idxSV i x = some (.d (.rp [.bool c.1, .int .i64 c.2]))) (hlt : i < len) (hlen : len ≤ 200) :
    ∃ lv' t', runC E0 (callD E0 (n + 5)) L3_0 ⟨t, [flt g b lv]⟩ = some (.normal, ⟨t', [flt g b lv']⟩) ∧ (-4294967296 ≤ lv' ∧ lv' ≤ 4294967296) ∧ t' 0 = t 0 ∧ t' 1 = t 1 ∧ t' 2 = t 2 ∧ t' 7 = t 7 ∧ t' 10 = .i lv' ∧ t' 11 = .i (i + 1 : Nat) := by
  have hw : IntKind.i64.wrap ((i : Int) + 1) = (i : Int) + 1 := wrap64 (by omega) (by omega)
  have hlt' : (i : Int) < (len : Int) := by omega
  obtain ⟨cl, d⟩ := c
  cases cl
  · by_cases hd : -4294967296 ≤ d ∧ d ≤ 4294967296
    · have hbt := lev_between g lv d
      refine ⟨lev g lv d, ?_⟩
      have a19 := at19 (n + 1) g b lv d hg hl hd
      have a20 := at20 n [flt g b (lev g lv d)] g lv d hg hl hd
      have a21 := at21 (n + 4) g b (lev g lv d)
      have wn : IntKind.i64.wrap (0 - b) = -b := by rw [wrap64 (by omega) (by omega)]; omega
      have wn' : IntKind.i64.wrap (-b) = -b := wrap64 (by omega) (by omega)
      by_cases q1 : lev g lv d > b
      · have q2 : max (lev g lv d) (-(lev g lv d)) > b := by omega
        rw [decide_eq_true q2] at a19
        simp [L3_0, h0, h1, h2, h7, h10, h11, hx, hsz, hi, hlt', asNat, fieldAV, loadV, part, a19, a20, a21, wn, wn', q1, hw, eqV]
        omega
      · by_cases q3 : lev g lv d < -b
        · have q2 : max (lev g lv d) (-(lev g lv d)) > b := by omega
          rw [decide_eq_true q2] at a19
          simp [L3_0, h0, h1, h2, h7, h10, h11, hx, hsz, hi, hlt', asNat, fieldAV, loadV, part, a19, a20, a21, wn, wn', q1, q3, hw, eqV]
          omega
        · have q2 : ¬ (max (lev g lv d) (-(lev g lv d)) > b) := by omega
          rw [decide_eq_false q2] at a19
          simp [L3_0, h0, h1, h2, h7, h10, h11, hx, hsz, hi, hlt', asNat, fieldAV, loadV, part, a19, a20, a21, wn, wn', q1, q3, hw, eqV]
          omega
    · refine ⟨lv, ?_⟩
      have a19 := at19_far (n + 4) g b lv d hd
      have a20 := at20_far n [flt g b lv] g lv d hg hl hd
      have a21 := at21 (n + 4) g b lv
      simp [L3_0, h0, h1, h2, h7, h10, h11, hx, hsz, hi, hlt', asNat, fieldAV, loadV, part, a19, a20, a21, hw, eqV]
      omega
  · refine ⟨0, ?_⟩
    have a18 := at18 (n + 4) g b lv
    have a21 := at21 (n + 4) g b 0
    simp [L3_0, h0, h1, h2, h7, h10, h11, hx, hsz, hi, hlt', asNat, fieldAV, loadV, part, a18, a21, hw]


/-- The loop of DriftPlays. -/
theorem i3 {n : Nat} {g b : Int} {x : V} {l : List (Bool × Int)} (hg : 0 ≤ g ∧ g ≤ 8) (hb : 0 ≤ b ∧ b ≤ 2147483647) (hx : lenV x = some l.length) (hsz : ∀ m, sizeOk m 2 x = true) (hi : ∀ i c, l[i]? = some c → idxSV i x = some (.d (.rp [.bool c.1, .int .i64 c.2]))) (hlen : l.length ≤ 200)
    (t : Nat → V) (h0 : t 0 = .i g) (h1 : t 1 = .i b) (h2 : t 2 = x) (h7 : t 7 = .ptr 0 1 0 0) (h10 : t 10 = .i 0) (h11 : t 11 = .i 0) :
    ∃ y : (Nat → V) × Int, iter (runC E0 (callD E0 (n + 5)) L3_0) bound ⟨t, [flt g b 0]⟩ = some (.exit 0, ⟨y.1, [flt g b y.2]⟩) ∧ y.1 7 = .ptr 0 1 0 0 := by
  have H : ∃ r, iter (runC E0 (callD E0 (n + 5)) L3_0) bound ⟨t, [flt g b 0]⟩ = some r ∧ ∃ (lv : Int) (t' : Nat → V), r = (.exit 0, ⟨t', [flt g b lv]⟩) ∧ t' 7 = .ptr 0 1 0 0 := by
   refine iter_inv (f := runC E0 (callD E0 (n + 5)) L3_0) (fun k s => ∃ i t lv, s = ⟨t, [flt g b lv]⟩ ∧ k + i = l.length ∧ i ≤ l.length ∧ (-4294967296 ≤ lv ∧ lv ≤ 4294967296) ∧ t 0 = .i g ∧ t 1 = .i b ∧ t 2 = x ∧ t 7 = .ptr 0 1 0 0 ∧ t 10 = .i lv ∧ t 11 = .i i)
    (fun r => ∃ (lv : Int) (t' : Nat → V), r = (.exit 0, ⟨t', [flt g b lv]⟩) ∧ t' 7 = .ptr 0 1 0 0) ?_ l.length ⟨t, [flt g b 0]⟩ ⟨0, t, 0, rfl, by omega, by omega, by omega, h0, h1, h2, h7, h10, h11⟩ bound (by rw [bound_eq]; omega)
   rintro k s ⟨i, t, lv, rfl, hk, hil, hl, h0, h1, h2, h7, h10, h11⟩
   rcases Nat.lt_or_ge i l.length with hlt | hge
   · right
     obtain ⟨lv', t', e, hl', g0, g1, g2, g7, g10, g11⟩ := l3 (n := n) hg hb hl h0 h1 h2 h7 h10 h11 hx hsz (hi i l[i] (by simp [hlt])) hlt hlen
     exact ⟨k - 1, _, by omega, e, i + 1, t', lv', rfl, by omega, by omega, hl', by rw [g0, h0], by rw [g1, h1], by rw [g2, h2], by rw [g7, h7], g10, g11⟩
   · left
     have hn : ¬ (i < l.length) := by omega
     have : ∃ t', runC E0 (callD E0 (n + 5)) L3_0 ⟨t, [flt g b lv]⟩ = some (.exit 0, ⟨t', [flt g b lv]⟩) ∧ t' 7 = t 7 := by
       simp [L3_0, h2, h11, hx, hn]
     obtain ⟨t', e, g7⟩ := this
     exact ⟨_, _, e, by simp, lv, t', rfl, by rw [g7, h7]⟩
  obtain ⟨r, hr, lv, t', rfl, h⟩ := H
  exact ⟨(t', lv), hr, h⟩

theorem nil18 (n : Nat) (m : Mem) : callOf (callD E0 (n + 1)) (.fn (.func 18) [] []) [.d .nilp] m = some (.tup [], m) := by
  have := callOf_data (m := m) (args := [.d .nilp]) (f18_nil n)
  simpa only [packV] using this
theorem nil19 (n : Nat) (m : Mem) (d : Int) : callOf (callD E0 (n + 1)) (.fn (.func 19) [] []) [.d .nilp, .i d] m = some (.tup [.bool false, .i 1], m) := by
  have := callOf_data (m := m) (args := [.d .nilp, .i d]) (f19_nil n d)
  simpa only [packV] using this
theorem nil21 (n : Nat) (m : Mem) : callOf (callD E0 (n + 1)) (.fn (.func 21) [] []) [.d .nilp] m = some (.i 0, m) := by
  have := callOf_data (m := m) (args := [.d .nilp]) (f21_nil n)
  simpa only [packV] using this
theorem at17 (n : Nat) (m : Mem) (a b : Int) : callOf (callD E0 (n + 1)) (.fn (.func 17) [] []) [.i a, .i b] m = some (.bool (decide (0 ≤ a ∧ a ≤ 8 ∧ 0 ≤ b ∧ b ≤ 2147483647)), m) := by
  have := callOf_data (m := m) (args := [.i a, .i b]) (f17 n a b)
  simpa only [packV] using this
theorem at16_not (n : Nat) (m : Mem) (a b : Int) (h : ¬ (0 ≤ a ∧ a ≤ 8 ∧ 0 ≤ b ∧ b ≤ 2147483647)) : callOf (callD E0 (n + 1)) (.fn (.func 16) [] []) [.i a, .i b] m = some (.tup [.d .nilp, .i 1], m) := by
  have := callOf_data (m := m) (args := [.i a, .i b]) (f16_not n a b h)
  simpa only [packV] using this
theorem at16_ok (n : Nat) (a b : Int) (h : 0 ≤ a ∧ a ≤ 8 ∧ 0 ≤ b ∧ b ≤ 2147483647) : callOf (callD E0 (n + 1)) (.fn (.func 16) [] []) [.i a, .i b] [] = some (.tup [.ptr 0 1 0 0, .i 0], [flt a b 0]) := by
  have h := f16_ok n a b h
  simp [callOf, callV, V.slidss, V.slids, V.byvals, V.byval, reach, distinct, pickBlks, V.rens, V.ren, h, layBack, restBlks, backRen, flt, Blk.ren]

theorem f3 (n : Nat) (g b : Int) (x : V) (l : List (Bool × Int)) (hx : lenV x = some l.length) (hxd : ∀ m, sizeOk m 2 x = true) (hi : ∀ i c, l[i]? = some c → idxSV i x = some (.d (.rp [.bool c.1, .int .i64 c.2]))) :
    ∃ m', callD E0 (n + 14) 3 [.i g, .i b, x] [] = some ([.bool true], m') := by
  rw [callE c3]
  have al := fun m => alive15 (n + 1) m
  by_cases h200 : 200 < (l.length : Int)
  · simp [hx, h200, al]
  · by_cases hmay : 0 ≤ g ∧ g ≤ 8 ∧ 0 ≤ b ∧ b ≤ 2147483647
    · have a16 := at16_ok (n + 12) g b hmay
      have a17 := at17 (n + 12) [flt g b 0] g b
      rw [decide_eq_true hmay] at a17
      obtain ⟨R, hR⟩ := skolem2 (fun (t : Nat → V) (⟨h0, h1, h2, h7, h10, h11⟩ : t 0 = V.i g ∧ t 1 = V.i b ∧ t 2 = x ∧ t 7 = V.ptr 0 1 0 0 ∧ t 10 = V.i 0 ∧ t 11 = V.i 0) => i3 (n := n + 8) ⟨hmay.1, hmay.2.1⟩ ⟨hmay.2.2.1, hmay.2.2.2⟩ hx hxd hi (by omega) t h0 h1 h2 h7 h10 h11)
      have R1 := fun t h0 h1 h2 h7 h10 h11 => (hR t ⟨h0, h1, h2, h7, h10, h11⟩).1
      have n18 := fun m => nil18 (n + 12) m
      have n19 := fun m => nil19 (n + 12) m 0
      have n21 := fun m => nil21 (n + 12) m
      simp [hx, h200, a16, a17, eqV, isPtr, runC_loop, R1, n18, n19, n21, al]
    · have a16 := at16_not (n + 12) [] g b hmay
      have a17 := at17 (n + 12) [] g b
      rw [decide_eq_false hmay] at a17
      simp [hx, h200, a16, a17, eqV, al]

end Go.Proofs.Ytgalchmjpfmemaa.Den
