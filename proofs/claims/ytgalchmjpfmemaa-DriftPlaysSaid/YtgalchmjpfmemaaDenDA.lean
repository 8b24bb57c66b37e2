/- The functions of layers 1 and 10 (fix, drift), told. -/
import Derived.Test.YtgalchmjpfmemaaDenCA
import Derived.Test.YtgalchmjpfmemaaDenSim
namespace Go.Proofs.Ytgalchmjpfmemaa.Den
open Go Go.Proofs
set_option maxRecDepth 100000
set_option linter.unusedSimpArgs false
set_option linter.unusedVariables false

noncomputable abbrev E0 : Env := envOf Try.prog

def sm (z : Int) : Bool := decide (-1099511627776 ≤ z) && decide (z ≤ 1099511627776)

def intRows (zs : List Int) : List (List D) := zs.map fun z => [.int .i64 z]

@[simp] theorem intRows_len (zs : List Int) : (intRows zs).length = zs.length := by simp [intRows]
@[simp] theorem intRows_at (zs : List Int) (i : Nat) : (intRows zs)[i]? = (zs[i]?).map fun z => [.int .i64 z] := by simp [intRows]

theorem f79 (n : Nat) (z : Int) : callD E0 (n + 1) 79 [.i z] [] = some ([.bool (sm z)], []) := by
  rw [callE c79]
  by_cases h : -1099511627776 ≤ z <;> simp [binV, binInt, tidy, sm, h]

/-- One round of 'small'. -/
theorem l78 {call : CallT} {t : Nat → V} {m : Mem} {zs : List Int} {tg : Bool} {i : Nat} (h5 : t 5 = .d (.rs true 1 (intRows zs) tg)) (h6 : t 6 = .i zs.length) (h7 : t 7 = .i i) (hl : zs.length < 1000000) (hi : i ≤ zs.length) :
    (i = zs.length ∧ ∃ t', runC E0 call L78_0 ⟨t, m⟩ = some (.exit 0, ⟨t', m⟩)) ∨
    (∃ z, zs[i]? = some z ∧ ((sm z = true ∧ ∃ t', runC E0 call L78_0 ⟨t, m⟩ = some (.normal, ⟨t', m⟩) ∧ t' 5 = t 5 ∧ t' 6 = t 6 ∧ t' 7 = .i (i + 1 : Nat)) ∨
      (sm z = false ∧ ∃ t', runC E0 call L78_0 ⟨t, m⟩ = some (.ret, ⟨t', m⟩) ∧ t' 2 = .bool false))) := by
  rcases Nat.lt_or_ge i zs.length with hlt | hge
  · right
    refine ⟨zs[i], by simp [hlt], ?_⟩
    have hw : IntKind.i64.wrap ((i : Int) + 1) = (i : Int) + 1 := wrap64 (by omega) (by omega)
    by_cases h1 : zs[i] < -1099511627776
    · right
      simp [L78_0, h5, h6, h7, binV, binInt, hlt, sizeOk, asNat, idxSV, loadV, part, h1, sm]
      omega
    · by_cases h2 : zs[i] > 1099511627776
      · right
        simp [L78_0, h5, h6, h7, binV, binInt, hlt, sizeOk, asNat, idxSV, loadV, part, h1, h2, sm]
      · left
        simp [L78_0, h5, h6, h7, binV, binInt, hlt, sizeOk, asNat, idxSV, loadV, part, h1, h2, sm, hw]
        omega
  · left
    have hn : ¬ (i < zs.length) := by omega
    refine ⟨by omega, ?_⟩
    simp [L78_0, h5, h6, h7, binV, binInt, hn]

theorem f78 (n : Nat) (zs : List Int) (tg : Bool) (hl : zs.length < 1000000) : callD E0 (n + 1) 78 [.d (.rs true 1 (intRows zs) tg)] [] = some ([.bool (zs.all sm)], []) := by
  rw [callE c78]
  have loop : ∀ (call : CallT) (t : Nat → V) (m : Mem), t 5 = .d (.rs true 1 (intRows zs) tg) → t 6 = .i zs.length → t 7 = .i 0 →
      ∃ r, iter (runC E0 call L78_0) bound ⟨t, m⟩ = some r ∧ ((zs.all sm = true ∧ ∃ t', r = (.exit 0, ⟨t', m⟩)) ∨ (zs.all sm = false ∧ ∃ t', r = (.ret, ⟨t', m⟩) ∧ t' 2 = .bool false)) := by
    intro call t m h5 h6 h7
    refine iter_inv (fun k s => ∃ i t, s = ⟨t, m⟩ ∧ k + i = zs.length ∧ i ≤ zs.length ∧ t 5 = .d (.rs true 1 (intRows zs) tg) ∧ t 6 = .i zs.length ∧ t 7 = .i i ∧ ∀ j z, j < i → zs[j]? = some z → sm z = true)
      (fun r => (zs.all sm = true ∧ ∃ t', r = (.exit 0, ⟨t', m⟩)) ∨ (zs.all sm = false ∧ ∃ t', r = (.ret, ⟨t', m⟩) ∧ t' 2 = .bool false)) ?_ zs.length ⟨t, m⟩ ⟨0, t, rfl, by omega, by omega, h5, h6, h7, by omega⟩ bound (by rw [bound_eq]; omega)
    rintro k s ⟨i, t, rfl, hk, hi, h5, h6, h7, hall⟩
    rcases l78 (call := call) (m := m) h5 h6 h7 hl hi with ⟨he, t', h⟩ | ⟨z, hz, ⟨hs, t', h, g5, g6, g7⟩ | ⟨hs, t', h, g2⟩⟩
    · left
      refine ⟨_, _, h, by simp, .inl ⟨?_, t', rfl⟩⟩
      rw [List.all_eq_true]
      intro z hz
      obtain ⟨j, hj, e⟩ := List.getElem_of_mem hz
      exact hall j z (by omega) (by simp [hj, e])
    · right
      have hlt : i < zs.length := (List.getElem?_eq_some_iff.1 hz).1
      refine ⟨k - 1, _, by omega, h, i + 1, t', rfl, by omega, by omega, by rw [g5, h5], by rw [g6, h6], g7, fun j y hj hy => ?_⟩
      by_cases e : j = i
      · subst e; rw [hz] at hy; cases hy; exact hs
      · exact hall j y (by omega) hy
    · left
      refine ⟨_, _, h, by simp, .inr ⟨?_, t', rfl, g2⟩⟩
      rw [List.all_eq_false]
      exact ⟨z, List.mem_of_getElem? hz, by simp [hs]⟩
  obtain ⟨r, hr, hcase⟩ := loop (callD (envOf Try.prog) n) (upd (upd (upd (upd (initT [.d (.rs true 1 (intRows zs) tg)]) 2 (.bool false)) 5 (.d (.rs true 1 (intRows zs) tg))) 6 (.i zs.length)) 7 (.i 0)) [] (by simp) (by simp) (by simp)
  rcases hcase with ⟨ha, t', rfl⟩ | ⟨ha, t', rfl, h2⟩
  · simp [lenV, runC_loop, hr, ha, tidy]
  · simp [lenV, runC_loop, hr, ha, h2, tidy]

theorem f66 (n : Nat) (a b : Int) (ha : -1099511627776 ≤ a ∧ a ≤ 1099511627776) (hb : -1099511627776 ≤ b ∧ b ≤ 1099511627776) : callD E0 (n + 2) 66 [.i a, .i b] [] = some ([.i (max (a - b) (b - a))], []) := by
  rw [callE c66]
  have h := callOf_data (m := [.flat 3 1 [[.int .i64 a], [.int .i64 b]] false]) (args := [.sl 0 2 0 2]) (f78 n [a, b] false (by simp))
  have hs : ([a, b].all sm) = true := by simp [sm]; omega
  have w1 : IntKind.i64.wrap (a - b) = a - b := wrap64 (by omega) (by omega)
  have w2 : IntKind.i64.wrap (b - a) = b - a := wrap64 (by omega) (by omega)
  rw [hs] at h
  simp [fillRows, mkBlk, V.cells, V.cellsOk, V.cellOk, allSs, toSs, D.scalar, h, packV, unV, binV, binInt, w1, w2, foldInt, foldInt.go, tidy_data, V.idss, V.ids]
  split <;> omega


/-- What 'small' of a new list answers. -/
theorem small1 (n : Nat) (a : Int) : callOf (callD E0 (n + 1)) (.fn (.func 78) [] []) [.sl 0 1 0 1] [.flat 3 1 [[.int .i64 a]] false] = some (.bool (sm a), [.flat 3 1 [[.int .i64 a]] false]) := by
  have h := callOf_data (m := [.flat 3 1 [[.int .i64 a]] false]) (args := [.sl 0 1 0 1]) (f78 n [a] false (by simp))
  simpa [packV] using h

attribute [local simp] newBlk mkBlk V.cells V.cellsOk V.cellOk allSs toSs D.scalar packV unV binV binInt shiftInt tidy_data V.idss V.ids fillRows fillV

theorem f60 (n : Nat) (a b : Int) : callD E0 (n + 2) 60 [.i a, .i b] [] = some ([.i (if sm a = true ∧ 0 ≤ b ∧ b ≤ 40 then a.fdiv (2 ^ b.toNat) else 0)], []) := by
  rw [callE c60]
  cases hs : sm a
  · simp [small1, hs]
  · by_cases h1 : b < 0
    · simp [small1, hs, h1]; omega
    · by_cases h2 : 40 < b
      · have : ¬ (b ≤ 40) := by omega
        simp [small1, hs, h1, h2, this]
      · have h3 : 0 ≤ b := by omega
        have h4 : b ≤ 40 := by omega
        have h5 : min b.toNat 64 = b.toNat := by omega
        simp [small1, hs, h1, h2, h3, h4, IntKind.bits, h5]


def isSm (z : Int) : Prop := -1099511627776 ≤ z ∧ z ≤ 1099511627776

theorem f61 (n : Nat) (g b v : Int) (hv : isSm v) : callD E0 (n + 3) 61 [.agg [.i g, .i b], .i v] [] = some ([.bool (decide (max v (-v) > b))], []) := by
  rw [callE c61]
  have h := fun m => callOf_data (m := m) (args := [.i v, .i 0]) (f66 n v 0 hv (by constructor <;> decide))
  simp [packV] at h
  simp [h, fieldAV, loadV, Blk.row?, part, restore, Blk.setProt]

theorem f17 (n : Nat) (a b : Int) : callD E0 (n + 1) 17 [.i a, .i b] [] = some ([.bool (decide (0 ≤ a ∧ a ≤ 8 ∧ 0 ≤ b ∧ b ≤ 2147483647))], []) := by
  rw [callE c17]
  by_cases h1 : 0 ≤ a <;> by_cases h2 : a ≤ 8 <;> by_cases h3 : 0 ≤ b <;> simp [h1, h2, h3]

/-- A filter's block. -/
def flt (g b l : Int) : Blk := .flat 92 3 [[.int .i64 g, .int .i64 b, .int .i64 l]] false

theorem f16_ok (n : Nat) (a b : Int) (h : 0 ≤ a ∧ a ≤ 8 ∧ 0 ≤ b ∧ b ≤ 2147483647) : callD E0 (n + 1) 16 [.i a, .i b] [] = some ([.ptr 0 1 0 0, .i 0], [flt a b 0]) := by
  rw [callE c16]
  have h1 : ¬ (a < 0) := by omega
  have h2 : ¬ (8 < a) := by omega
  have h3 : ¬ (b < 0) := by omega
  have h4 : ¬ (2147483647 < b) := by omega
  simp [h1, h2, h3, h4, newBlk, tidy, reach, Blk.ids, distinct, pickBlks, tidyRen, idxOf, idxFrom, V.rens, V.ren, flt, Blk.ren]

theorem f16_not (n : Nat) (a b : Int) (h : ¬ (0 ≤ a ∧ a ≤ 8 ∧ 0 ≤ b ∧ b ≤ 2147483647)) : callD E0 (n + 1) 16 [.i a, .i b] [] = some ([.d .nilp, .i 1], []) := by
  rw [callE c16]
  by_cases h1 : a < 0
  · simp [h1]
  · by_cases h2 : 8 < a
    · simp [h1, h2]
    · by_cases h3 : b < 0
      · simp [h1, h2, h3]
      · have h4 : 2147483647 < b := by omega
        simp [h1, h2, h3, h4]

theorem f18_nil (n : Nat) : callD E0 (n + 1) 18 [.d .nilp] [] = some ([], []) := by
  rw [callE c18]
  simp [eqV]

theorem f18_ok (n : Nat) (g b l : Int) : callD E0 (n + 1) 18 [.ptr 0 1 0 0] [flt g b l] = some ([], [flt g b 0]) := by
  rw [callE c18]
  simp [eqV, isPtr, flt, nilckV, fieldAV, storeV, Blk.put?, setRow, tidy]

theorem f21_nil (n : Nat) : callD E0 (n + 1) 21 [.d .nilp] [] = some ([.i 0], []) := by
  rw [callE c21]
  simp [eqV]

theorem f21_ok (n : Nat) (g b l : Int) : callD E0 (n + 1) 21 [.ptr 0 1 0 0] [flt g b l] = some ([.i l], [flt g b l]) := by
  rw [callE c21]
  simp [eqV, isPtr, flt, nilckV, fieldAV, loadV, Blk.row?, part, tidy]

theorem f19_nil (n : Nat) (d : Int) : callD E0 (n + 1) 19 [.d .nilp, .i d] [] = some ([.bool false, .i 1], []) := by
  rw [callE c19]
  simp [eqV]

theorem f19_far (n : Nat) (g b l d : Int) (h : ¬ (-4294967296 ≤ d ∧ d ≤ 4294967296)) : callD E0 (n + 1) 19 [.ptr 0 1 0 0, .i d] [flt g b l] = some ([.bool false, .i 1], [flt g b l]) := by
  rw [callE c19]
  by_cases h1 : d < -4294967296
  · simp [eqV, isPtr, h1, tidy, flt]
  · have h2 : 4294967296 < d := by omega
    simp [eqV, isPtr, h1, h2, tidy, flt]


/-- The level behind a difference. -/
def lev (g l d : Int) : Int := l + (d - l).fdiv (2 ^ g.toNat)

theorem fdiv_between (x : Int) (k : Nat) : (0 ≤ x → 0 ≤ x.fdiv (2 ^ k) ∧ x.fdiv (2 ^ k) ≤ x) ∧ (x ≤ 0 → x ≤ x.fdiv (2 ^ k) ∧ x.fdiv (2 ^ k) ≤ 0) := by
  have hp : (0 : Int) < 2 ^ k := Int.pow_pos (by decide)
  have e : x.fdiv (2 ^ k) = x / 2 ^ k := Int.fdiv_eq_ediv_of_nonneg _ (Int.le_of_lt hp)
  rw [e]
  have h1 : (1 : Int) ≤ 2 ^ k := hp
  refine ⟨fun h => ⟨Int.ediv_nonneg h (Int.le_of_lt hp), Int.ediv_le_self _ h⟩, fun h => ⟨?_, ?_⟩⟩
  · rw [Int.le_ediv_iff_mul_le hp]
    have := Int.mul_le_mul_of_nonpos_left h h1
    omega
  · have := Int.ediv_le_ediv hp h
    simpa using this

theorem lev_between (g l d : Int) : min l d ≤ lev g l d ∧ lev g l d ≤ max l d := by
  unfold lev
  obtain ⟨h1, h2⟩ := fdiv_between (d - l) g.toNat
  rcases Int.le_total l d with h | h
  · have := h1 (by omega); omega
  · have := h2 (by omega); omega

theorem f19_ok (n : Nat) (g b l d : Int) (hg : 0 ≤ g ∧ g ≤ 8) (hl : -4294967296 ≤ l ∧ l ≤ 4294967296) (hd : -4294967296 ≤ d ∧ d ≤ 4294967296) :
    callD E0 (n + 4) 19 [.ptr 0 1 0 0, .i d] [flt g b l] = some ([.bool (decide (max (lev g l d) (-(lev g l d)) > b)), .i 0], [flt g b (lev g l d)]) := by
  have hb := lev_between g l d
  have hlev : -4294967296 ≤ lev g l d ∧ lev g l d ≤ 4294967296 := by omega
  have h60 := fun m => callOf_data (m := m) (args := [.i (d - l), .i g]) (f60 (n + 1) (d - l) g)
  have hs : sm (d - l) = true := by simp [sm]; omega
  have hg1 := hg.1
  have hg2 : g ≤ 40 := by omega
  simp [packV, hs, hg1, hg2] at h60
  have h61 := fun m => callOf_data (m := m) (args := [.agg [.i g, .i b], .i (lev g l d)]) (f61 n g b (lev g l d) ⟨by omega, by omega⟩)
  simp [packV] at h61
  have w1 : IntKind.i64.wrap (d - l) = d - l := wrap64 (by omega) (by omega)
  have w2 : IntKind.i64.wrap (l + (d - l).fdiv (2 ^ g.toNat)) = lev g l d := wrap64 (by unfold lev at hlev; omega) (by unfold lev at hlev; omega)
  have n1 : ¬ (d < -4294967296) := by omega
  have n2 : ¬ (4294967296 < d) := by omega
  rw [callE c19]
  simp [eqV, isPtr, flt, nilckV, fieldAV, loadV, Blk.row?, part, seg, storeV, Blk.put?, setRow, restore, Blk.setProt, n1, n2, w1, w2, h60, h61, tidy]


/-- One round of 'All'. -/
theorem l85 {n : Nat} {t : Nat → V} {m : Mem} {zs : List Int} {tg : Bool} {i : Nat} (h0 : t 0 = .d (.rs true 1 (intRows zs) tg)) (h3 : t 3 = .i i) (hl : zs.length < 1000000) (hi : i ≤ zs.length) :
    (i = zs.length ∧ ∃ t', runC E0 (callD E0 (n + 1)) L85_0 ⟨t, m⟩ = some (.exit 0, ⟨t', m⟩)) ∨
    (∃ z, zs[i]? = some z ∧ ((sm z = true ∧ ∃ t', runC E0 (callD E0 (n + 1)) L85_0 ⟨t, m⟩ = some (.normal, ⟨t', m⟩) ∧ t' 0 = t 0 ∧ t' 3 = .i (i + 1 : Nat)) ∨
      (sm z = false ∧ ∃ t', runC E0 (callD E0 (n + 1)) L85_0 ⟨t, m⟩ = some (.ret, ⟨t', m⟩) ∧ t' 2 = .bool false))) := by
  rcases Nat.lt_or_ge i zs.length with hlt | hge
  · right
    refine ⟨zs[i], by simp [hlt], ?_⟩
    have hw : IntKind.i64.wrap ((i : Int) + 1) = (i : Int) + 1 := wrap64 (by omega) (by omega)
    have h79 := fun m => callOf_data (m := m) (args := [.i zs[i]]) (f79 n zs[i])
    simp [packV] at h79
    cases hs : sm zs[i]
    · right
      simp [hs] at h79
      simp [L85_0, h0, h3, hlt, lenV, sizeOk, asNat, idxSV, loadV, part, h79]
    · left
      simp [hs] at h79
      simp [L85_0, h0, h3, hlt, lenV, sizeOk, asNat, idxSV, loadV, part, h79, hw]
  · left
    have hn : ¬ (i < zs.length) := by omega
    refine ⟨by omega, ?_⟩
    simp [L85_0, h0, h3, lenV, hn]

theorem f85 (n : Nat) (zs : List Int) (tg : Bool) (hl : zs.length < 1000000) : callD E0 (n + 2) 85 [.d (.rs true 1 (intRows zs) tg)] [] = some ([.bool (zs.all sm)], []) := by
  rw [callE c85]
  have loop : ∀ (t : Nat → V) (m : Mem), t 0 = .d (.rs true 1 (intRows zs) tg) → t 3 = .i 0 →
      ∃ r, iter (runC E0 (callD E0 (n + 1)) L85_0) bound ⟨t, m⟩ = some r ∧ ((zs.all sm = true ∧ ∃ t', r = (.exit 0, ⟨t', m⟩)) ∨ (zs.all sm = false ∧ ∃ t', r = (.ret, ⟨t', m⟩) ∧ t' 2 = .bool false)) := by
    intro t m h0 h3
    refine iter_inv (fun k s => ∃ i t, s = ⟨t, m⟩ ∧ k + i = zs.length ∧ i ≤ zs.length ∧ t 0 = .d (.rs true 1 (intRows zs) tg) ∧ t 3 = .i i ∧ ∀ j z, j < i → zs[j]? = some z → sm z = true)
      (fun r => (zs.all sm = true ∧ ∃ t', r = (.exit 0, ⟨t', m⟩)) ∨ (zs.all sm = false ∧ ∃ t', r = (.ret, ⟨t', m⟩) ∧ t' 2 = .bool false)) ?_ zs.length ⟨t, m⟩ ⟨0, t, rfl, by omega, by omega, h0, h3, by omega⟩ bound (by rw [bound_eq]; omega)
    rintro k s ⟨i, t, rfl, hk, hi, h0, h3, hall⟩
    rcases l85 (n := n) (m := m) h0 h3 hl hi with ⟨he, t', h⟩ | ⟨z, hz, ⟨hs, t', h, g0, g3⟩ | ⟨hs, t', h, g2⟩⟩
    · left
      refine ⟨_, _, h, by simp, .inl ⟨?_, t', rfl⟩⟩
      rw [List.all_eq_true]
      intro z hz
      obtain ⟨j, hj, e⟩ := List.getElem_of_mem hz
      exact hall j z (by omega) (by simp [hj, e])
    · right
      have hlt : i < zs.length := (List.getElem?_eq_some_iff.1 hz).1
      refine ⟨k - 1, _, by omega, h, i + 1, t', rfl, by omega, by omega, by rw [g0, h0], g3, fun j y hj hy => ?_⟩
      by_cases e : j = i
      · subst e; rw [hz] at hy; cases hy; exact hs
      · exact hall j y (by omega) hy
    · left
      refine ⟨_, _, h, by simp, .inr ⟨?_, t', rfl, g2⟩⟩
      rw [List.all_eq_false]
      exact ⟨z, List.mem_of_getElem? hz, by simp [hs]⟩
  obtain ⟨r, hr, hcase⟩ := loop (upd (upd (initT [.d (.rs true 1 (intRows zs) tg)]) 2 (.bool false)) 3 (.i 0)) [] (by simp) (by simp)
  rcases hcase with ⟨ha, t', rfl⟩ | ⟨ha, t', rfl, h2⟩
  · simp [lenV, runC_loop, hr, ha]
  · simp [lenV, runC_loop, hr, ha, h2]

/-- A number divided by another one that is greater than 0, floored. -/
theorem floor_eq (n p : Int) (hp : 1 ≤ p) : (if 0 ≤ n then n.tdiv p else -((p - 1 - n).tdiv p)) = n.fdiv p := by
  have e : n.fdiv p = n / p := Int.fdiv_eq_ediv_of_nonneg _ (by omega)
  rw [e]
  split
  · rename_i h; rw [Int.tdiv_eq_ediv_of_nonneg h]
  · rename_i h
    rw [Int.tdiv_eq_ediv_of_nonneg (by omega)]
    have h1 := Int.mul_ediv_add_emod n p
    have h2 := Int.emod_nonneg n (show p ≠ 0 by omega)
    have h3 := Int.emod_lt_of_pos n (show 0 < p by omega)
    have h4 := Int.mul_ediv_add_emod (p - 1 - n) p
    have h5 := Int.emod_nonneg (p - 1 - n) (show p ≠ 0 by omega)
    have h6 := Int.emod_lt_of_pos (p - 1 - n) (show 0 < p by omega)
    generalize n / p = a at *
    generalize (p - 1 - n) / p = b at *
    generalize n % p = c at *
    generalize (p - 1 - n) % p = d at *
    -- p * (a + b) = p - 1 - c - d, between -p and p
    have h7 : p * (a + b) = p - 1 - c - d := by rw [Int.mul_add]; omega
    have h8 : a + b < 1 := by
      rcases Int.lt_or_le (a + b) 1 with h | h
      · exact h
      · have := Int.mul_le_mul_of_nonneg_left h (show 0 ≤ p by omega); omega
    have h9 : -1 < a + b := by
      rcases Int.lt_or_le (-1) (a + b) with h | h
      · exact h
      · have := Int.mul_le_mul_of_nonneg_left h (show 0 ≤ p by omega); omega
    omega

theorem all2 (n : Nat) (a b : Int) : callOf (callD E0 (n + 2)) (.fn (.func 85) [] []) [.sl 0 2 0 2] [.flat 3 1 [[.int .i64 a], [.int .i64 b]] false] = some (.bool (sm a && sm b), [.flat 3 1 [[.int .i64 a], [.int .i64 b]] false]) := by
  have h := callOf_data (m := [.flat 3 1 [[.int .i64 a], [.int .i64 b]] false]) (args := [.sl 0 2 0 2]) (f85 n [a, b] false (by simp))
  simpa [packV] using h

theorem f80 (n : Nat) (a b : Int) (ha : isSm a) (hb : isSm b) (hb1 : 1 ≤ b) : callD E0 (n + 3) 80 [.i a, .i b] [] = some ([.i (a.fdiv b)], []) := by
  have hs : (sm a && sm b) = true := by simp [sm]; exact ⟨ha, hb⟩
  have h := all2 n a b
  rw [hs] at h
  have n1 : ¬ (b < 1) := by omega
  have n2 : ¬ (b = 0) := by omega
  have hf := floor_eq a b hb1
  have hbd : (-1099511627776 ≤ a.fdiv b ∧ a.fdiv b ≤ 1099511627776) := by
    have e : a.fdiv b = a / b := Int.fdiv_eq_ediv_of_nonneg _ (by omega)
    rw [e]
    refine ⟨?_, ?_⟩
    · rw [Int.le_ediv_iff_mul_le (by omega)]
      have := ha.1
      have := Int.mul_le_mul_of_nonpos_left (a := -1099511627776) (by decide) hb1
      omega
    · have := ha.2
      have := Int.ediv_le_self (a := max a 0) b (by omega)
      have := Int.ediv_le_ediv (c := b) (by omega) (show a ≤ max a 0 by omega)
      omega
  obtain ⟨ha1, ha2⟩ := ha
  obtain ⟨hb2, hb3⟩ := hb
  rw [callE c80]
  by_cases hn : 0 ≤ a
  · rw [if_pos hn] at hf
    have w : IntKind.i64.wrap (a.tdiv b) = a.fdiv b := by rw [hf]; exact wrap64 (by omega) (by omega)
    simp [h, n1, hn, n2, w]
  · rw [if_neg hn] at hf
    have w1 : IntKind.i64.wrap (b - 1) = b - 1 := wrap64 (by omega) (by omega)
    have w2 : IntKind.i64.wrap (b - 1 - a) = b - 1 - a := wrap64 (by omega) (by omega)
    have w3 : IntKind.i64.wrap ((b - 1 - a).tdiv b) = (b - 1 - a).tdiv b := wrap64 (by omega) (by omega)
    have w4 : IntKind.i64.wrap (-((b - 1 - a).tdiv b)) = a.fdiv b := by rw [hf]; exact wrap64 (by omega) (by omega)
    simp [h, n1, hn, n2, w1, w2, w3, w4]


theorem pow_le40 {k : Nat} (h : k ≤ 40) : (1 : Int) ≤ 2 ^ k ∧ (2 : Int) ^ k ≤ 1099511627776 := by
  have h1 : (2 : Nat) ^ k ≤ 2 ^ 40 := Nat.pow_le_pow_right (by decide) h
  have h2 : 1 ≤ (2 : Nat) ^ k := Nat.one_le_two_pow
  have e : ((2 ^ k : Nat) : Int) = (2 : Int) ^ k := by simp
  omega

/-- Powers of two, one after the other. -/
theorem l62 {call : CallT} (b : Nat) (hb : b ≤ 40) : ∀ (k i : Nat) (t : Nat → V) (m : Mem), k + i = b → t 1 = .i b → t 6 = .i (2 ^ i) → t 7 = .i i → ∀ fuel, k < fuel →
    ∃ t', iter (runC E0 call L62_0) fuel ⟨t, m⟩ = some (.exit 0, ⟨t', m⟩) ∧ t' 6 = .i (2 ^ b) ∧ t' 0 = t 0
  | 0, i, t, m, hk, h1, h6, h7, fuel, hf => by
    obtain ⟨fuel, rfl⟩ : ∃ k, fuel = k + 1 := ⟨fuel - 1, by omega⟩
    have : i = b := by omega
    subst this
    have hr : ∃ t', runC E0 call L62_0 ⟨t, m⟩ = some (.exit 0, ⟨t', m⟩) ∧ t' 6 = t 6 ∧ t' 0 = t 0 := by simp [L62_0, h1, h7]
    obtain ⟨t', g1, g2, g3⟩ := hr
    exact ⟨t', iter_end g1 (by simp), by rw [g2, h6], g3⟩
  | k + 1, i, t, m, hk, h1, h6, h7, fuel, hf => by
    obtain ⟨fuel, rfl⟩ : ∃ k, fuel = k + 1 := ⟨fuel - 1, by omega⟩
    have hlt : i < b := by omega
    have hp := pow_le40 (k := i + 1) (by omega)
    have e : (2 : Int) * 2 ^ i = 2 ^ (i + 1) := by rw [Int.pow_succ]; omega
    have w1 : IntKind.i64.wrap (2 * 2 ^ i) = 2 ^ (i + 1) := by rw [e]; exact wrap64 (by omega) (by omega)
    have w2 : IntKind.i64.wrap ((i : Int) + 1) = (i : Int) + 1 := wrap64 (by omega) (by omega)
    have hr : ∃ t', runC E0 call L62_0 ⟨t, m⟩ = some (.normal, ⟨t', m⟩) ∧ t' 1 = t 1 ∧ t' 6 = .i (2 ^ (i + 1)) ∧ t' 7 = .i ((i + 1 : Nat) : Int) ∧ t' 0 = t 0 := by
      simp [L62_0, h1, h6, h7, hlt, w1, w2]
    obtain ⟨t', g1, g2, g3, g4, g5⟩ := hr
    obtain ⟨t2, q1, q2, q3⟩ := l62 b hb k (i + 1) t' m (by omega) (by rw [g2, h1]) g3 g4 fuel (by omega)
    exact ⟨t2, by rw [iter_step g1]; exact q1, q2, by rw [q3, g5]⟩

theorem f62 (n : Nat) (a b : Int) : callD E0 (n + 4) 62 [.i a, .i b] [] = some ([.i (if sm a = true ∧ 0 ≤ b ∧ b ≤ 40 then a.fdiv (2 ^ b.toNat) else 0)], []) := by
  have h79 := fun m => callOf_data (m := m) (args := [.i a]) (f79 (n + 2) a)
  simp [packV] at h79
  rw [callE c62]
  cases hs : sm a
  · simp [h79, hs]
  · by_cases h1 : b < 0
    · simp [h79, hs, h1]; omega
    · by_cases h2 : 40 < b
      · have : ¬ (b ≤ 40) := by omega
        simp [h79, hs, h1, h2, this]
      · have h3 : 0 ≤ b := by omega
        have h4 : b ≤ 40 := by omega
        obtain ⟨k, rfl⟩ : ∃ k : Nat, b = k := ⟨b.toNat, by omega⟩
        have hp := pow_le40 (k := k) (by omega)
        have hk : k ≤ 40 := by omega
        have ha : isSm a := by simpa [sm, isSm] using hs
        have h80 := fun m => callOf_data (m := m) (args := [.i a, .i (2 ^ k)]) (f80 n a (2 ^ k) ha ⟨by omega, by omega⟩ hp.1)
        simp [packV] at h80

        obtain ⟨R, hR⟩ := skolem (Pre := fun t m => t 1 = .i k ∧ t 6 = .i 1 ∧ t 7 = .i 0) (Q := fun t m t' => iter (runC E0 (callD E0 (n + 3)) L62_0) bound ⟨t, m⟩ = some (.exit 0, ⟨t', m⟩) ∧ t' 6 = .i (2 ^ k) ∧ t' 0 = t 0)
          fun t m ⟨h1, h6, h7⟩ => l62 k hk k 0 t m (by omega) h1 (by simpa using h6) (by simpa using h7) bound (by rw [bound_eq]; omega)
        have R1 := fun t m h1 h6 h7 => (hR t m ⟨h1, h6, h7⟩).1
        have R2 := fun t m h1 h6 h7 => (hR t m ⟨h1, h6, h7⟩).2.1
        have R3 := fun t m h1 h6 h7 => (hR t m ⟨h1, h6, h7⟩).2.2
        simp [h79, hs, h1, h2, runC_loop, R1, R2, R3, h80, hk]

theorem f20 (n : Nat) (g l d : Int) (hg : 0 ≤ g ∧ g ≤ 8) (hl : -4294967296 ≤ l ∧ l ≤ 4294967296) :
    callD E0 (n + 5) 20 [.i g, .i l, .i d] [] = some (if -4294967296 ≤ d ∧ d ≤ 4294967296 then [.i (lev g l d), .i 0] else [.i l, .i 1], []) := by
  rw [callE c20]
  by_cases h1 : d < -4294967296
  · have : ¬ (-4294967296 ≤ d ∧ d ≤ 4294967296) := by omega
    simp [h1, this]
  · by_cases h2 : 4294967296 < d
    · have : ¬ (-4294967296 ≤ d ∧ d ≤ 4294967296) := by omega
      simp [h1, h2, this]
    · have hd : -4294967296 ≤ d ∧ d ≤ 4294967296 := by omega
      have hb := lev_between g l d
      have hs : sm (d - l) = true := by simp [sm]; omega
      have hg1 := hg.1
      have hg2 : g ≤ 40 := by omega
      have h62 := fun m => callOf_data (m := m) (args := [.i (d - l), .i g]) (f62 n (d - l) g)
      simp [packV, hs, hg1, hg2] at h62
      have w1 : IntKind.i64.wrap (d - l) = d - l := wrap64 (by omega) (by omega)
      have w2 : IntKind.i64.wrap (l + (d - l).fdiv (2 ^ g.toNat)) = lev g l d := wrap64 (by unfold lev at hb; omega) (by unfold lev at hb; omega)
      simp [h1, h2, hd, h62, w1, w2]

end Go.Proofs.Ytgalchmjpfmemaa.Den
