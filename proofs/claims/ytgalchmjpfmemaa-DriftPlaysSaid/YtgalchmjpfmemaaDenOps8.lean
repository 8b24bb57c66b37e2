/- Each instruction of the evaluator is what the model's operation does: comparisons, conversions, slices, fields, indexes. -/
import Derived.Test.YtgalchmjpfmemaaDenOps7
namespace Go.Proofs.Ytgalchmjpfmemaa.Den
open Go
set_option linter.unusedVariables false
set_option linter.unusedSimpArgs false

variable {P : Program}

/-! ### comparisons -/

theorem equal_step {t : TypeId} {x y : Value} {w : World} {r : Result Bool} (h : ∀ d, (Op.equalIn (d + 1) t x y).run P w = r) : (Op.equal t x y).run P w = r := h 9999

theorem eq_ptr {c : Cx} {x y : V} {xv yv : Value} (hx : RelV c x xv) (hy : RelV c y yv) {b : Bool} (h : eqV .ptr x y = some b) {t e : TypeId} (ht : P.underlying t = some (.pointer e)) :
    (∃ p q, xv = .pointer p ∧ yv = .pointer q) ∧ (Op.equal t xv yv).run P c.w = .ok b c.w := by
  have some_of : ∀ z zv, RelV c z zv → isPtr z = true → ∃ a, zv = .pointer (some a) := by
    intro z zv hz hp
    cases z with
    | d z => cases z <;> simp [isPtr] at hp; simp only [RelV, RelD] at hz; obtain ⟨b, o, rfl, _⟩ := hz; exact ⟨_, rfl⟩
    | ptr => simp only [RelV] at hz; obtain ⟨_, a, _, _, rfl, _⟩ := hz; exact ⟨_, rfl⟩
    | pa => simp only [RelV] at hz; obtain ⟨_, a, _, _, rfl, _⟩ := hz; exact ⟨_, rfl⟩
    | _ => simp [isPtr] at hp
  have e1 : (Op.equal t (.pointer none) (.pointer none)).run P c.w = .ok true c.w := equal_step fun d => by simp [Op.equalIn, run_underlying ht]
  have e2 : ∀ a, (Op.equal t (.pointer none) (.pointer (some a))).run P c.w = .ok false c.w := fun a => equal_step fun d => by simp [Op.equalIn, run_underlying ht]
  have e3 : ∀ a, (Op.equal t (.pointer (some a)) (.pointer none)).run P c.w = .ok false c.w := fun a => equal_step fun d => by simp [Op.equalIn, run_underlying ht]
  unfold eqV at h
  simp only at h
  split at h
  · cases h; simp only [RelV, RelD] at hx hy; subst hx; subst hy; exact ⟨⟨_, _, rfl, rfl⟩, e1⟩
  · split at h
    · rename_i hp; cases h; obtain ⟨a, rfl⟩ := some_of _ _ hy hp; simp only [RelV, RelD] at hx; subst hx; exact ⟨⟨_, _, rfl, rfl⟩, e2 a⟩
    · cases h
  · split at h
    · rename_i hp; cases h; obtain ⟨a, rfl⟩ := some_of _ _ hx hp; simp only [RelV, RelD] at hy; subst hy; exact ⟨⟨_, _, rfl, rfl⟩, e3 a⟩
    · cases h
  · cases h

theorem eq_slc {c : Cx} {x y : V} {xv yv : Value} (hx : RelV c x xv) (hy : RelV c y yv) {b : Bool} (h : eqV .slc x y = some b) {t e : TypeId} (ht : P.underlying t = some (.slice e)) :
    (∃ p n k q l j, xv = .slice p n k ∧ yv = .slice q l j) ∧ (Op.equal t xv yv).run P c.w = .ok b c.w := by
  have some_of : ∀ z zv, RelV c z zv → isSlc z = true → ∃ a n k, zv = .slice (some a) n k := by
    intro z zv hz hp
    cases z with
    | d z => cases z <;> simp [isSlc] at hp; simp only [RelV, RelD] at hz; obtain ⟨_, _, _, b, o, sp, cap, rfl, _⟩ := hz; exact ⟨_, _, _, rfl⟩
    | sl => simp only [RelV] at hz; obtain ⟨_, a, _, _, _, rfl, _⟩ := hz; exact ⟨_, _, _, rfl⟩
    | sa => simp only [RelV] at hz; obtain ⟨_, a, _, _, _, rfl, _⟩ := hz; exact ⟨_, _, _, rfl⟩
    | _ => simp [isSlc] at hp
  have e1 : ∀ n k l j, (Op.equal t (.slice none n k) (.slice none l j)).run P c.w = .ok true c.w := fun _ _ _ _ => equal_step fun d => by simp [Op.equalIn, run_underlying ht]
  have e2 : ∀ a n k l j, (Op.equal t (.slice none n k) (.slice (some a) l j)).run P c.w = .ok false c.w := fun _ _ _ _ _ => equal_step fun d => by simp [Op.equalIn, run_underlying ht]
  have e3 : ∀ a n k l j, (Op.equal t (.slice (some a) n k) (.slice none l j)).run P c.w = .ok false c.w := fun _ _ _ _ _ => equal_step fun d => by simp [Op.equalIn, run_underlying ht]
  unfold eqV at h
  simp only at h
  split at h
  · cases h; simp only [RelV, RelD] at hx hy; subst hx; subst hy; exact ⟨⟨_, _, _, _, _, _, rfl, rfl⟩, e1 _ _ _ _⟩
  · split at h
    · rename_i hp; cases h; obtain ⟨a, n, k, rfl⟩ := some_of _ _ hy hp; simp only [RelV, RelD] at hx; subst hx; exact ⟨⟨_, _, _, _, _, _, rfl, rfl⟩, e2 _ _ _ _ _⟩
    · cases h
  · split at h
    · rename_i hp; cases h; obtain ⟨a, n, k, rfl⟩ := some_of _ _ hx hp; simp only [RelV, RelD] at hy; subst hy; exact ⟨⟨_, _, _, _, _, _, rfl, rfl⟩, e3 _ _ _ _ _⟩
    · cases h
  · cases h

theorem eq_bool {c : Cx} {x y : V} {xv yv : Value} (hx : RelV c x xv) (hy : RelV c y yv) {b : Bool} (h : eqV .bool x y = some b) {t : TypeId} (ht : P.underlying t = some .bool) :
    (∃ p q, xv = .bool p ∧ yv = .bool q) ∧ (Op.equal t xv yv).run P c.w = .ok b c.w := by
  unfold eqV at h
  simp only at h
  split at h
  · cases h; simp only [RelV, RelD] at hx hy; subst hx; subst hy; exact ⟨⟨_, _, rfl, rfl⟩, equal_step fun d => by simp [Op.equalIn, run_underlying ht]⟩
  · cases h

/-- From an '==' to the operation. -/
theorem beq_run {xo yo : Operand} {t : TypeId} {x y : Value} {b : Bool} {w : World} (hs : (∃ p q, x = .pointer p ∧ y = .pointer q) ∨ (∃ p n k q l j, x = .slice p n k ∧ y = .slice q l j) ∨ (∃ p q, x = .bool p ∧ y = .bool q))
    (h : (Op.equal t x y).run P w = .ok b w) :
    (do eqGuard .eql t xo yo x y; binOp .eql t x y).run P w = .ok (.bool (false != b)) w ∧ (do eqGuard .neq t xo yo x y; binOp .neq t x y).run P w = .ok (.bool (true != b)) w := by
  rcases hs with ⟨p, q, rfl, rfl⟩ | ⟨p, n, k, q, l, j, rfl, rfl⟩ | ⟨p, q, rfl, rfl⟩
  · constructor <;> simp [eqGuard, binOp, h]
  · constructor <;> simp [eqGuard, binOp, h]
  · constructor <;> simp [eqGuard, binOp, h]

/-! ### indexes, fields, slices -/

theorem asNat_int {c : Cx} {x : V} {xv : Value} {n : Nat} (hx : RelV c x xv) (h : asNat x = some n) : ∃ k, xv = .int k (n : Int) := by
  cases x with
  | d x =>
    cases x <;> simp [asNat] at h
    simp only [RelV, RelD] at hx
    obtain ⟨h0, rfl⟩ := h
    exact ⟨_, by rw [hx, Int.toNat_of_nonneg h0]⟩
  | _ => simp [asNat] at h

theorem len_int {c : Cx} {x : V} {xv : Value} {n : Nat} (hx : RelV c x xv) (h : lenV x = some n) : ∃ a cap, xv = .slice a n cap ∧ n ≤ cap := by
  cases x with
  | d x =>
    cases x <;> simp [lenV] at h
    case nils => subst h; simp only [RelV, RelD] at hx; exact ⟨_, _, hx, by simp⟩
    case rs => subst h; simp only [RelV, RelD] at hx; obtain ⟨_, _, _, b, o, sp, cap, rfl, _, hc, _⟩ := hx; exact ⟨_, _, rfl, hc⟩
  | sl => simp [lenV] at h; subst h; simp only [RelV] at hx; obtain ⟨_, a, cap, _, _, rfl, hc, _⟩ := hx; exact ⟨_, _, rfl, hc⟩
  | sa => simp [lenV] at h; subst h; simp only [RelV] at hx; obtain ⟨_, a, cap, _, _, rfl, hc, _⟩ := hx; exact ⟨_, _, rfl, hc⟩
  | _ => simp [lenV] at h

theorem fieldA_ok {c : Cx} {x v : V} {xv : Value} {sid : TypeId} {k : Nat} {fs : Array Field} {f : Field} {s : Nat} (hx : RelV c x xv) (hu : P.underlying sid = some (.struct fs)) (hf : fs[k]? = some f) (hsz : sizeOfT P f.type = some s) (hpos : 0 < s)
    (h : fieldAV f.offset x = some v) :
    ∃ u, (Instr.fieldAt sid xv k).run P c.w = .ok u c.w ∧ RelV c v u := by
  have hne : s ≠ 0 := by omega
  cases x with
  | d x =>
    cases x with
    | rp cells =>
      simp [fieldAV] at h; subst h
      simp only [RelV, RelD] at hx
      obtain ⟨b, o, rfl, hh⟩ := hx
      refine ⟨.pointer (some ⟨b, o + f.offset, none⟩), ?_, by simp only [RelV, RelD]; exact ⟨b, _, rfl, hh.drop _⟩⟩
      simp [Instr.fieldAt, run_underlying hu, hf, Instr.sureAddr, fieldPlace, sizeOf_run hsz, hne, addr_add]
    | _ => simp [fieldAV] at h
  | ptr id n r o =>
    simp [fieldAV] at h; subst h
    simp only [RelV] at hx
    obtain ⟨blk, ad, hb, hn, rfl, hx⟩ := hx
    refine ⟨.pointer (some (ad.add f.offset)), ?_, ?_⟩
    · simp [Instr.fieldAt, run_underlying hu, hf, Instr.sureAddr, fieldPlace, sizeOf_run hsz, hne]
    · simp only [RelV]
      refine ⟨blk, _, hb, hn, rfl, fun e => ?_⟩
      obtain ⟨B, hB, rfl⟩ := hx e
      exact ⟨B, hB, by rw [addr_add, Nat.add_assoc]⟩
  | _ => simp [fieldAV] at h

/-- A part of an aggregate value. -/
theorem part_ok {c : Cx} {cs : List V} {a : List Value} {g : Bool} {off size : Nat} {v : V} {t : TypeId} (hr : RelVs c cs a) (h1 : ∀ u, u ∈ a → OneC u) (hg : aggOf P t = some g) (hz : sizeOfT P t = some size) (h : part g cs off size = some v) :
    ∃ u, (Go.part t ⟨a⟩ off).run P c.w = .ok u c.w ∧ RelV c v u := by
  cases g with
  | true =>
    simp only [part, if_true, seg] at h
    split at h
    · rename_i hle
      simp at h; subst h
      refine ⟨.agg ⟨(a.drop off).take size⟩, ?_, by simp only [RelV]; exact ⟨_, rfl, RelVs.take _ (RelVs.drop _ hr), fun u hu => h1 u (List.mem_of_mem_drop (List.mem_of_mem_take hu))⟩⟩
      simp only [Go.part, Sem.run_bind, isAgg_run hg, Result.andThen_ok, if_true, sizeOf_run hz, Sem.run_pure]
      congr 2
      apply Array.ext'
      simp
    · simp at h
  | false =>
    simp only [part] at h
    obtain ⟨u, hu, hr'⟩ := hr.at off v (by simpa using h)
    exact ⟨u, by simp [Go.part, isAgg_run hg, hu], hr'⟩

theorem field_ok {c : Cx} {x v : V} {xv : Value} {sid : TypeId} {k : Nat} {fs : Array Field} {f : Field} {g : Bool} {s : Nat} (hx : RelV c x xv) (hu : P.underlying sid = some (.struct fs)) (hf : fs[k]? = some f) (hg : aggOf P f.type = some g) (hsz : sizeOfT P f.type = some s)
    (h : fieldV g f.offset s x = some v) : ∃ u, (Instr.field sid xv k).run P c.w = .ok u c.w ∧ RelV c v u := by
  cases x with
  | agg cs =>
    simp only [RelV] at hx
    obtain ⟨a, rfl, hr, h1⟩ := hx
    obtain ⟨u, g1, g2⟩ := part_ok hr h1 hg hsz (by simpa only [fieldV] using h)
    exact ⟨u, by simp [Instr.field, run_underlying hu, hf, asAgg, g1], g2⟩
  | _ => simp [fieldV] at h

theorem idx_ok {c : Cx} {x iv v : V} {xv ivv : Value} {t e : TypeId} {n : Nat} {g : Bool} {s j : Nat} (hx : RelV c x xv) (hi : RelV c iv ivv) (hu : P.underlying t = some (.array n e)) (hg : aggOf P e = some g) (hsz : sizeOfT P e = some s) (hj : asNat iv = some j) (hlt : j < n)
    (h : fieldV g (j * s) s x = some v) : ∃ u, (Instr.index t xv ivv).run P c.w = .ok u c.w ∧ RelV c v u := by
  obtain ⟨k, rfl⟩ := asNat_int hi hj
  cases x with
  | agg cs =>
    simp only [RelV] at hx
    obtain ⟨a, rfl, hr, h1⟩ := hx
    obtain ⟨u, g1, g2⟩ := part_ok hr h1 hg hsz (by simpa only [fieldV] using h)
    refine ⟨u, ?_, g2⟩
    have hc : (0 : Int) ≤ (j : Int) ∧ (j : Int) < (n : Int) := by omega
    simp only [Instr.index, asIntOf, Sem.run_bind, Sem.run_pure, Result.andThen_ok, run_underlying hu]
    rw [if_pos hc]
    simp [sizeOf_run hsz, g1]
  | _ => simp [fieldV] at h

theorem idxs_ok {c : Cx} {iv : V} {ivv : Value} {s : ByteArray} {t : TypeId} {j : Nat} {b : UInt8} (hi : RelV c iv ivv) (hu : P.underlying t = some .string) (hj : asNat iv = some j) (hb : s.data.toList[j]? = some b) :
    (Instr.index t (.string s) ivv).run P c.w = .ok (.int .u8 b.toNat) c.w := by
  obtain ⟨k, rfl⟩ := asNat_int hi hj
  have hlt : j < s.size := by
    have := (List.getElem?_eq_some_iff.1 hb).1
    simpa using this
  have hb' : s[j]? = some b := by
    rw [getElem?_pos s j hlt]
    obtain ⟨h1, h2⟩ := List.getElem?_eq_some_iff.1 hb
    rw [← h2]; rfl
  simp [Instr.index, asIntOf, run_underlying hu, hb']

theorem idxA_slice {c : Cx} {x iv v : V} {xv ivv : Value} {t e : TypeId} {s j : Nat} (hs : PSim P c) (hx : RelV c x xv) (hi : RelV c iv ivv) (hu : P.underlying t = some (.slice e)) (hsz : sizeOfT P e = some s) (hj : asNat iv = some j) (hok : sizeOk c.m s x = true)
    (h : idxSV j x = some v) : ∃ u, (Instr.indexAt t xv ivv).run P c.w = .ok u c.w ∧ RelV c v u := by
  obtain ⟨k, rfl⟩ := asNat_int hi hj
  have run : ∀ (a : Addr) (len cap : Nat), j < len → (Instr.indexAt t (.slice (some a) len cap) (.int k j)).run P c.w = .ok (.pointer (some (a.add (j * s)))) c.w := by
    intro a len cap hlt
    have hc : (0 : Int) ≤ (j : Int) ∧ (j : Int) < (len : Int) := by omega
    simp only [Instr.indexAt, asIntOf, Sem.run_bind, Sem.run_pure, Result.andThen_ok, run_underlying hu]
    simp only [hc, and_self, if_true]
    simp [sizeOf_run hsz]
  cases x with
  | d x =>
    cases x with
    | rs fl z rows tight =>
      simp only [RelV, RelD] at hx
      obtain ⟨hpos, hsc, hl, b, o, sp, cap, rfl, hsp, hcap, htt, hh⟩ := hx
      simp only [idxSV] at h
      obtain ⟨r, hr, rfl⟩ := Option.map_eq_some_iff.1 h
      obtain rfl : sp = none := by rcases hsp with rfl | rfl; simp at hr; rfl
      have hlt : j < rows.length := (List.getElem?_eq_some_iff.1 hr).1
      have hz : z = s := by simpa [sizeOk] using hok
      subst hz
      refine ⟨_, run _ _ _ hlt, ?_⟩
      simp only [RelV, RelD]
      exact ⟨b, o + j * z, by rw [addr_add], hh.at j r hr⟩
    | _ => simp [idxSV] at h
  | sl id n off len =>
    simp only [idxSV] at h
    split at h
    case isFalse => cases h
    rename_i hlt
    cases h
    simp only [RelV] at hx
    obtain ⟨blk, ad, cap, hb, hn, rfl, hcap, hx⟩ := hx
    refine ⟨_, run _ _ _ hlt, ?_⟩
    simp only [RelV]
    refine ⟨blk, _, hb, hn, rfl, fun e => ?_⟩
    obtain ⟨B, e', hB, rfl, _⟩ := hx e
    have hz : blk.size = s := by simpa [sizeOk, hb] using hok
    exact ⟨B, hB, by rw [addr_add, hz, Nat.add_mul]; rfl⟩
  | sa id n row off z len =>
    simp only [idxSV] at h
    split at h
    case isFalse => cases h
    rename_i hlt
    cases h
    simp only [RelV] at hx
    obtain ⟨blk, ad, cap, hb, hn, rfl, hcap, hx⟩ := hx
    refine ⟨_, run _ _ _ hlt, ?_⟩
    simp only [RelV]
    refine ⟨blk, _, hb, hn, rfl, fun e => ?_⟩
    obtain ⟨B, hB, rfl⟩ := hx e
    have hz : z = s := by simpa [sizeOk] using hok
    exact ⟨B, hB, by rw [addr_add, hz, Nat.add_assoc]⟩
  | _ => simp [idxSV] at h

theorem idxA_array {c : Cx} {x iv v : V} {xv ivv : Value} {t e : TypeId} {n s j : Nat} (hx : RelV c x xv) (hi : RelV c iv ivv) (hu : P.underlying t = some (.array n e)) (hsz : sizeOfT P e = some s) (hj : asNat iv = some j) (hlt : j < n)
    (h : idxAV j s x = some v) : ∃ u, (Instr.indexAt t xv ivv).run P c.w = .ok u c.w ∧ RelV c v u := by
  obtain ⟨k, rfl⟩ := asNat_int hi hj
  have run : ∀ (a : Addr), (Instr.indexAt t (.pointer (some a)) (.int k j)).run P c.w = .ok (.pointer (some (a.add (j * s)))) c.w := by
    intro a
    have hc : (0 : Int) ≤ (j : Int) ∧ (j : Int) < (n : Int) := by omega
    simp only [Instr.indexAt, asIntOf, Sem.run_bind, Sem.run_pure, Result.andThen_ok, run_underlying hu, Instr.sureAddr]
    simp only [hc, and_self, if_true]
    simp [sizeOf_run hsz]
  cases x with
  | d x =>
    cases x with
    | rp cells =>
      simp only [idxAV] at h; cases h
      simp only [RelV, RelD] at hx
      obtain ⟨b, o, rfl, hh⟩ := hx
      exact ⟨_, run _, by simp only [RelV, RelD]; exact ⟨b, o + j * s, by rw [addr_add], hh.drop _⟩⟩
    | _ => simp [idxAV] at h
  | ptr id n r o =>
    simp only [idxAV] at h; cases h
    simp only [RelV] at hx
    obtain ⟨blk, ad, hb, hn, rfl, hx⟩ := hx
    refine ⟨_, run _, ?_⟩
    simp only [RelV]
    refine ⟨blk, _, hb, hn, rfl, fun e => ?_⟩
    obtain ⟨B, hB, rfl⟩ := hx e
    exact ⟨B, hB, by rw [addr_add, Nat.add_assoc]⟩
  | _ => simp [idxAV] at h

end Go.Proofs.Ytgalchmjpfmemaa.Den
