/- Each instruction of the evaluator is what the model's operation does: slices, conversions, make, copy, min, max. -/
import Derived.Test.YtgalchmjpfmemaaDenOps8
namespace Go.Proofs.Ytgalchmjpfmemaa.Den
open Go
set_option linter.unusedVariables false
set_option linter.unusedSimpArgs false

variable {P : Program}

/-- A bound of a slice expression. -/
theorem opt_int {E : Env} {c : Cx} {t : Nat → V} {a : Act} (ht : TRel c t a) (hg : GlOK E c) {x : Option Operand} {o : Option O} {dflt n : Nat} (hc : cOpt x = some o) (h : optNat E t o dflt = some n) :
    (x = none ∧ o = none ∧ n = dflt) ∨ ∃ y k, x = some y ∧ a.eval y = .int k (n : Int) := by
  cases x with
  | none => simp [cOpt] at hc; subst hc; simp [optNat] at h; exact .inl ⟨rfl, rfl, h.symm⟩
  | some y =>
    simp [cOpt] at hc
    obtain ⟨z, hz, rfl⟩ := hc
    obtain ⟨k, hk⟩ := asNat_int (ev_rel ht hg hz) (by simpa [optNat] using h)
    exact .inr ⟨y, k, rfl, hk⟩

theorem sliceBound_run {k : IntKind} {i y : Nat} {code : BoundsCode} (h : i ≤ y) (w : World) : (Instr.sliceBound (.int k (i : Int)) y code).run P w = .ok i w := by
  have hc : (0 : Int) ≤ (i : Int) ∧ (i : Int) ≤ (y : Int) := by omega
  simp only [Instr.sliceBound, asIntOf, Sem.run_bind, Sem.run_pure, Result.andThen_ok]
  rw [if_pos hc]; simp

/-- Bounds l, h, m of a slice expression: given, or by default. -/
theorem bounds_run {isSlice : Bool} {len cap l h m : Nat} {lo hi mx : Option Value} (hm : (mx = none ∧ m = cap) ∨ ∃ k, mx = some (.int k (m : Int))) (hmc : m ≤ cap) (hh : (hi = none ∧ h = len ∧ mx = none) ∨ ∃ k, hi = some (.int k (h : Int))) (hhm : h ≤ m)
    (hl : (lo = none ∧ l = 0) ∨ ∃ k, lo = some (.int k (l : Int))) (hlh : l ≤ h) (w : World) : (Instr.sliceBounds isSlice len cap lo hi mx).run P w = .ok (l, h, m) w := by
  rcases hm with ⟨rfl, rfl⟩ | ⟨k, rfl⟩ <;> rcases hh with ⟨rfl, rfl, e⟩ | ⟨k', rfl⟩ <;> rcases hl with ⟨rfl, rfl⟩ | ⟨k'', rfl⟩ <;>
    first
    | (cases e; done)
    | simp [Instr.sliceBounds, sliceBound_run, hmc, hhm, hlh]

theorem HeldR.nil {I : Imm} {w : World} {s b o : Nat} : HeldR I w s b o [] := by simp [HeldR]

theorem slice_ok {c : Cx} (hs : PSim P c) {t e : TypeId} {s : Nat} (hu : P.underlying t = some (.slice e)) (hsz : sizeOfT P e = some s) (hpos : 0 < s) {x v : V} {xv : Value} (hx : RelV c x xv) (hok : sizeOk c.m s x = true) {n l h : Nat} (hn : lenV x = some n)
    {lo hi mx : Option Value} {mo : Option Nat} (hl : (lo = none ∧ l = 0) ∨ ∃ k, lo = some (.int k (l : Int))) (hh : (hi = none ∧ h = n ∧ mx = none) ∨ ∃ k, hi = some (.int k (h : Int))) (hm : (mx = none ∧ mo = none) ∨ ∃ (k : IntKind) (m : Nat), mx = some (.int k (m : Int)) ∧ mo = some m)
    {m' : Mem} (hd : sliceV c.m x l h mo = some (v, m')) : m' = c.m ∧ ∃ u, (Instr.sliceAt t xv lo hi mx).run P c.w = .ok u c.w ∧ RelV c v u := by
  have run : ∀ (a : Option Addr) (len cap m : Nat), ((mx = none ∧ m = cap) ∨ ∃ k, mx = some (.int k (m : Int))) → m ≤ cap → ((hi = none ∧ h = len ∧ mx = none) ∨ ∃ k, hi = some (.int k (h : Int))) → h ≤ m → l ≤ h →
      (Instr.sliceAt t (.slice a len cap) lo hi mx).run P c.w = .ok (.slice (if m = l then a else a.map (·.add (l * s))) (h - l) (m - l)) c.w := by
    intro a len cap m h1 h2 h3 h4 h5
    simp [Instr.sliceAt, run_underlying hu, Instr.slice, bounds_run h1 h2 h3 h4 hl h5, sizeOf_run hsz]
  cases x with
  | d x =>
    cases x with
    | nils =>
      simp [lenV] at hn; subst hn
      simp only [RelV, RelD] at hx; subst hx
      simp only [sliceV] at hd
      split at hd
      case isFalse => cases hd
      rename_i hc
      obtain ⟨rfl, rfl, hmo⟩ := hc
      cases hd
      refine ⟨rfl, .slice none 0 0, ?_, by simp only [RelV, RelD]⟩
      have h1 : (mx = none ∧ 0 = 0) ∨ ∃ k, mx = some (.int k ((0 : Nat) : Int)) := by
        rcases hm with ⟨hm1, _⟩ | ⟨k, m, hm1, hm2⟩
        · exact .inl ⟨hm1, rfl⟩
        · rcases hmo with hmo | hmo <;> rw [hm2] at hmo <;> cases hmo
          exact .inr ⟨k, hm1⟩
      have := run none 0 0 0 h1 (Nat.le_refl _) hh (Nat.le_refl _) (Nat.le_refl _)
      simpa using this
    | rs fl z rows tight =>
      have hz : z = s := by simpa [sizeOk] using hok
      subst hz
      simp [lenV] at hn; subst hn
      simp only [RelV, RelD] at hx
      obtain ⟨_, hsc, hlr, b, o, sp, cap, rfl, hsp, hcap, htt, hheld⟩ := hx
      simp only [sliceV] at hd
      split at hd
      case isFalse => cases hd
      rename_i hc
      obtain ⟨hlh, hhr⟩ := hc
      -- the result by rows
      have res : ∀ (m : Nat) (tg : Bool), l ≤ h → h ≤ m → (tg = true → m = h) →
          RelV c (.d (.rs fl z ((rows.drop l).take (h - l)) tg)) (.slice (if m = l then some ⟨b, o, sp⟩ else (some (⟨b, o, sp⟩ : Addr)).map (·.add (l * z))) (h - l) (m - l)) := by
        intro m tg h1 h2 h3
        have hlen : ((rows.drop l).take (h - l)).length = h - l := by simp; omega
        simp only [RelV, RelD]
        refine ⟨hpos, fun hf r hr => hsc hf r (List.mem_of_mem_drop (List.mem_of_mem_take hr)), fun r hr => hlr r (List.mem_of_mem_drop (List.mem_of_mem_take hr)), ?_⟩
        by_cases e : m = l
        · have e0 : (rows.drop l).take (h - l) = [] := by rw [show h - l = 0 by omega]; simp
          rw [e0]
          exact ⟨b, o, sp, m - l, by simp [e]; omega, .inl rfl, by simp, fun ht => by have := h3 ht; simp; omega, HeldR.nil⟩
        · rcases hsp with hsp | rfl
          · have hl0 : l = 0 := by rw [hsp] at hhr; simp at hhr; omega
            subst hl0
            refine ⟨b, o, sp, m - 0, by rw [if_neg e, hlen]; simp [Addr.add], .inl (by rw [hsp]; simp), by rw [hlen]; omega, fun ht => by rw [hlen, h3 ht], ?_⟩
            rw [hsp]; simp [HeldR]
          · refine ⟨b, o + l * z, none, m - l, by simp [e, addr_add, hlen], .inr rfl, by rw [hlen]; omega, fun ht => by rw [hlen, h3 ht], (hheld.drop l).take (h - l)⟩
      cases mo with
      | none =>
        cases hd
        have hmx : mx = none := by rcases hm with ⟨h1, _⟩ | ⟨k, m, _, h2⟩; exact h1; cases h2
        refine ⟨rfl, _, run _ _ _ cap (.inl ⟨hmx, rfl⟩) (Nat.le_refl _) hh (by omega) hlh, res cap _ hlh (by omega) fun ht => ?_⟩
        simp at ht
        rw [htt ht.1, ht.2]
      | some k =>
        simp only at hd
        split at hd
        case isFalse => cases hd
        rename_i hk
        cases hd
        have hmx : ∃ k', mx = some (.int k' (k : Int)) := by rcases hm with ⟨_, h2⟩ | ⟨k', m, h1, h2⟩; cases h2; cases h2; exact ⟨k', h1⟩
        exact ⟨rfl, _, run _ _ _ k (.inr hmx) (by omega) hh hk.1 hlh, res k _ hlh hk.1 fun ht => by simp at ht; exact ht.symm⟩
    | _ => simp [sliceV] at hd
  | sl id n0 off len =>
    simp [lenV] at hn; subst hn
    simp only [RelV] at hx
    obtain ⟨blk, ad, cap, hb, hnl, rfl, hcap, hx⟩ := hx
    have hz : blk.size = s := by simpa [sizeOk, hb] using hok
    simp only [sliceV] at hd
    split at hd
    case isFalse => cases hd
    rename_i hc
    obtain ⟨hlh, hhr⟩ := hc
    -- an empty result by value
    have emp : ∀ (m : Nat) (tg : Bool), n0 = blk.len → l = h → h ≤ m → (tg = true → m = h) →
        RelV c (.d (.rs false blk.size [] tg)) (.slice (if m = l then some ad else (some ad).map (·.add (l * s))) (h - l) (m - l)) := by
      intro m tg hn0 h1 h2 h3
      obtain ⟨B, e', hB, rfl, _⟩ := hx hn0
      simp only [RelV, RelD]
      refine ⟨by omega, by simp, by simp, ?_⟩
      by_cases e : m = l
      · exact ⟨B, off * blk.size, none, m - l, by simp [e]; omega, .inr rfl, by simp, fun ht => by have := h3 ht; simp; omega, HeldR.nil⟩
      · exact ⟨B, off * blk.size + l * s, none, m - l, by simp [e, addr_add]; omega, .inr rfl, by simp, fun ht => by have := h3 ht; simp; omega, HeldR.nil⟩
    cases mo with
    | none =>
      have hmx : mx = none := by rcases hm with ⟨h1, _⟩ | ⟨k, m, _, h2⟩; exact h1; cases h2
      simp only at hd
      split at hd
      · rename_i hlt
        cases hd
        refine ⟨rfl, _, run _ _ _ cap (.inl ⟨hmx, rfl⟩) (Nat.le_refl _) hh (by omega) hlh, ?_⟩
        have hne : cap ≠ l := by omega
        simp only [RelV, if_neg hne, Option.map_some]
        refine ⟨blk, _, _, hb, hnl, rfl, by omega, fun e => ?_⟩
        obtain ⟨B, e', hB, rfl, hsh⟩ := hx e
        refine ⟨B, e', hB, by rw [addr_add, hz, Nat.add_mul], ?_⟩
        rw [hsh]; congr 3; omega
      · rename_i hlt
        rw [hb] at hd
        simp only [Option.bind_some] at hd
        split at hd
        case isFalse => cases hd
        rename_i hn0
        cases hd
        exact ⟨rfl, _, run _ _ _ cap (.inl ⟨hmx, rfl⟩) (Nat.le_refl _) hh (by omega) hlh, emp cap false hn0 (by omega) (by omega) (fun h => by cases h)⟩
    | some k =>
      simp only at hd
      split at hd
      case isFalse => cases hd
      rename_i hk
      rw [hb] at hd
      simp only [Option.bind_some] at hd
      split at hd
      case isFalse => cases hd
      rename_i hn0
      cases hd
      have hmx : ∃ k', mx = some (.int k' (k : Int)) := by rcases hm with ⟨_, h2⟩ | ⟨k', m, h1, h2⟩; cases h2; cases h2; exact ⟨k', h1⟩
      exact ⟨rfl, _, run _ _ _ k (.inr hmx) (by omega) hh hk.1 hlh, emp k _ hn0 hk.2.2 hk.1 fun ht => by simp at ht; exact ht.symm⟩
  | _ => simp [sliceV] at hd

/-- Rows cut out of cells. -/
theorem Held.rows {I : Imm} {w : World} {b : Nat} {s : Nat} : ∀ (n o : Nat) (cells : List D), Held I w b o cells → n * s ≤ cells.length → HeldR I w s b o ((List.range n).map fun i => (cells.drop (i * s)).take s) := by
  intro n
  induction n with
  | zero => intro o cells h hl; simp [HeldR]
  | succ n ih =>
    intro o cells h hl
    rw [List.range_succ_eq_map, List.map_cons, List.map_map]
    simp only [HeldR]
    have hls : s ≤ cells.length := by rw [Nat.add_mul] at hl; omega
    refine ⟨by simpa using h.take s, ?_⟩
    have := ih (o + s) (cells.drop s) (h.drop s) (by rw [Nat.add_mul] at hl; simp; omega)
    refine (congrArg (HeldR I w s b (o + s)) ?_).mp this
    apply List.map_congr_left
    intro i _
    simp [List.drop_drop, Nat.add_mul, Nat.add_comm]

theorem slarr_ok {c : Cx} {t e : TypeId} {n s : Nat} (hu : P.underlying t = some (.array n e)) (hsz : sizeOfT P e = some s) (hpos : 0 < s) {x v : V} {xv : Value} (hx : RelV c x xv) {l h : Nat} {lo hi : Option Value}
    (hl : (lo = none ∧ l = 0) ∨ ∃ k, lo = some (.int k (l : Int))) (hh : (hi = none ∧ h = n) ∨ ∃ k, hi = some (.int k (h : Int))) (hlh : l < h) (hhn : h ≤ n)
    (hd : slarrV n s l h x = some v) : ∃ u, (Instr.sliceAt t xv lo hi none).run P c.w = .ok u c.w ∧ RelV c v u := by
  have run : ∀ (a : Addr), (Instr.sliceAt t (.pointer (some a)) lo hi none).run P c.w = .ok (.slice (some (a.add (l * s))) (h - l) (n - l)) c.w := by
    intro a
    have hb := bounds_run (P := P) (isSlice := false) (len := n) (cap := n) (l := l) (h := h) (m := n) (lo := lo) (hi := hi) (mx := none) (.inl ⟨rfl, rfl⟩) (Nat.le_refl _) (by rcases hh with ⟨h1, h2⟩ | h1; exact .inl ⟨h1, h2, rfl⟩; exact .inr h1) hhn hl (by omega) c.w
    have hne : n ≠ l := by omega
    simp [Instr.sliceAt, run_underlying hu, Instr.sureAddr, hb, sizeOf_run hsz, hne]
  cases x with
  | d x =>
    cases x with
    | rp cells =>
      simp only [slarrV] at hd
      split at hd
      case isFalse => cases hd
      rename_i hle
      cases hd
      simp only [RelV, RelD] at hx
      obtain ⟨b, o, rfl, hh'⟩ := hx
      refine ⟨_, run _, ?_⟩
      simp only [RelV, RelD]
      have e : (List.range (h - l)).map (fun i => (cells.drop ((l + i) * s)).take s) = (List.range (h - l)).map (fun i => ((cells.drop (l * s)).drop (i * s)).take s) := by
        apply List.map_congr_left
        intro i _
        rw [List.drop_drop, Nat.add_mul]
      have hcl : (h - l) * s ≤ (cells.drop (l * s)).length := by
        have := Nat.mul_le_mul_right s hhn
        rw [List.length_drop, Nat.sub_mul]; omega
      refine ⟨hpos, fun hf r hr y hy => ?_, fun r hr => ?_, b, o + l * s, none, n - l, by simp [addr_add], .inr rfl, by simp; omega, fun ht => by simp at ht; simp; omega, ?_⟩
      · obtain ⟨i, _, rfl⟩ := List.mem_map.1 hr
        exact List.all_eq_true.1 hf y (List.mem_of_mem_drop (List.mem_of_mem_take hy))
      · obtain ⟨i, hi', rfl⟩ := List.mem_map.1 hr
        have hi2 := List.mem_range.1 hi'
        have := Nat.mul_le_mul_right s (show l + i + 1 ≤ n by omega)
        rw [Nat.add_mul] at this
        simp; omega
      · rw [e]; exact Held.rows _ _ _ (hh'.drop _) hcl
    | _ => simp [slarrV] at hd
  | ptr id k row off =>
    simp only [slarrV] at hd; cases hd
    simp only [RelV] at hx
    obtain ⟨blk, ad, hb, hn, rfl, hx⟩ := hx
    refine ⟨_, run _, ?_⟩
    simp only [RelV]
    refine ⟨blk, _, _, hb, hn, rfl, by omega, fun e => ?_⟩
    obtain ⟨B, hB, rfl⟩ := hx e
    exact ⟨B, hB, by rw [addr_add, Nat.add_assoc]⟩
  | _ => simp [slarrV] at hd

theorem arrP_ok {c : Cx} {t e : TypeId} {n s : Nat} (hu : P.underlying t = some (.array n e)) (hsz : sizeOfT P e = some s) {x v : V} {xv : Value} (hx : RelV c x xv) (hok : sizeOk c.m s x = true)
    (hd : arrPV n x = some v) : ∃ u, (Instr.arrayAt t xv).run P c.w = .ok u c.w ∧ RelV c v u := by
  cases x with
  | d x =>
    cases x with
    | rs fl z rows tight =>
      simp only [arrPV] at hd
      split at hd
      case isFalse => cases hd
      rename_i hle0
      obtain ⟨hn0, hle⟩ := hle0
      cases hd
      simp only [RelV, RelD] at hx
      obtain ⟨hpos, hsc, hl, b, o, sp, cap, rfl, hsp, hcap, htt, hh⟩ := hx
      obtain rfl : sp = none := by
        rcases hsp with rfl | rfl
        · simp at hle; omega
        · rfl
      refine ⟨.pointer (some ⟨b, o, none⟩), ?_, ?_⟩
      · have hn : ¬ (rows.length < n) := by omega
        simp [Instr.arrayAt, run_underlying hu, hn]
      · simp only [RelV, RelD]
        exact ⟨b, o, rfl, HeldR.flat (fun r hr => hl r (List.mem_of_mem_take hr)) (hh.take n)⟩
    | _ => simp [arrPV] at hd
  | sl id k off len =>
    simp only [arrPV] at hd
    split at hd
    case isFalse => cases hd
    rename_i hle
    cases hd
    simp only [RelV] at hx
    obtain ⟨blk, ad, cap, hb, hn, rfl, hcap, hx⟩ := hx
    refine ⟨.pointer (some ad), ?_, ?_⟩
    · have hn : ¬ (len < n) := by omega
      simp [Instr.arrayAt, run_underlying hu, hn]
    · simp only [RelV]
      refine ⟨blk, ad, hb, hn, rfl, fun e => ?_⟩
      obtain ⟨B, e', hB, h1, _⟩ := hx e
      exact ⟨B, hB, h1⟩
  | _ => simp [arrPV] at hd

end Go.Proofs.Ytgalchmjpfmemaa.Den
