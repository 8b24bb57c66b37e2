/- Opening the arguments of a law: what a reading of typed data gives to the evaluator. -/
import Derived.Test.YtgalchmjpfmemaaDenDraw4
import Derived.ProofKit
import Derived.Carry
namespace Go.Proofs.Ytgalchmjpfmemaa.Den
open Go
set_option linter.unusedVariables false
set_option linter.unusedSimpArgs false

/-- All cells that there are. -/
def immAll (w : World) : Imm := fun b _ => b < w.heap.size

def RelDs (I : Imm) (w : World) : List D → List Value → Prop
  | [], cs => cs = []
  | d :: ds, cs => ∃ v vs, cs = v :: vs ∧ OneC v ∧ RelD I w d v ∧ RelDs I w ds vs

theorem RelDs.append {I : Imm} {w : World} : ∀ {a : List D} {as : List Value} {b : List D} {bs : List Value}, RelDs I w a as → RelDs I w b bs → RelDs I w (a ++ b) (as ++ bs)
  | [], _, _, _, h, k => by simp only [RelDs] at h; subst h; simpa using k
  | d :: a, _, _, _, h, k => by
    simp only [RelDs] at h
    obtain ⟨v, vs, rfl, h1, h2, h3⟩ := h
    simp only [List.cons_append, RelDs]
    exact ⟨v, _, rfl, h1, h2, RelDs.append h3 k⟩

theorem RelDs.len {I : Imm} {w : World} : ∀ {a : List D} {as : List Value}, RelDs I w a as → as.length = a.length
  | [], _, h => by simp only [RelDs] at h; subst h; rfl
  | d :: a, _, h => by
    simp only [RelDs] at h
    obtain ⟨v, vs, rfl, _, _, h3⟩ := h
    simp [RelDs.len h3]

theorem RelDs.rel {w : World} {φ : Nat → Option Nat} {m : Mem} {I : Imm} : ∀ {a : List D} {as : List Value}, RelDs I w a as → RelVs ⟨φ, m, I, w⟩ (a.map V.d) as ∧ ∀ u, u ∈ as → OneC u
  | [], _, h => by simp only [RelDs] at h; subst h; simp [RelVs]
  | d :: a, _, h => by
    simp only [RelDs] at h
    obtain ⟨v, vs, rfl, h1, h2, h3⟩ := h
    obtain ⟨g1, g2⟩ := RelDs.rel (φ := φ) (m := m) h3
    refine ⟨?_, ?_⟩
    · simp only [List.map_cons, RelVs]
      exact ⟨v, vs, rfl, by simpa only [RelV] using h2, g1⟩
    · intro u hu
      rcases List.mem_cons.1 hu with rfl | hu
      · exact h1
      · exact g2 u hu

theorem RelDs.held {I : Imm} {w : World} {b : Nat} : ∀ {a : List D} {as : List Value} {o : Nat}, RelDs I w a as → (∀ j v, as[j]? = some v → w.cell? ⟨b, o + j, none⟩ = some v ∧ I b (o + j)) → Held I w b o a
  | [], _, _, _, _ => by simp [Held]
  | d :: a, _, o, h, hc => by
    simp only [RelDs] at h
    obtain ⟨v, vs, rfl, h1, h2, h3⟩ := h
    simp only [Held]
    have h0 := hc 0 v (by simp)
    refine ⟨⟨v, by simpa using h0.1, by simpa using h0.2, h1, h2⟩, RelDs.held h3 fun j u hj => ?_⟩
    have := hc (j + 1) u (by simpa using hj)
    rw [show o + 1 + j = o + (j + 1) by omega]; exact this

theorem mapM_get {α β : Type} {f : α → Option β} : ∀ {l : List α} {r : List β}, l.mapM f = some r → r.length = l.length ∧ ∀ (i : Nat) (x : α), l[i]? = some x → ∃ y, f x = some y ∧ r[i]? = some y
  | [], r, h => by simp at h; subst h; simp
  | a :: l, r, h => by
    rw [List.mapM_cons] at h
    cases ha : f a with
    | none => simp [ha] at h
    | some b =>
      cases hl : l.mapM f with
      | none => simp [ha, hl] at h
      | some r' =>
        simp [ha, hl] at h; subst h
        obtain ⟨h1, h2⟩ := mapM_get hl
        refine ⟨by simp [h1], fun i x hi => ?_⟩
        cases i with
        | zero => simp at hi; subst hi; exact ⟨b, ha, by simp⟩
        | succ i => simpa using h2 i x (by simpa using hi)

section
variable (P : Program)

def TyFs (T : TypeId → List D → Prop) : List Field → List D → Prop
  | [], ds => ds = []
  | f :: fs, ds => ∃ a b, ds = a ++ b ∧ T f.type a ∧ TyFs T fs b

/-- The data of a type. -/
def Ty : Nat → TypeId → List D → Prop
  | 0, _, _ => False
  | n + 1, t, ds => match P.underlying t with
    | some .bool => ∃ b, ds = [.bool b]
    | some (.int k) => ∃ z, ds = [.int k z] ∧ (Lit.int k z).wf = true
    | some .string => ∃ s, ds = [.str s] ∧ s.size ≤ maxLen
    | some (.slice e) => ds = [.nils] ∨ ∃ rows, ds = [.rs (isFlat P e) (P.cellsOf e) rows false] ∧ rows.length ≤ maxLen ∧ ∀ r, r ∈ rows → Ty n e r
    | some (.struct fs) => TyFs (Ty n) fs.toList ds
    | some (.array m e) => ∃ rows : List (List D), rows.length = m ∧ ds = rows.flatten ∧ ∀ r, r ∈ rows → Ty n e r
    | _ => False

def contig (fs : List Field) (o total : Nat) : Bool :=
  match fs with
  | [] => o == total
  | f :: r => f.offset == o && contig r (o + P.cellsOf f.type) total

def goodT : Nat → TypeId → Bool
  | 0, _ => false
  | n + 1, t => match P.underlying t with
    | some .bool | some (.int _) | some .string => true
    | some (.slice e) => goodT n e && decide (0 < P.cellsOf e)
    | some (.struct fs) => contig P fs.toList 0 (P.cellsOf t) && fs.toList.all fun f => goodT n f.type
    | some (.array m e) => goodT n e && m * P.cellsOf e == P.cellsOf t
    | _ => false
end

variable {P : Program}

theorem tyFs_scalar {n : Nat} {T : TypeId → List D → Prop} (hT : ∀ t ds, flatT P n t = true → T t ds → ∀ x, x ∈ ds → D.scalar x = true) : ∀ (fs : List Field) (ds : List D), (fs.all fun f => flatT P n f.type) = true → TyFs T fs ds → ∀ x, x ∈ ds → D.scalar x = true
  | [], ds, _, h, x, hx => by simp only [TyFs] at h; subst h; simp at hx
  | f :: fs, ds, hf, h, x, hx => by
    simp only [TyFs] at h
    obtain ⟨a, b, rfl, h1, h2⟩ := h
    simp only [List.all_cons, Bool.and_eq_true] at hf
    rcases List.mem_append.1 hx with hx | hx
    · exact hT _ _ hf.1 h1 x hx
    · exact tyFs_scalar hT fs b hf.2 h2 x hx

theorem flat_scalar : ∀ (n m : Nat) (t : TypeId) (ds : List D), flatT P n t = true → Ty P m t ds → ∀ x, x ∈ ds → D.scalar x = true
  | 0, _, _, _, h, _, _, _ => by simp [flatT] at h
  | n + 1, 0, _, _, _, h, _, _ => by simp [Ty] at h
  | n + 1, m + 1, t, ds, hf, h, x, hx => by
    simp only [flatT] at hf
    simp only [Ty] at h
    split at hf
    · rename_i hu; rw [hu] at h; obtain ⟨b, rfl⟩ := h; simp at hx; subst hx; rfl
    · rename_i hu; rw [hu] at h; obtain ⟨b, rfl, _⟩ := h; simp at hx; subst hx; rfl
    · rename_i hu; rw [hu] at h; obtain ⟨b, rfl, _⟩ := h; simp at hx; subst hx; rfl
    · rename_i fs hu
      rw [hu] at h
      exact tyFs_scalar (n := n) (T := Ty P m) (fun t ds h1 h2 => flat_scalar n m t ds h1 h2) fs.toList ds hf h x hx
    · rename_i k e hu
      rw [hu] at h
      obtain ⟨rows, _, rfl, hr⟩ := h
      obtain ⟨r, hr1, hr2⟩ := List.mem_flatten.1 hx
      exact flat_scalar n m e r hf (hr r hr1) x hr2
    · cases hf

section
variable {H : Type} {enc : TypeId × Value → H} {w : World}

/-- Rows by choice. -/
theorem choose_rows {Q : Nat → List D → Prop} : ∀ (len : Nat), (∀ i, i < len → ∃ r, Q i r) → ∃ rows : List (List D), rows.length = len ∧ ∀ i r, rows[i]? = some r → Q i r
  | 0, _ => ⟨[], rfl, by simp⟩
  | len + 1, h => by
    obtain ⟨rows, h1, h2⟩ := choose_rows len fun i hi => h i (by omega)
    obtain ⟨r, hr⟩ := h len (by omega)
    refine ⟨rows ++ [r], by simp [h1], fun i x hx => ?_⟩
    rcases Nat.lt_or_ge i rows.length with hlt | hge
    · exact h2 i x (by rw [List.getElem?_append_left hlt] at hx; exact hx)
    · rw [List.getElem?_append_right hge] at hx
      have hi : i - rows.length = 0 := by
        rcases Nat.eq_zero_or_pos (i - rows.length) with h0 | h0
        · exact h0
        · rw [List.getElem?_eq_none (by simp; omega)] at hx; cases hx
      rw [hi] at hx
      simp at hx; subst hx
      have : i = len := by omega
      subst this; exact hr

theorem relDs_flatten {I : Imm} {s : Nat} : ∀ (rows : List (List D)) (cs : List Value), cs.length = rows.length * s → (∀ i r, rows[i]? = some r → RelDs I w r ((cs.drop (i * s)).take s)) → RelDs I w rows.flatten cs
  | [], cs, h, _ => by
    simp at h; subst h; simp [RelDs]
  | r :: rows, cs, h, hr => by
    have h0 := hr 0 r (by simp)
    simp at h0
    have ih := relDs_flatten (s := s) rows (cs.drop s) (by rw [List.length_drop, h]; simp [Nat.add_mul]) fun i x hx => by
      have := hr (i + 1) x (by simpa using hx)
      rw [List.drop_drop, show s + i * s = (i + 1) * s by rw [Nat.add_mul]; omega]; exact this
    have := RelDs.append h0 ih
    rw [List.take_append_drop] at this
    simpa using this

theorem trod_fields {fuel n : Nat} (ih : ∀ (t : TypeId) (cs : List Value) (x : DataW H × List MemPlace), goodT P n t = true → DataW.trod enc P w 0 (fun _ => true) true fuel t cs = some x → ∃ ds, Ty P n t ds ∧ RelDs (immAll w) w ds cs)
    {cs : List Value} {total : Nat} (hcs : cs.length = total) : ∀ (fs : List Field) (o : Nat) (xs : List (DataW H × List MemPlace)), contig P fs o total = true → (fs.all fun f => goodT P n f.type) = true →
      (fs.mapM fun f => DataW.trod enc P w 0 (fun _ => true) true fuel f.type ((cs.drop f.offset).take (P.cellsOf f.type))) = some xs → ∃ ds, TyFs (Ty P n) fs ds ∧ RelDs (immAll w) w ds (cs.drop o)
  | [], o, xs, hc, _, _ => by
    simp [contig] at hc
    refine ⟨[], by simp [TyFs], ?_⟩
    simp only [RelDs]
    exact List.drop_eq_nil_of_le (by omega)
  | f :: fs, o, xs, hc, hg, h => by
    simp only [contig, Bool.and_eq_true, beq_iff_eq] at hc
    simp only [List.all_cons, Bool.and_eq_true] at hg
    rw [List.mapM_cons] at h
    cases h1 : DataW.trod enc P w 0 (fun _ => true) true fuel f.type ((cs.drop f.offset).take (P.cellsOf f.type)) with
    | none => simp [h1] at h
    | some x1 =>
      cases h2 : (fs.mapM fun f => DataW.trod enc P w 0 (fun _ => true) true fuel f.type ((cs.drop f.offset).take (P.cellsOf f.type))) with
      | none => simp [h1, h2] at h
      | some x2 =>
        obtain ⟨a, ha, hra⟩ := ih f.type _ x1 hg.1 h1
        obtain ⟨b, hb, hrb⟩ := trod_fields ih hcs fs (o + P.cellsOf f.type) x2 hc.2 hg.2 h2
        refine ⟨a ++ b, by simp only [TyFs]; exact ⟨a, b, rfl, ha, hb⟩, ?_⟩
        rw [hc.1] at hra
        have := RelDs.append hra hrb
        rw [← List.drop_drop, List.take_append_drop] at this
        exact this

theorem cells_at {a : Addr} {n : Nat} {cs : List Value} (h : w.cells? 0 a n = some cs) : cs.length = n ∧ ∀ (j : Nat) (v : Value), cs[j]? = some v → w.cell? (a.add j) = some v := by
  unfold World.cells? at h
  simp only [Nat.zero_le, if_true] at h
  obtain ⟨h1, h2⟩ := mapM_get h
  refine ⟨by simpa using h1, fun j v hj => ?_⟩
  have hlt : j < n := by have := (List.getElem?_eq_some_iff.1 hj).1; simp at h1; omega
  obtain ⟨y, hy, hy2⟩ := h2 j j (by simp [hlt])
  rw [hj] at hy2; cases hy2; exact hy

theorem cell_lt {b o : Nat} {v : Value} (h : w.cell? ⟨b, o, none⟩ = some v) : b < w.heap.size := by
  unfold World.cell? at h
  cases hb : w.heap[b]? with
  | none => simp [hb] at h
  | some x => exact heap_lt hb

theorem cell_spot {a : Addr} {v : Value} (h : w.cell? a = some v) : a.spot = none := by
  unfold World.cell? at h
  split at h
  · split at h
    · cases h
    · rename_i hs; cases hsp : a.spot with | none => rfl | some x => simp [hsp] at hs
  · cases h

/-- A reading of typed data, opened. -/
theorem trod_open : ∀ (fuel n : Nat) (t : TypeId) (cs : List Value) (x : DataW H × List MemPlace), goodT P n t = true → DataW.trod enc P w 0 (fun _ => true) true fuel t cs = some x →
    ∃ ds, Ty P n t ds ∧ RelDs (immAll w) w ds cs
  | 0, _, _, _, _, _, h => by simp [DataW.trod] at h
  | fuel + 1, 0, _, _, _, hg, _ => by simp [goodT] at hg
  | fuel + 1, n + 1, t, cs, x, hg, h => by
    have ih := trod_open fuel n
    simp only [goodT] at hg
    simp only [Ty]
    cases hu : P.underlying t with
    | none => simp [hu] at hg
    | some d =>
      simp only [hu] at hg
      cases d with
      | bool =>
        unfold DataW.trod at h
        simp only [hu] at h
        split at h
        case h_1 b _ => exact ⟨[.bool b], ⟨b, rfl⟩, by simp only [RelDs]; exact ⟨_, [], rfl, by simp [OneC], by simp only [RelD], rfl⟩⟩
        all_goals (first | (cases h; done) | (rename_i hh; cases hh; done) | simp_all)
      | int k =>
        unfold DataW.trod at h
        simp only [hu] at h
        split at h
        case h_2 k0 k' z hk =>
          cases hk
          split at h
          case isFalse => cases h
          rename_i hw
          obtain ⟨rfl, hw⟩ := hw
          exact ⟨[.int k' z], ⟨z, rfl, hw⟩, by simp only [RelDs]; exact ⟨_, [], rfl, by simp [OneC], by simp only [RelD], rfl⟩⟩
        all_goals (first | (cases h; done) | (rename_i hh; cases hh; done) | simp_all)
      | string =>
        unfold DataW.trod at h
        simp only [hu] at h
        split at h
        case h_4 s _ =>
          split at h
          case isFalse => cases h
          rename_i hw
          exact ⟨[.str s], ⟨s, rfl, hw⟩, by simp only [RelDs]; exact ⟨_, [], rfl, by simp [OneC], by simp only [RelD], rfl⟩⟩
        all_goals (first | (cases h; done) | (rename_i hh; cases hh; done) | simp_all)
      | slice e =>
        simp only [Bool.and_eq_true, decide_eq_true_eq] at hg
        unfold DataW.trod at h
        simp only [hu] at h
        split at h
        case h_7 =>
          exact ⟨[.nils], .inl rfl, by simp only [RelDs]; exact ⟨_, [], rfl, by simp [OneC], by simp only [RelD], rfl⟩⟩
        case h_8 e' a len cap he =>
          cases he
          split at h
          case isFalse => cases h
          rename_i hc
          obtain ⟨_, hlc, hcm⟩ := hc
          obtain ⟨elems, hel, h⟩ := Option.bind_eq_some_iff.1 h
          obtain ⟨el, hel2⟩ := mapM_get hel
          simp at el
          obtain ⟨b, o, sp⟩ := a
          have hrow : ∀ i, i < len → ∃ r : List D, (Ty P n e r) ∧ r.length = P.cellsOf e ∧ sp = none ∧ Held (immAll w) w b (o + i * P.cellsOf e) r := fun i hi => by
            obtain ⟨y, hy, _⟩ := hel2 i i (by simp [hi])
            obtain ⟨ci, hci, hy⟩ := Option.bind_eq_some_iff.1 hy
            obtain ⟨c1, c2⟩ := cells_at hci
            obtain ⟨r, hr1, hr2⟩ := ih e ci y hg.1 hy
            obtain ⟨j0, hj0⟩ : ∃ v, ci[0]? = some v := ⟨_, List.getElem?_eq_getElem (by omega)⟩
            have hs0 := cell_spot (c2 0 j0 hj0)
            have hsp : (i * P.cellsOf e = 0 → sp = none) := fun h0 => by
              simpa [Addr.add, h0] using hs0
            have hadd : ∀ j, ((⟨b, o, sp⟩ : Addr).add (i * P.cellsOf e)).add j = ⟨b, o + i * P.cellsOf e + j, none⟩ := fun j => by
              by_cases h0 : i * P.cellsOf e = 0
              · rw [hsp h0, addr_add, addr_add]
              · simp only [Addr.add, h0, if_false]
                split <;> simp_all
            have hsp0 : sp = none := by
              -- the first one of all was read
              obtain ⟨y0, hy0, _⟩ := hel2 0 0 (List.getElem?_range (Nat.lt_of_le_of_lt (Nat.zero_le i) hi))
              obtain ⟨c0, hc0, _⟩ := Option.bind_eq_some_iff.1 hy0
              obtain ⟨d1, d2⟩ := cells_at hc0
              obtain ⟨v0, hv0⟩ : ∃ v, c0[0]? = some v := ⟨_, List.getElem?_eq_getElem (by omega)⟩
              have := cell_spot (d2 0 v0 hv0)
              simpa [Addr.add] using this
            refine ⟨r, hr1, by rw [← hr2.len]; exact c1, hsp0, hr2.held fun j v hj => ?_⟩
            have := c2 j v hj
            rw [hadd j] at this
            exact ⟨this, cell_lt this⟩
          obtain ⟨rows, hrl, hrows⟩ := choose_rows len hrow
          have hall : ∀ r, r ∈ rows → Ty P n e r ∧ r.length = P.cellsOf e := fun r hr => by
            obtain ⟨i, hi, e⟩ := List.getElem_of_mem hr
            have := hrows i r (by rw [List.getElem?_eq_getElem hi, e])
            exact ⟨this.1, this.2.1⟩
          refine ⟨_, .inr ⟨rows, rfl, by omega, fun r hr => (hall r hr).1⟩, ?_⟩
          simp only [RelDs]
          refine ⟨_, [], rfl, by simp [OneC], ?_, rfl⟩
          simp only [RelD]
          refine ⟨hg.2, fun hf r hr y hy => flat_scalar 20 n e r hf (hall r hr).1 y hy, fun r hr => (hall r hr).2, b, o, sp, cap, by rw [hrl], ?_, by omega, (fun h => by cases h), ?_⟩
          · rcases Nat.eq_zero_or_pos rows.length with h0 | h0
            · exact .inl (List.length_eq_zero_iff.1 h0)
            · exact .inr (hrows 0 rows[0] (by simp)).2.2.1
          · have key : ∀ (l : List (List D)) (k : Nat), (∀ i r, l[i]? = some r → Held (immAll w) w b (o + (k + i) * P.cellsOf e) r) → HeldR (immAll w) w (P.cellsOf e) b (o + k * P.cellsOf e) l := by
              intro l
              induction l with
              | nil => intro k _; simp [HeldR]
              | cons r l ihl =>
                intro k hl
                simp only [HeldR]
                refine ⟨by simpa using hl 0 r (by simp), ?_⟩
                have := ihl (k + 1) fun i x hx => by
                  have := hl (i + 1) x (by simpa using hx)
                  rw [show k + 1 + i = k + (i + 1) by omega]; exact this
                rw [show o + k * P.cellsOf e + P.cellsOf e = o + (k + 1) * P.cellsOf e by rw [Nat.add_mul]; omega]; exact this
            have := key rows 0 fun i r hi => by rw [Nat.zero_add]; exact (hrows i r hi).2.2.2
            simpa using this
        all_goals simp_all
      | struct fs =>
        simp only [Bool.and_eq_true] at hg
        unfold DataW.trod at h
        simp only [hu] at h
        split at h
        case isFalse => cases h
        rename_i hlen
        obtain ⟨xs, hxs, _⟩ := Option.map_eq_some_iff.1 h
        obtain ⟨ds, h1, h2⟩ := trod_fields ih hlen fs.toList 0 xs hg.1 hg.2 hxs
        exact ⟨ds, h1, by simpa using h2⟩
      | array m e =>
        simp only [Bool.and_eq_true, beq_iff_eq] at hg
        unfold DataW.trod at h
        simp only [hu] at h
        split at h
        case isFalse => cases h
        rename_i hlen
        obtain ⟨xs, hxs, _⟩ := Option.map_eq_some_iff.1 h
        obtain ⟨xl, hx2⟩ := mapM_get hxs
        obtain ⟨rows, hrl, hrows⟩ := choose_rows (Q := fun i r => Ty P n e r ∧ RelDs (immAll w) w r ((cs.drop (i * P.cellsOf e)).take (P.cellsOf e))) m fun i hi => by
          obtain ⟨y, hy, _⟩ := hx2 i i (by simp [hi])
          obtain ⟨r, hr1, hr2⟩ := ih e _ y hg.1 hy
          exact ⟨r, hr1, hr2⟩
        refine ⟨rows.flatten, ⟨rows, hrl, rfl, fun r hr => ?_⟩, relDs_flatten (s := P.cellsOf e) rows cs (by rw [hrl, hg.2]; exact hlen) fun i r hi => (hrows i r hi).2⟩
        obtain ⟨i, hi, e'⟩ := List.getElem_of_mem hr
        exact (hrows i r (by rw [List.getElem?_eq_getElem hi, e'])).1
      | _ => simp at hg

end
end Go.Proofs.Ytgalchmjpfmemaa.Den
