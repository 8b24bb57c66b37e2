/- ParityFour: part 4 of what its proof rests on: an evaluator of the program's code, proved sound; plain functions printed from the code by a program of this session, with proofs; plain laws. No condition. -/
import Derived.Test.YtdlhhoejnhjbhaaDenparityFour3
import Derived.ProofKit
import Derived.Carry
import Derived.OpenShut
import Derived.SizedLaws
import Derived.Shelf.Slices.Delete
import Derived.KernelRfl

namespace Go.Proofs.Ytdlhhoejnhjbhaa.Den
open Go
set_option linter.unusedVariables false
set_option linter.unusedSimpArgs false
def immAll (w : World) : Imm := fun b _ => b < w.heap.size
def RelDs (I : Imm) (w : World) : List D → List Value → Prop
  | [], cs => cs = []
  | d :: ds, cs => ∃ v vs, cs = v :: vs ∧ OneC v ∧ RelD I w d v ∧ RelDs I w ds vs
theorem RelDs.append {I : Imm} {w : World} : ∀ {a : List D} {as1 : List Value} {b : List D} {bs : List Value}, RelDs I w a as1 → RelDs I w b bs → RelDs I w (a ++ b) (as1 ++ bs)
  | [], _, _, _, h, k => by simp only [RelDs] at h; subst h; simpa using k
  | d :: a, _, _, _, h, k => by
    simp only [RelDs] at h
    obtain ⟨v, vs, rfl, h1, h2, h3⟩ := h
    simp only [List.cons_append, RelDs]
    exact ⟨v, _, rfl, h1, h2, RelDs.append h3 k⟩
theorem RelDs.len {I : Imm} {w : World} : ∀ {a : List D} {as1 : List Value}, RelDs I w a as1 → as1.length = a.length
  | [], _, h => by simp only [RelDs] at h; subst h; rfl
  | d :: a, _, h => by
    simp only [RelDs] at h
    obtain ⟨v, vs, rfl, _, _, h3⟩ := h
    simp [RelDs.len h3]
theorem RelDs.rel {w : World} {φ : Nat → Option Nat} {m : Mem} {I : Imm} : ∀ {a : List D} {as1 : List Value}, RelDs I w a as1 → RelVs ⟨φ, m, I, w⟩ (a.map V.d) as1 ∧ ∀ u, u ∈ as1 → OneC u
  | [], _, h => by simp only [RelDs] at h; subst h; simp [RelVs]
  | d :: a, _, h => by
    simp only [RelDs] at h
    obtain ⟨v, vs, rfl, h1, h2, h3⟩ := h
    obtain ⟨g1, g2⟩ := RelDs.rel (φ := φ) (m := m) h3
    refine ⟨?_, ?_⟩
    · simp only [List.map_cons, RelVs]
      exact ⟨v, vs, rfl, by simpa only [RelV] using h2, g1⟩
    · intro u hu
      rcases List.mem_cons.1 hu with rfl | hu
      · exact h1
      · exact g2 u hu
theorem RelDs.held {I : Imm} {w : World} {b : Nat} : ∀ {a : List D} {as1 : List Value} {o : Nat}, RelDs I w a as1 → (∀ j v, as1[j]? = some v → w.cell? ⟨b, o + j, none⟩ = some v ∧ I b (o + j)) → Held I w b o a
  | [], _, _, _, _ => by simp [Held]
  | d :: a, _, o, h, hc => by
    simp only [RelDs] at h
    obtain ⟨v, vs, rfl, h1, h2, h3⟩ := h
    simp only [Held]
    have h0 := hc 0 v (by simp)
    refine ⟨⟨v, by simpa using h0.1, by simpa using h0.2, h1, h2⟩, RelDs.held h3 fun j u hj => ?_⟩
    have := hc (j + 1) u (by simpa using hj)
    rw [show o + 1 + j = o + (j + 1) by omega]; exact this
theorem mapM_get {α β : Type} {f : α → Option β} : ∀ {l : List α} {r : List β}, l.mapM f = some r → r.length = l.length ∧ ∀ (i : Nat) (x : α), l[i]? = some x → ∃ y, f x = some y ∧ r[i]? = some y
  | [], r, h => by simp at h; subst h; simp
  | a :: l, r, h => by
    rw [List.mapM_cons] at h
    cases ha : f a with
    | none => simp [ha] at h
    | some b =>
      cases hl : l.mapM f with
      | none => simp [ha, hl] at h
      | some r' =>
        simp [ha, hl] at h; subst h
        obtain ⟨h1, h2⟩ := mapM_get hl
        refine ⟨by simp [h1], fun i x hi => ?_⟩
        cases i with
        | zero => simp at hi; subst hi; exact ⟨b, ha, by simp⟩
        | succ i => simpa using h2 i x (by simpa using hi)
section
variable (P : Program)
def TyFs (T : TypeId → List D → Prop) : List Field → List D → Prop
  | [], ds => ds = []
  | f :: fs, ds => ∃ a b, ds = a ++ b ∧ T f.type a ∧ TyFs T fs b
def Ty : Nat → TypeId → List D → Prop
  | 0, _, _ => False
  | n + 1, t, ds => match P.underlying t with
    | some .bool => ∃ b, ds = [.bool b]
    | some (.int k) => ∃ z, ds = [.int k z] ∧ (Lit.int k z).wf = true
    | some .string => ∃ s, ds = [.str s] ∧ s.size ≤ 140737488351232
    | some (.slice e) => ds = [.nils] ∨ ∃ rows, ds = [.rs (isFlat P e) (P.cellsOf e) rows false] ∧ rows.length ≤ maxLen ∧ rows.length * P.bytesOf e ≤ 140737488351232 ∧ ∀ r, r ∈ rows → Ty n e r
    | some (.struct fs) => TyFs (Ty n) fs.toList ds
    | some (.array m e) => ∃ rows : List (List D), rows.length = m ∧ ds = rows.flatten ∧ ∀ r, r ∈ rows → Ty n e r
    | _ => False
def contig (fs : List Field) (o total : Nat) : Bool :=
  match fs with
  | [] => o == total
  | f :: r => f.offset == o && contig r (o + P.cellsOf f.type) total
def goodT : Nat → TypeId → Bool
  | 0, _ => false
  | n + 1, t => match P.underlying t with
    | some .bool | some (.int _) | some .string => true
    | some (.slice e) => goodT n e && decide (0 < P.cellsOf e)
    | some (.struct fs) => contig P fs.toList 0 (P.cellsOf t) && fs.toList.all fun f => goodT n f.type
    | some (.array m e) => goodT n e && m * P.cellsOf e == P.cellsOf t
    | _ => false
end
variable {P : Program}
theorem tyFs_scalar {n : Nat} {T : TypeId → List D → Prop} (hT : ∀ t ds, flatT P n t = true → T t ds → ∀ x, x ∈ ds → D.scalar x = true) : ∀ (fs : List Field) (ds : List D), (fs.all fun f => flatT P n f.type) = true → TyFs T fs ds → ∀ x, x ∈ ds → D.scalar x = true
  | [], ds, _, h, x, hx => by simp only [TyFs] at h; subst h; simp at hx
  | f :: fs, ds, hf, h, x, hx => by
    simp only [TyFs] at h
    obtain ⟨a, b, rfl, h1, h2⟩ := h
    simp only [List.all_cons, Bool.and_eq_true] at hf
    rcases List.mem_append.1 hx with hx | hx
    · exact hT _ _ hf.1 h1 x hx
    · exact tyFs_scalar hT fs b hf.2 h2 x hx
theorem flat_scalar : ∀ (n m : Nat) (t : TypeId) (ds : List D), flatT P n t = true → Ty P m t ds → ∀ x, x ∈ ds → D.scalar x = true
  | 0, _, _, _, h, _, _, _ => by simp [flatT] at h
  | n + 1, 0, _, _, _, h, _, _ => by simp [Ty] at h
  | n + 1, m + 1, t, ds, hf, h, x, hx => by
    simp only [flatT] at hf
    simp only [Ty] at h
    split at hf
    · rename_i hu; rw [hu] at h; obtain ⟨b, rfl⟩ := h; simp at hx; subst hx; rfl
    · rename_i hu; rw [hu] at h; obtain ⟨b, rfl, _⟩ := h; simp at hx; subst hx; rfl
    · rename_i hu; rw [hu] at h; obtain ⟨b, rfl, _⟩ := h; simp at hx; subst hx; rfl
    · rename_i fs hu
      rw [hu] at h
      exact tyFs_scalar (n := n) (T := Ty P m) (fun t ds h1 h2 => flat_scalar n m t ds h1 h2) fs.toList ds hf h x hx
    · rename_i k e hu
      rw [hu] at h
      obtain ⟨rows, _, rfl, hr⟩ := h
      obtain ⟨r, hr1, hr2⟩ := List.mem_flatten.1 hx
      exact flat_scalar n m e r hf (hr r hr1) x hr2
    · cases hf
section
variable {H : Type} {enc : TypeId × Value → H} {w : World}
theorem choose_rows {Q : Nat → List D → Prop} : ∀ (len : Nat), (∀ i, i < len → ∃ r, Q i r) → ∃ rows : List (List D), rows.length = len ∧ ∀ i r, rows[i]? = some r → Q i r
  | 0, _ => ⟨[], rfl, by simp⟩
  | len + 1, h => by
    obtain ⟨rows, h1, h2⟩ := choose_rows len fun i hi => h i (by omega)
    obtain ⟨r, hr⟩ := h len (by omega)
    refine ⟨rows ++ [r], by simp [h1], fun i x hx => ?_⟩
    rcases Nat.lt_or_ge i rows.length with hlt | hge
    · exact h2 i x (by rw [List.getElem?_append_left hlt] at hx; exact hx)
    · rw [List.getElem?_append_right hge] at hx
      have hi : i - rows.length = 0 := by
        rcases Nat.eq_zero_or_pos (i - rows.length) with h0 | h0
        · exact h0
        · rw [List.getElem?_eq_none (by simp; omega)] at hx; cases hx
      rw [hi] at hx
      simp at hx; subst hx
      have : i = len := by omega
      subst this; exact hr
theorem relDs_flatten {I : Imm} {s : Nat} : ∀ (rows : List (List D)) (cs : List Value), cs.length = rows.length * s → (∀ i r, rows[i]? = some r → RelDs I w r ((cs.drop (i * s)).take s)) → RelDs I w rows.flatten cs
  | [], cs, h, _ => by
    simp at h; subst h; simp [RelDs]
  | r :: rows, cs, h, hr => by
    have h0 := hr 0 r (by simp)
    simp at h0
    have ih := relDs_flatten (s := s) rows (cs.drop s) (by rw [List.length_drop, h]; simp [Nat.add_mul]) fun i x hx => by
      have := hr (i + 1) x (by simpa using hx)
      rw [List.drop_drop, show s + i * s = (i + 1) * s by rw [Nat.add_mul]; omega]; exact this
    have := RelDs.append h0 ih
    rw [List.take_append_drop] at this
    simpa using this
theorem mem_weightsAll {e : TypeId} : ∀ {l : List (DataW H)} {d : DataW H} {n : Nat}, d ∈ l → n ∈ d.weights P e → n ∈ DataW.weightsAll P e l
  | d0 :: l, d, n, h, k => by
    simp only [DataW.weightsAll, List.mem_append]
    rcases List.mem_cons.1 h with rfl | h
    · exact .inl k
    · exact .inr (mem_weightsAll h k)
theorem trod_fields {fuel n : Nat} (ih : ∀ (t : TypeId) (cs : List Value) (x : DataW H × List MemPlace), goodT P n t = true → (∀ m, m ∈ x.1.weights P t → m ≤ 140737488351232) → DataW.trod enc P w 0 (fun _ => true) true fuel t cs = some x → ∃ ds, Ty P n t ds ∧ RelDs (immAll w) w ds cs)
    {cs : List Value} {total : Nat} (hcs : cs.length = total) : ∀ (fs : List Field) (o : Nat) (xs : List (DataW H × List MemPlace)), contig P fs o total = true → (fs.all fun f => goodT P n f.type) = true → (∀ m, m ∈ DataW.weightsEach P (fs.map (·.type)) (xs.map (·.1)) → m ≤ 140737488351232) →
      (fs.mapM fun f => DataW.trod enc P w 0 (fun _ => true) true fuel f.type ((cs.drop f.offset).take (P.cellsOf f.type))) = some xs → ∃ ds, TyFs (Ty P n) fs ds ∧ RelDs (immAll w) w ds (cs.drop o)
  | [], o, xs, hc, _, _, _ => by
    simp [contig] at hc
    refine ⟨[], by simp [TyFs], ?_⟩
    simp only [RelDs]
    exact List.drop_eq_nil_of_le (by omega)
  | f :: fs, o, xs, hc, hg, hwt, h => by
    simp only [contig, Bool.and_eq_true, beq_iff_eq] at hc
    simp only [List.all_cons, Bool.and_eq_true] at hg
    rw [List.mapM_cons] at h
    cases h1 : DataW.trod enc P w 0 (fun _ => true) true fuel f.type ((cs.drop f.offset).take (P.cellsOf f.type)) with
    | none => simp [h1] at h
    | some x1 =>
      cases h2 : (fs.mapM fun f => DataW.trod enc P w 0 (fun _ => true) true fuel f.type ((cs.drop f.offset).take (P.cellsOf f.type))) with
      | none => simp [h1, h2] at h
      | some x2 =>
        simp [h1, h2] at h; subst h
        simp only [List.map_cons, DataW.weightsEach, List.mem_append] at hwt
        obtain ⟨a, ha, hra⟩ := ih f.type _ x1 hg.1 (fun m hm => hwt m (.inl hm)) h1
        obtain ⟨b, hb, hrb⟩ := trod_fields ih hcs fs (o + P.cellsOf f.type) x2 hc.2 hg.2 (fun m hm => hwt m (.inr hm)) h2
        refine ⟨a ++ b, by simp only [TyFs]; exact ⟨a, b, rfl, ha, hb⟩, ?_⟩
        rw [hc.1] at hra
        have := RelDs.append hra hrb
        rw [← List.drop_drop, List.take_append_drop] at this
        exact this
theorem cells_at {a : Addr} {n : Nat} {cs : List Value} (h : w.cells? 0 a n = some cs) : cs.length = n ∧ ∀ (j : Nat) (v : Value), cs[j]? = some v → w.cell? (a.add j) = some v := by
  unfold World.cells? at h
  simp only [Nat.zero_le, if_true] at h
  obtain ⟨h1, h2⟩ := mapM_get h
  refine ⟨by simpa using h1, fun j v hj => ?_⟩
  have hlt : j < n := by have := (List.getElem?_eq_some_iff.1 hj).1; simp at h1; omega
  obtain ⟨y, hy, hy2⟩ := h2 j j (by simp [hlt])
  rw [hj] at hy2; cases hy2; exact hy
theorem cell_lt {b o : Nat} {v : Value} (h : w.cell? ⟨b, o, none⟩ = some v) : b < w.heap.size := by
  unfold World.cell? at h
  cases hb : w.heap[b]? with
  | none => simp [hb] at h
  | some x => exact heap_lt hb
theorem cell_spot {a : Addr} {v : Value} (h : w.cell? a = some v) : a.spot = none := by
  unfold World.cell? at h
  split at h
  · split at h
    · cases h
    · rename_i hs; cases hsp : a.spot with | none => rfl | some x => simp [hsp] at hs
  · cases h
theorem trod_open : ∀ (fuel n : Nat) (t : TypeId) (cs : List Value) (x : DataW H × List MemPlace), goodT P n t = true → (∀ m, m ∈ x.1.weights P t → m ≤ 140737488351232) → DataW.trod enc P w 0 (fun _ => true) true fuel t cs = some x →
    ∃ ds, Ty P n t ds ∧ RelDs (immAll w) w ds cs
  | 0, _, _, _, _, _, _, h => by simp [DataW.trod] at h
  | fuel + 1, 0, _, _, _, hg, _, _ => by simp [goodT] at hg
  | fuel + 1, n + 1, t, cs, x, hg, hwt, h => by
    have ih := trod_open fuel n
    simp only [goodT] at hg
    simp only [Ty]
    cases hu : P.underlying t with
    | none => simp [hu] at hg
    | some d =>
      simp only [hu] at hg
      cases d with
      | bool =>
        unfold DataW.trod at h
        simp only [hu] at h
        split at h
        case h_1 b _ => exact ⟨[.bool b], ⟨b, rfl⟩, by simp only [RelDs]; exact ⟨_, [], rfl, by simp [OneC], by simp only [RelD], rfl⟩⟩
        all_goals (first | (cases h; done) | (rename_i hh; cases hh; done) | simp_all)
      | int k =>
        unfold DataW.trod at h
        simp only [hu] at h
        split at h
        case h_2 k0 k' z hk =>
          cases hk
          split at h
          case isFalse => cases h
          rename_i hw
          obtain ⟨rfl, hw⟩ := hw
          exact ⟨[.int k' z], ⟨z, rfl, hw⟩, by simp only [RelDs]; exact ⟨_, [], rfl, by simp [OneC], by simp only [RelD], rfl⟩⟩
        all_goals (first | (cases h; done) | (rename_i hh; cases hh; done) | simp_all)
      | string =>
        unfold DataW.trod at h
        simp only [hu] at h
        split at h
        case h_4 s _ =>
          split at h
          case isFalse => cases h
          cases h
          exact ⟨[.str s], ⟨s, rfl, hwt _ (by simp [DataW.weights])⟩, by simp only [RelDs]; exact ⟨_, [], rfl, by simp [OneC], by simp only [RelD], rfl⟩⟩
        all_goals (first | (cases h; done) | (rename_i hh; cases hh; done) | simp_all)
      | slice e =>
        simp only [Bool.and_eq_true, decide_eq_true_eq] at hg
        unfold DataW.trod at h
        simp only [hu] at h
        split at h
        case h_7 =>
          exact ⟨[.nils], .inl rfl, by simp only [RelDs]; exact ⟨_, [], rfl, by simp [OneC], by simp only [RelD], rfl⟩⟩
        case h_8 e' a len cap he =>
          cases he
          split at h
          case isFalse => cases h
          rename_i hc
          obtain ⟨_, hlc, hcm⟩ := hc
          obtain ⟨elems, hel, h⟩ := Option.bind_eq_some_iff.1 h
          obtain ⟨el, hel2⟩ := mapM_get hel
          simp at el
          obtain ⟨rest, _, rfl⟩ := Option.map_eq_some_iff.1 h
          simp only [DataW.weights, hu, List.length_map] at hwt
          have hbytes : len * P.bytesOf e ≤ 140737488351232 := Nat.le_trans (Nat.mul_le_mul_right _ (by omega)) (hwt _ (List.mem_cons_self ..))
          obtain ⟨b, o, sp⟩ := a
          have hrow : ∀ i, i < len → ∃ r : List D, (Ty P n e r) ∧ r.length = P.cellsOf e ∧ sp = none ∧ Held (immAll w) w b (o + i * P.cellsOf e) r := fun i hi => by
            obtain ⟨y, hy, hy9⟩ := hel2 i i (by simp [hi])
            have hyw : ∀ m, m ∈ y.1.weights P e → m ≤ 140737488351232 := fun m hm => hwt m (List.mem_cons_of_mem _ (List.mem_append_left _ (mem_weightsAll (List.mem_map.2 ⟨y, List.mem_of_getElem? hy9, rfl⟩) hm)))
            obtain ⟨ci, hci, hy⟩ := Option.bind_eq_some_iff.1 hy
            obtain ⟨c1, c2⟩ := cells_at hci
            obtain ⟨r, hr1, hr2⟩ := ih e ci y hg.1 hyw hy
            obtain ⟨j0, hj0⟩ : ∃ v, ci[0]? = some v := ⟨_, List.getElem?_eq_getElem (by omega)⟩
            have hs0 := cell_spot (c2 0 j0 hj0)
            have hsp : (i * P.cellsOf e = 0 → sp = none) := fun h0 => by
              simpa [Addr.add, h0] using hs0
            have hadd : ∀ j, ((⟨b, o, sp⟩ : Addr).add (i * P.cellsOf e)).add j = ⟨b, o + i * P.cellsOf e + j, none⟩ := fun j => by
              by_cases h0 : i * P.cellsOf e = 0
              · rw [hsp h0, addr_add, addr_add]
              · simp only [Addr.add, h0, if_false]
                split <;> simp_all
            have hsp0 : sp = none := by
              obtain ⟨y0, hy0, _⟩ := hel2 0 0 (List.getElem?_range (Nat.lt_of_le_of_lt (Nat.zero_le i) hi))
              obtain ⟨c0, hc0, _⟩ := Option.bind_eq_some_iff.1 hy0
              obtain ⟨d1, d2⟩ := cells_at hc0
              obtain ⟨v0, hv0⟩ : ∃ v, c0[0]? = some v := ⟨_, List.getElem?_eq_getElem (by omega)⟩
              have := cell_spot (d2 0 v0 hv0)
              simpa [Addr.add] using this
            refine ⟨r, hr1, by rw [← hr2.len]; exact c1, hsp0, hr2.held fun j v hj => ?_⟩
            have := c2 j v hj
            rw [hadd j] at this
            exact ⟨this, cell_lt this⟩
          obtain ⟨rows, hrl, hrows⟩ := choose_rows len hrow
          have hall : ∀ r, r ∈ rows → Ty P n e r ∧ r.length = P.cellsOf e := fun r hr => by
            obtain ⟨i, hi, e⟩ := List.getElem_of_mem hr
            have := hrows i r (by rw [List.getElem?_eq_getElem hi, e])
            exact ⟨this.1, this.2.1⟩
          refine ⟨_, .inr ⟨rows, rfl, by omega, by rw [hrl]; exact hbytes, fun r hr => (hall r hr).1⟩, ?_⟩
          simp only [RelDs]
          refine ⟨_, [], rfl, by simp [OneC], ?_, rfl⟩
          simp only [RelD]
          refine ⟨hg.2, fun hf r hr y hy => flat_scalar 20 n e r hf (hall r hr).1 y hy, fun r hr => (hall r hr).2, b, o, sp, cap, by rw [hrl], ?_, by omega, (fun h => by cases h), ?_⟩
          · rcases Nat.eq_zero_or_pos rows.length with h0 | h0
            · exact .inl (List.length_eq_zero_iff.1 h0)
            · exact .inr (hrows 0 rows[0] (by simp)).2.2.1
          · have key : ∀ (l : List (List D)) (k : Nat), (∀ i r, l[i]? = some r → Held (immAll w) w b (o + (k + i) * P.cellsOf e) r) → HeldR (immAll w) w (P.cellsOf e) b (o + k * P.cellsOf e) l := by
              intro l
              induction l with
              | nil => intro k _; simp [HeldR]
              | cons r l ihl =>
                intro k hl
                simp only [HeldR]
                refine ⟨by simpa using hl 0 r (by simp), ?_⟩
                have := ihl (k + 1) fun i x hx => by
                  have := hl (i + 1) x (by simpa using hx)
                  rw [show k + 1 + i = k + (i + 1) by omega]; exact this
                rw [show o + k * P.cellsOf e + P.cellsOf e = o + (k + 1) * P.cellsOf e by rw [Nat.add_mul]; omega]; exact this
            have := key rows 0 fun i r hi => by rw [Nat.zero_add]; exact (hrows i r hi).2.2.2
            simpa using this
        all_goals simp_all
      | struct fs =>
        simp only [Bool.and_eq_true] at hg
        unfold DataW.trod at h
        simp only [hu] at h
        split at h
        case isFalse => cases h
        rename_i hlen
        obtain ⟨xs, hxs, rfl⟩ := Option.map_eq_some_iff.1 h
        simp only [DataW.weights, hu] at hwt
        obtain ⟨ds, h1, h2⟩ := trod_fields ih hlen fs.toList 0 xs hg.1 hg.2 hwt hxs
        exact ⟨ds, h1, by simpa using h2⟩
      | array m e =>
        simp only [Bool.and_eq_true, beq_iff_eq] at hg
        unfold DataW.trod at h
        simp only [hu] at h
        split at h
        case isFalse => cases h
        rename_i hlen
        obtain ⟨xs, hxs, rfl⟩ := Option.map_eq_some_iff.1 h
        simp only [DataW.weights, hu] at hwt
        obtain ⟨xl, hx2⟩ := mapM_get hxs
        obtain ⟨rows, hrl, hrows⟩ := choose_rows (Q := fun i r => Ty P n e r ∧ RelDs (immAll w) w r ((cs.drop (i * P.cellsOf e)).take (P.cellsOf e))) m fun i hi => by
          obtain ⟨y, hy, hy9⟩ := hx2 i i (by simp [hi])
          obtain ⟨r, hr1, hr2⟩ := ih e _ y hg.1 (fun m hm => hwt m (mem_weightsAll (List.mem_map.2 ⟨y, List.mem_of_getElem? hy9, rfl⟩) hm)) hy
          exact ⟨r, hr1, hr2⟩
        refine ⟨rows.flatten, ⟨rows, hrl, rfl, fun r hr => ?_⟩, relDs_flatten (s := P.cellsOf e) rows cs (by rw [hrl, hg.2]; exact hlen) fun i r hi => (hrows i r hi).2⟩
        obtain ⟨i, hi, e'⟩ := List.getElem_of_mem hr
        exact (hrows i r (by rw [List.getElem?_eq_getElem hi, e'])).1
      | _ => simp at hg
end
end Go.Proofs.Ytdlhhoejnhjbhaa.Den

namespace Go.Proofs.Ytdlhhoejnhjbhaa.Den
open Go Go.ChangeShapes Go.WideShapes Go.ChangeAt Go.RowKit
set_option linter.unusedVariables false
set_option linter.unusedSimpArgs false
def argV (P : Program) (t : TypeId) (ds : List D) : V :=
  match P.underlying t with
  | some (.struct _) | some (.array _ _) => .agg (ds.map V.d)
  | _ => match ds with | d :: _ => .d d | [] => .un
def argsV (P : Program) : List TypeId → List (List D) → List V
  | t :: ts, ds :: r => argV P t ds :: argsV P ts r
  | _, _ => []
def TyAll (P : Program) (n : Nat) : List TypeId → List (List D) → Prop
  | [], r => r = []
  | t :: ts, r => ∃ ds r', r = ds :: r' ∧ Ty P n t ds ∧ TyAll P n ts r'
def cx0 (w : World) : Cx := ⟨fun _ => none, [], immAll w, w⟩
theorem cx0_sim (P : Program) (w : World) : PSim P (cx0 w) :=
  ⟨fun _ _ _ h => by simp [cx0] at h, fun _ _ _ h => by simp [cx0] at h, fun _ _ h => by simp [cx0] at h, fun b o h => h⟩
section
variable {P : Program} {H : Type} {enc : TypeId × Value → H} {w : World}
theorem open_arg {n base : Nat} {r : Reach} {t : TypeId} {v : Value} {d : DataW H} {ps : List MemPlace} (hg : goodT P n t = true) (hval : Value.okWide P w r base t v) (hwt : ∀ m, m ∈ d.weights P t → m ≤ 140737488351232) (h : DataW.Trod enc P w 0 (fun _ => true) true t v d ps) :
    ∃ ds, Ty P n t ds ∧ RelV (cx0 w) (argV P t ds) v := by
  obtain ⟨fuel, h⟩ := h
  obtain ⟨ds, h1, h2⟩ := trod_open fuel n t _ _ hg hwt h
  refine ⟨ds, h1, ?_⟩
  obtain ⟨g1, g2⟩ := RelDs.rel (φ := fun _ => none) (m := []) h2
  have one : (∀ cs, v ≠ .agg cs) → (∃ d r, ds = d :: r) → (∀ d r, ds = d :: r → RelV (cx0 w) (.d d) v) := fun hna _ d r e => by
    have hc : v.cells.toList = [v] := by cases v <;> first | rfl | exact absurd rfl (hna _)
    rw [hc] at h2
    subst e
    simp only [RelDs] at h2
    obtain ⟨u, us, e, _, hr, _⟩ := h2
    cases e
    simp only [RelV]
    exact hr
  cases n with
  | zero => simp [Ty] at h1
  | succ n =>
    simp only [Ty] at h1
    simp only [argV]
    cases hu : P.underlying t with
    | none => simp [hu] at h1
    | some dsc =>
      rw [hu] at h1
      have hnag : (∀ fs, dsc ≠ .struct fs) → (∀ m e, dsc ≠ .array m e) → ∀ cs, v ≠ .agg cs := fun h1 h2 cs hv => by
        subst hv
        simp only [Value.okWide, hu, Cell.okWide] at hval
        cases dsc <;> simp_all [Cell.ok]
      cases dsc with
      | bool => obtain ⟨b, rfl⟩ := h1; exact one (hnag (by simp) (by simp)) ⟨_, _, rfl⟩ _ _ rfl
      | int k => obtain ⟨b, rfl, _⟩ := h1; exact one (hnag (by simp) (by simp)) ⟨_, _, rfl⟩ _ _ rfl
      | string => obtain ⟨b, rfl, _⟩ := h1; exact one (hnag (by simp) (by simp)) ⟨_, _, rfl⟩ _ _ rfl
      | slice e =>
        rcases h1 with rfl | ⟨rows, rfl, _⟩
        · exact one (hnag (by simp) (by simp)) ⟨_, _, rfl⟩ _ _ rfl
        · exact one (hnag (by simp) (by simp)) ⟨_, _, rfl⟩ _ _ rfl
      | struct fs =>
        simp only [Value.okWide, hu] at hval
        obtain ⟨cs, rfl, _⟩ := hval
        simp only [RelV]
        exact ⟨cs.toList, rfl, g1, g2⟩
      | array m e =>
        simp only [Value.okWide, hu] at hval
        obtain ⟨cs, rfl, _⟩ := hval
        simp only [RelV]
        exact ⟨cs.toList, rfl, g1, g2⟩
      | _ => simp at h1
theorem open_args {n base : Nat} {r : Reach} : ∀ (ts : List TypeId) (vs : List Value) (ds : List (DataW H)) (ps : List MemPlace), (ts.all fun t => goodT P n t) = true →
    (∀ (j : Nat) t v, ts[j]? = some t → vs[j]? = some v → Value.okWide P w r base t v) → (∀ m, m ∈ DataW.weightsEach P ts ds → m ≤ 140737488351232) → DataW.TrodAll enc P w 0 (fun _ => true) true ts vs ds ps → ∃ rs, TyAll P n ts rs ∧ RelVs (cx0 w) (argsV P ts rs) vs
  | [], vs, ds, ps, _, _, _, h => by
    obtain ⟨rfl, _, _⟩ := trodAll_nil h
    exact ⟨[], rfl, by simp [argsV, RelVs]⟩
  | t :: ts, vs, ds, ps, hg, hval, hwt, h => by
    simp only [List.all_cons, Bool.and_eq_true] at hg
    obtain ⟨v, vs', d, ds', p, q, rfl, rfl, rfl, h1, h2⟩ := trodAll_cons h
    simp only [DataW.weightsEach, List.mem_append] at hwt
    obtain ⟨rs, g1, g2⟩ := open_args ts vs' ds' q hg.2 (fun j t v ht hv => hval (j + 1) t v (by simpa using ht) (by simpa using hv)) (fun m hm => hwt m (.inr hm)) h2
    obtain ⟨r0, k1, k2⟩ := open_arg hg.1 (hval 0 t v (by simp) (by simp)) (fun m hm => hwt m (.inl hm)) h1
    refine ⟨r0 :: rs, ⟨r0, rs, rfl, k1, g1⟩, ?_⟩
    simp only [argsV, RelVs]
    exact ⟨v, vs', rfl, k2, g2⟩
theorem weightsEach_app {ts' : List TypeId} {ds' : List (DataW H)} {m : Nat} : ∀ {ts : List TypeId} {ds : List (DataW H)}, m ∈ DataW.weightsEach P ts ds → m ∈ DataW.weightsEach P (ts ++ ts') (ds ++ ds')
  | t :: ts, d :: ds, h => by
    simp only [List.cons_append, DataW.weightsEach, List.mem_append] at h ⊢
    exact h.imp id weightsEach_app
  | [], _, h => by simp [DataW.weightsEach] at h
  | _ :: _, [], h => by simp [DataW.weightsEach] at h
theorem args_back (hl : laidOutB P = true) {W' : World} (hb : Below w.heap.size w W') : ∀ (ts : List TypeId) (vs : List Value) (ds : List (DataW H)) (ps : List MemPlace), (∀ t, t ∈ ts → P.readableRec t = true ∧ t < P.types.size) →
    (∀ x, x ∈ ps → x.block < w.heap.size) → DataW.TrodAll enc P w 0 (fun _ => true) true ts vs ds ps → DataW.TrodAll enc P W' 0 (fun b => decide (b < w.heap.size)) true ts vs ds ps
  | [], vs, ds, ps, _, _, h => by
    obtain ⟨rfl, rfl, rfl⟩ := trodAll_nil h
    exact trodAll_mk0
  | t :: ts, vs, ds, ps, hr, hlt, h => by
    obtain ⟨v, vs', d, ds', p, q, rfl, rfl, rfl, h1, h2⟩ := trodAll_cons h
    obtain ⟨g1, g2⟩ := hr t (by simp)
    exact trodAll_cons_mk (Below.trod hl g1 g2 h1 hb fun x hx => hlt x (List.mem_append_left _ hx)) (args_back hl hb ts vs' ds' q (fun t ht => hr t (by simp [ht])) (fun x hx => hlt x (List.mem_append_right _ hx)) h2)
theorem calls_law (hm : P.follows .mixedOrders = true) {E : Env} (hE : EnvOK P E) {f : FuncId} {args : List V} {vals : List Value} {k : Nat} {m' : Mem} (hgl : GlOK E (cx0 w)) (ha : RelVs (cx0 w) args vals) (h : callD E k f args [] = some ([.d (.bool true)], m')) :
    Calls P f ⟨vals⟩ w fun e w' => e = .returned (.bool true) ∧ Below w.heap.size w w' := by
  have hny : f ≠ yfn := by
    rintro rfl
    cases k with
    | zero => simp [callD] at h
    | succ k =>
      simp only [callD, if_true, runY] at h
      split at h
      · simp at h
      · cases h
  refine ((((callD_ok hE (draw_ok hm) k).1) f args [] _ m' h (cx0 w) vals (cx0_sim P w) rfl hgl ha).1 hny).2.mono ?_
  rintro e w' ⟨rv, c', rfl, rfl, _, hp, hr⟩
  refine ⟨?_, hp.keeps.os, hp.keeps.tape, hp.keeps.output, hp.keeps.size, fun b hb => ?_⟩
  · simp only [RelVs] at hr
    obtain ⟨u, us, rfl, hu, rfl⟩ := hr
    simp only [RelV, RelD] at hu
    rw [hu]; rfl
  · have hb' : ∃ o, w.heap[b]? = some o := ⟨w.heap[b], by simp [hb]⟩
    obtain ⟨o, ho⟩ := hb'
    rw [ho]
    exact hp.keeps.heap b o ho fun ⟨id, blk, h1, _⟩ => by simp [cx0] at h1
end
theorem law_lifted {C : Checked} (hm : C.prog.follows .mixedOrders = true) {E : Env} (hE : EnvOK C.prog E) (hgl : ∀ w, GlOK E (cx0 w)) {os : Os} {f : FuncId} {fn : Func} {s : ChangeSpec} {H : Type} {enc : TypeId × Value → H}
    (own : ownKnob C.prog.godebug = none) (started : os.Started) (noInit : C.prog.inits.idxOf? f = none) (hfn : C.prog.funcs[f]? = some fn) (hl : laidOutB C.prog = true)
    (witness : ∃ (w : World) (tape : Tape) (i : Input), w.os = os ∧ (w.forCall tape i).Shaped C.prog ∧ i.vars = [] ∧ Input.okWide C.prog (w.forCall tape i) .any w.heap.size f i ∧
      s.pre6 enc C.prog fn [] false (w.forCall tape i).memory i.args ∧ Assume.holds {} C.prog (lone (Frame.enter C.prog f i.args .normal) [] (w.forCall tape i)))
    (hgood : (fn.params.toList.all fun t => goodT C.prog 20 t && C.prog.readableRec t && decide (t < C.prog.types.size)) = true) {rt : TypeId} (hres : fn.resultTypes = #[rt]) (hrt : C.prog.underlying rt = some .bool)
    (hvars : s.vars = []) (hspec : ∀ ds : List (DataW H), ds.length = fn.params.toList.length → s.fn H ds = { results := [.lit (.bool true)], args := ds })
    (hlaw : ∀ rs, TyAll C.prog 20 fn.params.toList rs → ∃ k m', callD E k f (argsV C.prog fn.params.toList rs) [] = some ([.d (.bool true)], m')) :
    ReturnsInHanded {} C os f .any (s.pre6 enc C.prog fn [] false) (s.post enc C.prog fn false true false false) := by
  refine returnsInHanded_of_change_sized own started noInit hfn witness ?_
  intro W base args ds gs before hval hW _ hsz _
  have hW' := hW
  obtain ⟨p, q, hA, hV, rfl, hfz, hnd⟩ := hW
  rw [hvars] at hV
  obtain ⟨rfl, rfl⟩ := trodVars_none hV
  have hgd : ∀ t, t ∈ fn.params.toList → goodT C.prog 20 t = true ∧ C.prog.readableRec t = true ∧ t < C.prog.types.size := fun t ht => by
    have := List.all_eq_true.1 hgood t ht
    simpa [Bool.and_eq_true, and_assoc] using this
  obtain ⟨rs, h1, h2⟩ := open_args (n := 20) fn.params.toList args.toList ds p (List.all_eq_true.2 fun t ht => (hgd t ht).1) (fun j t v ht hv => hval j t v (by simpa using ht) (by simpa using hv)) (fun m hm => of_decide_eq_true (List.all_eq_true.1 hsz m (weightsEach_app hm))) hA
  obtain ⟨k, m', hk⟩ := hlaw rs h1
  refine (calls_law hm hE (hgl W) h2 hk).mono fun e W' ⟨he, bel⟩ => ?_
  subst he
  have hlen : ds.length = fn.params.toList.length := by
    have : ∀ (ts : List TypeId) (vs : List Value) (ds : List (DataW H)) (ps : List MemPlace), DataW.TrodAll enc C.prog W 0 (fun _ => true) true ts vs ds ps → ds.length = ts.length := by
      intro ts
      induction ts with
      | nil => intro vs ds ps h; obtain ⟨_, rfl, _⟩ := trodAll_nil h; rfl
      | cons t ts ih => intro vs ds ps h; obtain ⟨v, vs', d, ds', p, q, rfl, rfl, rfl, _, h2⟩ := trodAll_cons h; simp [ih _ _ _ h2]
    exact this _ _ _ _ hA
  have hs := hspec ds hlen
  refine ⟨_, rfl, ds, [], _, [], p, [], hW', ?_, ?_, ?_, bel.frame _, fun h => by cases h⟩
  · rw [List.append_nil, hs, hres]
    exact trodAll_mk1 (shut_bool hrt _)
  · rw [List.append_nil, hs]
    exact args_back hl bel _ _ _ _ (fun t ht => (hgd t ht).2) (fun x hx => by simpa using hW'.lt x (by simpa using hx)) hA
  · rw [hvars, List.append_nil, hs]; rfl
section
variable {P : Program} {n : Nat} {t : TypeId} {ds : List D}
theorem ty_bool (h : Ty P (n + 1) t ds) (hu : P.underlying t = some .bool) : ∃ b, ds = [.bool b] := by simpa only [Ty, hu] using h
theorem ty_int {k : IntKind} (h : Ty P (n + 1) t ds) (hu : P.underlying t = some (.int k)) : ∃ z, ds = [.int k z] ∧ (Lit.int k z).wf = true := by simpa only [Ty, hu] using h
theorem ty_str (h : Ty P (n + 1) t ds) (hu : P.underlying t = some .string) : ∃ s, ds = [.str s] ∧ s.size ≤ 140737488351232 := by simpa only [Ty, hu] using h
theorem ty_slice {e : TypeId} (h : Ty P (n + 1) t ds) (hu : P.underlying t = some (.slice e)) : ds = [.nils] ∨ ∃ rows, ds = [.rs (isFlat P e) (P.cellsOf e) rows false] ∧ rows.length ≤ maxLen ∧ rows.length * P.bytesOf e ≤ 140737488351232 ∧ ∀ r, r ∈ rows → Ty P n e r := by simpa only [Ty, hu] using h
theorem ty_struct {fs : Array Field} (h : Ty P (n + 1) t ds) (hu : P.underlying t = some (.struct fs)) : TyFs (Ty P n) fs.toList ds := by simpa only [Ty, hu] using h
theorem ty_arr {m : Nat} {e : TypeId} (h : Ty P (n + 1) t ds) (hu : P.underlying t = some (.array m e)) : ∃ rows : List (List D), rows.length = m ∧ ds = rows.flatten ∧ ∀ r, r ∈ rows → Ty P n e r := by simpa only [Ty, hu] using h
theorem tyfs_nil {T : TypeId → List D → Prop} (h : TyFs T [] ds) : ds = [] := h
theorem tyfs_cons {T : TypeId → List D → Prop} {f : Field} {fs : List Field} (h : TyFs T (f :: fs) ds) : ∃ a b, ds = a ++ b ∧ T f.type a ∧ TyFs T fs b := h
end
end Go.Proofs.Ytdlhhoejnhjbhaa.Den

namespace Go.Proofs.Ytdlhhoejnhjbhaa.Den
open Go
set_option linter.unusedVariables false
set_option linter.unusedSimpArgs false
inductive A (E : Env) : Type where
  | b {x c : Bool} (h : x = c)
  | c {f : FuncId} {args : List V} {m : Mem} {rs : List V} {m' : Mem} (h : cl E f args m = some (rs, m'))
  | l {g : List V × Mem → Option (X × (List V × Mem))} {h0 : List V × Mem} {x : X} {h' : List V × Mem} (h : loopG g bound h0 = some (x, h'))
  | s {f : S → Option (X × S)} {lv lx ln : List Nat} {k : Nat} {h0 : List V × Mem} {x : X} {h' : List V × Mem} (h : segG f lv lx ln k h0 = some (x, h'))
  | e {u u' : V} (h : u = u')
  | y {mm : Mem} {args args1 : List V} (h : V.byvals mm args = args1)
  | o (d : Nat) {i : I} {v : V} (h : ∀ m, doI E (cl E) i (fun _ => .un) m = some (v, m))
  | m (d : Nat) {i : I} {m : Mem} {v : V} {m' : Mem} (h : doI E (cl E) i (fun _ => .un) m = some (v, m'))
abbrev A.k {E : Env} (c : Bool) : A E := .b (x := c) (c := c) rfl
def A.prop {E : Env} : A E → Prop
  | @A.b _ x w _ => x = w
  | @A.c _ f args mm rs m' _ => cl E f args mm = some (rs, m')
  | @A.l _ g h0 x h' _ => loopG g bound h0 = some (x, h')
  | @A.s _ f lv lx ln k h0 x h' _ => segG f lv lx ln k h0 = some (x, h')
  | @A.e _ u u' _ => u = u'
  | @A.y _ mm args args1 _ => V.byvals mm args = args1
  | @A.o _ _ i v _ => ∀ mm, doI E (cl E) i (fun _ => .un) mm = some (v, mm)
  | @A.m _ _ i mm v m' _ => doI E (cl E) i (fun _ => .un) mm = some (v, m')
theorem A.holds {E : Env} : ∀ (a : A E), a.prop
  | .b h => h
  | .c h => h
  | .l h => h
  | .s h => h
  | .e h => h
  | .y h => h
  | .o _ h => h
  | .m _ h => h
structure W (E : Env) where
  t : List (Nat × V × Bool)
  d : V
  m : Mem
  os : List (A E)
  qs : List Prop
def lookW (d : V) : List (Nat × V × Bool) → Nat → V × Bool
  | [], _ => (d, false)
  | (i, x) :: r, j => match Nat.beq j i with | true => x | false => lookW d r j
noncomputable section
variable {E : Env}
def W.tOf (w : W E) : Nat → V := fun j => (lookW w.d w.t j).1
def knW (w : W E) : O → Option Bool
  | .v (.d (.bool c)) => some c
  | .t i => match lookW w.d w.t i with
    | (.d (.bool c), true) => some c
    | _ => none
  | _ => none
def isK : Option Bool → Bool
  | some _ => true
  | none => false
def testW (o : O) (w : W E) : Option (Bool × W E) :=
  match knW w o with
  | some c => some (c, w)
  | none => match ev E w.tOf o with
    | .d (.bool x) => match w.os with
      | @A.b _ _ c _ :: r => some (c, ⟨(match o with | .t j => (j, .d (.bool c), true) :: w.t | _ => w.t), w.d, w.m, r, (x = c) :: w.qs⟩)
      | _ => none
    | _ => none
def callPre (args args1 : List V) (m : Mem) : Option (List Nat × Bool × List V × Mem) :=
  match distinct (reach m 1000 (V.idss args1) []) && (V.slidss args).all (fun i => !(reach m 1000 (V.idss args1) []).contains i) with
  | true => match pickBlks m (idxOf (reach m 1000 (V.idss args1) [])) (reach m 1000 (V.idss args1) []) with
    | some mc => some (reach m 1000 (V.idss args1) [], (V.slidss args).isEmpty, V.rens (idxOf (reach m 1000 (V.idss args1) [])) args1, mc)
    | none => none
  | false => none
def callPost (m : Mem) (ids : List Nat) (e : Bool) (rs : List V) (m' : Mem) : Option (List V × Mem) :=
  match e || (V.noRss rs && m'.all Blk.noRs) with
  | true => match layBack m' (backRen ids m.length) 0 ids m with
    | some m1 => some (V.rens (backRen ids m.length) rs, m1 ++ restBlks m' (backRen ids m.length) ids.length)
    | none => none
  | false => none
theorem callV_pre {call : CallT} {f : FuncId} {args : List V} {m : Mem} {ids : List Nat} {e : Bool} {a : List V} {mc : Mem} {rs : List V} {m' : Mem} {r : List V × Mem} {args1 : List V} (h0 : V.byvals m args = args1) (h1 : callPre args args1 m = some (ids, e, a, mc)) (h2 : call f a mc = some (rs, m')) (h3 : callPost m ids e rs m' = some r) :
    callV call f args m = some r := by
  subst h0
  unfold callPre at h1
  split at h1
  · rename_i hc
    split at h1
    · rename_i mc' hp
      cases h1
      simp only [callV]
      rw [if_pos hc, hp, Option.bind_some, h2, Option.bind_some]
      unfold callPost at h3
      split at h3
      · rename_i he
        rw [if_pos he]
        split at h3
        · rename_i m1 hl
          simp only [hl, Option.map_some]; exact h3
        · cases h3
      · cases h3
    · cases h1
  · cases h1
def I.mapO (f : O → O) : I → I
  | .mov x => .mov (f x)
  | .pick c a b => .pick (f c) (f a) (f b)
  | .alloc e z fl => .alloc e z fl
  | .nsl e fl s => .nsl e fl s
  | .allocn t e fl s => .allocn t e fl s
  | .box e fl s x => .box e fl s (f x)
  | .build z parts => .build z (parts.map fun p => (p.1, p.2.1, f p.2.2))
  | .bslice e fl s n z parts => .bslice e fl s n z (parts.map fun p => (p.1, f p.2))
  | .load g s x => .load g s (f x)
  | .store s x v => .store s (f x) (f v)
  | .nilck x => .nilck (f x)
  | .bin op x y => .bin op (f x) (f y)
  | .beq k n x y => .beq k n (f x) (f y)
  | .unop op x => .unop op (f x)
  | .conv k x => .conv k (f x)
  | .mkfn g a b => .mkfn g (a.map f) (b.map f)
  | .mkif t x => .mkif t (f x)
  | .mksl e fl z b l c => .mksl e fl z b (f l) (f c)
  | .slice s x lo hi mz => .slice s (f x) (lo.map f) (hi.map f) (mz.map f)
  | .slstr x lo hi => .slstr (f x) (lo.map f) (hi.map f)
  | .slarr n s x lo hi mz => .slarr n s (f x) (lo.map f) (hi.map f) (mz.map f)
  | .fieldA o x => .fieldA o (f x)
  | .field g o s x => .field g o s (f x)
  | .idxA s x i => .idxA s (f x) (f i)
  | .idxAA n s x i => .idxAA n s (f x) (f i)
  | .idx g n s x i => .idx g n s (f x) (f i)
  | .idxs x i => .idxs (f x) (f i)
  | .arrP n s x => .arrP n s (f x)
  | .extract i x => .extract i (f x)
  | .call g args => .call (f g) (args.map f)
  | .inv tbl x args => .inv tbl (f x) (args.map f)
  | .len x => .len (f x)
  | .lens x => .lens (f x)
  | .lenc n => .lenc n
  | .append e fl s b x y => .append e fl s b (f x) (f y)
  | .copy s x y => .copy s (f x) (f y)
  | .mx xs => .mx (xs.map f)
  | .mn xs => .mn (xs.map f)
  | .chk a x b y => .chk a (f x) b (f y)
  | .del g x i j => .del g (f x) (f i) (f j)
def subO (E : Env) (t : Nat → V) (o : O) : O := .v (ev E t o)
theorem evs_sub (t u : Nat → V) (l : List O) : evs E u (l.map (subO E t)) = evs E t l := by simp [evs, subO, ev, Function.comp_def]
theorem fillV_sub (t u : Nat → V) : ∀ (l : List (Nat × Nat × O)) (cs : List V), fillV E u (l.map fun p => (p.1, p.2.1, subO E t p.2.2)) cs = fillV E t l cs
  | [], _ => rfl
  | (a, b, x) :: r, cs => by simp only [List.map_cons, fillV, subO, ev]; rw [← fillV_sub t u r]; rfl
theorem fillRows_sub (t u : Nat → V) (s : Nat) : ∀ (l : List (Nat × O)) (cs : List (List V)), fillRows E u s (l.map fun p => (p.1, subO E t p.2)) cs = fillRows E t s l cs
  | [], _ => rfl
  | (a, x) :: r, cs => by simp only [List.map_cons, fillRows, subO, ev]; rw [← fillRows_sub t u s r]; rfl
theorem optNat_sub (t u : Nat → V) (o : Option O) (d : Nat) : optNat E u (o.map (subO E t)) d = optNat E t o d := by cases o <;> rfl
theorem doI_sub (call : CallT) (i : I) (t u : Nat → V) (m : Mem) : doI E call (i.mapO (subO E t)) u m = doI E call i t m := by
  cases i <;> simp only [I.mapO, doI, evs_sub, fillV_sub, fillRows_sub, optNat_sub] <;> try rfl
  case slice s x lo hi mx => cases mx <;> rfl
  case slarr n s x lo hi mx => cases mx <;> rfl
def keyOf (dst : Option Nat) (i : I) : Option Nat :=
  match dst with
  | some d => some d
  | none => match i with
    | .store _ (.t j) _ => some (j + 100000)
    | .copy _ (.t j) _ => some (j + 200000)
    | _ => none
def callW (g : FuncId) (args : List V) (mm : Mem) (os : List (A E)) : Option (List V × Mem × List (A E) × List Prop) :=
  match os with
  | @A.y _ _ _ args1 _ :: @A.c _ _ _ _ rs m' _ :: r => match callPre args args1 mm with
    | some (ids, e, a, mc) => match callPost mm ids e rs m' with
      | some (rs', m1) => some (rs', m1, r, [cl E g a mc = some (rs, m'), V.byvals mm args = args1])
      | none => none
    | none => none
  | @A.c _ _ _ _ rs m' _ :: r => match callPre args (V.byvals mm args) mm with
    | some (ids, e, a, mc) => match callPost mm ids e rs m' with
      | some (rs', m1) => some (rs', m1, r, [cl E g a mc = some (rs, m')])
      | none => none
    | none => none
  | _ => none
def stepW (q : Bool) (dst : Option Nat) (i : I) (w : W E) : Option (V × Bool × W E) :=
  match i with
  | .mov x => some (ev E w.tOf x, isK (knW w x), w)
  | .pick c a b => match testW c w with
    | some (true, w') => some (ev E w.tOf a, isK (knW w a), w')
    | some (false, w') => some (ev E w.tOf b, isK (knW w b), w')
    | none => none
  | .unop .not x => match ev E w.tOf x with
    | .d (.bool b) => some (.d (.bool !b), isK (knW w x), w)
    | _ => none
  | .call f args => match ev E w.tOf f with
    | .fn (.func g) first cap => match Nat.beq g yfn with
      | true => none
      | false => match callW g (first ++ evs E w.tOf args ++ cap) (mq q w.m) w.os with
        | some (rs', m1, r, ps) => some (packV rs', false, ⟨w.t, w.d, rq q w.m m1, r, ps ++ w.qs⟩)
        | none => none
    | .yl id => match callW yfn (.yl id :: evs E w.tOf args) (mq q w.m) w.os with
      | some (rs', m1, r, ps) => some (packV rs', false, ⟨w.t, w.d, rq q w.m m1, r, ps ++ w.qs⟩)
      | none => none
    | _ => none
  | .inv tbl x args => match ev E w.tOf x with
    | .ifc ty v => match lookM tbl ty with
      | some g => match Nat.beq g yfn with
        | true => none
        | false => match callW g ([v] ++ evs E w.tOf args ++ []) (mq q w.m) w.os with
          | some (rs', m1, r, ps) => some (packV rs', false, ⟨w.t, w.d, rq q w.m m1, r, ps ++ w.qs⟩)
          | none => none
      | none => none
    | _ => none
  | i => match (match w.os with
      | @A.o _ d _ v _ :: r => (match keyOf dst i with
        | some d' => (match Nat.beq d d' with | true => some (v, w.m, r, ∀ m, doI E (cl E) (i.mapO (subO E w.tOf)) (fun _ => .un) m = some (v, m)) | false => none)
        | none => none)
      | @A.m _ d _ _ v m' _ :: r => (match keyOf dst i with
        | some d' => (match Nat.beq d d' with | true => some (v, rq q w.m m', r, doI E (cl E) (i.mapO (subO E w.tOf)) (fun _ => .un) (mq q w.m) = some (v, m')) | false => none)
        | none => none)
      | _ => none : Option (V × Mem × List (A E) × Prop)) with
    | some (v, m', r, p) => some (v, false, ⟨w.t, w.d, m', r, p :: w.qs⟩)
    | none => match doI E (fun _ _ _ => none) i w.tOf (mq q w.m) with
      | some (v, m') => some (v, false, ⟨w.t, w.d, rq q w.m m', w.os, w.qs⟩)
      | none => none
def putW (w : W E) (d : Option Nat) (v : V) (k : Bool) : W E :=
  match d with
  | some i => ⟨(i, v, k) :: w.t, w.d, w.m, w.os, w.qs⟩
  | none => w
def guardW (g : Option (Nat × Bool)) (w : W E) : Option (Bool × W E) :=
  match g with
  | none => some (true, w)
  | some (j, want) => match w.tOf j with
    | .tup [] => some (false, w)
    | _ => match testW (.t j) w with
      | some (c, w') => some (c == want, w')
      | none => none
def opsW (q : Bool) : List OpC → W E → Option (W E)
  | [], w => some w
  | o :: r, w => match guardW o.guard w with
    | some (true, w1) => match stepW q o.dst o.ins w1 with
      | some (v, k, w2) => opsW q r (putW w2 o.dst v k)
      | none => none
    | some (false, w1) => opsW q r (putW w1 o.dst (.tup []) false)
    | none => none
def op1W (q : Bool) (o : OpC) (w : W E) : Option (W E) :=
  match guardW o.guard w with
  | some (true, w1) => match stepW (qOf q o.ins) o.dst o.ins w1 with
    | some (v, k, w2) => some (putW w2 o.dst v k)
    | none => none
  | some (false, w1) => some (putW w1 o.dst (.tup []) false)
  | none => none
def traceW (qf : List Bool) : Nat → List OpC → W E → Option (List (W E))
  | _, [], w => some [w]
  | k, o :: r, w => match op1W (qf.getD k false) o w with
    | some w1 => match traceW qf (k + 1) r w1 with
      | some l => some (w :: l)
      | none => none
    | none => none
def W.st (w : W E) : S := ⟨w.tOf, w.m⟩
def atW (tr : List (W E)) (k : Nat) : S := match tr[k]? with | some w => w.st | none => S.nil
def pairW (r : Option (Option (V × V))) (w : W E) : Option (W E) :=
  match r with
  | some none => some w
  | some (some (a, b)) => match w.os with
    | @A.e _ _ _ _ :: r => some ⟨w.t, w.d, w.m, r, (a = b) :: w.qs⟩
    | _ => none
  | none => none
def pairsW (E : Env) (l : List OpC) (qf : List Bool) (at_ : Nat → S) (k : Nat) : List Nat → W E → Option (W E)
  | [], w => some w
  | i :: r, w => match pairW (pairN E (qf.getD i false) (qf.getD k false) (opAt' l i) (opAt' l k) (at_ i) (at_ (i + 1)) (at_ k) (at_ (k + 1))) w with
    | some w1 => pairsW E l qf at_ k r w1
    | none => none
def mixW (E : Env) (l : List OpC) (un : List (List Nat)) (qf : List Bool) (at_ : Nat → S) : List Nat → W E → Option (W E)
  | [], w => some w
  | k :: r, w => match strictB E (qf.getD k false) (opAt' l k) (at_ k) (at_ (k + 1)) with
    | true => match pairsW E l qf at_ k (un.getD k []) w with
      | some w1 => mixW E l un qf at_ r w1
      | none => none
    | false => none
def zipW : List Nat → List V → List (Nat × V × Bool)
  | i :: l, v :: r => (i, v, false) :: zipW l r
  | _, _ => []
def walkC : C → W E → Option (X × W E)
  | .skip, w => some (.normal, w)
  | .reg qs ts, w => match opsW true qs w with
    | some w1 => match opsW false ts w1 with
      | some w2 => some (.normal, w2)
      | none => none
    | none => none
  | .mix l un qf, w => match traceW qf 0 l w with
    | some tr => match tr[l.length]? with
      | some w1 => match mixW E l un qf (atW tr) (List.range l.length) w1 with
        | some w2 => some (.normal, w2)
        | none => none
      | none => none
    | none => none
  | .seq a b, w => match walkC a w with
    | some (.normal, w') => walkC b w'
    | r => r
  | .cond c a b, w => match testW c w with
    | some (true, w') => walkC a w'
    | some (false, w') => walkC b w'
    | none => none
  | .block id b, w => match walkC b w with
    | some (.exit i, w') => match Nat.beq i id with | true => some (.normal, w') | false => some (.exit i, w')
    | r => r
  | .loop lv lx b, w => match w.os with
    | @A.l _ _ _ x h' _ :: r => some (x, ⟨zipW lx h'.1, .un, h'.2, r, (loopG (roundG (runC E (cl E) b) lv lx w.m.length) bound (lv.map w.tOf, w.m) = some (x, h')) :: w.qs⟩)
    | _ => none
  | .rfun nt lv f ps a b, w => match ev E w.tOf f with
    | .fn (.func g) first cap => match Nat.beq g yfn with
      | true => none
      | false => match callW g (first ++ [.yl w.m.length] ++ cap) (w.m ++ [.loop .ready none ((List.range nt).map (look lv (lv.map w.tOf))) ps a b false]) w.os with
        | some (_, m2, r, qs) => match m2[w.m.length]? with
          | some (.loop .ready none ts zs a' b' false) => some (.normal, ⟨w.t, w.d, m2.set w.m.length (.loop .exhausted none ts zs a' b' false), r, qs ++ w.qs⟩)
          | some (.loop .done (some .ret) ts zs a' b' false) => some (.ret, ⟨w.t, w.d, m2.set w.m.length (.loop .exhausted (some .ret) ts zs a' b' false), r, qs ++ w.qs⟩)
          | some (.loop .done (some (.exit i)) ts zs a' b' false) => some (.exit i, ⟨w.t, w.d, m2.set w.m.length (.loop .exhausted (some (.exit i)) ts zs a' b' false), r, qs ++ w.qs⟩)
          | _ => none
        | none => none
    | _ => none
  | .seq1 a b, w => match walkC a w with
    | some (.normal, w') => walkC b w'
    | r => r
  | .cut lv lx ln a b, w => match w.os with
    | @A.s _ _ _ _ _ _ _ x h' _ :: r => match x with
      | .normal => walkC b ⟨zipW ln h'.1, .un, h'.2, r, (segG (runC E (cl E) a) lv lx ln w.m.length (lv.map w.tOf, w.m) = some (.normal, h')) :: w.qs⟩
      | x => some (x, ⟨zipW lx h'.1, .un, h'.2, r, (segG (runC E (cl E) a) lv lx ln w.m.length (lv.map w.tOf, w.m) = some (x, h')) :: w.qs⟩)
    | _ => none
  | .exit id, w => some (.exit id, w)
  | .scope b, w => walkC b w
  | .ret, w => some (.ret, w)
theorem lookW_cons {d : V} {i : Nat} {x : V × Bool} {r : List (Nat × V × Bool)} (j : Nat) : lookW d ((i, x) :: r) j = if j = i then x else lookW d r j := by
  simp only [lookW]
  by_cases h : j = i
  · subst h; simp
  · have : Nat.beq j i = false := by
      cases hb : Nat.beq j i with
      | true => exact absurd (Nat.eq_of_beq_eq_true hb) h
      | false => rfl
    simp [this, h]
theorem knW_ev {w : W E} {o : O} {c : Bool} (h : knW w o = some c) : ev E w.tOf o = .d (.bool c) := by
  unfold knW at h
  split at h
  · cases h; rfl
  · split at h
    · rename_i e; cases h; simp only [ev, W.tOf, e]
    · cases h
  · cases h
def W.fine (w : W E) : Prop := ∀ p, p ∈ w.qs → p
theorem testW_sub {o : O} {w w' : W E} {c : Bool} (h : testW o w = some (c, w')) : w'.m = w.m ∧ ∀ p, p ∈ w.qs → p ∈ w'.qs := by
  unfold testW at h
  split at h
  · cases h; exact ⟨rfl, fun _ h => h⟩
  · split at h
    · split at h
      · cases h; exact ⟨rfl, fun p hp => List.mem_cons_of_mem _ hp⟩
      · cases h
    · cases h
theorem testW_ok {o : O} {w w' : W E} {c : Bool} (h : testW o w = some (c, w')) (hf : w'.fine) : ev E w.tOf o = .d (.bool c) ∧ w'.tOf = w.tOf := by
  unfold testW at h
  split at h
  · rename_i hk; cases h; exact ⟨knW_ev hk, rfl⟩
  · split at h
    · rename_i x he
      split at h
      · rename_i c0 _ r _
        cases h
        have hx : x = c := hf _ (by simp)
        subst hx
        refine ⟨he, ?_⟩
        cases o with
        | t j =>
          funext i
          simp only [W.tOf, lookW_cons]
          by_cases e : i = j
          · subst e; rw [if_pos rfl]; exact he.symm
          · rw [if_neg e]
        | v x => rfl
        | g x => rfl
      · cases h
    · cases h
theorem rq_eq (q : Bool) (m : Mem) (i : I) (t : Nat → V) (v : V) (m' : Mem) (h : doI E (cl E) i t (mq q m) = some (v, m')) : (match q with | true => doQ E (cl E) | false => doI E (cl E)) i t m = some (v, rq q m m') := by
  cases q with
  | true => simp only [doQ, mq, rq] at h ⊢; rw [h]; rfl
  | false => simpa only [mq, rq] using h
theorem none_le (c : CallT) : Le (fun _ _ _ => none) c := fun _ _ _ _ h => by cases h
abbrev stepOf (E : Env) (q : Bool) : I → (Nat → V) → Mem → Option (V × Mem) := match q with | true => doQ E (cl E) | false => doI E (cl E)
theorem callW_ok {g : FuncId} {args : List V} {mm : Mem} {os r : List (A E)} {rs : List V} {m1 : Mem} {ps : List Prop} (h : callW g args mm os = some (rs, m1, r, ps)) (hf : ∀ p, p ∈ ps → p) : callV (cl E) g args mm = some (rs, m1) := by
  unfold callW at h
  split at h
  · rename_i args1 hv _ _ _ rs0 m' hcl r0
    split at h
    · rename_i ids e a mc hpre
      split at h
      · rename_i rs' m1' hpost
        cases h
        have hc : cl E g a mc = some (rs0, m') := hf _ (by simp)
        have hb : V.byvals mm args = args1 := hf _ (by simp)
        exact callV_pre hb hpre hc hpost
      · cases h
    · cases h
  · rename_i rs0 m' hcl r0
    split at h
    · rename_i ids e a mc hpre
      split at h
      · rename_i rs' m1' hpost
        cases h
        have hc : cl E g a mc = some (rs0, m') := hf _ (by simp)
        exact callV_pre rfl hpre hc hpost
      · cases h
    · cases h
  · cases h
theorem stepW_sub {q : Bool} {dst : Option Nat} {i : I} {w w' : W E} {v : V} {k : Bool} (h : stepW q dst i w = some (v, k, w')) : ∀ p, p ∈ w.qs → p ∈ w'.qs := by
  unfold stepW at h
  split at h
  · cases h; exact fun _ h => h
  · split at h
    · rename_i ht; cases h; exact (testW_sub ht).2
    · rename_i ht; cases h; exact (testW_sub ht).2
    · cases h
  · split at h
    · cases h; exact fun _ h => h
    · cases h
  · split at h
    · split at h
      · cases h
      · split at h
        · cases h; exact fun p hp => List.mem_append_right _ hp
        · cases h
    · split at h
      · cases h; exact fun p hp => List.mem_append_right _ hp
      · cases h
    · cases h
  · split at h
    · split at h
      · split at h
        · cases h
        · split at h
          · cases h; exact fun p hp => List.mem_append_right _ hp
          · cases h
      · cases h
    · cases h
  · split at h
    · cases h; exact fun p hp => List.mem_cons_of_mem _ hp
    · split at h
      · cases h; exact fun _ h => h
      · cases h
theorem pure_step {q : Bool} {i : I} {t : Nat → V} {m : Mem} {v : V} (h : ∀ m, doI E (cl E) i t m = some (v, m)) : stepOf E q i t m = some (v, m) := by
  cases q with
  | true => simp only [stepOf, doQ, h, Option.map_some, restore]; simp
  | false => simp only [stepOf, h]
theorem stepW_ok {q : Bool} {dst : Option Nat} {i : I} {w w' : W E} {v : V} {k : Bool} (h : stepW q dst i w = some (v, k, w')) (hf : w'.fine) : stepOf E q i w.tOf w.m = some (v, w'.m) ∧ w'.tOf = w.tOf := by
  unfold stepW at h
  split at h
  · cases h; exact ⟨pure_step fun m => rfl, rfl⟩
  · split at h
    · rename_i ht; cases h
      obtain ⟨h1, h2⟩ := testW_ok ht hf
      exact ⟨by rw [(testW_sub ht).1]; exact pure_step fun m => by simp only [doI, h1], h2⟩
    · rename_i ht; cases h
      obtain ⟨h1, h2⟩ := testW_ok ht hf
      exact ⟨by rw [(testW_sub ht).1]; exact pure_step fun m => by simp only [doI, h1], h2⟩
    · cases h
  · split at h
    · rename_i he; cases h; exact ⟨pure_step fun m => by simp only [doI, he, unV, Option.map_some], rfl⟩
    · cases h
  · rename_i f0 args0
    split at h
    · rename_i g first cap hfn
      split at h
      · cases h
      rename_i hbq
      have hny : g ≠ yfn := fun e => by rw [e, Nat.beq_refl] at hbq; cases hbq
      split at h
      · rename_i rs' m1 r ps hc
        cases h
        refine ⟨?_, rfl⟩
        refine rq_eq q w.m _ _ _ _ ?_
        simp only [doI, hfn, callOf]
        rw [if_neg hny, callW_ok hc (fun p hp => hf p (List.mem_append_left _ hp))]; rfl
      · cases h
    · rename_i id hfn
      split at h
      · rename_i rs' m1 r ps hc
        cases h
        refine ⟨?_, rfl⟩
        refine rq_eq q w.m _ _ _ _ ?_
        simp only [doI, hfn, callOf]
        rw [callW_ok hc (fun p hp => hf p (List.mem_append_left _ hp))]; rfl
      · cases h
    · cases h
  · split at h
    · rename_i ty u hx
      split at h
      · rename_i g hg
        split at h
        · cases h
        rename_i hbq
        have hny : g ≠ yfn := fun e => by rw [e, Nat.beq_refl] at hbq; cases hbq
        split at h
        · rename_i rs' m1 r ps hc
          cases h
          refine ⟨?_, rfl⟩
          refine rq_eq q w.m _ _ _ _ ?_
          simp only [doI, hx, hg, callOf]
          rw [if_neg hny, callW_ok hc (fun p hp => hf p (List.mem_append_left _ hp))]; rfl
        · cases h
      · cases h
    · cases h
  · split at h
    · rename_i v' m' r pp hx
      cases h
      have hd : pp := hf _ (List.mem_cons_self ..)
      refine ⟨?_, rfl⟩
      split at hx
      · split at hx
        · split at hx
          · cases hx
            exact pure_step fun m => by have := hd m; rw [doI_sub] at this; exact this
          · cases hx
        · cases hx
      · split at hx
        · split at hx
          · cases hx
            refine rq_eq q w.m _ _ _ _ ?_
            rw [doI_sub] at hd; exact hd
          · cases hx
        · cases hx
      · cases hx
    · split at h
      · rename_i v' m' hd
        cases h
        exact ⟨rq_eq q w.m _ _ _ _ (doI_mono (none_le _) hd), rfl⟩
      · cases h
theorem putW_tOf {w : W E} {d : Option Nat} {v : V} {k : Bool} : (putW w d v k).tOf = putT w.tOf d v ∧ (putW w d v k).m = w.m ∧ (putW w d v k).qs = w.qs := by
  cases d with
  | none => exact ⟨rfl, rfl, rfl⟩
  | some i =>
    refine ⟨?_, rfl, rfl⟩
    funext j
    simp only [putW, W.tOf, putT, upd, lookW_cons]
    split <;> rfl
theorem guardW_sub {g : Option (Nat × Bool)} {w w' : W E} {b : Bool} (h : guardW g w = some (b, w')) : w'.m = w.m ∧ ∀ p, p ∈ w.qs → p ∈ w'.qs := by
  unfold guardW at h
  split at h
  · cases h; exact ⟨rfl, fun _ h => h⟩
  · split at h
    · cases h; exact ⟨rfl, fun _ h => h⟩
    · split at h
      · rename_i ht; cases h; exact testW_sub ht
      · cases h
theorem guardW_ok {g : Option (Nat × Bool)} {w w' : W E} {b : Bool} (h : guardW g w = some (b, w')) (hf : w'.fine) : wantedC g w.tOf = some b ∧ w'.tOf = w.tOf := by
  unfold guardW at h
  split at h
  · cases h; exact ⟨rfl, rfl⟩
  · rename_i j want
    split at h
    · rename_i e; cases h; exact ⟨by simp only [wantedC, e], rfl⟩
    · split at h
      · rename_i c w1 ht; cases h
        obtain ⟨h1, h2⟩ := testW_ok ht hf
        simp only [ev] at h1
        exact ⟨by simp only [wantedC, h1], h2⟩
      · cases h
theorem opsW_sub {q : Bool} : ∀ {l : List OpC} {w w' : W E}, opsW q l w = some w' → ∀ p, p ∈ w.qs → p ∈ w'.qs
  | [], w, w', h => by simp only [opsW] at h; cases h; exact fun _ h => h
  | o :: l, w, w', h => by
    simp only [opsW] at h
    split at h
    · rename_i w1 hg
      split at h
      · rename_i v k w2 hs
        intro p hp
        exact opsW_sub h p (by rw [putW_tOf.2.2]; exact stepW_sub hs p ((guardW_sub hg).2 p hp))
      · cases h
    · rename_i w1 hg
      intro p hp
      exact opsW_sub h p (by rw [putW_tOf.2.2]; exact (guardW_sub hg).2 p hp)
    · cases h
theorem opsW_ok {q : Bool} : ∀ {l : List OpC} {w w' : W E}, opsW q l w = some w' → w'.fine → opsC (stepOf E q) l ⟨w.tOf, w.m⟩ = some ⟨w'.tOf, w'.m⟩
  | [], w, w', h, _ => by simp only [opsW] at h; cases h; rfl
  | o :: l, w, w', h, hf => by
    simp only [opsW] at h
    split at h
    · rename_i w1 hg
      split at h
      · rename_i v k w2 hs
        have hsub := opsW_sub h
        have hf2 : w2.fine := fun p hp => hf p (hsub p (by rw [putW_tOf.2.2]; exact hp))
        have hf1 : w1.fine := fun p hp => hf2 p (stepW_sub hs p hp)
        obtain ⟨g1, g2⟩ := guardW_ok hg hf1
        obtain ⟨s1, s2⟩ := stepW_ok hs hf2
        have ih := opsW_ok h hf
        rw [putW_tOf.1, putW_tOf.2.1] at ih
        simp only [opsC, g1]
        rw [g2, (guardW_sub hg).1] at s1
        simp only [s1]
        rw [← g2, ← s2]; exact ih
      · cases h
    · rename_i w1 hg
      have hsub := opsW_sub h
      have hf1 : w1.fine := fun p hp => hf p (hsub p (by rw [putW_tOf.2.2]; exact hp))
      obtain ⟨g1, g2⟩ := guardW_ok hg hf1
      have ih := opsW_ok h hf
      rw [putW_tOf.1, putW_tOf.2.1, g2, (guardW_sub hg).1] at ih
      simp only [opsC, g1]
      exact ih
    · cases h
theorem op1W_sub {q : Bool} {o : OpC} {w w' : W E} (h : op1W q o w = some w') : ∀ p, p ∈ w.qs → p ∈ w'.qs := by
  unfold op1W at h
  split at h
  · rename_i w1 hg
    split at h
    · rename_i v k w2 hs
      cases h
      intro p hp
      rw [putW_tOf.2.2]; exact stepW_sub hs p ((guardW_sub hg).2 p hp)
    · cases h
  · rename_i w1 hg
    cases h
    intro p hp
    rw [putW_tOf.2.2]; exact (guardW_sub hg).2 p hp
  · cases h
theorem stepOf_M {q : Bool} {i : I} {t : Nat → V} {m m' : Mem} {v : V} (h : stepOf E (qOf q i) i t m = some (v, m')) : stepM E (cl E) q i t m = some (v, m') := by
  unfold stepM
  cases hq : qOf q i with
  | true =>
    rw [hq] at h
    simp only [stepOf, doQ] at h
    obtain ⟨⟨v1, r⟩, h1, h2⟩ := Option.map_eq_some_iff.1 h
    cases h2
    simp only [mq, h1, rq]
  | false =>
    rw [hq] at h
    simp only [stepOf] at h
    simp only [mq, h, rq]
theorem op1W_ok {q : Bool} {o : OpC} {w w' : W E} (h : op1W q o w = some w') (hf : w'.fine) : op1 (stepM E (cl E) q) o w.st = some w'.st := by
  unfold op1W at h
  split at h
  · rename_i w1 hg
    split at h
    · rename_i v k w2 hs
      cases h
      have hf2 : w2.fine := fun p hp => hf p (by rw [putW_tOf.2.2]; exact hp)
      have hf1 : w1.fine := fun p hp => hf2 p (stepW_sub hs p hp)
      obtain ⟨g1, g2⟩ := guardW_ok hg hf1
      obtain ⟨s1, s2⟩ := stepW_ok hs hf2
      unfold op1
      simp only [W.st, g1]
      rw [g2, (guardW_sub hg).1] at s1
      simp only [stepOf_M s1]
      rw [putW_tOf.1, putW_tOf.2.1, s2, g2]
    · cases h
  · rename_i w1 hg
    cases h
    have hf1 : w1.fine := fun p hp => hf p (by rw [putW_tOf.2.2]; exact hp)
    obtain ⟨g1, g2⟩ := guardW_ok hg hf1
    unfold op1
    simp only [W.st, g1]
    rw [putW_tOf.1, putW_tOf.2.1, g2, (guardW_sub hg).1]
  · cases h
theorem traceW_ok {qf : List Bool} : ∀ {l : List OpC} {k : Nat} {w : W E} {tr : List (W E)}, traceW qf k l w = some tr → tr.length = l.length + 1 ∧ tr[0]? = some w ∧ ∀ w1, tr[l.length]? = some w1 → (∀ p, p ∈ w.qs → p ∈ w1.qs) ∧ (w1.fine → traceC E (cl E) qf k l w.st = some (tr.map W.st))
  | [], k, w, tr, h => by
    simp only [traceW] at h; cases h
    refine ⟨rfl, rfl, fun w1 h1 => ?_⟩
    simp at h1; subst h1
    exact ⟨fun _ h => h, fun _ => rfl⟩
  | o :: l, k, w, tr, h => by
    simp only [traceW] at h
    split at h
    · rename_i w1 h1
      split at h
      · rename_i tr1 h2
        cases h
        obtain ⟨g1, g2, g3⟩ := traceW_ok h2
        refine ⟨by simp [g1], rfl, fun w2 hw2 => ?_⟩
        obtain ⟨g4, g5⟩ := g3 w2 (by simpa using hw2)
        refine ⟨fun p hp => g4 p (op1W_sub h1 p hp), fun hf => ?_⟩
        have hf1 : w1.fine := fun p hp => hf p (g4 p hp)
        simp only [traceC, op1W_ok h1 hf1, g5 hf, List.map_cons]
      · cases h
    · cases h
theorem pairW_ok {r : Option (Option (V × V))} {w w' : W E} (h : pairW r w = some w') : (∀ p, p ∈ w.qs → p ∈ w'.qs) ∧ w'.tOf = w.tOf ∧ w'.m = w.m ∧ (w'.fine → pairB r = true) := by
  unfold pairW at h
  split at h
  · cases h; exact ⟨fun _ h => h, rfl, rfl, fun _ => rfl⟩
  · split at h
    · cases h
      refine ⟨fun p hp => List.mem_cons_of_mem _ hp, rfl, rfl, fun hf => ?_⟩
      rename_i a b _ _ _ _ _ _
      have e : a = b := hf _ (List.mem_cons_self ..)
      subst e
      exact V.beq_refl _
    · cases h
  · cases h
theorem pairsW_ok {l : List OpC} {qf : List Bool} {at_ : Nat → S} {k : Nat} : ∀ {is : List Nat} {w w' : W E}, pairsW E l qf at_ k is w = some w' → (∀ p, p ∈ w.qs → p ∈ w'.qs) ∧ w'.tOf = w.tOf ∧ w'.m = w.m ∧
      (w'.fine → is.all (fun i => pairB (pairN E (qf.getD i false) (qf.getD k false) (opAt' l i) (opAt' l k) (at_ i) (at_ (i + 1)) (at_ k) (at_ (k + 1)))) = true)
  | [], w, w', h => by simp only [pairsW] at h; cases h; exact ⟨fun _ h => h, rfl, rfl, fun _ => rfl⟩
  | i :: is, w, w', h => by
    simp only [pairsW] at h
    split at h
    · rename_i w1 h1
      obtain ⟨a1, a2, a3, a4⟩ := pairW_ok h1
      obtain ⟨b1, b2, b3, b4⟩ := pairsW_ok h
      refine ⟨fun p hp => b1 p (a1 p hp), b2.trans a2, b3.trans a3, fun hf => ?_⟩
      rw [List.all_cons, a4 fun p hp => hf p (b1 p hp), b4 hf]; rfl
    · cases h
theorem mixW_ok {l : List OpC} {un : List (List Nat)} {qf : List Bool} {at_ : Nat → S} : ∀ {ks : List Nat} {w w' : W E}, mixW E l un qf at_ ks w = some w' → (∀ p, p ∈ w.qs → p ∈ w'.qs) ∧ w'.tOf = w.tOf ∧ w'.m = w.m ∧
      (w'.fine → ks.all (fun k => strictB E (qf.getD k false) (opAt' l k) (at_ k) (at_ (k + 1)) && (un.getD k []).all fun i => pairB (pairN E (qf.getD i false) (qf.getD k false) (opAt' l i) (opAt' l k) (at_ i) (at_ (i + 1)) (at_ k) (at_ (k + 1)))) = true)
  | [], w, w', h => by simp only [mixW] at h; cases h; exact ⟨fun _ h => h, rfl, rfl, fun _ => rfl⟩
  | k :: ks, w, w', h => by
    simp only [mixW] at h
    split at h
    · rename_i hst
      split at h
      · rename_i w1 h1
        obtain ⟨a1, a2, a3, a4⟩ := pairsW_ok h1
        obtain ⟨b1, b2, b3, b4⟩ := mixW_ok h
        refine ⟨fun p hp => b1 p (a1 p hp), b2.trans a2, b3.trans a3, fun hf => ?_⟩
        rw [List.all_cons, hst, a4 fun p hp => hf p (b1 p hp), b4 hf]; rfl
      · cases h
    · cases h
theorem atW_map (tr : List (W E)) (k : Nat) : atS (tr.map W.st) k = atW tr k := by
  unfold atS atW
  rw [List.getD_eq_getElem?_getD, List.getElem?_map]
  cases tr[k]? <;> rfl
theorem zipW_look : ∀ (l : List Nat) (vs : List V) (m : Mem) (os : List (A E)) (qs : List Prop), W.tOf ⟨zipW l vs, .un, m, os, qs⟩ = look l vs
  | [], vs, _, _, _ => by funext j; simp [zipW, W.tOf, lookW, look]
  | i :: l, [], _, _, _ => by funext j; simp [zipW, W.tOf, lookW, look]
  | i :: l, v :: vs, m, os, qs => by
    have ih := zipW_look l vs m os qs
    funext j
    have := congrFun ih j
    simp only [W.tOf] at this
    simp only [zipW, W.tOf, lookW_cons, look]
    split
    · rfl
    · exact this
theorem walkC_sub : ∀ {c : C} {w w' : W E} {x : X}, walkC c w = some (x, w') → ∀ p, p ∈ w.qs → p ∈ w'.qs
  | .skip, w, w', x, h => by simp only [walkC] at h; cases h; exact fun _ h => h
  | .reg qs ts, w, w', x, h => by
    simp only [walkC] at h
    split at h
    · rename_i w1 h1
      split at h
      · rename_i w2 h2
        cases h
        exact fun p hp => opsW_sub h2 p (opsW_sub h1 p hp)
      · cases h
    · cases h
  | .mix l un qf, w, w', x, h => by
    simp only [walkC] at h
    split at h
    · rename_i tr h1
      split at h
      · rename_i w1 h2
        split at h
        · rename_i w2 h3
          cases h
          exact fun p hp => (mixW_ok h3).1 p (((traceW_ok h1).2.2 w1 h2).1 p hp)
        · cases h
      · cases h
    · cases h
  | .seq a b, w, w', x, h => by
    simp only [walkC] at h
    cases h1 : walkC a w with
    | none => simp [h1] at h
    | some r =>
      obtain ⟨y, w1⟩ := r
      rw [h1] at h
      cases y with
      | normal => exact fun p hp => walkC_sub h p (walkC_sub h1 p hp)
      | exit i => cases h; exact walkC_sub h1
      | ret => cases h; exact walkC_sub h1
  | .cond o a b, w, w', x, h => by
    simp only [walkC] at h
    split at h
    · rename_i w1 h1; exact fun p hp => walkC_sub h p ((testW_sub h1).2 p hp)
    · rename_i w1 h1; exact fun p hp => walkC_sub h p ((testW_sub h1).2 p hp)
    · cases h
  | .block i b, w, w', x, h => by
    simp only [walkC] at h
    cases h1 : walkC b w with
    | none => simp [h1] at h
    | some r =>
      obtain ⟨y, w1⟩ := r
      rw [h1] at h
      cases y with
      | normal => cases h; exact walkC_sub h1
      | exit i => simp only at h; split at h <;> cases h <;> exact walkC_sub h1
      | ret => cases h; exact walkC_sub h1
  | .loop lv lx b, w, w', x, h => by
    simp only [walkC] at h
    split at h
    · cases h; exact fun p hp => List.mem_cons_of_mem _ hp
    · cases h
  | .rfun nt lv f ps a b, w, w', x, h => by
    simp only [walkC] at h
    split at h
    · split at h
      · cases h
      · split at h
        · split at h <;> cases h <;> exact fun p hp => List.mem_append_right _ hp
        · cases h
    · cases h
  | .seq1 a b, w, w', x, h => by
    simp only [walkC] at h
    cases h1 : walkC a w with
    | none => simp [h1] at h
    | some r =>
      obtain ⟨y, w1⟩ := r
      rw [h1] at h
      cases y with
      | normal => exact fun p hp => walkC_sub h p (walkC_sub h1 p hp)
      | exit i => cases h; exact walkC_sub h1
      | ret => cases h; exact walkC_sub h1
  | .cut lv lx ln a b, w, w', x, h => by
    simp only [walkC] at h
    split at h
    · split at h
      · exact fun p hp => walkC_sub h p (List.mem_cons_of_mem _ hp)
      · cases h; exact fun p hp => List.mem_cons_of_mem _ hp
    · cases h
  | .exit _, w, w', x, h => by simp only [walkC] at h; cases h; exact fun _ h => h
  | .scope b, w, w', x, h => by simp only [walkC] at h; exact walkC_sub h
  | .ret, w, w', x, h => by simp only [walkC] at h; cases h; exact fun _ h => h
theorem walkC_ok : ∀ {c : C} {w w' : W E} {x : X}, walkC c w = some (x, w') → w'.fine → runC E (cl E) c ⟨w.tOf, w.m⟩ = some (x, ⟨w'.tOf, w'.m⟩)
  | .skip, w, w', x, h, _ => by simp only [walkC] at h; cases h; rfl
  | .reg qs ts, w, w', x, h, hf => by
    simp only [walkC] at h
    split at h
    · rename_i w1 h1
      split at h
      · rename_i w2 h2
        cases h
        have e2 := opsW_ok h2 hf
        have e1 := opsW_ok h1 fun p hp => hf p (opsW_sub h2 p hp)
        simp only [stepOf] at e1 e2
        simp only [runC, e1, e2]
      · cases h
    · cases h
  | .mix l un qf, w, w', x, h, hf => by
    simp only [walkC] at h
    split at h
    · rename_i tr h1
      split at h
      · rename_i w1 h2
        split at h
        · rename_i w2 h3
          cases h
          obtain ⟨b1, b2, b3, b4⟩ := mixW_ok h3
          have hf1 : w1.fine := fun p hp => hf p (b1 p hp)
          have e1 := ((traceW_ok h1).2.2 w1 h2).2 hf1
          have e2 : mixB E l un qf (tr.map W.st) = true := by
            unfold mixB
            simp only [atW_map]
            exact b4 hf
          have e3 : atS (tr.map W.st) l.length = ⟨w'.tOf, w'.m⟩ := by
            rw [atW_map]
            unfold atW
            rw [h2, b2, b3]; rfl
          have e1' : traceC E (cl E) qf 0 l ⟨w.tOf, w.m⟩ = some (tr.map W.st) := e1
          simp only [runC, e1', e2, e3]
        · cases h
      · cases h
    · cases h
  | .seq a b, w, w', x, h, hf => by
    simp only [walkC] at h
    cases h1 : walkC a w with
    | none => simp [h1] at h
    | some r =>
      obtain ⟨y, w1⟩ := r
      rw [h1] at h
      cases y with
      | normal =>
        have e1 := walkC_ok h1 fun p hp => hf p (walkC_sub h p hp)
        simp only [runC, e1]
        exact walkC_ok h hf
      | exit i => cases h; simp only [runC, walkC_ok h1 hf]
      | ret => cases h; simp only [runC, walkC_ok h1 hf]
  | .cond o a b, w, w', x, h, hf => by
    simp only [walkC] at h
    split at h
    · rename_i w1 h1
      obtain ⟨g1, g2⟩ := testW_ok h1 fun p hp => hf p (walkC_sub h p hp)
      simp only [runC, g1]
      rw [← g2, ← (testW_sub h1).1]; exact walkC_ok h hf
    · rename_i w1 h1
      obtain ⟨g1, g2⟩ := testW_ok h1 fun p hp => hf p (walkC_sub h p hp)
      simp only [runC, g1]
      rw [← g2, ← (testW_sub h1).1]; exact walkC_ok h hf
    · cases h
  | .block i b, w, w', x, h, hf => by
    simp only [walkC] at h
    cases h1 : walkC b w with
    | none => simp [h1] at h
    | some r =>
      obtain ⟨y, w1⟩ := r
      rw [h1] at h
      cases y with
      | normal => cases h; simp only [runC, walkC_ok h1 hf]
      | exit k =>
        simp only at h
        split at h
        · rename_i hb
          cases h
          simp only [runC, walkC_ok h1 hf, Nat.eq_of_beq_eq_true hb, if_true]
        · rename_i hb
          cases h
          have hne : ¬ (k = i) := fun e => by rw [e, Nat.beq_refl] at hb; cases hb
          simp only [runC, walkC_ok h1 hf, hne, if_false]
      | ret => cases h; simp only [runC, walkC_ok h1 hf]
  | .loop lv lx b, w, w', x, h, hf => by
    simp only [walkC] at h
    split at h
    · rename_i y h' hl r hos
      cases h
      have hq : loopG (roundG (runC E (cl E) b) lv lx w.m.length) bound (lv.map w.tOf, w.m) = some (x, h') := hf _ (List.mem_cons_self ..)
      simp only [runC, hq, zipW_look]
    · cases h
  | .rfun nt lv f ps a b, w, w', x, h, hf => by
    simp only [walkC] at h
    split at h
    · rename_i g first cap hfn
      split at h
      · cases h
      rename_i hbq
      have hny : g ≠ yfn := fun e => by rw [e, Nat.beq_refl] at hbq; cases hbq
      split at h
      · rename_i rs' m2 r qs hc
        split at h
        · rename_i hm; cases h
          simp only [runC, hfn]
          rw [if_neg hny, callW_ok hc (fun p hp => hf p (List.mem_append_left _ hp))]
          simp only [hm]; rfl
        · rename_i hm; cases h
          simp only [runC, hfn]
          rw [if_neg hny, callW_ok hc (fun p hp => hf p (List.mem_append_left _ hp))]
          simp only [hm]; rfl
        · rename_i hm; cases h
          simp only [runC, hfn]
          rw [if_neg hny, callW_ok hc (fun p hp => hf p (List.mem_append_left _ hp))]
          simp only [hm]; rfl
        · cases h
      · cases h
    · cases h
  | .seq1 a b, w, w', x, h, hf => by
    simp only [walkC] at h
    cases h1 : walkC a w with
    | none => simp [h1] at h
    | some r =>
      obtain ⟨y, w1⟩ := r
      rw [h1] at h
      cases y with
      | normal =>
        have e1 := walkC_ok h1 fun p hp => hf p (walkC_sub h p hp)
        simp only [runC, e1]
        exact walkC_ok h hf
      | exit i => cases h; simp only [runC, walkC_ok h1 hf]
      | ret => cases h; simp only [runC, walkC_ok h1 hf]
  | .cut lv lx ln a b, w, w', x, h, hf => by
    simp only [walkC] at h
    split at h
    · split at h
      · have hq := hf _ (walkC_sub h _ (List.mem_cons_self ..))
        have := walkC_ok h hf
        rw [zipW_look] at this
        simp only [runC, hq]; exact this
      · cases h
        have hq := hf _ (List.mem_cons_self ..)
        simp only [runC, hq, zipW_look]
        cases x with
        | normal => rename_i hs _ hne; exact (hne hs rfl (HEq.refl _)).elim
        | exit i => rfl
        | ret => rfl
    · cases h
  | .exit _, w, w', x, h, _ => by simp only [walkC] at h; cases h; rfl
  | .scope b, w, w', x, h, hf => by simp only [walkC] at h; simp only [runC]; exact walkC_ok h hf
  | .ret, w, w', x, h, _ => by simp only [walkC] at h; cases h; rfl
def argsW : Nat → List V → List (Nat × V × Bool)
  | _, [] => []
  | i, v :: r => (i, v, false) :: argsW (i + 1) r
theorem argsW_look (m : Mem) (os : List (A E)) (qs : List Prop) : ∀ (l : List V) (k j : Nat), W.tOf ⟨argsW k l, .tup [], m, os, qs⟩ j = if k ≤ j then l.getD (j - k) (.tup []) else .tup []
  | [], k, j => by simp [argsW, W.tOf, lookW]
  | v :: r, k, j => by
    have ih := argsW_look m os qs r (k + 1) j
    simp only [W.tOf] at ih
    simp only [argsW, W.tOf, lookW_cons]
    by_cases h : j = k
    · subst h; simp
    · rw [if_neg h, ih]
      by_cases h1 : k ≤ j
      · have h2 : k + 1 ≤ j := by omega
        rw [if_pos h2, if_pos h1]
        obtain ⟨n, rfl⟩ : ∃ n, j = k + 1 + n := ⟨j - (k + 1), by omega⟩
        have e1 : k + 1 + n - (k + 1) = n := by omega
        have e2 : k + 1 + n - k = n + 1 := by omega
        rw [e1, e2]; simp
      · have h2 : ¬ (k + 1 ≤ j) := by omega
        rw [if_neg h2, if_neg h1]
def walkF (E : Env) (F : CFunc) (args : List V) (m : Mem) (os : List (A E)) : Option ((List V × Mem) × List Prop) :=
  match Nat.ble args.length F.ntmps with
  | true => match walkC F.body (⟨argsW 0 args, .tup [], m, os, []⟩ : W E) with
    | some (.exit _, _) => none
    | some (_, w) => match resVs ⟨w.tOf, w.m⟩ F.results with
      | some vs => match tidy m.length (vs, w.m) with
        | some r => some (r, w.qs)
        | none => none
      | none => none
    | none => none
  | false => none
def want (os : List (A E)) : List Prop := (os.map A.prop).reverse
theorem want_fine {os : List (A E)} : ∀ p, p ∈ want os → p := by
  intro p hp
  simp only [want, List.mem_reverse, List.mem_map] at hp
  obtain ⟨a, _, rfl⟩ := hp
  exact a.holds
theorem runF_walk {F : CFunc} {args : List V} {m : Mem} (os : List (A E)) {r : List V × Mem} (h : walkF E F args m os = some (r, want os)) : runF E (cl E) F args m = some r := by
  unfold walkF at h
  split at h
  case h_2 => cases h
  rename_i hl
  have hl := Nat.le_of_ble_eq_true hl
  have e0 : ∀ (os : List (A E)) (qs : List Prop), W.tOf ⟨argsW 0 args, .tup [], m, os, qs⟩ = initT args := by
    intro os qs; funext j; rw [argsW_look]; simp [initT]
  have fin : ∀ (x : X) (w : W E), walkC F.body (⟨argsW 0 args, .tup [], m, os, []⟩ : W E) = some (x, w) → (match resVs ⟨w.tOf, w.m⟩ F.results with
      | some vs => (match tidy m.length (vs, w.m) with | some r => some (r, w.qs) | none => none)
      | none => none) = some (r, want os) → runC E (cl E) F.body ⟨initT args, m⟩ = some (x, ⟨w.tOf, w.m⟩) ∧ (resVs ⟨w.tOf, w.m⟩ F.results).bind (fun vs => tidy m.length (vs, w.m)) = some r := by
    intro x w hw hx
    cases h1 : resVs ⟨w.tOf, w.m⟩ F.results with
    | none => simp [h1] at hx
    | some vs =>
      simp only [h1] at hx
      cases h2 : tidy m.length (vs, w.m) with
      | none => simp [h2] at hx
      | some r0 =>
        simp only [h2] at hx
        obtain ⟨rfl, hq⟩ := Prod.mk.inj (Option.some.inj hx)
        have := walkC_ok hw (fun p hp => want_fine p (by rw [← hq]; exact hp))
        rw [e0] at this
        exact ⟨this, by simp [h2]⟩
  simp only [runF, hl, if_true]
  split at h
  · cases h
  · rename_i x w hne hw
    obtain ⟨h1, h2⟩ := fin x w hw h
    rw [h1]
    cases x with
    | normal => exact h2
    | exit i => exact (hne i rfl).elim
    | ret => exact h2
  · cases h
theorem cl_walk (hE : ∀ f a m, E.ext f a m = none) {f : FuncId} {F : CFunc} (hF : E.cf f = some F) (hny : f ≠ yfn) {args : List V} {m : Mem} (os : List (A E)) {r : List V × Mem} (h : walkF E F args m os = some (r, want os)) : cl E f args m = some r :=
  cl_run hE hF hny (runF_walk os h)
def walkR (E : Env) (b : C) (lv lx : List Nat) (k : Nat) (g : List V × Mem) (os : List (A E)) : Option ((X × (List V × Mem)) × List Prop) :=
  match walkC b (⟨zipW lv g.1, .un, g.2, os, []⟩ : W E) with
  | some (.normal, w) => match tidy k (lv.map w.tOf, w.m) with
    | some h => some ((.normal, h), w.qs)
    | none => none
  | some (x, w) => match tidy k (lx.map w.tOf, w.m) with
    | some h => some ((x, h), w.qs)
    | none => none
  | none => none
def walkS (E : Env) (b : C) (lv lx ln : List Nat) (k : Nat) (g : List V × Mem) (os : List (A E)) : Option ((X × (List V × Mem)) × List Prop) :=
  match walkC b (⟨zipW lv g.1, .un, g.2, os, []⟩ : W E) with
  | some (.normal, w) => match tidy k (ln.map w.tOf, w.m) with
    | some h => some ((.normal, h), w.qs)
    | none => none
  | some (x, w) => match tidy k (lx.map w.tOf, w.m) with
    | some h => some ((x, h), w.qs)
    | none => none
  | none => none
theorem seg_walk {b : C} {lv lx ln : List Nat} {k : Nat} {g : List V × Mem} (os : List (A E)) {r : X × (List V × Mem)} (h : walkS E b lv lx ln k g os = some (r, want os)) : segG (runC E (cl E) b) lv lx ln k g = some r := by
  unfold walkS at h
  cases hw : walkC b (⟨zipW lv g.1, .un, g.2, os, []⟩ : W E) with
  | none => simp [hw] at h
  | some y =>
    obtain ⟨x, w⟩ := y
    have key : w.qs = want os → runC E (cl E) b ⟨look lv g.1, g.2⟩ = some (x, ⟨w.tOf, w.m⟩) := fun hq => by
      have := walkC_ok hw (fun p hp => want_fine p (by rw [← hq]; exact hp))
      rw [zipW_look] at this; exact this
    have fin : ∀ l, (match tidy k (List.map w.tOf l, w.m) with | some h => some ((x, h), w.qs) | none => none) = some (r, want os) → ∃ h', tidy k (List.map w.tOf l, w.m) = some h' ∧ r = (x, h') ∧ w.qs = want os := by
      intro l hx
      cases ht : tidy k (List.map w.tOf l, w.m) with
      | none => simp [ht] at hx
      | some h' =>
        simp only [ht] at hx
        obtain ⟨h1, h2⟩ := Prod.mk.inj (Option.some.inj hx)
        exact ⟨h', rfl, h1.symm, h2⟩
    cases x with
    | normal =>
      simp only [hw] at h
      obtain ⟨h', h1, rfl, h3⟩ := fin ln h
      simp only [segG, key h3, h1, Option.map_some]
    | exit i =>
      simp only [hw] at h
      obtain ⟨h', h1, rfl, h3⟩ := fin lx h
      simp only [segG, key h3, h1, Option.map_some]
    | ret =>
      simp only [hw] at h
      obtain ⟨h', h1, rfl, h3⟩ := fin lx h
      simp only [segG, key h3, h1, Option.map_some]
theorem round_walk {b : C} {lv lx : List Nat} {k : Nat} {g : List V × Mem} (os : List (A E)) {r : X × (List V × Mem)} (h : walkR E b lv lx k g os = some (r, want os)) : roundG (runC E (cl E) b) lv lx k g = some r := by
  unfold walkR at h
  cases hw : walkC b (⟨zipW lv g.1, .un, g.2, os, []⟩ : W E) with
  | none => simp [hw] at h
  | some y =>
    obtain ⟨x, w⟩ := y
    have key : w.qs = want os → runC E (cl E) b ⟨look lv g.1, g.2⟩ = some (x, ⟨w.tOf, w.m⟩) := fun hq => by
      have := walkC_ok hw (fun p hp => want_fine p (by rw [← hq]; exact hp))
      rw [zipW_look] at this; exact this
    have fin : ∀ l, (match tidy k (List.map w.tOf l, w.m) with | some h => some ((x, h), w.qs) | none => none) = some (r, want os) → ∃ h', tidy k (List.map w.tOf l, w.m) = some h' ∧ r = (x, h') ∧ w.qs = want os := by
      intro l hx
      cases ht : tidy k (List.map w.tOf l, w.m) with
      | none => simp [ht] at hx
      | some h' =>
        simp only [ht] at hx
        obtain ⟨h1, h2⟩ := Prod.mk.inj (Option.some.inj hx)
        exact ⟨h', rfl, h1.symm, h2⟩
    cases x with
    | normal =>
      simp only [hw] at h
      obtain ⟨h', h1, rfl, h3⟩ := fin lv h
      simp only [roundG, key h3, h1, Option.map_some]
    | exit i =>
      simp only [hw] at h
      obtain ⟨h', h1, rfl, h3⟩ := fin lx h
      simp only [roundG, key h3, h1, Option.map_some]
    | ret =>
      simp only [hw] at h
      obtain ⟨h', h1, rfl, h3⟩ := fin lx h
      simp only [roundG, key h3, h1, Option.map_some]
end
end Go.Proofs.Ytdlhhoejnhjbhaa.Den

namespace Go.Proofs.Ytdlhhoejnhjbhaa.Den
open Go Go.Proofs Go.Shelf Go.RowKit Go.Lib Go.Sort
variable {P : Program} {ρ : Shelf.Ren}
set_option maxHeartbeats 4000000 in
set_option maxRecDepth 1000000 in
theorem del_arr (L : Lays2.n23 P ρ) (blk off cap i j : Nat) (d : Array Int) (w : World) (hH : Holds encI w blk off d) (hcap : d.size ≤ cap) (hm : d.size ≤ 9223372036854775807) (hij : i ≤ j) (hj : j ≤ d.size) :
    Calls P (ρ.f 23) #[.slice (some ⟨blk, off, none⟩) d.size cap, .int .i64 i, .int .i64 j] w fun e w' => e = .returned (.slice (some ⟨blk, off, none⟩) (d.size - (j - i)) cap) ∧ ∃ q, w' = putRow encI (Sort.ahead w q) blk off (d.toList.take i ++ d.toList.drop j ++ List.replicate (j - i) 0).toArray := by
  have mixed := L.mixed; have t0 := L.t0; have a0 := L.a0; have z0 := L.z0; have v0 := L.v0; have t3 := L.t3; have a3 := L.a3; have z3 := L.z3; have v3 := L.v3; have t4 := L.t4; have a4 := L.a4; have z4 := L.z4; have v4 := L.v4; have t22 := L.t22; have a22 := L.a22; have z22 := L.z22; have v22 := L.v22
  obtain ⟨i0, hi0, hz0, hz1, hz2⟩ := info_parts L.i3
  by_cases heq : i = j
  · subst heq
    have h0 : Calls P (ρ.f 23) #[.slice (some ⟨blk, off, none⟩) d.size cap, .int .i64 i, .int .i64 i] w fun e w' => e = .returned (.slice (some ⟨blk, off, none⟩) d.size cap) ∧ w' = w := by
      clear hH
      go_enter L.f23, Body2.n23_ntmps ρ
      go_wp2
      all_goals (go_ret; exact ⟨rfl, rfl⟩)
    refine h0.mono ?_
    rintro e w' ⟨rfl, rfl⟩
    have e : (d.toList.take i ++ d.toList.drop i ++ List.replicate (i - i) 0).toArray = d := by simp
    refine ⟨by rw [Nat.sub_self, Nat.sub_zero], 0, ?_⟩
    rw [e]
    exact (putRow_self encI (Sort.ahead w' 0) blk off d hH).symm
  · have hlt : i < j := by omega
    obtain ⟨news, hnews⟩ : ∃ news, news = (d.toList.drop j).map encI := ⟨_, rfl⟩
    have hlen : news.length = d.size - j := by rw [hnews]; simp
    have hget : ∀ t, t < d.size - j → news[t]? = some (encI d[j + t]!) := by
      intro t ht
      rw [hnews, List.getElem?_map, List.getElem?_drop, Array.getElem?_toList, getElem!_pos d (j + t) (by omega), Array.getElem?_eq_getElem (by omega)]
      rfl
    obtain ⟨A, hA, hsrc⟩ : ∃ A : Addr, (if cap = j then some (⟨blk, off, none⟩ : Addr) else some ⟨blk, off + j, none⟩) = some A ∧ Hid (∀ t u, news[t]? = some u → w.drew.cell? (A.add t) = some u) := by
      by_cases h : cap = j
      · refine ⟨⟨blk, off, none⟩, by simp [h], fun t u hu => ?_⟩
        have h0 : news.length = 0 := by rw [hlen]; omega
        rw [List.length_eq_zero_iff.1 h0] at hu
        simp at hu
      · refine ⟨⟨blk, off + j, none⟩, by simp [h], fun t u hu => ?_⟩
        have ht : t < d.size - j := by
          have := (List.getElem?_eq_some_iff.1 hu).1
          rwa [hlen] at this
        rw [hget t ht] at hu
        rw [Addr.add_lit, show off + j + t = off + (j + t) by omega]
        exact (hH (j + t) (by omega)).1.trans hu
    have s1 : Hid (news.length = (d.size - j) * 1) := by rw [Nat.mul_one]; exact hlen
    have s2 : Hid (∀ u ∈ news, u.oneCell' = true) := by
      intro u hu
      rw [hnews] at hu
      obtain ⟨x, _, rfl⟩ := List.mem_map.1 hu
      rfl
    have s3 : Hid (∀ t, t < news.length → (w.drew.cell? ⟨blk, off + i * 1 + t, none⟩).isSome = true ∧ w.drew.frozen? ⟨blk, off + i * 1 + t, none⟩ = false) := by
      intro t ht
      rw [hlen] at ht
      rw [Nat.mul_one, Nat.add_assoc]
      exact ⟨by show (w.cell? _).isSome = true; rw [(hH (i + t) (by omega)).1]; rfl, (hH (i + t) (by omega)).2⟩
    obtain ⟨W1, hW1⟩ : ∃ W1, W1 = w.drew.setCells blk (off + i * 1) news := ⟨_, rfl⟩
    have hW1' : W1 = putRow encI (Sort.ahead w 1) blk off (lay d i (d.toList.drop j)) := by
      rw [hW1, hnews, Nat.mul_one, ← putRow_setCells encI (Sort.ahead w 1) blk off _ d i (by simp; omega), putRow_self encI (Sort.ahead w 1) blk off d (holds_ahead encI w 1 blk off d hH)]
      rfl
    have hH1 : Holds encI W1 blk off (lay d i (d.toList.drop j)) := by rw [hW1']; exact holds_putRow encI _ blk off d _ (holds_ahead encI w 1 blk off d hH) (lay_size _ _ _)
    have hcl : ∀ ty, (Builtin.clear_ #[ρ.t 22] ty #[.slice (some ⟨blk, off + (i + (d.size - j)), none⟩) (d.size - (i + (d.size - j))) (cap - (i + (d.size - j)))]).run P W1 = .ok (.tuple #[]) (W1.setCells blk (off + (i + (d.size - j))) (List.replicate (d.size - (i + (d.size - j))) (encI 0))) :=
      fun ty => Lib.run_clear_slice W1 _ _ ty _ t22 v3 rfl rfl blk (off + (i + (d.size - j))) _ _ (by omega) (fun t ht => by rw [show off + (i + (d.size - j)) + t = off + (i + (d.size - j) + t) by omega, (hH1 _ (by rw [lay_size]; omega)).1]; rfl) (fun t ht => by rw [show off + (i + (d.size - j)) + t = off + (i + (d.size - j) + t) by omega]; exact (hH1 _ (by rw [lay_size]; omega)).2)
    have X : Aside (W1 = putRow encI (Sort.ahead w 1) blk off (lay d i (d.toList.drop j))) := hW1'
    have hW : Hid (W1 = w.drew.setCells blk (off + i * 1) news) := hW1
    have hic : i ≤ cap := by omega
    have hjc : j ≤ cap := by omega
    clear hW1 hW1' hH1 hH hget hnews hlen
    go_enter L.f23, Body2.n23_ntmps ρ
    go_wp2_with fail
    go_region_law_o (refine step_append_room rfl (.tmp 22) (.tmp 25) (ρ.t 22) rfl (ρ.t 3) i0 1 t22 hi0 hz1 blk off i cap (by simp [Act.eval, Act.put]) A (d.size - j) (cap - j) news (by simp [Act.eval, Act.put]) s1.out hsrc.out s2.out (by omega) s3.out ?_; rw [← hW.out])
    go_wp2
    go_ret
    refine ⟨by rw [show d.size - (j - i) = i + (d.size - j) by omega]; rfl, 1, ?_⟩
    rw [← delete_arr d i j 0 hij hj, ← putRow_setCells encI _ blk off _ _ (i + (d.size - j)) (by rw [lay_size]; simp; omega), ← X.out, List.map_replicate, show d.size - (i + (d.size - j)) = j - i by omega]
theorem delOK_of {f : FuncId} (L : Lays2.n23 P ρ) (hf : ρ.f 23 = f) (he : Enterable P f) : DelOK P f :=
  ⟨he, fun blk cap i j d w hH hc hm hij hj => by rw [← hf]; exact del_arr L blk 0 cap i j d w hH hc hm hij hj⟩
end Go.Proofs.Ytdlhhoejnhjbhaa.Den
