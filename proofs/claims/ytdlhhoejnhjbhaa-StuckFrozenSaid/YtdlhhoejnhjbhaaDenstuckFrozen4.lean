/- StuckFrozen: part 4 of what its proof rests on: an evaluator of the program's code, proved sound; plain functions printed from the code by a program of this session, with proofs; plain laws. No condition. -/
import Derived.Test.YtdlhhoejnhjbhaaDenstuckFrozen3
import Derived.ProofKit
import Derived.Carry
import Derived.OpenShut
import Derived.SizedLaws
import Derived.Shelf.Slices.Delete
import Derived.KernelRfl
import Derived.Test.YtdlhhoejnhjbhaaProg

namespace Go.Proofs.Ytdlhhoejnhjbhaa.Den
open Go
set_option linter.unusedVariables false
set_option linter.unusedSimpArgs false
def immAll (w : World) : Imm := fun b _ => b < w.heap.size
def RelDs (I : Imm) (w : World) : List D → List Value → Prop
  | [], cs => cs = []
  | d :: ds, cs => ∃ v vs, cs = v :: vs ∧ OneC v ∧ RelD I w d v ∧ RelDs I w ds vs
theorem RelDs.append {I : Imm} {w : World} : ∀ {a : List D} {as1 : List Value} {b : List D} {bs : List Value}, RelDs I w a as1 → RelDs I w b bs → RelDs I w (a ++ b) (as1 ++ bs)
  | [], _, _, _, h, k => by simp only [RelDs] at h; subst h; simpa using k
  | d :: a, _, _, _, h, k => by
    simp only [RelDs] at h
    obtain ⟨v, vs, rfl, h1, h2, h3⟩ := h
    simp only [List.cons_append, RelDs]
    exact ⟨v, _, rfl, h1, h2, RelDs.append h3 k⟩
theorem RelDs.len {I : Imm} {w : World} : ∀ {a : List D} {as1 : List Value}, RelDs I w a as1 → as1.length = a.length
  | [], _, h => by simp only [RelDs] at h; subst h; rfl
  | d :: a, _, h => by
    simp only [RelDs] at h
    obtain ⟨v, vs, rfl, _, _, h3⟩ := h
    simp [RelDs.len h3]
theorem RelDs.rel {w : World} {φ : Nat → Option Nat} {m : Mem} {I : Imm} : ∀ {a : List D} {as1 : List Value}, RelDs I w a as1 → RelVs ⟨φ, m, I, w⟩ (a.map V.d) as1 ∧ ∀ u, u ∈ as1 → OneC u
  | [], _, h => by simp only [RelDs] at h; subst h; simp [RelVs]
  | d :: a, _, h => by
    simp only [RelDs] at h
    obtain ⟨v, vs, rfl, h1, h2, h3⟩ := h
    obtain ⟨g1, g2⟩ := RelDs.rel (φ := φ) (m := m) h3
    refine ⟨?_, ?_⟩
    · simp only [List.map_cons, RelVs]
      exact ⟨v, vs, rfl, by simpa only [RelV] using h2, g1⟩
    · intro u hu
      rcases List.mem_cons.1 hu with rfl | hu
      · exact h1
      · exact g2 u hu
theorem RelDs.held {I : Imm} {w : World} {b : Nat} : ∀ {a : List D} {as1 : List Value} {o : Nat}, RelDs I w a as1 → (∀ j v, as1[j]? = some v → w.cell? ⟨b, o + j, none⟩ = some v ∧ I b (o + j)) → Held I w b o a
  | [], _, _, _, _ => by simp [Held]
  | d :: a, _, o, h, hc => by
    simp only [RelDs] at h
    obtain ⟨v, vs, rfl, h1, h2, h3⟩ := h
    simp only [Held]
    have h0 := hc 0 v (by simp)
    refine ⟨⟨v, by simpa using h0.1, by simpa using h0.2, h1, h2⟩, RelDs.held h3 fun j u hj => ?_⟩
    have := hc (j + 1) u (by simpa using hj)
    rw [show o + 1 + j = o + (j + 1) by omega]; exact this
theorem mapM_get {α β : Type} {f : α → Option β} : ∀ {l : List α} {r : List β}, l.mapM f = some r → r.length = l.length ∧ ∀ (i : Nat) (x : α), l[i]? = some x → ∃ y, f x = some y ∧ r[i]? = some y
  | [], r, h => by simp at h; subst h; simp
  | a :: l, r, h => by
    rw [List.mapM_cons] at h
    cases ha : f a with
    | none => simp [ha] at h
    | some b =>
      cases hl : l.mapM f with
      | none => simp [ha, hl] at h
      | some r' =>
        simp [ha, hl] at h; subst h
        obtain ⟨h1, h2⟩ := mapM_get hl
        refine ⟨by simp [h1], fun i x hi => ?_⟩
        cases i with
        | zero => simp at hi; subst hi; exact ⟨b, ha, by simp⟩
        | succ i => simpa using h2 i x (by simpa using hi)
section
variable (P : Program)
def TyFs (T : TypeId → List D → Prop) : List Field → List D → Prop
  | [], ds => ds = []
  | f :: fs, ds => ∃ a b, ds = a ++ b ∧ T f.type a ∧ TyFs T fs b
def Ty : Nat → TypeId → List D → Prop
  | 0, _, _ => False
  | n + 1, t, ds => match P.underlying t with
    | some .bool => ∃ b, ds = [.bool b]
    | some (.int k) => ∃ z, ds = [.int k z] ∧ (Lit.int k z).wf = true
    | some .string => ∃ s, ds = [.str s] ∧ s.size ≤ 140737488351232
    | some (.slice e) => ds = [.nils] ∨ ∃ rows, ds = [.rs (isFlat P e) (P.cellsOf e) rows false] ∧ rows.length ≤ maxLen ∧ rows.length * P.bytesOf e ≤ 140737488351232 ∧ ∀ r, r ∈ rows → Ty n e r
    | some (.struct fs) => TyFs (Ty n) fs.toList ds
    | some (.array m e) => ∃ rows : List (List D), rows.length = m ∧ ds = rows.flatten ∧ ∀ r, r ∈ rows → Ty n e r
    | _ => False
def contig (fs : List Field) (o total : Nat) : Bool :=
  match fs with
  | [] => o == total
  | f :: r => f.offset == o && contig r (o + P.cellsOf f.type) total
def goodT : Nat → TypeId → Bool
  | 0, _ => false
  | n + 1, t => match P.underlying t with
    | some .bool | some (.int _) | some .string => true
    | some (.slice e) => goodT n e && decide (0 < P.cellsOf e)
    | some (.struct fs) => contig P fs.toList 0 (P.cellsOf t) && fs.toList.all fun f => goodT n f.type
    | some (.array m e) => goodT n e && m * P.cellsOf e == P.cellsOf t
    | _ => false
end
variable {P : Program}
theorem tyFs_scalar {n : Nat} {T : TypeId → List D → Prop} (hT : ∀ t ds, flatT P n t = true → T t ds → ∀ x, x ∈ ds → D.scalar x = true) : ∀ (fs : List Field) (ds : List D), (fs.all fun f => flatT P n f.type) = true → TyFs T fs ds → ∀ x, x ∈ ds → D.scalar x = true
  | [], ds, _, h, x, hx => by simp only [TyFs] at h; subst h; simp at hx
  | f :: fs, ds, hf, h, x, hx => by
    simp only [TyFs] at h
    obtain ⟨a, b, rfl, h1, h2⟩ := h
    simp only [List.all_cons, Bool.and_eq_true] at hf
    rcases List.mem_append.1 hx with hx | hx
    · exact hT _ _ hf.1 h1 x hx
    · exact tyFs_scalar hT fs b hf.2 h2 x hx
theorem flat_scalar : ∀ (n m : Nat) (t : TypeId) (ds : List D), flatT P n t = true → Ty P m t ds → ∀ x, x ∈ ds → D.scalar x = true
  | 0, _, _, _, h, _, _, _ => by simp [flatT] at h
  | n + 1, 0, _, _, _, h, _, _ => by simp [Ty] at h
  | n + 1, m + 1, t, ds, hf, h, x, hx => by
    simp only [flatT] at hf
    simp only [Ty] at h
    split at hf
    · rename_i hu; rw [hu] at h; obtain ⟨b, rfl⟩ := h; simp at hx; subst hx; rfl
    · rename_i hu; rw [hu] at h; obtain ⟨b, rfl, _⟩ := h; simp at hx; subst hx; rfl
    · rename_i hu; rw [hu] at h; obtain ⟨b, rfl, _⟩ := h; simp at hx; subst hx; rfl
    · rename_i fs hu
      rw [hu] at h
      exact tyFs_scalar (n := n) (T := Ty P m) (fun t ds h1 h2 => flat_scalar n m t ds h1 h2) fs.toList ds hf h x hx
    · rename_i k e hu
      rw [hu] at h
      obtain ⟨rows, _, rfl, hr⟩ := h
      obtain ⟨r, hr1, hr2⟩ := List.mem_flatten.1 hx
      exact flat_scalar n m e r hf (hr r hr1) x hr2
    · cases hf
section
variable {H : Type} {enc : TypeId × Value → H} {w : World}
theorem choose_rows {Q : Nat → List D → Prop} : ∀ (len : Nat), (∀ i, i < len → ∃ r, Q i r) → ∃ rows : List (List D), rows.length = len ∧ ∀ i r, rows[i]? = some r → Q i r
  | 0, _ => ⟨[], rfl, by simp⟩
  | len + 1, h => by
    obtain ⟨rows, h1, h2⟩ := choose_rows len fun i hi => h i (by omega)
    obtain ⟨r, hr⟩ := h len (by omega)
    refine ⟨rows ++ [r], by simp [h1], fun i x hx => ?_⟩
    rcases Nat.lt_or_ge i rows.length with hlt | hge
    · exact h2 i x (by rw [List.getElem?_append_left hlt] at hx; exact hx)
    · rw [List.getElem?_append_right hge] at hx
      have hi : i - rows.length = 0 := by
        rcases Nat.eq_zero_or_pos (i - rows.length) with h0 | h0
        · exact h0
        · rw [List.getElem?_eq_none (by simp; omega)] at hx; cases hx
      rw [hi] at hx
      simp at hx; subst hx
      have : i = len := by omega
      subst this; exact hr
theorem relDs_flatten {I : Imm} {s : Nat} : ∀ (rows : List (List D)) (cs : List Value), cs.length = rows.length * s → (∀ i r, rows[i]? = some r → RelDs I w r ((cs.drop (i * s)).take s)) → RelDs I w rows.flatten cs
  | [], cs, h, _ => by
    simp at h; subst h; simp [RelDs]
  | r :: rows, cs, h, hr => by
    have h0 := hr 0 r (by simp)
    simp at h0
    have ih := relDs_flatten (s := s) rows (cs.drop s) (by rw [List.length_drop, h]; simp [Nat.add_mul]) fun i x hx => by
      have := hr (i + 1) x (by simpa using hx)
      rw [List.drop_drop, show s + i * s = (i + 1) * s by rw [Nat.add_mul]; omega]; exact this
    have := RelDs.append h0 ih
    rw [List.take_append_drop] at this
    simpa using this
theorem mem_weightsAll {e : TypeId} : ∀ {l : List (DataW H)} {d : DataW H} {n : Nat}, d ∈ l → n ∈ d.weights P e → n ∈ DataW.weightsAll P e l
  | d0 :: l, d, n, h, k => by
    simp only [DataW.weightsAll, List.mem_append]
    rcases List.mem_cons.1 h with rfl | h
    · exact .inl k
    · exact .inr (mem_weightsAll h k)
theorem trod_fields {fuel n : Nat} (ih : ∀ (t : TypeId) (cs : List Value) (x : DataW H × List MemPlace), goodT P n t = true → (∀ m, m ∈ x.1.weights P t → m ≤ 140737488351232) → DataW.trod enc P w 0 (fun _ => true) true fuel t cs = some x → ∃ ds, Ty P n t ds ∧ RelDs (immAll w) w ds cs)
    {cs : List Value} {total : Nat} (hcs : cs.length = total) : ∀ (fs : List Field) (o : Nat) (xs : List (DataW H × List MemPlace)), contig P fs o total = true → (fs.all fun f => goodT P n f.type) = true → (∀ m, m ∈ DataW.weightsEach P (fs.map (·.type)) (xs.map (·.1)) → m ≤ 140737488351232) →
      (fs.mapM fun f => DataW.trod enc P w 0 (fun _ => true) true fuel f.type ((cs.drop f.offset).take (P.cellsOf f.type))) = some xs → ∃ ds, TyFs (Ty P n) fs ds ∧ RelDs (immAll w) w ds (cs.drop o)
  | [], o, xs, hc, _, _, _ => by
    simp [contig] at hc
    refine ⟨[], by simp [TyFs], ?_⟩
    simp only [RelDs]
    exact List.drop_eq_nil_of_le (by omega)
  | f :: fs, o, xs, hc, hg, hwt, h => by
    simp only [contig, Bool.and_eq_true, beq_iff_eq] at hc
    simp only [List.all_cons, Bool.and_eq_true] at hg
    rw [List.mapM_cons] at h
    cases h1 : DataW.trod enc P w 0 (fun _ => true) true fuel f.type ((cs.drop f.offset).take (P.cellsOf f.type)) with
    | none => simp [h1] at h
    | some x1 =>
      cases h2 : (fs.mapM fun f => DataW.trod enc P w 0 (fun _ => true) true fuel f.type ((cs.drop f.offset).take (P.cellsOf f.type))) with
      | none => simp [h1, h2] at h
      | some x2 =>
        simp [h1, h2] at h; subst h
        simp only [List.map_cons, DataW.weightsEach, List.mem_append] at hwt
        obtain ⟨a, ha, hra⟩ := ih f.type _ x1 hg.1 (fun m hm => hwt m (.inl hm)) h1
        obtain ⟨b, hb, hrb⟩ := trod_fields ih hcs fs (o + P.cellsOf f.type) x2 hc.2 hg.2 (fun m hm => hwt m (.inr hm)) h2
        refine ⟨a ++ b, by simp only [TyFs]; exact ⟨a, b, rfl, ha, hb⟩, ?_⟩
        rw [hc.1] at hra
        have := RelDs.append hra hrb
        rw [← List.drop_drop, List.take_append_drop] at this
        exact this
theorem cells_at {a : Addr} {n : Nat} {cs : List Value} (h : w.cells? 0 a n = some cs) : cs.length = n ∧ ∀ (j : Nat) (v : Value), cs[j]? = some v → w.cell? (a.add j) = some v := by
  unfold World.cells? at h
  simp only [Nat.zero_le, if_true] at h
  obtain ⟨h1, h2⟩ := mapM_get h
  refine ⟨by simpa using h1, fun j v hj => ?_⟩
  have hlt : j < n := by have := (List.getElem?_eq_some_iff.1 hj).1; simp at h1; omega
  obtain ⟨y, hy, hy2⟩ := h2 j j (by simp [hlt])
  rw [hj] at hy2; cases hy2; exact hy
theorem cell_lt {b o : Nat} {v : Value} (h : w.cell? ⟨b, o, none⟩ = some v) : b < w.heap.size := by
  unfold World.cell? at h
  cases hb : w.heap[b]? with
  | none => simp [hb] at h
  | some x => exact heap_lt hb
theorem cell_spot {a : Addr} {v : Value} (h : w.cell? a = some v) : a.spot = none := by
  unfold World.cell? at h
  split at h
  · split at h
    · cases h
    · rename_i hs; cases hsp : a.spot with | none => rfl | some x => simp [hsp] at hs
  · cases h
theorem trod_open : ∀ (fuel n : Nat) (t : TypeId) (cs : List Value) (x : DataW H × List MemPlace), goodT P n t = true → (∀ m, m ∈ x.1.weights P t → m ≤ 140737488351232) → DataW.trod enc P w 0 (fun _ => true) true fuel t cs = some x →
    ∃ ds, Ty P n t ds ∧ RelDs (immAll w) w ds cs
  | 0, _, _, _, _, _, _, h => by simp [DataW.trod] at h
  | fuel + 1, 0, _, _, _, hg, _, _ => by simp [goodT] at hg
  | fuel + 1, n + 1, t, cs, x, hg, hwt, h => by
    have ih := trod_open fuel n
    simp only [goodT] at hg
    simp only [Ty]
    cases hu : P.underlying t with
    | none => simp [hu] at hg
    | some d =>
      simp only [hu] at hg
      cases d with
      | bool =>
        unfold DataW.trod at h
        simp only [hu] at h
        split at h
        case h_1 b _ => exact ⟨[.bool b], ⟨b, rfl⟩, by simp only [RelDs]; exact ⟨_, [], rfl, by simp [OneC], by simp only [RelD], rfl⟩⟩
        all_goals (first | (cases h; done) | (rename_i hh; cases hh; done) | simp_all)
      | int k =>
        unfold DataW.trod at h
        simp only [hu] at h
        split at h
        case h_2 k0 k' z hk =>
          cases hk
          split at h
          case isFalse => cases h
          rename_i hw
          obtain ⟨rfl, hw⟩ := hw
          exact ⟨[.int k' z], ⟨z, rfl, hw⟩, by simp only [RelDs]; exact ⟨_, [], rfl, by simp [OneC], by simp only [RelD], rfl⟩⟩
        all_goals (first | (cases h; done) | (rename_i hh; cases hh; done) | simp_all)
      | string =>
        unfold DataW.trod at h
        simp only [hu] at h
        split at h
        case h_4 s _ =>
          split at h
          case isFalse => cases h
          cases h
          exact ⟨[.str s], ⟨s, rfl, hwt _ (by simp [DataW.weights])⟩, by simp only [RelDs]; exact ⟨_, [], rfl, by simp [OneC], by simp only [RelD], rfl⟩⟩
        all_goals (first | (cases h; done) | (rename_i hh; cases hh; done) | simp_all)
      | slice e =>
        simp only [Bool.and_eq_true, decide_eq_true_eq] at hg
        unfold DataW.trod at h
        simp only [hu] at h
        split at h
        case h_7 =>
          exact ⟨[.nils], .inl rfl, by simp only [RelDs]; exact ⟨_, [], rfl, by simp [OneC], by simp only [RelD], rfl⟩⟩
        case h_8 e' a len cap he =>
          cases he
          split at h
          case isFalse => cases h
          rename_i hc
          obtain ⟨_, hlc, hcm⟩ := hc
          obtain ⟨elems, hel, h⟩ := Option.bind_eq_some_iff.1 h
          obtain ⟨el, hel2⟩ := mapM_get hel
          simp at el
          obtain ⟨rest, _, rfl⟩ := Option.map_eq_some_iff.1 h
          simp only [DataW.weights, hu, List.length_map] at hwt
          have hbytes : len * P.bytesOf e ≤ 140737488351232 := Nat.le_trans (Nat.mul_le_mul_right _ (by omega)) (hwt _ (List.mem_cons_self ..))
          obtain ⟨b, o, sp⟩ := a
          have hrow : ∀ i, i < len → ∃ r : List D, (Ty P n e r) ∧ r.length = P.cellsOf e ∧ sp = none ∧ Held (immAll w) w b (o + i * P.cellsOf e) r := fun i hi => by
            obtain ⟨y, hy, hy9⟩ := hel2 i i (by simp [hi])
            have hyw : ∀ m, m ∈ y.1.weights P e → m ≤ 140737488351232 := fun m hm => hwt m (List.mem_cons_of_mem _ (List.mem_append_left _ (mem_weightsAll (List.mem_map.2 ⟨y, List.mem_of_getElem? hy9, rfl⟩) hm)))
            obtain ⟨ci, hci, hy⟩ := Option.bind_eq_some_iff.1 hy
            obtain ⟨c1, c2⟩ := cells_at hci
            obtain ⟨r, hr1, hr2⟩ := ih e ci y hg.1 hyw hy
            obtain ⟨j0, hj0⟩ : ∃ v, ci[0]? = some v := ⟨_, List.getElem?_eq_getElem (by omega)⟩
            have hs0 := cell_spot (c2 0 j0 hj0)
            have hsp : (i * P.cellsOf e = 0 → sp = none) := fun h0 => by
              simpa [Addr.add, h0] using hs0
            have hadd : ∀ j, ((⟨b, o, sp⟩ : Addr).add (i * P.cellsOf e)).add j = ⟨b, o + i * P.cellsOf e + j, none⟩ := fun j => by
              by_cases h0 : i * P.cellsOf e = 0
              · rw [hsp h0, addr_add, addr_add]
              · simp only [Addr.add, h0, if_false]
                split <;> simp_all
            have hsp0 : sp = none := by
              obtain ⟨y0, hy0, _⟩ := hel2 0 0 (List.getElem?_range (Nat.lt_of_le_of_lt (Nat.zero_le i) hi))
              obtain ⟨c0, hc0, _⟩ := Option.bind_eq_some_iff.1 hy0
              obtain ⟨d1, d2⟩ := cells_at hc0
              obtain ⟨v0, hv0⟩ : ∃ v, c0[0]? = some v := ⟨_, List.getElem?_eq_getElem (by omega)⟩
              have := cell_spot (d2 0 v0 hv0)
              simpa [Addr.add] using this
            refine ⟨r, hr1, by rw [← hr2.len]; exact c1, hsp0, hr2.held fun j v hj => ?_⟩
            have := c2 j v hj
            rw [hadd j] at this
            exact ⟨this, cell_lt this⟩
          obtain ⟨rows, hrl, hrows⟩ := choose_rows len hrow
          have hall : ∀ r, r ∈ rows → Ty P n e r ∧ r.length = P.cellsOf e := fun r hr => by
            obtain ⟨i, hi, e⟩ := List.getElem_of_mem hr
            have := hrows i r (by rw [List.getElem?_eq_getElem hi, e])
            exact ⟨this.1, this.2.1⟩
          refine ⟨_, .inr ⟨rows, rfl, by omega, by rw [hrl]; exact hbytes, fun r hr => (hall r hr).1⟩, ?_⟩
          simp only [RelDs]
          refine ⟨_, [], rfl, by simp [OneC], ?_, rfl⟩
          simp only [RelD]
          refine ⟨hg.2, fun hf r hr y hy => flat_scalar 20 n e r hf (hall r hr).1 y hy, fun r hr => (hall r hr).2, b, o, sp, cap, by rw [hrl], ?_, by omega, (fun h => by cases h), ?_⟩
          · rcases Nat.eq_zero_or_pos rows.length with h0 | h0
            · exact .inl (List.length_eq_zero_iff.1 h0)
            · exact .inr (hrows 0 rows[0] (by simp)).2.2.1
          · have key : ∀ (l : List (List D)) (k : Nat), (∀ i r, l[i]? = some r → Held (immAll w) w b (o + (k + i) * P.cellsOf e) r) → HeldR (immAll w) w (P.cellsOf e) b (o + k * P.cellsOf e) l := by
              intro l
              induction l with
              | nil => intro k _; simp [HeldR]
              | cons r l ihl =>
                intro k hl
                simp only [HeldR]
                refine ⟨by simpa using hl 0 r (by simp), ?_⟩
                have := ihl (k + 1) fun i x hx => by
                  have := hl (i + 1) x (by simpa using hx)
                  rw [show k + 1 + i = k + (i + 1) by omega]; exact this
                rw [show o + k * P.cellsOf e + P.cellsOf e = o + (k + 1) * P.cellsOf e by rw [Nat.add_mul]; omega]; exact this
            have := key rows 0 fun i r hi => by rw [Nat.zero_add]; exact (hrows i r hi).2.2.2
            simpa using this
        all_goals simp_all
      | struct fs =>
        simp only [Bool.and_eq_true] at hg
        unfold DataW.trod at h
        simp only [hu] at h
        split at h
        case isFalse => cases h
        rename_i hlen
        obtain ⟨xs, hxs, rfl⟩ := Option.map_eq_some_iff.1 h
        simp only [DataW.weights, hu] at hwt
        obtain ⟨ds, h1, h2⟩ := trod_fields ih hlen fs.toList 0 xs hg.1 hg.2 hwt hxs
        exact ⟨ds, h1, by simpa using h2⟩
      | array m e =>
        simp only [Bool.and_eq_true, beq_iff_eq] at hg
        unfold DataW.trod at h
        simp only [hu] at h
        split at h
        case isFalse => cases h
        rename_i hlen
        obtain ⟨xs, hxs, rfl⟩ := Option.map_eq_some_iff.1 h
        simp only [DataW.weights, hu] at hwt
        obtain ⟨xl, hx2⟩ := mapM_get hxs
        obtain ⟨rows, hrl, hrows⟩ := choose_rows (Q := fun i r => Ty P n e r ∧ RelDs (immAll w) w r ((cs.drop (i * P.cellsOf e)).take (P.cellsOf e))) m fun i hi => by
          obtain ⟨y, hy, hy9⟩ := hx2 i i (by simp [hi])
          obtain ⟨r, hr1, hr2⟩ := ih e _ y hg.1 (fun m hm => hwt m (mem_weightsAll (List.mem_map.2 ⟨y, List.mem_of_getElem? hy9, rfl⟩) hm)) hy
          exact ⟨r, hr1, hr2⟩
        refine ⟨rows.flatten, ⟨rows, hrl, rfl, fun r hr => ?_⟩, relDs_flatten (s := P.cellsOf e) rows cs (by rw [hrl, hg.2]; exact hlen) fun i r hi => (hrows i r hi).2⟩
        obtain ⟨i, hi, e'⟩ := List.getElem_of_mem hr
        exact (hrows i r (by rw [List.getElem?_eq_getElem hi, e'])).1
      | _ => simp at hg
end
end Go.Proofs.Ytdlhhoejnhjbhaa.Den

namespace Go.Proofs.Ytdlhhoejnhjbhaa.Den
open Go Go.ChangeShapes Go.WideShapes Go.ChangeAt Go.RowKit
set_option linter.unusedVariables false
set_option linter.unusedSimpArgs false
def argV (P : Program) (t : TypeId) (ds : List D) : V :=
  match P.underlying t with
  | some (.struct _) | some (.array _ _) => .agg (ds.map V.d)
  | _ => match ds with | d :: _ => .d d | [] => .un
def argsV (P : Program) : List TypeId → List (List D) → List V
  | t :: ts, ds :: r => argV P t ds :: argsV P ts r
  | _, _ => []
def TyAll (P : Program) (n : Nat) : List TypeId → List (List D) → Prop
  | [], r => r = []
  | t :: ts, r => ∃ ds r', r = ds :: r' ∧ Ty P n t ds ∧ TyAll P n ts r'
def cx0 (w : World) : Cx := ⟨fun _ => none, [], immAll w, w⟩
theorem cx0_sim (P : Program) (w : World) : PSim P (cx0 w) :=
  ⟨fun _ _ _ h => by simp [cx0] at h, fun _ _ _ h => by simp [cx0] at h, fun _ _ h => by simp [cx0] at h, fun b o h => h⟩
section
variable {P : Program} {H : Type} {enc : TypeId × Value → H} {w : World}
theorem open_arg {n base : Nat} {r : Reach} {t : TypeId} {v : Value} {d : DataW H} {ps : List MemPlace} (hg : goodT P n t = true) (hval : Value.okWide P w r base t v) (hwt : ∀ m, m ∈ d.weights P t → m ≤ 140737488351232) (h : DataW.Trod enc P w 0 (fun _ => true) true t v d ps) :
    ∃ ds, Ty P n t ds ∧ RelV (cx0 w) (argV P t ds) v := by
  obtain ⟨fuel, h⟩ := h
  obtain ⟨ds, h1, h2⟩ := trod_open fuel n t _ _ hg hwt h
  refine ⟨ds, h1, ?_⟩
  obtain ⟨g1, g2⟩ := RelDs.rel (φ := fun _ => none) (m := []) h2
  have one : (∀ cs, v ≠ .agg cs) → (∃ d r, ds = d :: r) → (∀ d r, ds = d :: r → RelV (cx0 w) (.d d) v) := fun hna _ d r e => by
    have hc : v.cells.toList = [v] := by cases v <;> first | rfl | exact absurd rfl (hna _)
    rw [hc] at h2
    subst e
    simp only [RelDs] at h2
    obtain ⟨u, us, e, _, hr, _⟩ := h2
    cases e
    simp only [RelV]
    exact hr
  cases n with
  | zero => simp [Ty] at h1
  | succ n =>
    simp only [Ty] at h1
    simp only [argV]
    cases hu : P.underlying t with
    | none => simp [hu] at h1
    | some dsc =>
      rw [hu] at h1
      have hnag : (∀ fs, dsc ≠ .struct fs) → (∀ m e, dsc ≠ .array m e) → ∀ cs, v ≠ .agg cs := fun h1 h2 cs hv => by
        subst hv
        simp only [Value.okWide, hu, Cell.okWide] at hval
        cases dsc <;> simp_all [Cell.ok]
      cases dsc with
      | bool => obtain ⟨b, rfl⟩ := h1; exact one (hnag (by simp) (by simp)) ⟨_, _, rfl⟩ _ _ rfl
      | int k => obtain ⟨b, rfl, _⟩ := h1; exact one (hnag (by simp) (by simp)) ⟨_, _, rfl⟩ _ _ rfl
      | string => obtain ⟨b, rfl, _⟩ := h1; exact one (hnag (by simp) (by simp)) ⟨_, _, rfl⟩ _ _ rfl
      | slice e =>
        rcases h1 with rfl | ⟨rows, rfl, _⟩
        · exact one (hnag (by simp) (by simp)) ⟨_, _, rfl⟩ _ _ rfl
        · exact one (hnag (by simp) (by simp)) ⟨_, _, rfl⟩ _ _ rfl
      | struct fs =>
        simp only [Value.okWide, hu] at hval
        obtain ⟨cs, rfl, _⟩ := hval
        simp only [RelV]
        exact ⟨cs.toList, rfl, g1, g2⟩
      | array m e =>
        simp only [Value.okWide, hu] at hval
        obtain ⟨cs, rfl, _⟩ := hval
        simp only [RelV]
        exact ⟨cs.toList, rfl, g1, g2⟩
      | _ => simp at h1
theorem open_args {n base : Nat} {r : Reach} : ∀ (ts : List TypeId) (vs : List Value) (ds : List (DataW H)) (ps : List MemPlace), (ts.all fun t => goodT P n t) = true →
    (∀ (j : Nat) t v, ts[j]? = some t → vs[j]? = some v → Value.okWide P w r base t v) → (∀ m, m ∈ DataW.weightsEach P ts ds → m ≤ 140737488351232) → DataW.TrodAll enc P w 0 (fun _ => true) true ts vs ds ps → ∃ rs, TyAll P n ts rs ∧ RelVs (cx0 w) (argsV P ts rs) vs
  | [], vs, ds, ps, _, _, _, h => by
    obtain ⟨rfl, _, _⟩ := trodAll_nil h
    exact ⟨[], rfl, by simp [argsV, RelVs]⟩
  | t :: ts, vs, ds, ps, hg, hval, hwt, h => by
    simp only [List.all_cons, Bool.and_eq_true] at hg
    obtain ⟨v, vs', d, ds', p, q, rfl, rfl, rfl, h1, h2⟩ := trodAll_cons h
    simp only [DataW.weightsEach, List.mem_append] at hwt
    obtain ⟨rs, g1, g2⟩ := open_args ts vs' ds' q hg.2 (fun j t v ht hv => hval (j + 1) t v (by simpa using ht) (by simpa using hv)) (fun m hm => hwt m (.inr hm)) h2
    obtain ⟨r0, k1, k2⟩ := open_arg hg.1 (hval 0 t v (by simp) (by simp)) (fun m hm => hwt m (.inl hm)) h1
    refine ⟨r0 :: rs, ⟨r0, rs, rfl, k1, g1⟩, ?_⟩
    simp only [argsV, RelVs]
    exact ⟨v, vs', rfl, k2, g2⟩
theorem weightsEach_app {ts' : List TypeId} {ds' : List (DataW H)} {m : Nat} : ∀ {ts : List TypeId} {ds : List (DataW H)}, m ∈ DataW.weightsEach P ts ds → m ∈ DataW.weightsEach P (ts ++ ts') (ds ++ ds')
  | t :: ts, d :: ds, h => by
    simp only [List.cons_append, DataW.weightsEach, List.mem_append] at h ⊢
    exact h.imp id weightsEach_app
  | [], _, h => by simp [DataW.weightsEach] at h
  | _ :: _, [], h => by simp [DataW.weightsEach] at h
theorem args_back (hl : laidOutB P = true) {W' : World} (hb : Below w.heap.size w W') : ∀ (ts : List TypeId) (vs : List Value) (ds : List (DataW H)) (ps : List MemPlace), (∀ t, t ∈ ts → P.readableRec t = true ∧ t < P.types.size) →
    (∀ x, x ∈ ps → x.block < w.heap.size) → DataW.TrodAll enc P w 0 (fun _ => true) true ts vs ds ps → DataW.TrodAll enc P W' 0 (fun b => decide (b < w.heap.size)) true ts vs ds ps
  | [], vs, ds, ps, _, _, h => by
    obtain ⟨rfl, rfl, rfl⟩ := trodAll_nil h
    exact trodAll_mk0
  | t :: ts, vs, ds, ps, hr, hlt, h => by
    obtain ⟨v, vs', d, ds', p, q, rfl, rfl, rfl, h1, h2⟩ := trodAll_cons h
    obtain ⟨g1, g2⟩ := hr t (by simp)
    exact trodAll_cons_mk (Below.trod hl g1 g2 h1 hb fun x hx => hlt x (List.mem_append_left _ hx)) (args_back hl hb ts vs' ds' q (fun t ht => hr t (by simp [ht])) (fun x hx => hlt x (List.mem_append_right _ hx)) h2)
theorem calls_law (hm : P.follows .mixedOrders = true) {E : Env} (hE : EnvOK P E) {f : FuncId} {args : List V} {vals : List Value} {k : Nat} {m' : Mem} (hgl : GlOK E (cx0 w)) (ha : RelVs (cx0 w) args vals) (h : callD E k f args [] = some ([.d (.bool true)], m')) :
    Calls P f ⟨vals⟩ w fun e w' => e = .returned (.bool true) ∧ Below w.heap.size w w' := by
  have hny : f ≠ yfn := by
    rintro rfl
    cases k with
    | zero => simp [callD] at h
    | succ k =>
      simp only [callD, if_true, runY] at h
      split at h
      · simp at h
      · cases h
  refine ((((callD_ok hE (draw_ok hm) k).1) f args [] _ m' h (cx0 w) vals (cx0_sim P w) rfl hgl ha).1 hny).2.mono ?_
  rintro e w' ⟨rv, c', rfl, rfl, _, hp, hr⟩
  refine ⟨?_, hp.keeps.os, hp.keeps.tape, hp.keeps.output, hp.keeps.size, fun b hb => ?_⟩
  · simp only [RelVs] at hr
    obtain ⟨u, us, rfl, hu, rfl⟩ := hr
    simp only [RelV, RelD] at hu
    rw [hu]; rfl
  · have hb' : ∃ o, w.heap[b]? = some o := ⟨w.heap[b], by simp [hb]⟩
    obtain ⟨o, ho⟩ := hb'
    rw [ho]
    exact hp.keeps.heap b o ho fun ⟨id, blk, h1, _⟩ => by simp [cx0] at h1
end
theorem law_lifted {C : Checked} (hm : C.prog.follows .mixedOrders = true) {E : Env} (hE : EnvOK C.prog E) (hgl : ∀ w, GlOK E (cx0 w)) {os : Os} {f : FuncId} {fn : Func} {s : ChangeSpec} {H : Type} {enc : TypeId × Value → H}
    (own : ownKnob C.prog.godebug = none) (started : os.Started) (noInit : C.prog.inits.idxOf? f = none) (hfn : C.prog.funcs[f]? = some fn) (hl : laidOutB C.prog = true)
    (witness : ∃ (w : World) (tape : Tape) (i : Input), w.os = os ∧ (w.forCall tape i).Shaped C.prog ∧ i.vars = [] ∧ Input.okWide C.prog (w.forCall tape i) .any w.heap.size f i ∧
      s.pre6 enc C.prog fn [] false (w.forCall tape i).memory i.args ∧ Assume.holds {} C.prog (lone (Frame.enter C.prog f i.args .normal) [] (w.forCall tape i)))
    (hgood : (fn.params.toList.all fun t => goodT C.prog 20 t && C.prog.readableRec t && decide (t < C.prog.types.size)) = true) {rt : TypeId} (hres : fn.resultTypes = #[rt]) (hrt : C.prog.underlying rt = some .bool)
    (hvars : s.vars = []) (hspec : ∀ ds : List (DataW H), ds.length = fn.params.toList.length → s.fn H ds = { results := [.lit (.bool true)], args := ds })
    (hlaw : ∀ rs, TyAll C.prog 20 fn.params.toList rs → ∃ k m', callD E k f (argsV C.prog fn.params.toList rs) [] = some ([.d (.bool true)], m')) :
    ReturnsInHanded {} C os f .any (s.pre6 enc C.prog fn [] false) (s.post enc C.prog fn false true false false) := by
  refine returnsInHanded_of_change_sized own started noInit hfn witness ?_
  intro W base args ds gs before hval hW _ hsz _
  have hW' := hW
  obtain ⟨p, q, hA, hV, rfl, hfz, hnd⟩ := hW
  rw [hvars] at hV
  obtain ⟨rfl, rfl⟩ := trodVars_none hV
  have hgd : ∀ t, t ∈ fn.params.toList → goodT C.prog 20 t = true ∧ C.prog.readableRec t = true ∧ t < C.prog.types.size := fun t ht => by
    have := List.all_eq_true.1 hgood t ht
    simpa [Bool.and_eq_true, and_assoc] using this
  obtain ⟨rs, h1, h2⟩ := open_args (n := 20) fn.params.toList args.toList ds p (List.all_eq_true.2 fun t ht => (hgd t ht).1) (fun j t v ht hv => hval j t v (by simpa using ht) (by simpa using hv)) (fun m hm => of_decide_eq_true (List.all_eq_true.1 hsz m (weightsEach_app hm))) hA
  obtain ⟨k, m', hk⟩ := hlaw rs h1
  refine (calls_law hm hE (hgl W) h2 hk).mono fun e W' ⟨he, bel⟩ => ?_
  subst he
  have hlen : ds.length = fn.params.toList.length := by
    have : ∀ (ts : List TypeId) (vs : List Value) (ds : List (DataW H)) (ps : List MemPlace), DataW.TrodAll enc C.prog W 0 (fun _ => true) true ts vs ds ps → ds.length = ts.length := by
      intro ts
      induction ts with
      | nil => intro vs ds ps h; obtain ⟨_, rfl, _⟩ := trodAll_nil h; rfl
      | cons t ts ih => intro vs ds ps h; obtain ⟨v, vs', d, ds', p, q, rfl, rfl, rfl, _, h2⟩ := trodAll_cons h; simp [ih _ _ _ h2]
    exact this _ _ _ _ hA
  have hs := hspec ds hlen
  refine ⟨_, rfl, ds, [], _, [], p, [], hW', ?_, ?_, ?_, bel.frame _, fun h => by cases h⟩
  · rw [List.append_nil, hs, hres]
    exact trodAll_mk1 (shut_bool hrt _)
  · rw [List.append_nil, hs]
    exact args_back hl bel _ _ _ _ (fun t ht => (hgd t ht).2) (fun x hx => by simpa using hW'.lt x (by simpa using hx)) hA
  · rw [hvars, List.append_nil, hs]; rfl
section
variable {P : Program} {n : Nat} {t : TypeId} {ds : List D}
theorem ty_bool (h : Ty P (n + 1) t ds) (hu : P.underlying t = some .bool) : ∃ b, ds = [.bool b] := by simpa only [Ty, hu] using h
theorem ty_int {k : IntKind} (h : Ty P (n + 1) t ds) (hu : P.underlying t = some (.int k)) : ∃ z, ds = [.int k z] ∧ (Lit.int k z).wf = true := by simpa only [Ty, hu] using h
theorem ty_str (h : Ty P (n + 1) t ds) (hu : P.underlying t = some .string) : ∃ s, ds = [.str s] ∧ s.size ≤ 140737488351232 := by simpa only [Ty, hu] using h
theorem ty_slice {e : TypeId} (h : Ty P (n + 1) t ds) (hu : P.underlying t = some (.slice e)) : ds = [.nils] ∨ ∃ rows, ds = [.rs (isFlat P e) (P.cellsOf e) rows false] ∧ rows.length ≤ maxLen ∧ rows.length * P.bytesOf e ≤ 140737488351232 ∧ ∀ r, r ∈ rows → Ty P n e r := by simpa only [Ty, hu] using h
theorem ty_struct {fs : Array Field} (h : Ty P (n + 1) t ds) (hu : P.underlying t = some (.struct fs)) : TyFs (Ty P n) fs.toList ds := by simpa only [Ty, hu] using h
theorem ty_arr {m : Nat} {e : TypeId} (h : Ty P (n + 1) t ds) (hu : P.underlying t = some (.array m e)) : ∃ rows : List (List D), rows.length = m ∧ ds = rows.flatten ∧ ∀ r, r ∈ rows → Ty P n e r := by simpa only [Ty, hu] using h
theorem tyfs_nil {T : TypeId → List D → Prop} (h : TyFs T [] ds) : ds = [] := h
theorem tyfs_cons {T : TypeId → List D → Prop} {f : Field} {fs : List Field} (h : TyFs T (f :: fs) ds) : ∃ a b, ds = a ++ b ∧ T f.type a ∧ TyFs T fs b := h
end
end Go.Proofs.Ytdlhhoejnhjbhaa.Den

namespace Go.Proofs.Ytdlhhoejnhjbhaa.Den
open Go
set_option linter.unusedVariables false
set_option linter.unusedSimpArgs false
inductive A (E : Env) : Type where
  | b {x c : Bool} (h : x = c)
  | c {f : FuncId} {args : List V} {m : Mem} {rs : List V} {m' : Mem} (h : cl E f args m = some (rs, m'))
  | l {g : List V × Mem → Option (X × (List V × Mem))} {h0 : List V × Mem} {x : X} {h' : List V × Mem} (h : loopG g bound h0 = some (x, h'))
  | s {f : S → Option (X × S)} {lv lx ln : List Nat} {k : Nat} {h0 : List V × Mem} {x : X} {h' : List V × Mem} (h : segG f lv lx ln k h0 = some (x, h'))
  | e {u u' : V} (h : u = u')
  | y {mm : Mem} {args args1 : List V} (h : V.byvals mm args = args1)
  | o (d : Nat) {i : I} {v : V} (h : ∀ m, doI E (cl E) i (fun _ => .un) m = some (v, m))
  | m (d : Nat) {i : I} {m : Mem} {v : V} {m' : Mem} (h : doI E (cl E) i (fun _ => .un) m = some (v, m'))
abbrev A.k {E : Env} (c : Bool) : A E := .b (x := c) (c := c) rfl
def A.prop {E : Env} : A E → Prop
  | @A.b _ x w _ => x = w
  | @A.c _ f args mm rs m' _ => cl E f args mm = some (rs, m')
  | @A.l _ g h0 x h' _ => loopG g bound h0 = some (x, h')
  | @A.s _ f lv lx ln k h0 x h' _ => segG f lv lx ln k h0 = some (x, h')
  | @A.e _ u u' _ => u = u'
  | @A.y _ mm args args1 _ => V.byvals mm args = args1
  | @A.o _ _ i v _ => ∀ mm, doI E (cl E) i (fun _ => .un) mm = some (v, mm)
  | @A.m _ _ i mm v m' _ => doI E (cl E) i (fun _ => .un) mm = some (v, m')
theorem A.holds {E : Env} : ∀ (a : A E), a.prop
  | .b h => h
  | .c h => h
  | .l h => h
  | .s h => h
  | .e h => h
  | .y h => h
  | .o _ h => h
  | .m _ h => h
structure W (E : Env) where
  t : List (Nat × V × Bool)
  d : V
  m : Mem
  os : List (A E)
  qs : List Prop
def lookW (d : V) : List (Nat × V × Bool) → Nat → V × Bool
  | [], _ => (d, false)
  | (i, x) :: r, j => match Nat.beq j i with | true => x | false => lookW d r j
noncomputable section
variable {E : Env}
def W.tOf (w : W E) : Nat → V := fun j => (lookW w.d w.t j).1
def knW (w : W E) : O → Option Bool
  | .v (.d (.bool c)) => some c
  | .t i => match lookW w.d w.t i with
    | (.d (.bool c), true) => some c
    | _ => none
  | _ => none
def isK : Option Bool → Bool
  | some _ => true
  | none => false
def testW (o : O) (w : W E) : Option (Bool × W E) :=
  match knW w o with
  | some c => some (c, w)
  | none => match ev E w.tOf o with
    | .d (.bool x) => match w.os with
      | @A.b _ _ c _ :: r => some (c, ⟨(match o with | .t j => (j, .d (.bool c), true) :: w.t | _ => w.t), w.d, w.m, r, (x = c) :: w.qs⟩)
      | _ => none
    | _ => none
def callPre (args args1 : List V) (m : Mem) : Option (List Nat × Bool × List V × Mem) :=
  match distinct (reach m 1000 (V.idss args1) []) && (V.slidss args).all (fun i => !(reach m 1000 (V.idss args1) []).contains i) with
  | true => match pickBlks m (idxOf (reach m 1000 (V.idss args1) [])) (reach m 1000 (V.idss args1) []) with
    | some mc => some (reach m 1000 (V.idss args1) [], (V.slidss args).isEmpty, V.rens (idxOf (reach m 1000 (V.idss args1) [])) args1, mc)
    | none => none
  | false => none
def callPost (m : Mem) (ids : List Nat) (e : Bool) (rs : List V) (m' : Mem) : Option (List V × Mem) :=
  match e || (V.noRss rs && m'.all Blk.noRs) with
  | true => match layBack m' (backRen ids m.length) 0 ids m with
    | some m1 => some (V.rens (backRen ids m.length) rs, m1 ++ restBlks m' (backRen ids m.length) ids.length)
    | none => none
  | false => none
theorem callV_pre {call : CallT} {f : FuncId} {args : List V} {m : Mem} {ids : List Nat} {e : Bool} {a : List V} {mc : Mem} {rs : List V} {m' : Mem} {r : List V × Mem} {args1 : List V} (h0 : V.byvals m args = args1) (h1 : callPre args args1 m = some (ids, e, a, mc)) (h2 : call f a mc = some (rs, m')) (h3 : callPost m ids e rs m' = some r) :
    callV call f args m = some r := by
  subst h0
  unfold callPre at h1
  split at h1
  · rename_i hc
    split at h1
    · rename_i mc' hp
      cases h1
      simp only [callV]
      rw [if_pos hc, hp, Option.bind_some, h2, Option.bind_some]
      unfold callPost at h3
      split at h3
      · rename_i he
        rw [if_pos he]
        split at h3
        · rename_i m1 hl
          simp only [hl, Option.map_some]; exact h3
        · cases h3
      · cases h3
    · cases h1
  · cases h1
def I.mapO (f : O → O) : I → I
  | .mov x => .mov (f x)
  | .pick c a b => .pick (f c) (f a) (f b)
  | .alloc e z fl => .alloc e z fl
  | .nsl e fl s => .nsl e fl s
  | .allocn t e fl s => .allocn t e fl s
  | .box e fl s x => .box e fl s (f x)
  | .build z parts => .build z (parts.map fun p => (p.1, p.2.1, f p.2.2))
  | .bslice e fl s n z parts => .bslice e fl s n z (parts.map fun p => (p.1, f p.2))
  | .load g s x => .load g s (f x)
  | .store s x v => .store s (f x) (f v)
  | .nilck x => .nilck (f x)
  | .bin op x y => .bin op (f x) (f y)
  | .beq k n x y => .beq k n (f x) (f y)
  | .unop op x => .unop op (f x)
  | .conv k x => .conv k (f x)
  | .mkfn g a b => .mkfn g (a.map f) (b.map f)
  | .mkif t x => .mkif t (f x)
  | .mksl e fl z b l c => .mksl e fl z b (f l) (f c)
  | .slice s x lo hi mz => .slice s (f x) (lo.map f) (hi.map f) (mz.map f)
  | .slstr x lo hi => .slstr (f x) (lo.map f) (hi.map f)
  | .slarr n s x lo hi mz => .slarr n s (f x) (lo.map f) (hi.map f) (mz.map f)
  | .fieldA o x => .fieldA o (f x)
  | .field g o s x => .field g o s (f x)
  | .idxA s x i => .idxA s (f x) (f i)
  | .idxAA n s x i => .idxAA n s (f x) (f i)
  | .idx g n s x i => .idx g n s (f x) (f i)
  | .idxs x i => .idxs (f x) (f i)
  | .arrP n s x => .arrP n s (f x)
  | .extract i x => .extract i (f x)
  | .call g args => .call (f g) (args.map f)
  | .inv tbl x args => .inv tbl (f x) (args.map f)
  | .len x => .len (f x)
  | .lens x => .lens (f x)
  | .lenc n => .lenc n
  | .append e fl s b x y => .append e fl s b (f x) (f y)
  | .copy s x y => .copy s (f x) (f y)
  | .mx xs => .mx (xs.map f)
  | .mn xs => .mn (xs.map f)
  | .chk a x b y => .chk a (f x) b (f y)
  | .del g x i j => .del g (f x) (f i) (f j)
def subO (E : Env) (t : Nat → V) (o : O) : O := .v (ev E t o)
theorem evs_sub (t u : Nat → V) (l : List O) : evs E u (l.map (subO E t)) = evs E t l := by simp [evs, subO, ev, Function.comp_def]
theorem fillV_sub (t u : Nat → V) : ∀ (l : List (Nat × Nat × O)) (cs : List V), fillV E u (l.map fun p => (p.1, p.2.1, subO E t p.2.2)) cs = fillV E t l cs
  | [], _ => rfl
  | (a, b, x) :: r, cs => by simp only [List.map_cons, fillV, subO, ev]; rw [← fillV_sub t u r]; rfl
theorem fillRows_sub (t u : Nat → V) (s : Nat) : ∀ (l : List (Nat × O)) (cs : List (List V)), fillRows E u s (l.map fun p => (p.1, subO E t p.2)) cs = fillRows E t s l cs
  | [], _ => rfl
  | (a, x) :: r, cs => by simp only [List.map_cons, fillRows, subO, ev]; rw [← fillRows_sub t u s r]; rfl
theorem optNat_sub (t u : Nat → V) (o : Option O) (d : Nat) : optNat E u (o.map (subO E t)) d = optNat E t o d := by cases o <;> rfl
theorem doI_sub (call : CallT) (i : I) (t u : Nat → V) (m : Mem) : doI E call (i.mapO (subO E t)) u m = doI E call i t m := by
  cases i <;> simp only [I.mapO, doI, evs_sub, fillV_sub, fillRows_sub, optNat_sub] <;> try rfl
  case slice s x lo hi mx => cases mx <;> rfl
  case slarr n s x lo hi mx => cases mx <;> rfl
def keyOf (dst : Option Nat) (i : I) : Option Nat :=
  match dst with
  | some d => some d
  | none => match i with
    | .store _ (.t j) _ => some (j + 100000)
    | .copy _ (.t j) _ => some (j + 200000)
    | _ => none
def callW (g : FuncId) (args : List V) (mm : Mem) (os : List (A E)) : Option (List V × Mem × List (A E) × List Prop) :=
  match os with
  | @A.y _ _ _ args1 _ :: @A.c _ _ _ _ rs m' _ :: r => match callPre args args1 mm with
    | some (ids, e, a, mc) => match callPost mm ids e rs m' with
      | some (rs', m1) => some (rs', m1, r, [cl E g a mc = some (rs, m'), V.byvals mm args = args1])
      | none => none
    | none => none
  | @A.c _ _ _ _ rs m' _ :: r => match callPre args (V.byvals mm args) mm with
    | some (ids, e, a, mc) => match callPost mm ids e rs m' with
      | some (rs', m1) => some (rs', m1, r, [cl E g a mc = some (rs, m')])
      | none => none
    | none => none
  | _ => none
def stepW (q : Bool) (dst : Option Nat) (i : I) (w : W E) : Option (V × Bool × W E) :=
  match i with
  | .mov x => some (ev E w.tOf x, isK (knW w x), w)
  | .pick c a b => match testW c w with
    | some (true, w') => some (ev E w.tOf a, isK (knW w a), w')
    | some (false, w') => some (ev E w.tOf b, isK (knW w b), w')
    | none => none
  | .unop .not x => match ev E w.tOf x with
    | .d (.bool b) => some (.d (.bool !b), isK (knW w x), w)
    | _ => none
  | .call f args => match ev E w.tOf f with
    | .fn (.func g) first cap => match Nat.beq g yfn with
      | true => none
      | false => match callW g (first ++ evs E w.tOf args ++ cap) (mq q w.m) w.os with
        | some (rs', m1, r, ps) => some (packV rs', false, ⟨w.t, w.d, rq q w.m m1, r, ps ++ w.qs⟩)
        | none => none
    | .yl id => match callW yfn (.yl id :: evs E w.tOf args) (mq q w.m) w.os with
      | some (rs', m1, r, ps) => some (packV rs', false, ⟨w.t, w.d, rq q w.m m1, r, ps ++ w.qs⟩)
      | none => none
    | _ => none
  | .inv tbl x args => match ev E w.tOf x with
    | .ifc ty v => match lookM tbl ty with
      | some g => match Nat.beq g yfn with
        | true => none
        | false => match callW g ([v] ++ evs E w.tOf args ++ []) (mq q w.m) w.os with
          | some (rs', m1, r, ps) => some (packV rs', false, ⟨w.t, w.d, rq q w.m m1, r, ps ++ w.qs⟩)
          | none => none
      | none => none
    | _ => none
  | i => match (match w.os with
      | @A.o _ d _ v _ :: r => (match keyOf dst i with
        | some d' => (match Nat.beq d d' with | true => some (v, w.m, r, ∀ m, doI E (cl E) (i.mapO (subO E w.tOf)) (fun _ => .un) m = some (v, m)) | false => none)
        | none => none)
      | @A.m _ d _ _ v m' _ :: r => (match keyOf dst i with
        | some d' => (match Nat.beq d d' with | true => some (v, rq q w.m m', r, doI E (cl E) (i.mapO (subO E w.tOf)) (fun _ => .un) (mq q w.m) = some (v, m')) | false => none)
        | none => none)
      | _ => none : Option (V × Mem × List (A E) × Prop)) with
    | some (v, m', r, p) => some (v, false, ⟨w.t, w.d, m', r, p :: w.qs⟩)
    | none => match doI E (fun _ _ _ => none) i w.tOf (mq q w.m) with
      | some (v, m') => some (v, false, ⟨w.t, w.d, rq q w.m m', w.os, w.qs⟩)
      | none => none
def putW (w : W E) (d : Option Nat) (v : V) (k : Bool) : W E :=
  match d with
  | some i => ⟨(i, v, k) :: w.t, w.d, w.m, w.os, w.qs⟩
  | none => w
def guardW (g : Option (Nat × Bool)) (w : W E) : Option (Bool × W E) :=
  match g with
  | none => some (true, w)
  | some (j, want) => match w.tOf j with
    | .tup [] => some (false, w)
    | _ => match testW (.t j) w with
      | some (c, w') => some (c == want, w')
      | none => none
def opsW (q : Bool) : List OpC → W E → Option (W E)
  | [], w => some w
  | o :: r, w => match guardW o.guard w with
    | some (true, w1) => match stepW q o.dst o.ins w1 with
      | some (v, k, w2) => opsW q r (putW w2 o.dst v k)
      | none => none
    | some (false, w1) => opsW q r (putW w1 o.dst (.tup []) false)
    | none => none
def op1W (q : Bool) (o : OpC) (w : W E) : Option (W E) :=
  match guardW o.guard w with
  | some (true, w1) => match stepW (qOf q o.ins) o.dst o.ins w1 with
    | some (v, k, w2) => some (putW w2 o.dst v k)
    | none => none
  | some (false, w1) => some (putW w1 o.dst (.tup []) false)
  | none => none
def traceW (qf : List Bool) : Nat → List OpC → W E → Option (List (W E))
  | _, [], w => some [w]
  | k, o :: r, w => match op1W (qf.getD k false) o w with
    | some w1 => match traceW qf (k + 1) r w1 with
      | some l => some (w :: l)
      | none => none
    | none => none
def W.st (w : W E) : S := ⟨w.tOf, w.m⟩
def atW (tr : List (W E)) (k : Nat) : S := match tr[k]? with | some w => w.st | none => S.nil
def pairW (r : Option (Option (V × V))) (w : W E) : Option (W E) :=
  match r with
  | some none => some w
  | some (some (a, b)) => match w.os with
    | @A.e _ _ _ _ :: r => some ⟨w.t, w.d, w.m, r, (a = b) :: w.qs⟩
    | _ => none
  | none => none
def pairsW (E : Env) (l : List OpC) (qf : List Bool) (at_ : Nat → S) (k : Nat) : List Nat → W E → Option (W E)
  | [], w => some w
  | i :: r, w => match pairW (pairN E (qf.getD i false) (qf.getD k false) (opAt' l i) (opAt' l k) (at_ i) (at_ (i + 1)) (at_ k) (at_ (k + 1))) w with
    | some w1 => pairsW E l qf at_ k r w1
    | none => none
def mixW (E : Env) (l : List OpC) (un : List (List Nat)) (qf : List Bool) (at_ : Nat → S) : List Nat → W E → Option (W E)
  | [], w => some w
  | k :: r, w => match strictB E (qf.getD k false) (opAt' l k) (at_ k) (at_ (k + 1)) with
    | true => match pairsW E l qf at_ k (un.getD k []) w with
      | some w1 => mixW E l un qf at_ r w1
      | none => none
    | false => none
def zipW : List Nat → List V → List (Nat × V × Bool)
  | i :: l, v :: r => (i, v, false) :: zipW l r
  | _, _ => []
def walkC : C → W E → Option (X × W E)
  | .skip, w => some (.normal, w)
  | .reg qs ts, w => match opsW true qs w with
    | some w1 => match opsW false ts w1 with
      | some w2 => some (.normal, w2)
      | none => none
    | none => none
  | .mix l un qf, w => match traceW qf 0 l w with
    | some tr => match tr[l.length]? with
      | some w1 => match mixW E l un qf (atW tr) (List.range l.length) w1 with
        | some w2 => some (.normal, w2)
        | none => none
      | none => none
    | none => none
  | .seq a b, w => match walkC a w with
    | some (.normal, w') => walkC b w'
    | r => r
  | .cond c a b, w => match testW c w with
    | some (true, w') => walkC a w'
    | some (false, w') => walkC b w'
    | none => none
  | .block id b, w => match walkC b w with
    | some (.exit i, w') => match Nat.beq i id with | true => some (.normal, w') | false => some (.exit i, w')
    | r => r
  | .loop lv lx b, w => match w.os with
    | @A.l _ _ _ x h' _ :: r => some (x, ⟨zipW lx h'.1, .un, h'.2, r, (loopG (roundG (runC E (cl E) b) lv lx w.m.length) bound (lv.map w.tOf, w.m) = some (x, h')) :: w.qs⟩)
    | _ => none
  | .rfun nt lv f ps a b, w => match ev E w.tOf f with
    | .fn (.func g) first cap => match Nat.beq g yfn with
      | true => none
      | false => match callW g (first ++ [.yl w.m.length] ++ cap) (w.m ++ [.loop .ready none ((List.range nt).map (look lv (lv.map w.tOf))) ps a b false]) w.os with
        | some (_, m2, r, qs) => match m2[w.m.length]? with
          | some (.loop .ready none ts zs a' b' false) => some (.normal, ⟨w.t, w.d, m2.set w.m.length (.loop .exhausted none ts zs a' b' false), r, qs ++ w.qs⟩)
          | some (.loop .done (some .ret) ts zs a' b' false) => some (.ret, ⟨w.t, w.d, m2.set w.m.length (.loop .exhausted (some .ret) ts zs a' b' false), r, qs ++ w.qs⟩)
          | some (.loop .done (some (.exit i)) ts zs a' b' false) => some (.exit i, ⟨w.t, w.d, m2.set w.m.length (.loop .exhausted (some (.exit i)) ts zs a' b' false), r, qs ++ w.qs⟩)
          | _ => none
        | none => none
    | _ => none
  | .seq1 a b, w => match walkC a w with
    | some (.normal, w') => walkC b w'
    | r => r
  | .cut lv lx ln a b, w => match w.os with
    | @A.s _ _ _ _ _ _ _ x h' _ :: r => match x with
      | .normal => walkC b ⟨zipW ln h'.1, .un, h'.2, r, (segG (runC E (cl E) a) lv lx ln w.m.length (lv.map w.tOf, w.m) = some (.normal, h')) :: w.qs⟩
      | x => some (x, ⟨zipW lx h'.1, .un, h'.2, r, (segG (runC E (cl E) a) lv lx ln w.m.length (lv.map w.tOf, w.m) = some (x, h')) :: w.qs⟩)
    | _ => none
  | .exit id, w => some (.exit id, w)
  | .scope b, w => walkC b w
  | .ret, w => some (.ret, w)
theorem lookW_cons {d : V} {i : Nat} {x : V × Bool} {r : List (Nat × V × Bool)} (j : Nat) : lookW d ((i, x) :: r) j = if j = i then x else lookW d r j := by
  simp only [lookW]
  by_cases h : j = i
  · subst h; simp
  · have : Nat.beq j i = false := by
      cases hb : Nat.beq j i with
      | true => exact absurd (Nat.eq_of_beq_eq_true hb) h
      | false => rfl
    simp [this, h]
theorem knW_ev {w : W E} {o : O} {c : Bool} (h : knW w o = some c) : ev E w.tOf o = .d (.bool c) := by
  unfold knW at h
  split at h
  · cases h; rfl
  · split at h
    · rename_i e; cases h; simp only [ev, W.tOf, e]
    · cases h
  · cases h
def W.fine (w : W E) : Prop := ∀ p, p ∈ w.qs → p
theorem testW_sub {o : O} {w w' : W E} {c : Bool} (h : testW o w = some (c, w')) : w'.m = w.m ∧ ∀ p, p ∈ w.qs → p ∈ w'.qs := by
  unfold testW at h
  split at h
  · cases h; exact ⟨rfl, fun _ h => h⟩
  · split at h
    · split at h
      · cases h; exact ⟨rfl, fun p hp => List.mem_cons_of_mem _ hp⟩
      · cases h
    · cases h
theorem testW_ok {o : O} {w w' : W E} {c : Bool} (h : testW o w = some (c, w')) (hf : w'.fine) : ev E w.tOf o = .d (.bool c) ∧ w'.tOf = w.tOf := by
  unfold testW at h
  split at h
  · rename_i hk; cases h; exact ⟨knW_ev hk, rfl⟩
  · split at h
    · rename_i x he
      split at h
      · rename_i c0 _ r _
        cases h
        have hx : x = c := hf _ (by simp)
        subst hx
        refine ⟨he, ?_⟩
        cases o with
        | t j =>
          funext i
          simp only [W.tOf, lookW_cons]
          by_cases e : i = j
          · subst e; rw [if_pos rfl]; exact he.symm
          · rw [if_neg e]
        | v x => rfl
        | g x => rfl
      · cases h
    · cases h
theorem rq_eq (q : Bool) (m : Mem) (i : I) (t : Nat → V) (v : V) (m' : Mem) (h : doI E (cl E) i t (mq q m) = some (v, m')) : (match q with | true => doQ E (cl E) | false => doI E (cl E)) i t m = some (v, rq q m m') := by
  cases q with
  | true => simp only [doQ, mq, rq] at h ⊢; rw [h]; rfl
  | false => simpa only [mq, rq] using h
theorem none_le (c : CallT) : Le (fun _ _ _ => none) c := fun _ _ _ _ h => by cases h
abbrev stepOf (E : Env) (q : Bool) : I → (Nat → V) → Mem → Option (V × Mem) := match q with | true => doQ E (cl E) | false => doI E (cl E)
theorem callW_ok {g : FuncId} {args : List V} {mm : Mem} {os r : List (A E)} {rs : List V} {m1 : Mem} {ps : List Prop} (h : callW g args mm os = some (rs, m1, r, ps)) (hf : ∀ p, p ∈ ps → p) : callV (cl E) g args mm = some (rs, m1) := by
  unfold callW at h
  split at h
  · rename_i args1 hv _ _ _ rs0 m' hcl r0
    split at h
    · rename_i ids e a mc hpre
      split at h
      · rename_i rs' m1' hpost
        cases h
        have hc : cl E g a mc = some (rs0, m') := hf _ (by simp)
        have hb : V.byvals mm args = args1 := hf _ (by simp)
        exact callV_pre hb hpre hc hpost
      · cases h
    · cases h
  · rename_i rs0 m' hcl r0
    split at h
    · rename_i ids e a mc hpre
      split at h
      · rename_i rs' m1' hpost
        cases h
        have hc : cl E g a mc = some (rs0, m') := hf _ (by simp)
        exact callV_pre rfl hpre hc hpost
      · cases h
    · cases h
  · cases h
theorem stepW_sub {q : Bool} {dst : Option Nat} {i : I} {w w' : W E} {v : V} {k : Bool} (h : stepW q dst i w = some (v, k, w')) : ∀ p, p ∈ w.qs → p ∈ w'.qs := by
  unfold stepW at h
  split at h
  · cases h; exact fun _ h => h
  · split at h
    · rename_i ht; cases h; exact (testW_sub ht).2
    · rename_i ht; cases h; exact (testW_sub ht).2
    · cases h
  · split at h
    · cases h; exact fun _ h => h
    · cases h
  · split at h
    · split at h
      · cases h
      · split at h
        · cases h; exact fun p hp => List.mem_append_right _ hp
        · cases h
    · split at h
      · cases h; exact fun p hp => List.mem_append_right _ hp
      · cases h
    · cases h
  · split at h
    · split at h
      · split at h
        · cases h
        · split at h
          · cases h; exact fun p hp => List.mem_append_right _ hp
          · cases h
      · cases h
    · cases h
  · split at h
    · cases h; exact fun p hp => List.mem_cons_of_mem _ hp
    · split at h
      · cases h; exact fun _ h => h
      · cases h
theorem pure_step {q : Bool} {i : I} {t : Nat → V} {m : Mem} {v : V} (h : ∀ m, doI E (cl E) i t m = some (v, m)) : stepOf E q i t m = some (v, m) := by
  cases q with
  | true => simp only [stepOf, doQ, h, Option.map_some, restore]; simp
  | false => simp only [stepOf, h]
theorem stepW_ok {q : Bool} {dst : Option Nat} {i : I} {w w' : W E} {v : V} {k : Bool} (h : stepW q dst i w = some (v, k, w')) (hf : w'.fine) : stepOf E q i w.tOf w.m = some (v, w'.m) ∧ w'.tOf = w.tOf := by
  unfold stepW at h
  split at h
  · cases h; exact ⟨pure_step fun m => rfl, rfl⟩
  · split at h
    · rename_i ht; cases h
      obtain ⟨h1, h2⟩ := testW_ok ht hf
      exact ⟨by rw [(testW_sub ht).1]; exact pure_step fun m => by simp only [doI, h1], h2⟩
    · rename_i ht; cases h
      obtain ⟨h1, h2⟩ := testW_ok ht hf
      exact ⟨by rw [(testW_sub ht).1]; exact pure_step fun m => by simp only [doI, h1], h2⟩
    · cases h
  · split at h
    · rename_i he; cases h; exact ⟨pure_step fun m => by simp only [doI, he, unV, Option.map_some], rfl⟩
    · cases h
  · rename_i f0 args0
    split at h
    · rename_i g first cap hfn
      split at h
      · cases h
      rename_i hbq
      have hny : g ≠ yfn := fun e => by rw [e, Nat.beq_refl] at hbq; cases hbq
      split at h
      · rename_i rs' m1 r ps hc
        cases h
        refine ⟨?_, rfl⟩
        refine rq_eq q w.m _ _ _ _ ?_
        simp only [doI, hfn, callOf]
        rw [if_neg hny, callW_ok hc (fun p hp => hf p (List.mem_append_left _ hp))]; rfl
      · cases h
    · rename_i id hfn
      split at h
      · rename_i rs' m1 r ps hc
        cases h
        refine ⟨?_, rfl⟩
        refine rq_eq q w.m _ _ _ _ ?_
        simp only [doI, hfn, callOf]
        rw [callW_ok hc (fun p hp => hf p (List.mem_append_left _ hp))]; rfl
      · cases h
    · cases h
  · split at h
    · rename_i ty u hx
      split at h
      · rename_i g hg
        split at h
        · cases h
        rename_i hbq
        have hny : g ≠ yfn := fun e => by rw [e, Nat.beq_refl] at hbq; cases hbq
        split at h
        · rename_i rs' m1 r ps hc
          cases h
          refine ⟨?_, rfl⟩
          refine rq_eq q w.m _ _ _ _ ?_
          simp only [doI, hx, hg, callOf]
          rw [if_neg hny, callW_ok hc (fun p hp => hf p (List.mem_append_left _ hp))]; rfl
        · cases h
      · cases h
    · cases h
  · split at h
    · rename_i v' m' r pp hx
      cases h
      have hd : pp := hf _ (List.mem_cons_self ..)
      refine ⟨?_, rfl⟩
      split at hx
      · split at hx
        · split at hx
          · cases hx
            exact pure_step fun m => by have := hd m; rw [doI_sub] at this; exact this
          · cases hx
        · cases hx
      · split at hx
        · split at hx
          · cases hx
            refine rq_eq q w.m _ _ _ _ ?_
            rw [doI_sub] at hd; exact hd
          · cases hx
        · cases hx
      · cases hx
    · split at h
      · rename_i v' m' hd
        cases h
        exact ⟨rq_eq q w.m _ _ _ _ (doI_mono (none_le _) hd), rfl⟩
      · cases h
theorem putW_tOf {w : W E} {d : Option Nat} {v : V} {k : Bool} : (putW w d v k).tOf = putT w.tOf d v ∧ (putW w d v k).m = w.m ∧ (putW w d v k).qs = w.qs := by
  cases d with
  | none => exact ⟨rfl, rfl, rfl⟩
  | some i =>
    refine ⟨?_, rfl, rfl⟩
    funext j
    simp only [putW, W.tOf, putT, upd, lookW_cons]
    split <;> rfl
theorem guardW_sub {g : Option (Nat × Bool)} {w w' : W E} {b : Bool} (h : guardW g w = some (b, w')) : w'.m = w.m ∧ ∀ p, p ∈ w.qs → p ∈ w'.qs := by
  unfold guardW at h
  split at h
  · cases h; exact ⟨rfl, fun _ h => h⟩
  · split at h
    · cases h; exact ⟨rfl, fun _ h => h⟩
    · split at h
      · rename_i ht; cases h; exact testW_sub ht
      · cases h
theorem guardW_ok {g : Option (Nat × Bool)} {w w' : W E} {b : Bool} (h : guardW g w = some (b, w')) (hf : w'.fine) : wantedC g w.tOf = some b ∧ w'.tOf = w.tOf := by
  unfold guardW at h
  split at h
  · cases h; exact ⟨rfl, rfl⟩
  · rename_i j want
    split at h
    · rename_i e; cases h; exact ⟨by simp only [wantedC, e], rfl⟩
    · split at h
      · rename_i c w1 ht; cases h
        obtain ⟨h1, h2⟩ := testW_ok ht hf
        simp only [ev] at h1
        exact ⟨by simp only [wantedC, h1], h2⟩
      · cases h
theorem opsW_sub {q : Bool} : ∀ {l : List OpC} {w w' : W E}, opsW q l w = some w' → ∀ p, p ∈ w.qs → p ∈ w'.qs
  | [], w, w', h => by simp only [opsW] at h; cases h; exact fun _ h => h
  | o :: l, w, w', h => by
    simp only [opsW] at h
    split at h
    · rename_i w1 hg
      split at h
      · rename_i v k w2 hs
        intro p hp
        exact opsW_sub h p (by rw [putW_tOf.2.2]; exact stepW_sub hs p ((guardW_sub hg).2 p hp))
      · cases h
    · rename_i w1 hg
      intro p hp
      exact opsW_sub h p (by rw [putW_tOf.2.2]; exact (guardW_sub hg).2 p hp)
    · cases h
theorem opsW_ok {q : Bool} : ∀ {l : List OpC} {w w' : W E}, opsW q l w = some w' → w'.fine → opsC (stepOf E q) l ⟨w.tOf, w.m⟩ = some ⟨w'.tOf, w'.m⟩
  | [], w, w', h, _ => by simp only [opsW] at h; cases h; rfl
  | o :: l, w, w', h, hf => by
    simp only [opsW] at h
    split at h
    · rename_i w1 hg
      split at h
      · rename_i v k w2 hs
        have hsub := opsW_sub h
        have hf2 : w2.fine := fun p hp => hf p (hsub p (by rw [putW_tOf.2.2]; exact hp))
        have hf1 : w1.fine := fun p hp => hf2 p (stepW_sub hs p hp)
        obtain ⟨g1, g2⟩ := guardW_ok hg hf1
        obtain ⟨s1, s2⟩ := stepW_ok hs hf2
        have ih := opsW_ok h hf
        rw [putW_tOf.1, putW_tOf.2.1] at ih
        simp only [opsC, g1]
        rw [g2, (guardW_sub hg).1] at s1
        simp only [s1]
        rw [← g2, ← s2]; exact ih
      · cases h
    · rename_i w1 hg
      have hsub := opsW_sub h
      have hf1 : w1.fine := fun p hp => hf p (hsub p (by rw [putW_tOf.2.2]; exact hp))
      obtain ⟨g1, g2⟩ := guardW_ok hg hf1
      have ih := opsW_ok h hf
      rw [putW_tOf.1, putW_tOf.2.1, g2, (guardW_sub hg).1] at ih
      simp only [opsC, g1]
      exact ih
    · cases h
theorem op1W_sub {q : Bool} {o : OpC} {w w' : W E} (h : op1W q o w = some w') : ∀ p, p ∈ w.qs → p ∈ w'.qs := by
  unfold op1W at h
  split at h
  · rename_i w1 hg
    split at h
    · rename_i v k w2 hs
      cases h
      intro p hp
      rw [putW_tOf.2.2]; exact stepW_sub hs p ((guardW_sub hg).2 p hp)
    · cases h
  · rename_i w1 hg
    cases h
    intro p hp
    rw [putW_tOf.2.2]; exact (guardW_sub hg).2 p hp
  · cases h
theorem stepOf_M {q : Bool} {i : I} {t : Nat → V} {m m' : Mem} {v : V} (h : stepOf E (qOf q i) i t m = some (v, m')) : stepM E (cl E) q i t m = some (v, m') := by
  unfold stepM
  cases hq : qOf q i with
  | true =>
    rw [hq] at h
    simp only [stepOf, doQ] at h
    obtain ⟨⟨v1, r⟩, h1, h2⟩ := Option.map_eq_some_iff.1 h
    cases h2
    simp only [mq, h1, rq]
  | false =>
    rw [hq] at h
    simp only [stepOf] at h
    simp only [mq, h, rq]
theorem op1W_ok {q : Bool} {o : OpC} {w w' : W E} (h : op1W q o w = some w') (hf : w'.fine) : op1 (stepM E (cl E) q) o w.st = some w'.st := by
  unfold op1W at h
  split at h
  · rename_i w1 hg
    split at h
    · rename_i v k w2 hs
      cases h
      have hf2 : w2.fine := fun p hp => hf p (by rw [putW_tOf.2.2]; exact hp)
      have hf1 : w1.fine := fun p hp => hf2 p (stepW_sub hs p hp)
      obtain ⟨g1, g2⟩ := guardW_ok hg hf1
      obtain ⟨s1, s2⟩ := stepW_ok hs hf2
      unfold op1
      simp only [W.st, g1]
      rw [g2, (guardW_sub hg).1] at s1
      simp only [stepOf_M s1]
      rw [putW_tOf.1, putW_tOf.2.1, s2, g2]
    · cases h
  · rename_i w1 hg
    cases h
    have hf1 : w1.fine := fun p hp => hf p (by rw [putW_tOf.2.2]; exact hp)
    obtain ⟨g1, g2⟩ := guardW_ok hg hf1
    unfold op1
    simp only [W.st, g1]
    rw [putW_tOf.1, putW_tOf.2.1, g2, (guardW_sub hg).1]
  · cases h
theorem traceW_ok {qf : List Bool} : ∀ {l : List OpC} {k : Nat} {w : W E} {tr : List (W E)}, traceW qf k l w = some tr → tr.length = l.length + 1 ∧ tr[0]? = some w ∧ ∀ w1, tr[l.length]? = some w1 → (∀ p, p ∈ w.qs → p ∈ w1.qs) ∧ (w1.fine → traceC E (cl E) qf k l w.st = some (tr.map W.st))
  | [], k, w, tr, h => by
    simp only [traceW] at h; cases h
    refine ⟨rfl, rfl, fun w1 h1 => ?_⟩
    simp at h1; subst h1
    exact ⟨fun _ h => h, fun _ => rfl⟩
  | o :: l, k, w, tr, h => by
    simp only [traceW] at h
    split at h
    · rename_i w1 h1
      split at h
      · rename_i tr1 h2
        cases h
        obtain ⟨g1, g2, g3⟩ := traceW_ok h2
        refine ⟨by simp [g1], rfl, fun w2 hw2 => ?_⟩
        obtain ⟨g4, g5⟩ := g3 w2 (by simpa using hw2)
        refine ⟨fun p hp => g4 p (op1W_sub h1 p hp), fun hf => ?_⟩
        have hf1 : w1.fine := fun p hp => hf p (g4 p hp)
        simp only [traceC, op1W_ok h1 hf1, g5 hf, List.map_cons]
      · cases h
    · cases h
theorem pairW_ok {r : Option (Option (V × V))} {w w' : W E} (h : pairW r w = some w') : (∀ p, p ∈ w.qs → p ∈ w'.qs) ∧ w'.tOf = w.tOf ∧ w'.m = w.m ∧ (w'.fine → pairB r = true) := by
  unfold pairW at h
  split at h
  · cases h; exact ⟨fun _ h => h, rfl, rfl, fun _ => rfl⟩
  · split at h
    · cases h
      refine ⟨fun p hp => List.mem_cons_of_mem _ hp, rfl, rfl, fun hf => ?_⟩
      rename_i a b _ _ _ _ _ _
      have e : a = b := hf _ (List.mem_cons_self ..)
      subst e
      exact V.beq_refl _
    · cases h
  · cases h
theorem pairsW_ok {l : List OpC} {qf : List Bool} {at_ : Nat → S} {k : Nat} : ∀ {is : List Nat} {w w' : W E}, pairsW E l qf at_ k is w = some w' → (∀ p, p ∈ w.qs → p ∈ w'.qs) ∧ w'.tOf = w.tOf ∧ w'.m = w.m ∧
      (w'.fine → is.all (fun i => pairB (pairN E (qf.getD i false) (qf.getD k false) (opAt' l i) (opAt' l k) (at_ i) (at_ (i + 1)) (at_ k) (at_ (k + 1)))) = true)
  | [], w, w', h => by simp only [pairsW] at h; cases h; exact ⟨fun _ h => h, rfl, rfl, fun _ => rfl⟩
  | i :: is, w, w', h => by
    simp only [pairsW] at h
    split at h
    · rename_i w1 h1
      obtain ⟨a1, a2, a3, a4⟩ := pairW_ok h1
      obtain ⟨b1, b2, b3, b4⟩ := pairsW_ok h
      refine ⟨fun p hp => b1 p (a1 p hp), b2.trans a2, b3.trans a3, fun hf => ?_⟩
      rw [List.all_cons, a4 fun p hp => hf p (b1 p hp), b4 hf]; rfl
    · cases h
theorem mixW_ok {l : List OpC} {un : List (List Nat)} {qf : List Bool} {at_ : Nat → S} : ∀ {ks : List Nat} {w w' : W E}, mixW E l un qf at_ ks w = some w' → (∀ p, p ∈ w.qs → p ∈ w'.qs) ∧ w'.tOf = w.tOf ∧ w'.m = w.m ∧
      (w'.fine → ks.all (fun k => strictB E (qf.getD k false) (opAt' l k) (at_ k) (at_ (k + 1)) && (un.getD k []).all fun i => pairB (pairN E (qf.getD i false) (qf.getD k false) (opAt' l i) (opAt' l k) (at_ i) (at_ (i + 1)) (at_ k) (at_ (k + 1)))) = true)
  | [], w, w', h => by simp only [mixW] at h; cases h; exact ⟨fun _ h => h, rfl, rfl, fun _ => rfl⟩
  | k :: ks, w, w', h => by
    simp only [mixW] at h
    split at h
    · rename_i hst
      split at h
      · rename_i w1 h1
        obtain ⟨a1, a2, a3, a4⟩ := pairsW_ok h1
        obtain ⟨b1, b2, b3, b4⟩ := mixW_ok h
        refine ⟨fun p hp => b1 p (a1 p hp), b2.trans a2, b3.trans a3, fun hf => ?_⟩
        rw [List.all_cons, hst, a4 fun p hp => hf p (b1 p hp), b4 hf]; rfl
      · cases h
    · cases h
theorem atW_map (tr : List (W E)) (k : Nat) : atS (tr.map W.st) k = atW tr k := by
  unfold atS atW
  rw [List.getD_eq_getElem?_getD, List.getElem?_map]
  cases tr[k]? <;> rfl
theorem zipW_look : ∀ (l : List Nat) (vs : List V) (m : Mem) (os : List (A E)) (qs : List Prop), W.tOf ⟨zipW l vs, .un, m, os, qs⟩ = look l vs
  | [], vs, _, _, _ => by funext j; simp [zipW, W.tOf, lookW, look]
  | i :: l, [], _, _, _ => by funext j; simp [zipW, W.tOf, lookW, look]
  | i :: l, v :: vs, m, os, qs => by
    have ih := zipW_look l vs m os qs
    funext j
    have := congrFun ih j
    simp only [W.tOf] at this
    simp only [zipW, W.tOf, lookW_cons, look]
    split
    · rfl
    · exact this
theorem walkC_sub : ∀ {c : C} {w w' : W E} {x : X}, walkC c w = some (x, w') → ∀ p, p ∈ w.qs → p ∈ w'.qs
  | .skip, w, w', x, h => by simp only [walkC] at h; cases h; exact fun _ h => h
  | .reg qs ts, w, w', x, h => by
    simp only [walkC] at h
    split at h
    · rename_i w1 h1
      split at h
      · rename_i w2 h2
        cases h
        exact fun p hp => opsW_sub h2 p (opsW_sub h1 p hp)
      · cases h
    · cases h
  | .mix l un qf, w, w', x, h => by
    simp only [walkC] at h
    split at h
    · rename_i tr h1
      split at h
      · rename_i w1 h2
        split at h
        · rename_i w2 h3
          cases h
          exact fun p hp => (mixW_ok h3).1 p (((traceW_ok h1).2.2 w1 h2).1 p hp)
        · cases h
      · cases h
    · cases h
  | .seq a b, w, w', x, h => by
    simp only [walkC] at h
    cases h1 : walkC a w with
    | none => simp [h1] at h
    | some r =>
      obtain ⟨y, w1⟩ := r
      rw [h1] at h
      cases y with
      | normal => exact fun p hp => walkC_sub h p (walkC_sub h1 p hp)
      | exit i => cases h; exact walkC_sub h1
      | ret => cases h; exact walkC_sub h1
  | .cond o a b, w, w', x, h => by
    simp only [walkC] at h
    split at h
    · rename_i w1 h1; exact fun p hp => walkC_sub h p ((testW_sub h1).2 p hp)
    · rename_i w1 h1; exact fun p hp => walkC_sub h p ((testW_sub h1).2 p hp)
    · cases h
  | .block i b, w, w', x, h => by
    simp only [walkC] at h
    cases h1 : walkC b w with
    | none => simp [h1] at h
    | some r =>
      obtain ⟨y, w1⟩ := r
      rw [h1] at h
      cases y with
      | normal => cases h; exact walkC_sub h1
      | exit i => simp only at h; split at h <;> cases h <;> exact walkC_sub h1
      | ret => cases h; exact walkC_sub h1
  | .loop lv lx b, w, w', x, h => by
    simp only [walkC] at h
    split at h
    · cases h; exact fun p hp => List.mem_cons_of_mem _ hp
    · cases h
  | .rfun nt lv f ps a b, w, w', x, h => by
    simp only [walkC] at h
    split at h
    · split at h
      · cases h
      · split at h
        · split at h <;> cases h <;> exact fun p hp => List.mem_append_right _ hp
        · cases h
    · cases h
  | .seq1 a b, w, w', x, h => by
    simp only [walkC] at h
    cases h1 : walkC a w with
    | none => simp [h1] at h
    | some r =>
      obtain ⟨y, w1⟩ := r
      rw [h1] at h
      cases y with
      | normal => exact fun p hp => walkC_sub h p (walkC_sub h1 p hp)
      | exit i => cases h; exact walkC_sub h1
      | ret => cases h; exact walkC_sub h1
  | .cut lv lx ln a b, w, w', x, h => by
    simp only [walkC] at h
    split at h
    · split at h
      · exact fun p hp => walkC_sub h p (List.mem_cons_of_mem _ hp)
      · cases h; exact fun p hp => List.mem_cons_of_mem _ hp
    · cases h
  | .exit _, w, w', x, h => by simp only [walkC] at h; cases h; exact fun _ h => h
  | .scope b, w, w', x, h => by simp only [walkC] at h; exact walkC_sub h
  | .ret, w, w', x, h => by simp only [walkC] at h; cases h; exact fun _ h => h
theorem walkC_ok : ∀ {c : C} {w w' : W E} {x : X}, walkC c w = some (x, w') → w'.fine → runC E (cl E) c ⟨w.tOf, w.m⟩ = some (x, ⟨w'.tOf, w'.m⟩)
  | .skip, w, w', x, h, _ => by simp only [walkC] at h; cases h; rfl
  | .reg qs ts, w, w', x, h, hf => by
    simp only [walkC] at h
    split at h
    · rename_i w1 h1
      split at h
      · rename_i w2 h2
        cases h
        have e2 := opsW_ok h2 hf
        have e1 := opsW_ok h1 fun p hp => hf p (opsW_sub h2 p hp)
        simp only [stepOf] at e1 e2
        simp only [runC, e1, e2]
      · cases h
    · cases h
  | .mix l un qf, w, w', x, h, hf => by
    simp only [walkC] at h
    split at h
    · rename_i tr h1
      split at h
      · rename_i w1 h2
        split at h
        · rename_i w2 h3
          cases h
          obtain ⟨b1, b2, b3, b4⟩ := mixW_ok h3
          have hf1 : w1.fine := fun p hp => hf p (b1 p hp)
          have e1 := ((traceW_ok h1).2.2 w1 h2).2 hf1
          have e2 : mixB E l un qf (tr.map W.st) = true := by
            unfold mixB
            simp only [atW_map]
            exact b4 hf
          have e3 : atS (tr.map W.st) l.length = ⟨w'.tOf, w'.m⟩ := by
            rw [atW_map]
            unfold atW
            rw [h2, b2, b3]; rfl
          have e1' : traceC E (cl E) qf 0 l ⟨w.tOf, w.m⟩ = some (tr.map W.st) := e1
          simp only [runC, e1', e2, e3]
        · cases h
      · cases h
    · cases h
  | .seq a b, w, w', x, h, hf => by
    simp only [walkC] at h
    cases h1 : walkC a w with
    | none => simp [h1] at h
    | some r =>
      obtain ⟨y, w1⟩ := r
      rw [h1] at h
      cases y with
      | normal =>
        have e1 := walkC_ok h1 fun p hp => hf p (walkC_sub h p hp)
        simp only [runC, e1]
        exact walkC_ok h hf
      | exit i => cases h; simp only [runC, walkC_ok h1 hf]
      | ret => cases h; simp only [runC, walkC_ok h1 hf]
  | .cond o a b, w, w', x, h, hf => by
    simp only [walkC] at h
    split at h
    · rename_i w1 h1
      obtain ⟨g1, g2⟩ := testW_ok h1 fun p hp => hf p (walkC_sub h p hp)
      simp only [runC, g1]
      rw [← g2, ← (testW_sub h1).1]; exact walkC_ok h hf
    · rename_i w1 h1
      obtain ⟨g1, g2⟩ := testW_ok h1 fun p hp => hf p (walkC_sub h p hp)
      simp only [runC, g1]
      rw [← g2, ← (testW_sub h1).1]; exact walkC_ok h hf
    · cases h
  | .block i b, w, w', x, h, hf => by
    simp only [walkC] at h
    cases h1 : walkC b w with
    | none => simp [h1] at h
    | some r =>
      obtain ⟨y, w1⟩ := r
      rw [h1] at h
      cases y with
      | normal => cases h; simp only [runC, walkC_ok h1 hf]
      | exit k =>
        simp only at h
        split at h
        · rename_i hb
          cases h
          simp only [runC, walkC_ok h1 hf, Nat.eq_of_beq_eq_true hb, if_true]
        · rename_i hb
          cases h
          have hne : ¬ (k = i) := fun e => by rw [e, Nat.beq_refl] at hb; cases hb
          simp only [runC, walkC_ok h1 hf, hne, if_false]
      | ret => cases h; simp only [runC, walkC_ok h1 hf]
  | .loop lv lx b, w, w', x, h, hf => by
    simp only [walkC] at h
    split at h
    · rename_i y h' hl r hos
      cases h
      have hq : loopG (roundG (runC E (cl E) b) lv lx w.m.length) bound (lv.map w.tOf, w.m) = some (x, h') := hf _ (List.mem_cons_self ..)
      simp only [runC, hq, zipW_look]
    · cases h
  | .rfun nt lv f ps a b, w, w', x, h, hf => by
    simp only [walkC] at h
    split at h
    · rename_i g first cap hfn
      split at h
      · cases h
      rename_i hbq
      have hny : g ≠ yfn := fun e => by rw [e, Nat.beq_refl] at hbq; cases hbq
      split at h
      · rename_i rs' m2 r qs hc
        split at h
        · rename_i hm; cases h
          simp only [runC, hfn]
          rw [if_neg hny, callW_ok hc (fun p hp => hf p (List.mem_append_left _ hp))]
          simp only [hm]; rfl
        · rename_i hm; cases h
          simp only [runC, hfn]
          rw [if_neg hny, callW_ok hc (fun p hp => hf p (List.mem_append_left _ hp))]
          simp only [hm]; rfl
        · rename_i hm; cases h
          simp only [runC, hfn]
          rw [if_neg hny, callW_ok hc (fun p hp => hf p (List.mem_append_left _ hp))]
          simp only [hm]; rfl
        · cases h
      · cases h
    · cases h
  | .seq1 a b, w, w', x, h, hf => by
    simp only [walkC] at h
    cases h1 : walkC a w with
    | none => simp [h1] at h
    | some r =>
      obtain ⟨y, w1⟩ := r
      rw [h1] at h
      cases y with
      | normal =>
        have e1 := walkC_ok h1 fun p hp => hf p (walkC_sub h p hp)
        simp only [runC, e1]
        exact walkC_ok h hf
      | exit i => cases h; simp only [runC, walkC_ok h1 hf]
      | ret => cases h; simp only [runC, walkC_ok h1 hf]
  | .cut lv lx ln a b, w, w', x, h, hf => by
    simp only [walkC] at h
    split at h
    · split at h
      · have hq := hf _ (walkC_sub h _ (List.mem_cons_self ..))
        have := walkC_ok h hf
        rw [zipW_look] at this
        simp only [runC, hq]; exact this
      · cases h
        have hq := hf _ (List.mem_cons_self ..)
        simp only [runC, hq, zipW_look]
        cases x with
        | normal => rename_i hs _ hne; exact (hne hs rfl (HEq.refl _)).elim
        | exit i => rfl
        | ret => rfl
    · cases h
  | .exit _, w, w', x, h, _ => by simp only [walkC] at h; cases h; rfl
  | .scope b, w, w', x, h, hf => by simp only [walkC] at h; simp only [runC]; exact walkC_ok h hf
  | .ret, w, w', x, h, _ => by simp only [walkC] at h; cases h; rfl
def argsW : Nat → List V → List (Nat × V × Bool)
  | _, [] => []
  | i, v :: r => (i, v, false) :: argsW (i + 1) r
theorem argsW_look (m : Mem) (os : List (A E)) (qs : List Prop) : ∀ (l : List V) (k j : Nat), W.tOf ⟨argsW k l, .tup [], m, os, qs⟩ j = if k ≤ j then l.getD (j - k) (.tup []) else .tup []
  | [], k, j => by simp [argsW, W.tOf, lookW]
  | v :: r, k, j => by
    have ih := argsW_look m os qs r (k + 1) j
    simp only [W.tOf] at ih
    simp only [argsW, W.tOf, lookW_cons]
    by_cases h : j = k
    · subst h; simp
    · rw [if_neg h, ih]
      by_cases h1 : k ≤ j
      · have h2 : k + 1 ≤ j := by omega
        rw [if_pos h2, if_pos h1]
        obtain ⟨n, rfl⟩ : ∃ n, j = k + 1 + n := ⟨j - (k + 1), by omega⟩
        have e1 : k + 1 + n - (k + 1) = n := by omega
        have e2 : k + 1 + n - k = n + 1 := by omega
        rw [e1, e2]; simp
      · have h2 : ¬ (k + 1 ≤ j) := by omega
        rw [if_neg h2, if_neg h1]
def walkF (E : Env) (F : CFunc) (args : List V) (m : Mem) (os : List (A E)) : Option ((List V × Mem) × List Prop) :=
  match Nat.ble args.length F.ntmps with
  | true => match walkC F.body (⟨argsW 0 args, .tup [], m, os, []⟩ : W E) with
    | some (.exit _, _) => none
    | some (_, w) => match resVs ⟨w.tOf, w.m⟩ F.results with
      | some vs => match tidy m.length (vs, w.m) with
        | some r => some (r, w.qs)
        | none => none
      | none => none
    | none => none
  | false => none
def want (os : List (A E)) : List Prop := (os.map A.prop).reverse
theorem want_fine {os : List (A E)} : ∀ p, p ∈ want os → p := by
  intro p hp
  simp only [want, List.mem_reverse, List.mem_map] at hp
  obtain ⟨a, _, rfl⟩ := hp
  exact a.holds
theorem runF_walk {F : CFunc} {args : List V} {m : Mem} (os : List (A E)) {r : List V × Mem} (h : walkF E F args m os = some (r, want os)) : runF E (cl E) F args m = some r := by
  unfold walkF at h
  split at h
  case h_2 => cases h
  rename_i hl
  have hl := Nat.le_of_ble_eq_true hl
  have e0 : ∀ (os : List (A E)) (qs : List Prop), W.tOf ⟨argsW 0 args, .tup [], m, os, qs⟩ = initT args := by
    intro os qs; funext j; rw [argsW_look]; simp [initT]
  have fin : ∀ (x : X) (w : W E), walkC F.body (⟨argsW 0 args, .tup [], m, os, []⟩ : W E) = some (x, w) → (match resVs ⟨w.tOf, w.m⟩ F.results with
      | some vs => (match tidy m.length (vs, w.m) with | some r => some (r, w.qs) | none => none)
      | none => none) = some (r, want os) → runC E (cl E) F.body ⟨initT args, m⟩ = some (x, ⟨w.tOf, w.m⟩) ∧ (resVs ⟨w.tOf, w.m⟩ F.results).bind (fun vs => tidy m.length (vs, w.m)) = some r := by
    intro x w hw hx
    cases h1 : resVs ⟨w.tOf, w.m⟩ F.results with
    | none => simp [h1] at hx
    | some vs =>
      simp only [h1] at hx
      cases h2 : tidy m.length (vs, w.m) with
      | none => simp [h2] at hx
      | some r0 =>
        simp only [h2] at hx
        obtain ⟨rfl, hq⟩ := Prod.mk.inj (Option.some.inj hx)
        have := walkC_ok hw (fun p hp => want_fine p (by rw [← hq]; exact hp))
        rw [e0] at this
        exact ⟨this, by simp [h2]⟩
  simp only [runF, hl, if_true]
  split at h
  · cases h
  · rename_i x w hne hw
    obtain ⟨h1, h2⟩ := fin x w hw h
    rw [h1]
    cases x with
    | normal => exact h2
    | exit i => exact (hne i rfl).elim
    | ret => exact h2
  · cases h
theorem cl_walk (hE : ∀ f a m, E.ext f a m = none) {f : FuncId} {F : CFunc} (hF : E.cf f = some F) (hny : f ≠ yfn) {args : List V} {m : Mem} (os : List (A E)) {r : List V × Mem} (h : walkF E F args m os = some (r, want os)) : cl E f args m = some r :=
  cl_run hE hF hny (runF_walk os h)
def walkR (E : Env) (b : C) (lv lx : List Nat) (k : Nat) (g : List V × Mem) (os : List (A E)) : Option ((X × (List V × Mem)) × List Prop) :=
  match walkC b (⟨zipW lv g.1, .un, g.2, os, []⟩ : W E) with
  | some (.normal, w) => match tidy k (lv.map w.tOf, w.m) with
    | some h => some ((.normal, h), w.qs)
    | none => none
  | some (x, w) => match tidy k (lx.map w.tOf, w.m) with
    | some h => some ((x, h), w.qs)
    | none => none
  | none => none
def walkS (E : Env) (b : C) (lv lx ln : List Nat) (k : Nat) (g : List V × Mem) (os : List (A E)) : Option ((X × (List V × Mem)) × List Prop) :=
  match walkC b (⟨zipW lv g.1, .un, g.2, os, []⟩ : W E) with
  | some (.normal, w) => match tidy k (ln.map w.tOf, w.m) with
    | some h => some ((.normal, h), w.qs)
    | none => none
  | some (x, w) => match tidy k (lx.map w.tOf, w.m) with
    | some h => some ((x, h), w.qs)
    | none => none
  | none => none
theorem seg_walk {b : C} {lv lx ln : List Nat} {k : Nat} {g : List V × Mem} (os : List (A E)) {r : X × (List V × Mem)} (h : walkS E b lv lx ln k g os = some (r, want os)) : segG (runC E (cl E) b) lv lx ln k g = some r := by
  unfold walkS at h
  cases hw : walkC b (⟨zipW lv g.1, .un, g.2, os, []⟩ : W E) with
  | none => simp [hw] at h
  | some y =>
    obtain ⟨x, w⟩ := y
    have key : w.qs = want os → runC E (cl E) b ⟨look lv g.1, g.2⟩ = some (x, ⟨w.tOf, w.m⟩) := fun hq => by
      have := walkC_ok hw (fun p hp => want_fine p (by rw [← hq]; exact hp))
      rw [zipW_look] at this; exact this
    have fin : ∀ l, (match tidy k (List.map w.tOf l, w.m) with | some h => some ((x, h), w.qs) | none => none) = some (r, want os) → ∃ h', tidy k (List.map w.tOf l, w.m) = some h' ∧ r = (x, h') ∧ w.qs = want os := by
      intro l hx
      cases ht : tidy k (List.map w.tOf l, w.m) with
      | none => simp [ht] at hx
      | some h' =>
        simp only [ht] at hx
        obtain ⟨h1, h2⟩ := Prod.mk.inj (Option.some.inj hx)
        exact ⟨h', rfl, h1.symm, h2⟩
    cases x with
    | normal =>
      simp only [hw] at h
      obtain ⟨h', h1, rfl, h3⟩ := fin ln h
      simp only [segG, key h3, h1, Option.map_some]
    | exit i =>
      simp only [hw] at h
      obtain ⟨h', h1, rfl, h3⟩ := fin lx h
      simp only [segG, key h3, h1, Option.map_some]
    | ret =>
      simp only [hw] at h
      obtain ⟨h', h1, rfl, h3⟩ := fin lx h
      simp only [segG, key h3, h1, Option.map_some]
theorem round_walk {b : C} {lv lx : List Nat} {k : Nat} {g : List V × Mem} (os : List (A E)) {r : X × (List V × Mem)} (h : walkR E b lv lx k g os = some (r, want os)) : roundG (runC E (cl E) b) lv lx k g = some r := by
  unfold walkR at h
  cases hw : walkC b (⟨zipW lv g.1, .un, g.2, os, []⟩ : W E) with
  | none => simp [hw] at h
  | some y =>
    obtain ⟨x, w⟩ := y
    have key : w.qs = want os → runC E (cl E) b ⟨look lv g.1, g.2⟩ = some (x, ⟨w.tOf, w.m⟩) := fun hq => by
      have := walkC_ok hw (fun p hp => want_fine p (by rw [← hq]; exact hp))
      rw [zipW_look] at this; exact this
    have fin : ∀ l, (match tidy k (List.map w.tOf l, w.m) with | some h => some ((x, h), w.qs) | none => none) = some (r, want os) → ∃ h', tidy k (List.map w.tOf l, w.m) = some h' ∧ r = (x, h') ∧ w.qs = want os := by
      intro l hx
      cases ht : tidy k (List.map w.tOf l, w.m) with
      | none => simp [ht] at hx
      | some h' =>
        simp only [ht] at hx
        obtain ⟨h1, h2⟩ := Prod.mk.inj (Option.some.inj hx)
        exact ⟨h', rfl, h1.symm, h2⟩
    cases x with
    | normal =>
      simp only [hw] at h
      obtain ⟨h', h1, rfl, h3⟩ := fin lv h
      simp only [roundG, key h3, h1, Option.map_some]
    | exit i =>
      simp only [hw] at h
      obtain ⟨h', h1, rfl, h3⟩ := fin lx h
      simp only [roundG, key h3, h1, Option.map_some]
    | ret =>
      simp only [hw] at h
      obtain ⟨h', h1, rfl, h3⟩ := fin lx h
      simp only [roundG, key h3, h1, Option.map_some]
def putPsW : List Nat → List V → List (Nat × V × Bool) → List (Nat × V × Bool)
  | i :: r, v :: vs, t => putPsW r vs ((i, v, false) :: t)
  | _, _, t => t
theorem putPsW_tOf (m : Mem) (os : List (A E)) (qs : List Prop) : ∀ (l : List Nat) (vs : List V) (t : List (Nat × V × Bool)), W.tOf ⟨putPsW l vs t, .un, m, os, qs⟩ = putPs l vs (W.tOf ⟨t, .un, m, os, qs⟩)
  | [], vs, t => by simp [putPsW, putPs]
  | i :: l, [], t => by simp [putPsW, putPs]
  | i :: l, v :: vs, t => by
    simp only [putPsW, putPs]
    rw [putPsW_tOf m os qs l vs]
    congr 1
    funext j
    simp only [W.tOf, upd, lookW_cons]
    split <;> rfl
def pendB : X → Bool
  | .normal => true
  | _ => false
def walkY (E : Env) (args : List V) (m : Mem) (os : List (A E)) : Option ((List V × Mem) × List Prop) :=
  match args with
  | .yl id :: args => match m[id]? with
    | some (.loop .ready none ts ps a b false) => match Nat.beq args.length ps.length && ps.all (fun i => Nat.blt i ts.length) with
      | true => match walkC a (⟨putPsW ps args (zipW (List.range ts.length) ts), .un, m, os, []⟩ : W E) with
        | some (.normal, w1) => match w1.m[id]? with
          | some (.loop .ready none ts1 ps1 a1 b1 false) => match walkC b (⟨w1.t, w1.d, w1.m.set id (.loop .busy none ts1 ps1 a1 b1 false), w1.os, w1.qs⟩ : W E) with
            | some (x, w2) => match w2.m[id]? with
              | some (.loop .busy none ts2 ps2 a2 b2 false) => match tidy m.length ([.d (.bool (pendB x))], w2.m.set id (.loop (match pendB x with | true => .ready | false => .done) (pendOf x) ts2 ps2 a2 b2 false)) with
                | some r => some (r, w2.qs)
                | none => none
              | _ => none
            | none => none
          | _ => none
        | _ => none
      | false => none
    | _ => none
  | _ => none
theorem pendB_eq (x : X) : (pendOf x).isNone = pendB x := by cases x <;> rfl
theorem round_yield {args : List V} {m : Mem} (os : List (A E)) {r : List V × Mem} (h : walkY E args m os = some (r, want os)) : cl E yfn args m = some r := by
  refine cl_yield ?_
  unfold walkY at h
  split at h
  case h_2 => cases h
  rename_i id args
  split at h
  case h_2 => cases h
  rename_i ts ps a b hb
  split at h
  case h_2 => cases h
  rename_i hc
  have hc' : args.length = ps.length ∧ ps.all (fun x => decide (x < ts.length)) = true := by
    rw [Bool.and_eq_true] at hc
    refine ⟨Nat.eq_of_beq_eq_true hc.1, ?_⟩
    have h2 := hc.2
    rw [List.all_eq_true] at h2 ⊢
    intro i hi
    exact decide_eq_true (Nat.le_of_ble_eq_true (h2 i hi))
  split at h
  case h_2 => cases h
  rename_i w1 h1
  split at h
  case h_2 => cases h
  rename_i ts1 ps1 a1 b1 hb1
  split at h
  case h_2 => cases h
  rename_i x w2 h2
  split at h
  case h_2 => cases h
  rename_i ts2 ps2 a2 b2 hb2
  split at h
  case h_2 => cases h
  rename_i r0 ht
  obtain ⟨rfl, hq⟩ := Prod.mk.inj (Option.some.inj h)
  have hf2 : w2.fine := fun p hp => want_fine p (by rw [← hq]; exact hp)
  have hf1 : w1.fine := fun p hp => hf2 p (walkC_sub h2 p hp)
  have e1 := walkC_ok h1 hf1
  have e2 := walkC_ok h2 hf2
  rw [putPsW_tOf, zipW_look] at e1
  have e2' : runC E (cl E) b ⟨w1.tOf, w1.m.set id (.loop .busy none ts1 ps1 a1 b1 false)⟩ = some (x, ⟨w2.tOf, w2.m⟩) := e2
  unfold runY
  simp only [hb, if_pos hc', e1, hb1, e2', hb2, pendB_eq]
  cases x <;> exact ht
end
end Go.Proofs.Ytdlhhoejnhjbhaa.Den

namespace Go.Proofs.Ytdlhhoejnhjbhaa.Den
open Go Go.Proofs Go.Shelf Go.RowKit Go.Lib Go.Sort
variable {P : Program} {ρ : Shelf.Ren}
set_option maxHeartbeats 4000000 in
set_option maxRecDepth 1000000 in
theorem del_arr (L : Lays2.n23 P ρ) (blk off cap i j : Nat) (d : Array Int) (w : World) (hH : Holds encI w blk off d) (hcap : d.size ≤ cap) (hm : d.size ≤ 9223372036854775807) (hij : i ≤ j) (hj : j ≤ d.size) :
    Calls P (ρ.f 23) #[.slice (some ⟨blk, off, none⟩) d.size cap, .int .i64 i, .int .i64 j] w fun e w' => e = .returned (.slice (some ⟨blk, off, none⟩) (d.size - (j - i)) cap) ∧ ∃ q, w' = putRow encI (Sort.ahead w q) blk off (d.toList.take i ++ d.toList.drop j ++ List.replicate (j - i) 0).toArray := by
  have mixed := L.mixed; have t0 := L.t0; have a0 := L.a0; have z0 := L.z0; have v0 := L.v0; have t3 := L.t3; have a3 := L.a3; have z3 := L.z3; have v3 := L.v3; have t4 := L.t4; have a4 := L.a4; have z4 := L.z4; have v4 := L.v4; have t22 := L.t22; have a22 := L.a22; have z22 := L.z22; have v22 := L.v22
  obtain ⟨i0, hi0, hz0, hz1, hz2⟩ := info_parts L.i3
  by_cases heq : i = j
  · subst heq
    have h0 : Calls P (ρ.f 23) #[.slice (some ⟨blk, off, none⟩) d.size cap, .int .i64 i, .int .i64 i] w fun e w' => e = .returned (.slice (some ⟨blk, off, none⟩) d.size cap) ∧ w' = w := by
      clear hH
      go_enter L.f23, Body2.n23_ntmps ρ
      go_wp2
      all_goals (go_ret; exact ⟨rfl, rfl⟩)
    refine h0.mono ?_
    rintro e w' ⟨rfl, rfl⟩
    have e : (d.toList.take i ++ d.toList.drop i ++ List.replicate (i - i) 0).toArray = d := by simp
    refine ⟨by rw [Nat.sub_self, Nat.sub_zero], 0, ?_⟩
    rw [e]
    exact (putRow_self encI (Sort.ahead w' 0) blk off d hH).symm
  · have hlt : i < j := by omega
    obtain ⟨news, hnews⟩ : ∃ news, news = (d.toList.drop j).map encI := ⟨_, rfl⟩
    have hlen : news.length = d.size - j := by rw [hnews]; simp
    have hget : ∀ t, t < d.size - j → news[t]? = some (encI d[j + t]!) := by
      intro t ht
      rw [hnews, List.getElem?_map, List.getElem?_drop, Array.getElem?_toList, getElem!_pos d (j + t) (by omega), Array.getElem?_eq_getElem (by omega)]
      rfl
    obtain ⟨A, hA, hsrc⟩ : ∃ A : Addr, (if cap = j then some (⟨blk, off, none⟩ : Addr) else some ⟨blk, off + j, none⟩) = some A ∧ Hid (∀ t u, news[t]? = some u → w.drew.cell? (A.add t) = some u) := by
      by_cases h : cap = j
      · refine ⟨⟨blk, off, none⟩, by simp [h], fun t u hu => ?_⟩
        have h0 : news.length = 0 := by rw [hlen]; omega
        rw [List.length_eq_zero_iff.1 h0] at hu
        simp at hu
      · refine ⟨⟨blk, off + j, none⟩, by simp [h], fun t u hu => ?_⟩
        have ht : t < d.size - j := by
          have := (List.getElem?_eq_some_iff.1 hu).1
          rwa [hlen] at this
        rw [hget t ht] at hu
        rw [Addr.add_lit, show off + j + t = off + (j + t) by omega]
        exact (hH (j + t) (by omega)).1.trans hu
    have s1 : Hid (news.length = (d.size - j) * 1) := by rw [Nat.mul_one]; exact hlen
    have s2 : Hid (∀ u ∈ news, u.oneCell' = true) := by
      intro u hu
      rw [hnews] at hu
      obtain ⟨x, _, rfl⟩ := List.mem_map.1 hu
      rfl
    have s3 : Hid (∀ t, t < news.length → (w.drew.cell? ⟨blk, off + i * 1 + t, none⟩).isSome = true ∧ w.drew.frozen? ⟨blk, off + i * 1 + t, none⟩ = false) := by
      intro t ht
      rw [hlen] at ht
      rw [Nat.mul_one, Nat.add_assoc]
      exact ⟨by show (w.cell? _).isSome = true; rw [(hH (i + t) (by omega)).1]; rfl, (hH (i + t) (by omega)).2⟩
    obtain ⟨W1, hW1⟩ : ∃ W1, W1 = w.drew.setCells blk (off + i * 1) news := ⟨_, rfl⟩
    have hW1' : W1 = putRow encI (Sort.ahead w 1) blk off (lay d i (d.toList.drop j)) := by
      rw [hW1, hnews, Nat.mul_one, ← putRow_setCells encI (Sort.ahead w 1) blk off _ d i (by simp; omega), putRow_self encI (Sort.ahead w 1) blk off d (holds_ahead encI w 1 blk off d hH)]
      rfl
    have hH1 : Holds encI W1 blk off (lay d i (d.toList.drop j)) := by rw [hW1']; exact holds_putRow encI _ blk off d _ (holds_ahead encI w 1 blk off d hH) (lay_size _ _ _)
    have hcl : ∀ ty, (Builtin.clear_ #[ρ.t 22] ty #[.slice (some ⟨blk, off + (i + (d.size - j)), none⟩) (d.size - (i + (d.size - j))) (cap - (i + (d.size - j)))]).run P W1 = .ok (.tuple #[]) (W1.setCells blk (off + (i + (d.size - j))) (List.replicate (d.size - (i + (d.size - j))) (encI 0))) :=
      fun ty => Lib.run_clear_slice W1 _ _ ty _ t22 v3 rfl rfl blk (off + (i + (d.size - j))) _ _ (by omega) (fun t ht => by rw [show off + (i + (d.size - j)) + t = off + (i + (d.size - j) + t) by omega, (hH1 _ (by rw [lay_size]; omega)).1]; rfl) (fun t ht => by rw [show off + (i + (d.size - j)) + t = off + (i + (d.size - j) + t) by omega]; exact (hH1 _ (by rw [lay_size]; omega)).2)
    have X : Aside (W1 = putRow encI (Sort.ahead w 1) blk off (lay d i (d.toList.drop j))) := hW1'
    have hW : Hid (W1 = w.drew.setCells blk (off + i * 1) news) := hW1
    have hic : i ≤ cap := by omega
    have hjc : j ≤ cap := by omega
    clear hW1 hW1' hH1 hH hget hnews hlen
    go_enter L.f23, Body2.n23_ntmps ρ
    go_wp2_with fail
    go_region_law_o (refine step_append_room rfl (.tmp 22) (.tmp 25) (ρ.t 22) rfl (ρ.t 3) i0 1 t22 hi0 hz1 blk off i cap (by simp [Act.eval, Act.put]) A (d.size - j) (cap - j) news (by simp [Act.eval, Act.put]) s1.out hsrc.out s2.out (by omega) s3.out ?_; rw [← hW.out])
    go_wp2
    go_ret
    refine ⟨by rw [show d.size - (j - i) = i + (d.size - j) by omega]; rfl, 1, ?_⟩
    rw [← delete_arr d i j 0 hij hj, ← putRow_setCells encI _ blk off _ _ (i + (d.size - j)) (by rw [lay_size]; simp; omega), ← X.out, List.map_replicate, show d.size - (i + (d.size - j)) = j - i by omega]
theorem delOK_of {f : FuncId} (L : Lays2.n23 P ρ) (hf : ρ.f 23 = f) (he : Enterable P f) : DelOK P f :=
  ⟨he, fun blk cap i j d w hH hc hm hij hj => by rw [← hf]; exact del_arr L blk 0 cap i j d w hH hc hm hij hj⟩
end Go.Proofs.Ytdlhhoejnhjbhaa.Den

namespace Go.Proofs.Ytdlhhoejnhjbhaa.Den
open Go Go.Proofs
set_option maxRecDepth 100000
def S3_0 : C := (.seq1 (.reg [] [⟨(some 11), none, (.mov (.t 0))⟩, ⟨(some 12), none, (.len (.t 11))⟩, ⟨(some 13), none, (.bin .gtr (.t 12) (.v (.d (.int .i64 40))))⟩]) (.cond (.t 13) (.seq (.reg [] [⟨(some 14), none, (.call (.v (.fn (.func 14) [] [])) [])⟩, ⟨(some 4), none, (.mov (.t 14))⟩]) .ret) .skip))
def S3_1 : C := (.reg [] [⟨(some 16), none, (.mov (.t 0))⟩, ⟨(some 17), none, (.call (.v (.fn (.func 15) [] [])) [(.t 16)])⟩, ⟨(some 15), none, (.mov (.t 17))⟩, ⟨(some 18), none, (.extract 0 (.t 15))⟩, ⟨(some 19), none, (.extract 1 (.t 15))⟩, ⟨(some 5), none, (.mov (.t 18))⟩, ⟨(some 6), none, (.mov (.t 19))⟩])
def S3_2 : C := (.reg [] [⟨(some 21), none, (.mov (.t 0))⟩, ⟨(some 22), none, (.call (.v (.fn (.func 16) [] [])) [(.t 21)])⟩, ⟨(some 20), none, (.mov (.t 22))⟩, ⟨(some 23), none, (.extract 0 (.t 20))⟩, ⟨(some 24), none, (.extract 1 (.t 20))⟩, ⟨(some 7), none, (.mov (.t 23))⟩, ⟨(some 8), none, (.mov (.t 24))⟩])
def S3_3 : C := (.reg [] [⟨(some 25), none, (.mov (.t 0))⟩, ⟨(some 26), none, (.call (.v (.fn (.func 18) [] [])) [(.t 25)])⟩, ⟨(some 27), none, (.mov (.t 0))⟩, ⟨(some 28), none, (.call (.v (.fn (.func 19) [] [])) [(.t 27)])⟩, ⟨(some 29), none, (.call (.v (.fn (.func 17) [] [])) [(.t 26), (.t 28)])⟩, ⟨(some 9), none, (.mov (.t 29))⟩])
def S3_4 : C := (.reg [] [⟨(some 30), none, (.mov (.t 0))⟩, ⟨(some 31), none, (.mov (.t 1))⟩, ⟨(some 32), none, (.call (.v (.fn (.func 20) [] [])) [(.t 30), (.t 31)])⟩, ⟨(some 33), none, (.mov (.t 0))⟩, ⟨(some 34), none, (.mov (.t 1))⟩, ⟨(some 35), none, (.call (.v (.fn (.func 21) [] [])) [(.t 33), (.t 34)])⟩, ⟨(some 36), none, (.call (.v (.fn (.func 17) [] [])) [(.t 32), (.t 35)])⟩, ⟨(some 10), none, (.mov (.t 36))⟩])
def S3_5 : C := (.reg [] [⟨(some 37), none, (.call (.v (.fn (.func 14) [] [])) [])⟩, ⟨(some 38), none, (.mov (.t 37))⟩, ⟨(some 39), (some (38, true)), (.mov (.t 5))⟩, ⟨(some 40), (some (38, true)), (.mov (.t 7))⟩, ⟨(some 41), (some (38, true)), (.bin .eql (.t 39) (.t 40))⟩, ⟨(some 42), none, (.pick (.t 38) (.t 41) (.v (.d (.bool false))))⟩, ⟨(some 43), none, (.mov (.t 42))⟩, ⟨(some 44), (some (43, true)), (.mov (.t 6))⟩, ⟨(some 45), (some (43, true)), (.mov (.t 8))⟩, ⟨(some 46), (some (43, true)), (.beq .bool false (.t 44) (.t 45))⟩, ⟨(some 47), none, (.pick (.t 43) (.t 46) (.v (.d (.bool false))))⟩, ⟨(some 48), none, (.mov (.t 47))⟩, ⟨(some 49), (some (48, true)), (.mov (.t 9))⟩, ⟨(some 50), none, (.pick (.t 48) (.t 49) (.v (.d (.bool false))))⟩, ⟨(some 51), none, (.mov (.t 50))⟩, ⟨(some 52), (some (51, true)), (.mov (.t 10))⟩, ⟨(some 53), none, (.pick (.t 51) (.t 52) (.v (.d (.bool false))))⟩, ⟨(some 54), none, (.mov (.t 53))⟩, ⟨(some 55), (some (54, true)), (.mov (.t 0))⟩, ⟨(some 56), (some (54, true)), (.call (.v (.fn (.func 22) [] [])) [(.t 55)])⟩, ⟨(some 57), (some (54, true)), (.mov (.t 0))⟩, ⟨(some 58), (some (54, true)), (.call (.v (.fn (.func 23) [] [])) [(.t 57)])⟩, ⟨(some 59), (some (54, true)), (.bin .eql (.t 56) (.t 58))⟩, ⟨(some 60), none, (.pick (.t 54) (.t 59) (.v (.d (.bool false))))⟩, ⟨(some 4), none, (.mov (.t 60))⟩])
def F3 : CFunc := ⟨61, [(.tmp 4)], (.seq (.reg [] [⟨(some 4), none, (.mov (.v (.d (.bool false))))⟩]) (.cut [0, 1] [4] [0, 1] S3_0 (.cut [0, 1] [] [0, 1, 5, 6] S3_1 (.cut [0, 1, 5, 6] [] [0, 1, 5, 6, 7, 8] S3_2 (.cut [0, 1, 5, 6, 7, 8] [] [0, 1, 5, 6, 7, 8, 9] S3_3 (.cut [0, 1, 5, 6, 7, 8, 9] [] [0, 5, 6, 7, 8, 9, 10] S3_4 (.cut [0, 5, 6, 7, 8, 9, 10] [] [4] S3_5 .ret)))))))⟩
theorem c3 : cAt Try.prog 3 = some F3.er := by kernel_rfl
def S4_0 : C := (.seq1 (.reg [] [⟨(some 22), none, (.mov (.t 5))⟩, ⟨(some 23), none, (.mov (.t 0))⟩, ⟨(some 24), none, (.len (.t 23))⟩, ⟨(some 25), none, (.bin .lss (.t 22) (.t 24))⟩]) (.cond (.t 25) .skip (.exit 0)))
def L4_1 : C := (.seq (.seq (.reg [] [⟨(some 28), none, (.mov (.t 8))⟩, ⟨(some 29), none, (.mov (.t 0))⟩, ⟨(some 30), none, (.len (.t 29))⟩, ⟨(some 31), none, (.bin .lss (.t 28) (.t 30))⟩]) (.cond (.t 31) .skip (.exit 2))) (.seq (.block 3 (.seq (.seq (.reg [⟨(some 34), none, (.mov (.t 0))⟩, ⟨(some 35), none, (.mov (.t 8))⟩, ⟨(some 36), none, (.idxA 1 (.t 34) (.t 35))⟩, ⟨(some 37), none, (.load false 1 (.t 36))⟩, ⟨(some 38), none, (.mov (.t 0))⟩, ⟨(some 39), none, (.mov (.t 5))⟩, ⟨(some 40), none, (.idxA 1 (.t 38) (.t 39))⟩, ⟨(some 41), none, (.load false 1 (.t 40))⟩] [⟨(some 42), none, (.bin .eql (.t 37) (.t 41))⟩]) (.cond (.t 42) (.reg [] [⟨(some 43), none, (.mov (.t 6))⟩, ⟨(some 44), none, (.bin .add (.t 43) (.v (.d (.int .i64 1))))⟩, ⟨(some 6), none, (.mov (.t 44))⟩]) .skip)) (.seq (.reg [⟨(some 45), none, (.mov (.t 4))⟩, ⟨(some 46), none, (.mov (.t 8))⟩, ⟨(some 47), none, (.idxA 1 (.t 45) (.t 46))⟩, ⟨(some 48), none, (.load false 1 (.t 47))⟩, ⟨(some 49), none, (.mov (.t 0))⟩, ⟨(some 50), none, (.mov (.t 5))⟩, ⟨(some 51), none, (.idxA 1 (.t 49) (.t 50))⟩, ⟨(some 52), none, (.load false 1 (.t 51))⟩] [⟨(some 53), none, (.bin .eql (.t 48) (.t 52))⟩]) (.cond (.t 53) (.reg [] [⟨(some 54), none, (.mov (.t 7))⟩, ⟨(some 55), none, (.bin .add (.t 54) (.v (.d (.int .i64 1))))⟩, ⟨(some 7), none, (.mov (.t 55))⟩]) .skip)))) (.reg [] [⟨(some 32), none, (.mov (.t 8))⟩, ⟨(some 33), none, (.bin .add (.t 32) (.v (.d (.int .i64 1))))⟩, ⟨(some 8), none, (.mov (.t 33))⟩])))
def S4_2 : C := (.seq1 (.reg [] [⟨(some 8), none, (.mov (.v (.d (.int .i64 0))))⟩]) (.block 2 (.loop [0, 4, 5, 6, 7, 8] [0, 4, 5, 6, 7] L4_1)))
def S4_3 : C := (.reg [⟨(some 56), none, (.mov (.t 6))⟩, ⟨(some 57), none, (.mov (.t 7))⟩, ⟨(some 58), none, (.bin .neq (.t 56) (.t 57))⟩, ⟨(some 59), none, (.mov (.t 58))⟩, ⟨(some 60), (some (59, false)), (.mov (.t 5))⟩, ⟨(some 61), (some (59, false)), (.bin .gtr (.t 60) (.v (.d (.int .i64 0))))⟩, ⟨(some 62), (some (59, false)), (.mov (.t 61))⟩, ⟨(some 63), (some (62, true)), (.mov (.t 4))⟩, ⟨(some 64), (some (62, true)), (.mov (.t 5))⟩, ⟨(some 65), (some (62, true)), (.bin .sub (.t 64) (.v (.d (.int .i64 1))))⟩, ⟨(some 66), (some (62, true)), (.idxA 1 (.t 63) (.t 65))⟩, ⟨(some 67), (some (62, true)), (.load false 1 (.t 66))⟩, ⟨(some 68), (some (62, true)), (.mov (.t 4))⟩, ⟨(some 69), (some (62, true)), (.mov (.t 5))⟩, ⟨(some 70), (some (62, true)), (.idxA 1 (.t 68) (.t 69))⟩, ⟨(some 71), (some (62, true)), (.load false 1 (.t 70))⟩] [⟨(some 72), (some (62, true)), (.bin .gtr (.t 67) (.t 71))⟩, ⟨(some 73), (some (59, false)), (.pick (.t 62) (.t 72) (.v (.d (.bool false))))⟩, ⟨(some 74), none, (.pick (.t 59) (.v (.d (.bool true))) (.t 73))⟩])
def S4_4 : C := (.block 1 (.seq (.reg [] [⟨(some 6), none, (.mov (.v (.d (.int .i64 0))))⟩]) (.seq (.reg [] [⟨(some 7), none, (.mov (.v (.d (.int .i64 0))))⟩]) (.cut [0, 4, 5, 6, 7] [] [0, 4, 5, 6, 7] S4_2 (.cut [0, 4, 5, 6, 7] [] [0, 4, 5, 74] S4_3 (.cond (.t 74) (.seq (.reg [] [⟨(some 2), none, (.mov (.v (.d (.bool false))))⟩]) .ret) .skip))))))
def L4_5 : C := (.cut [0, 4, 5] [0, 4] [0, 4, 5] S4_0 (.cut [0, 4, 5] [2] [0, 4, 5] S4_4 (.reg [] [⟨(some 26), none, (.mov (.t 5))⟩, ⟨(some 27), none, (.bin .add (.t 26) (.v (.d (.int .i64 1))))⟩, ⟨(some 5), none, (.mov (.t 27))⟩])))
def S4_6 : C := (.seq (.reg [] [⟨(some 15), none, (.mov (.t 0))⟩, ⟨(some 16), none, (.call (.v (.fn (.func 18) [] [])) [(.t 15)])⟩, ⟨(some 4), none, (.mov (.t 16))⟩]) (.seq (.seq (.reg [] [⟨(some 17), none, (.mov (.t 4))⟩, ⟨(some 18), none, (.len (.t 17))⟩, ⟨(some 19), none, (.mov (.t 0))⟩, ⟨(some 20), none, (.len (.t 19))⟩, ⟨(some 21), none, (.bin .neq (.t 18) (.t 20))⟩]) (.cond (.t 21) (.seq (.reg [] [⟨(some 2), none, (.mov (.v (.d (.bool false))))⟩]) .ret) .skip)) (.seq (.seq (.reg [] [⟨(some 5), none, (.mov (.v (.d (.int .i64 0))))⟩]) (.block 0 (.loop [0, 4, 5] [0, 2, 4] L4_5))) (.seq (.reg [] [⟨(some 75), none, (.mov (.t 4))⟩, ⟨(some 76), none, (.call (.v (.fn (.func 18) [] [])) [(.t 75)])⟩, ⟨(some 77), none, (.mov (.t 4))⟩, ⟨(some 78), none, (.call (.v (.fn (.func 17) [] [])) [(.t 76), (.t 77)])⟩, ⟨(some 9), none, (.mov (.t 78))⟩]) (.mix [⟨(some 79), none, (.call (.v (.fn (.func 14) [] [])) [])⟩, ⟨(some 80), none, (.mov (.t 79))⟩, ⟨(some 81), (some (80, true)), (.mov (.t 9))⟩, ⟨(some 82), none, (.pick (.t 80) (.t 81) (.v (.d (.bool false))))⟩, ⟨(some 83), none, (.mov (.t 82))⟩, ⟨(some 84), (some (83, true)), (.mov (.t 4))⟩, ⟨(some 85), (some (83, true)), (.len (.t 84))⟩, ⟨(some 86), (some (83, true)), (.bin .eql (.t 85) (.v (.d (.int .i64 0))))⟩, ⟨(some 87), (some (83, true)), (.mov (.t 86))⟩, ⟨(some 88), (some (87, false)), (.mov (.t 0))⟩, ⟨(some 89), (some (87, false)), (.call (.v (.fn (.func 22) [] [])) [(.t 88)])⟩, ⟨(some 90), (some (87, false)), (.mov (.t 4))⟩, ⟨(some 91), (some (87, false)), (.mov (.t 4))⟩, ⟨(some 92), (some (87, false)), (.len (.t 91))⟩, ⟨(some 93), (some (87, false)), (.bin .sub (.t 92) (.v (.d (.int .i64 1))))⟩, ⟨(some 94), (some (87, false)), (.idxA 1 (.t 90) (.t 93))⟩, ⟨(some 95), (some (87, false)), (.load false 1 (.t 94))⟩, ⟨(some 96), (some (87, false)), (.mov (.t 4))⟩, ⟨(some 97), (some (87, false)), (.idxA 1 (.t 96) (.v (.d (.int .i64 0))))⟩, ⟨(some 98), (some (87, false)), (.load false 1 (.t 97))⟩, ⟨(some 99), (some (87, false)), (.bin .sub (.t 95) (.t 98))⟩, ⟨(some 100), (some (87, false)), (.bin .eql (.t 89) (.t 99))⟩, ⟨(some 101), (some (83, true)), (.pick (.t 87) (.v (.d (.bool true))) (.t 100))⟩, ⟨(some 102), none, (.pick (.t 83) (.t 101) (.v (.d (.bool false))))⟩, ⟨(some 2), none, (.mov (.t 102))⟩] [[], [], [], [], [], [], [], [], [], [], [], [], [], [], [], [10], [10], [], [10], [10], [], [], [], [], []] [false, false, false, false, false, false, false, false, false, false, false, false, false, false, false, false, false, false, false, false, false, false, false, false, false])))))
def F4 : CFunc := ⟨103, [(.tmp 2)], (.seq (.reg [] [⟨(some 2), none, (.mov (.v (.d (.bool false))))⟩]) (.seq (.reg [] [⟨(some 10), none, (.mov (.t 0))⟩, ⟨(some 11), none, (.call (.v (.fn (.func 24) [] [])) [(.t 10)])⟩, ⟨(some 3), none, (.mov (.t 11))⟩]) (.seq (.seq (.reg [] [⟨(some 12), none, (.mov (.t 3))⟩, ⟨(some 13), none, (.unop .not (.t 12))⟩]) (.cond (.t 13) (.seq (.reg [] [⟨(some 14), none, (.call (.v (.fn (.func 14) [] [])) [])⟩, ⟨(some 2), none, (.mov (.t 14))⟩]) .ret) .skip)) (.cut [0] [2] [2] S4_6 .ret))))⟩
theorem c4 : cAt Try.prog 4 = some F4.er := by kernel_rfl
def S11_0 : C := (.seq1 (.reg [] [⟨(some 19), none, (.mov (.t 2))⟩, ⟨(some 20), none, (.len (.t 19))⟩, ⟨(some 21), none, (.bin .gtr (.t 20) (.v (.d (.int .i64 200))))⟩]) (.cond (.t 21) (.seq (.reg [] [⟨(some 22), none, (.call (.v (.fn (.func 43) [] [])) [])⟩, ⟨(some 6), none, (.mov (.t 22))⟩]) .ret) .skip))
def S11_1 : C := (.seq1 (.reg [] [⟨(some 46), none, (.mov (.t 11))⟩, ⟨(some 47), none, (.mov (.t 2))⟩, ⟨(some 48), none, (.len (.t 47))⟩, ⟨(some 49), none, (.bin .lss (.t 46) (.t 48))⟩]) (.cond (.t 49) .skip (.exit 0)))
def S11_2 : C := (.seq1 (.reg [] [⟨(some 52), none, (.mov (.t 2))⟩, ⟨(some 53), none, (.mov (.t 11))⟩, ⟨(some 54), none, (.idxA 3 (.t 52) (.t 53))⟩, ⟨(some 55), none, (.fieldA 0 (.t 54))⟩, ⟨(some 56), none, (.load false 1 (.t 55))⟩]) (.cond (.t 56) (.reg [] [⟨(some 57), none, (.mov (.t 10))⟩, ⟨(some 58), none, (.call (.v (.fn (.func 50) [] [])) [(.t 57)])⟩]) (.seq (.reg [] [⟨(some 60), none, (.mov (.t 10))⟩, ⟨(some 61), none, (.mov (.t 2))⟩, ⟨(some 62), none, (.mov (.t 11))⟩, ⟨(some 63), none, (.idxA 3 (.t 61) (.t 62))⟩, ⟨(some 64), none, (.fieldA 1 (.t 63))⟩, ⟨(some 65), none, (.load false 1 (.t 64))⟩, ⟨(some 66), none, (.conv (.int .i64) (.t 65))⟩, ⟨(some 67), none, (.call (.v (.fn (.func 51) [] [])) [(.t 60), (.t 66)])⟩, ⟨(some 59), none, (.mov (.t 67))⟩, ⟨(some 68), none, (.extract 0 (.t 59))⟩, ⟨(some 69), none, (.extract 1 (.t 59))⟩, ⟨(some 13), none, (.mov (.t 68))⟩, ⟨(some 14), none, (.mov (.t 69))⟩]) (.seq (.reg [] [⟨(some 70), none, (.mov (.t 13))⟩, ⟨(some 12), none, (.mov (.t 70))⟩]) (.seq (.reg [] [⟨(some 71), none, (.mov (.t 14))⟩, ⟨(some 72), none, (.bin .neq (.t 71) (.v (.d (.int .i64 0))))⟩]) (.cond (.t 72) (.seq (.reg [] [⟨(some 6), none, (.mov (.v (.d (.bool false))))⟩]) .ret) .skip))))))
def L11_3 : C := (.seq (.seq (.reg [] [⟨(some 82), none, (.mov (.t 18))⟩, ⟨(some 83), none, (.mov (.t 11))⟩, ⟨(some 84), none, (.bin .leq (.t 82) (.t 83))⟩]) (.cond (.t 84) .skip (.exit 2))) (.seq (.block 3 (.seq (.reg [⟨(some 87), none, (.mov (.t 15))⟩, ⟨(some 88), none, (.mov (.t 87))⟩, ⟨(some 89), (some (88, true)), (.mov (.t 2))⟩, ⟨(some 90), (some (88, true)), (.mov (.t 18))⟩, ⟨(some 91), (some (88, true)), (.idxA 3 (.t 89) (.t 90))⟩, ⟨(some 92), (some (88, true)), (.fieldA 0 (.t 91))⟩, ⟨(some 93), (some (88, true)), (.load false 1 (.t 92))⟩, ⟨(some 94), (some (88, true)), (.unop .not (.t 93))⟩, ⟨(some 95), none, (.pick (.t 88) (.t 94) (.v (.d (.bool false))))⟩, ⟨(some 96), none, (.mov (.t 95))⟩, ⟨(some 97), (some (96, true)), (.mov (.t 2))⟩, ⟨(some 98), (some (96, true)), (.mov (.t 18))⟩, ⟨(some 99), (some (96, true)), (.idxA 3 (.t 97) (.t 98))⟩, ⟨(some 100), (some (96, true)), (.fieldA 1 (.t 99))⟩, ⟨(some 101), (some (96, true)), (.load false 1 (.t 100))⟩, ⟨(some 102), (some (96, true)), (.mov (.t 2))⟩, ⟨(some 103), (some (96, true)), (.mov (.t 11))⟩, ⟨(some 104), (some (96, true)), (.idxA 3 (.t 102) (.t 103))⟩, ⟨(some 105), (some (96, true)), (.fieldA 1 (.t 104))⟩, ⟨(some 106), (some (96, true)), (.load false 1 (.t 105))⟩] [⟨(some 107), (some (96, true)), (.bin .eql (.t 101) (.t 106))⟩, ⟨(some 108), none, (.pick (.t 96) (.t 107) (.v (.d (.bool false))))⟩, ⟨(some 15), none, (.mov (.t 108))⟩]) (.seq (.reg [] [⟨(some 109), none, (.mov (.t 18))⟩, ⟨(some 110), none, (.mov (.t 11))⟩, ⟨(some 111), none, (.bin .lss (.t 109) (.t 110))⟩]) (.cond (.t 111) (.seq (.reg [] [⟨(some 112), none, (.mov (.t 16))⟩, ⟨(some 113), none, (.mov (.t 2))⟩, ⟨(some 114), none, (.mov (.t 18))⟩, ⟨(some 115), none, (.idxA 3 (.t 113) (.t 114))⟩, ⟨(some 116), none, (.fieldA 2 (.t 115))⟩, ⟨(some 117), none, (.load false 1 (.t 116))⟩, ⟨(some 118), none, (.conv (.int .i64) (.t 117))⟩, ⟨(some 119), none, (.mn [(.t 112), (.t 118)])⟩, ⟨(some 16), none, (.mov (.t 119))⟩]) (.reg [] [⟨(some 120), none, (.mov (.t 17))⟩, ⟨(some 121), none, (.mov (.t 2))⟩, ⟨(some 122), none, (.mov (.t 18))⟩, ⟨(some 123), none, (.idxA 3 (.t 121) (.t 122))⟩, ⟨(some 124), none, (.fieldA 2 (.t 123))⟩, ⟨(some 125), none, (.load false 1 (.t 124))⟩, ⟨(some 126), none, (.conv (.int .i64) (.t 125))⟩, ⟨(some 127), none, (.mx [(.t 120), (.t 126)])⟩, ⟨(some 17), none, (.mov (.t 127))⟩])) .skip)))) (.reg [] [⟨(some 85), none, (.mov (.t 18))⟩, ⟨(some 86), none, (.bin .add (.t 85) (.v (.d (.int .i64 1))))⟩, ⟨(some 18), none, (.mov (.t 86))⟩])))
def S11_4 : C := (.seq1 (.reg [] [⟨(some 77), none, (.mov (.t 11))⟩, ⟨(some 78), none, (.mov (.t 7))⟩, ⟨(some 79), none, (.bin .sub (.t 77) (.t 78))⟩, ⟨(some 80), none, (.bin .add (.t 79) (.v (.d (.int .i64 1))))⟩, ⟨(some 81), none, (.mx [(.v (.d (.int .i64 0))), (.t 80)])⟩, ⟨(some 18), none, (.mov (.t 81))⟩]) (.block 2 (.loop [1, 2, 7, 8, 10, 11, 12, 15, 16, 17, 18] [1, 2, 7, 8, 10, 11, 12, 15, 16, 17] L11_3)))
def S11_5 : C := (.reg [] [⟨(some 128), none, (.mov (.t 12))⟩, ⟨(some 129), none, (.mov (.t 15))⟩, ⟨(some 130), none, (.mov (.t 129))⟩, ⟨(some 131), (some (130, true)), (.mov (.t 17))⟩, ⟨(some 132), (some (130, true)), (.mov (.t 16))⟩, ⟨(some 133), (some (130, true)), (.bin .sub (.t 131) (.t 132))⟩, ⟨(some 134), (some (130, true)), (.mov (.t 1))⟩, ⟨(some 135), (some (130, true)), (.conv (.int .i64) (.t 134))⟩, ⟨(some 136), (some (130, true)), (.bin .gtr (.t 133) (.t 135))⟩, ⟨(some 137), none, (.pick (.t 130) (.t 136) (.v (.d (.bool false))))⟩, ⟨(some 138), none, (.beq .bool true (.t 128) (.t 137))⟩, ⟨(some 139), none, (.mov (.t 138))⟩, ⟨(some 140), (some (139, false)), (.mov (.t 8))⟩, ⟨(some 141), (some (139, false)), (.mov (.t 2))⟩, ⟨(some 142), (some (139, false)), (.mov (.t 11))⟩, ⟨(some 143), (some (139, false)), (.idxA 3 (.t 141) (.t 142))⟩, ⟨(some 144), (some (139, false)), (.fieldA 2 (.t 143))⟩, ⟨(some 145), (some (139, false)), (.load false 1 (.t 144))⟩, ⟨(some 146), (some (139, false)), (.conv (.int .i64) (.t 145))⟩, ⟨(some 147), (some (139, false)), (.call (.v (.fn (.func 48) [] [])) [(.t 140), (.t 146)])⟩, ⟨(some 148), (some (139, false)), (.bin .neq (.t 147) (.v (.d (.int .i64 0))))⟩, ⟨(some 149), none, (.pick (.t 139) (.v (.d (.bool true))) (.t 148))⟩])
def S11_6 : C := (.block 1 (.seq (.reg [] [⟨(some 12), none, (.mov (.v (.d (.bool false))))⟩]) (.cut [1, 2, 7, 8, 10, 11, 12] [6] [1, 2, 7, 8, 10, 11, 12] S11_2 (.seq (.reg [] [⟨(some 73), none, (.mov (.t 11))⟩, ⟨(some 74), none, (.mov (.t 7))⟩, ⟨(some 75), none, (.bin .sub (.t 74) (.v (.d (.int .i64 1))))⟩, ⟨(some 76), none, (.bin .geq (.t 73) (.t 75))⟩, ⟨(some 15), none, (.mov (.t 76))⟩]) (.seq (.reg [] [⟨(some 16), none, (.mov (.v (.d (.int .i64 65536))))⟩]) (.seq (.reg [] [⟨(some 17), none, (.mov (.v (.d (.int .i64 (-65536)))))⟩]) (.cut [1, 2, 7, 8, 10, 11, 12, 15, 16, 17] [] [1, 2, 7, 8, 10, 11, 12, 15, 16, 17] S11_4 (.cut [1, 2, 7, 8, 10, 11, 12, 15, 16, 17] [] [1, 2, 7, 8, 10, 11, 149] S11_5 (.cond (.t 149) (.seq (.reg [] [⟨(some 6), none, (.mov (.v (.d (.bool false))))⟩]) .ret) .skip)))))))))
def L11_7 : C := (.cut [1, 2, 7, 8, 10, 11] [] [1, 2, 7, 8, 10, 11] S11_1 (.cut [1, 2, 7, 8, 10, 11] [6] [1, 2, 7, 8, 10, 11] S11_6 (.reg [] [⟨(some 50), none, (.mov (.t 11))⟩, ⟨(some 51), none, (.bin .add (.t 50) (.v (.d (.int .i64 1))))⟩, ⟨(some 11), none, (.mov (.t 51))⟩])))
def S11_8 : C := (.seq (.reg [] [⟨(some 28), none, (.mov (.t 7))⟩, ⟨(some 29), none, (.mov (.t 1))⟩, ⟨(some 30), none, (.conv (.int .i64) (.t 29))⟩, ⟨(some 31), none, (.call (.v (.fn (.func 44) [] [])) [(.t 28), (.t 30)])⟩, ⟨(some 27), none, (.mov (.t 31))⟩, ⟨(some 32), none, (.extract 0 (.t 27))⟩, ⟨(some 33), none, (.extract 1 (.t 27))⟩, ⟨(some 8), none, (.mov (.t 32))⟩, ⟨(some 9), none, (.mov (.t 33))⟩]) (.seq (.reg [] [⟨(some 34), none, (.mov (.t 8))⟩, ⟨(some 35), none, (.call (.v (.fn (.func 46) [] [])) [(.t 34)])⟩, ⟨(some 10), none, (.mov (.t 35))⟩]) (.seq (.seq (.reg [] [⟨(some 36), none, (.mov (.t 8))⟩, ⟨(some 37), none, (.beq .ptr false (.t 36) (.v (.d .nilp)))⟩, ⟨(some 38), none, (.mov (.t 37))⟩, ⟨(some 39), (some (38, false)), (.mov (.t 10))⟩, ⟨(some 40), (some (38, false)), (.beq .ptr false (.t 39) (.v (.d .nilp)))⟩, ⟨(some 41), none, (.pick (.t 38) (.v (.d (.bool true))) (.t 40))⟩, ⟨(some 42), none, (.mov (.t 41))⟩, ⟨(some 43), (some (42, false)), (.mov (.t 9))⟩, ⟨(some 44), (some (42, false)), (.bin .neq (.t 43) (.v (.d (.int .i64 0))))⟩, ⟨(some 45), none, (.pick (.t 42) (.v (.d (.bool true))) (.t 44))⟩]) (.cond (.t 45) (.seq (.reg [] [⟨(some 6), none, (.mov (.v (.d (.bool false))))⟩]) .ret) .skip)) (.seq1 (.reg [] [⟨(some 11), none, (.mov (.v (.d (.int .i64 0))))⟩]) (.block 0 (.loop [1, 2, 7, 8, 10, 11] [6] L11_7))))))
def F11 : CFunc := ⟨151, [(.tmp 6)], (.seq (.reg [] [⟨(some 6), none, (.mov (.v (.d (.bool false))))⟩]) (.cut [0, 1, 2] [6] [0, 1, 2] S11_0 (.seq (.reg [] [⟨(some 23), none, (.mov (.t 0))⟩, ⟨(some 24), none, (.bin .rem (.t 23) (.v (.d (.int .u8 15))))⟩, ⟨(some 25), none, (.conv (.int .i64) (.t 24))⟩, ⟨(some 26), none, (.bin .add (.t 25) (.v (.d (.int .i64 2))))⟩, ⟨(some 7), none, (.mov (.t 26))⟩]) (.cut [1, 2, 7] [6] [] S11_8 (.seq (.reg [] [⟨(some 150), none, (.call (.v (.fn (.func 43) [] [])) [])⟩, ⟨(some 6), none, (.mov (.t 150))⟩]) .ret)))))⟩
theorem c11 : cAt Try.prog 11 = some F11.er := by kernel_rfl
def L17_0 : C := (.seq (.seq (.reg [] [⟨(some 11), none, (.mov (.t 5))⟩, ⟨(some 12), none, (.mov (.t 0))⟩, ⟨(some 13), none, (.len (.t 12))⟩, ⟨(some 14), none, (.bin .lss (.t 11) (.t 13))⟩]) (.cond (.t 14) .skip (.exit 0))) (.seq (.block 1 (.seq (.reg [⟨(some 17), none, (.mov (.t 0))⟩, ⟨(some 18), none, (.mov (.t 5))⟩, ⟨(some 19), none, (.idxA 1 (.t 17) (.t 18))⟩, ⟨(some 20), none, (.load false 1 (.t 19))⟩, ⟨(some 21), none, (.mov (.t 1))⟩, ⟨(some 22), none, (.mov (.t 5))⟩, ⟨(some 23), none, (.idxA 1 (.t 21) (.t 22))⟩, ⟨(some 24), none, (.load false 1 (.t 23))⟩] [⟨(some 25), none, (.bin .neq (.t 20) (.t 24))⟩]) (.cond (.t 25) (.seq (.reg [] [⟨(some 4), none, (.mov (.v (.d (.bool false))))⟩]) .ret) .skip))) (.reg [] [⟨(some 15), none, (.mov (.t 5))⟩, ⟨(some 16), none, (.bin .add (.t 15) (.v (.d (.int .i64 1))))⟩, ⟨(some 5), none, (.mov (.t 16))⟩])))
def F17 : CFunc := ⟨26, [(.tmp 4)], (.seq (.reg [] [⟨(some 4), none, (.mov (.v (.d (.bool false))))⟩]) (.seq (.seq (.reg [] [⟨(some 6), none, (.mov (.t 0))⟩, ⟨(some 7), none, (.len (.t 6))⟩, ⟨(some 8), none, (.mov (.t 1))⟩, ⟨(some 9), none, (.len (.t 8))⟩, ⟨(some 10), none, (.bin .neq (.t 7) (.t 9))⟩]) (.cond (.t 10) (.seq (.reg [] [⟨(some 4), none, (.mov (.v (.d (.bool false))))⟩]) .ret) .skip)) (.seq (.seq (.reg [] [⟨(some 5), none, (.mov (.v (.d (.int .i64 0))))⟩]) (.block 0 (.loop [0, 1, 5] [4] L17_0))) (.seq (.reg [] [⟨(some 4), none, (.mov (.v (.d (.bool true))))⟩]) .ret))))⟩
theorem c17 : cAt Try.prog 17 = some F17.er := by kernel_rfl
def F22 : CFunc := ⟨16, [(.tmp 2)], (.seq (.reg [] [⟨(some 2), none, (.mov (.v (.d (.int .i64 0))))⟩]) (.seq (.seq (.reg [] [⟨(some 3), none, (.mov (.t 0))⟩, ⟨(some 4), none, (.call (.v (.fn (.func 63) [] [])) [(.t 3)])⟩, ⟨(some 5), none, (.unop .not (.t 4))⟩, ⟨(some 6), none, (.mov (.t 5))⟩, ⟨(some 7), (some (6, false)), (.mov (.t 0))⟩, ⟨(some 8), (some (6, false)), (.len (.t 7))⟩, ⟨(some 9), (some (6, false)), (.bin .eql (.t 8) (.v (.d (.int .i64 0))))⟩, ⟨(some 10), none, (.pick (.t 6) (.v (.d (.bool true))) (.t 9))⟩]) (.cond (.t 10) (.seq (.reg [] [⟨(some 2), none, (.mov (.v (.d (.int .i64 0))))⟩]) .ret) .skip)) (.seq (.reg [] [⟨(some 11), none, (.mov (.t 0))⟩, ⟨(some 12), none, (.call (.v (.fn (.func 67) [] [])) [(.t 11)])⟩, ⟨(some 13), none, (.mov (.t 0))⟩, ⟨(some 14), none, (.call (.v (.fn (.func 68) [] [])) [(.t 13)])⟩, ⟨(some 15), none, (.bin .sub (.t 12) (.t 14))⟩, ⟨(some 2), none, (.mov (.t 15))⟩]) .ret)))⟩
theorem c22 : cAt Try.prog 22 = some F22.er := by kernel_rfl
def S43_0 : C := (.seq (.reg [] [⟨(some 18), none, (.call (.v (.fn (.func 44) [] [])) [(.v (.d (.int .i64 3))), (.v (.d (.int .i64 5)))])⟩, ⟨(some 17), none, (.mov (.t 18))⟩, ⟨(some 19), none, (.extract 0 (.t 17))⟩, ⟨(some 20), none, (.extract 1 (.t 17))⟩, ⟨(some 1), none, (.mov (.t 19))⟩, ⟨(some 2), none, (.mov (.t 20))⟩]) (.seq (.seq (.reg [] [⟨(some 21), none, (.mov (.t 1))⟩, ⟨(some 22), none, (.beq .ptr false (.t 21) (.v (.d .nilp)))⟩]) (.cond (.t 22) (.seq (.reg [] [⟨(some 0), none, (.mov (.v (.d (.bool false))))⟩]) .ret) .skip)) (.seq (.reg [] [⟨(some 23), none, (.mov (.t 1))⟩, ⟨(some 24), none, (.call (.v (.fn (.func 46) [] [])) [(.t 23)])⟩, ⟨(some 3), none, (.mov (.t 24))⟩]) (.seq (.reg [] [⟨(some 26), none, (.mov (.t 3))⟩, ⟨(some 27), none, (.call (.v (.fn (.func 51) [] [])) [(.t 26), (.v (.d (.int .i64 7)))])⟩, ⟨(some 25), none, (.mov (.t 27))⟩, ⟨(some 28), none, (.extract 0 (.t 25))⟩, ⟨(some 29), none, (.extract 1 (.t 25))⟩, ⟨(some 4), none, (.mov (.t 28))⟩, ⟨(some 5), none, (.mov (.t 29))⟩]) (.seq (.reg [] [⟨(some 30), none, (.mov (.t 1))⟩, ⟨(some 31), none, (.call (.v (.fn (.func 48) [] [])) [(.t 30), (.v (.d (.int .i64 0)))])⟩]) (.seq (.reg [] [⟨(some 33), none, (.mov (.t 3))⟩, ⟨(some 34), none, (.call (.v (.fn (.func 51) [] [])) [(.t 33), (.v (.d (.int .i64 7)))])⟩, ⟨(some 32), none, (.mov (.t 34))⟩, ⟨(some 35), none, (.extract 0 (.t 32))⟩, ⟨(some 36), none, (.extract 1 (.t 32))⟩, ⟨(some 6), none, (.mov (.t 35))⟩, ⟨(some 7), none, (.mov (.t 36))⟩]) (.seq (.reg [] [⟨(some 37), none, (.mov (.t 1))⟩, ⟨(some 38), none, (.call (.v (.fn (.func 48) [] [])) [(.t 37), (.v (.d (.int .i64 6)))])⟩]) (.seq (.reg [] [⟨(some 40), none, (.mov (.t 3))⟩, ⟨(some 41), none, (.call (.v (.fn (.func 51) [] [])) [(.t 40), (.v (.d (.int .i64 7)))])⟩, ⟨(some 39), none, (.mov (.t 41))⟩, ⟨(some 42), none, (.extract 0 (.t 39))⟩, ⟨(some 43), none, (.extract 1 (.t 39))⟩, ⟨(some 8), none, (.mov (.t 42))⟩, ⟨(some 9), none, (.mov (.t 43))⟩]) (.seq (.reg [] [⟨(some 44), none, (.mov (.t 3))⟩, ⟨(some 45), none, (.call (.v (.fn (.func 57) [] [])) [(.t 44)])⟩, ⟨(some 10), none, (.mov (.t 45))⟩]) (.seq (.reg [] [⟨(some 46), none, (.mov (.t 1))⟩, ⟨(some 47), none, (.call (.v (.fn (.func 48) [] [])) [(.t 46), (.v (.d (.int .i64 6)))])⟩]) (.seq (.reg [] [⟨(some 49), none, (.mov (.t 3))⟩, ⟨(some 50), none, (.call (.v (.fn (.func 51) [] [])) [(.t 49), (.v (.d (.int .i64 7)))])⟩, ⟨(some 48), none, (.mov (.t 50))⟩, ⟨(some 51), none, (.extract 0 (.t 48))⟩, ⟨(some 52), none, (.extract 1 (.t 48))⟩, ⟨(some 11), none, (.mov (.t 51))⟩, ⟨(some 12), none, (.mov (.t 52))⟩]) (.seq (.reg [] [⟨(some 53), none, (.mov (.t 3))⟩, ⟨(some 54), none, (.call (.v (.fn (.func 50) [] [])) [(.t 53)])⟩]) (.seq (.reg [] [⟨(some 55), none, (.mov (.t 3))⟩, ⟨(some 56), none, (.call (.v (.fn (.func 57) [] [])) [(.t 55)])⟩, ⟨(some 13), none, (.mov (.t 56))⟩]) (.seq (.reg [] [⟨(some 57), none, (.mov (.t 1))⟩, ⟨(some 58), none, (.call (.v (.fn (.func 48) [] [])) [(.t 57), (.v (.d (.int .i64 2147483648)))])⟩, ⟨(some 14), none, (.mov (.t 58))⟩]) (.seq (.reg [] [⟨(some 60), none, (.call (.v (.fn (.func 44) [] [])) [(.v (.d (.int .i64 1))), (.v (.d (.int .i64 0)))])⟩, ⟨(some 59), none, (.mov (.t 60))⟩, ⟨(some 61), none, (.extract 0 (.t 59))⟩, ⟨(some 62), none, (.extract 1 (.t 59))⟩, ⟨(some 15), none, (.mov (.t 61))⟩, ⟨(some 16), none, (.mov (.t 62))⟩]) (.reg [] [⟨(some 63), none, (.mov (.t 2))⟩, ⟨(some 64), none, (.bin .eql (.t 63) (.v (.d (.int .i64 0))))⟩, ⟨(some 65), none, (.mov (.t 64))⟩, ⟨(some 66), (some (65, true)), (.mov (.t 4))⟩, ⟨(some 67), (some (65, true)), (.unop .not (.t 66))⟩, ⟨(some 68), none, (.pick (.t 65) (.t 67) (.v (.d (.bool false))))⟩, ⟨(some 69), none, (.mov (.t 68))⟩, ⟨(some 70), (some (69, true)), (.mov (.t 5))⟩, ⟨(some 71), (some (69, true)), (.bin .eql (.t 70) (.v (.d (.int .i64 0))))⟩, ⟨(some 72), none, (.pick (.t 69) (.t 71) (.v (.d (.bool false))))⟩, ⟨(some 73), none, (.mov (.t 72))⟩, ⟨(some 74), (some (73, true)), (.mov (.t 6))⟩, ⟨(some 75), (some (73, true)), (.unop .not (.t 74))⟩, ⟨(some 76), none, (.pick (.t 73) (.t 75) (.v (.d (.bool false))))⟩, ⟨(some 77), none, (.mov (.t 76))⟩, ⟨(some 78), (some (77, true)), (.mov (.t 8))⟩, ⟨(some 79), none, (.pick (.t 77) (.t 78) (.v (.d (.bool false))))⟩, ⟨(some 80), none, (.mov (.t 79))⟩, ⟨(some 81), (some (80, true)), (.mov (.t 10))⟩, ⟨(some 82), (some (80, true)), (.bin .eql (.t 81) (.v (.d (.int .i64 3))))⟩, ⟨(some 83), none, (.pick (.t 80) (.t 82) (.v (.d (.bool false))))⟩, ⟨(some 84), none, (.mov (.t 83))⟩, ⟨(some 85), (some (84, true)), (.mov (.t 11))⟩, ⟨(some 86), (some (84, true)), (.unop .not (.t 85))⟩, ⟨(some 87), none, (.pick (.t 84) (.t 86) (.v (.d (.bool false))))⟩, ⟨(some 88), none, (.mov (.t 87))⟩, ⟨(some 89), (some (88, true)), (.mov (.t 13))⟩, ⟨(some 90), (some (88, true)), (.bin .eql (.t 89) (.v (.d (.int .i64 0))))⟩, ⟨(some 91), none, (.pick (.t 88) (.t 90) (.v (.d (.bool false))))⟩, ⟨(some 92), none, (.mov (.t 91))⟩, ⟨(some 93), (some (92, true)), (.mov (.t 14))⟩, ⟨(some 94), (some (92, true)), (.bin .eql (.t 93) (.v (.d (.int .i64 1))))⟩, ⟨(some 95), none, (.pick (.t 92) (.t 94) (.v (.d (.bool false))))⟩, ⟨(some 96), none, (.mov (.t 95))⟩, ⟨(some 97), (some (96, true)), (.mov (.t 16))⟩, ⟨(some 98), (some (96, true)), (.bin .eql (.t 97) (.v (.d (.int .i64 1))))⟩, ⟨(some 99), none, (.pick (.t 96) (.t 98) (.v (.d (.bool false))))⟩, ⟨(some 100), none, (.mov (.t 99))⟩, ⟨(some 101), (some (100, true)), (.mov (.t 1))⟩, ⟨(some 102), (some (100, true)), (.call (.v (.fn (.func 53) [] [])) [(.t 101)])⟩, ⟨(some 103), (some (100, true)), (.bslice 3 true 1 2 [(.int .i64 0)] [(0, (.v (.d (.int .i64 6)))), (1, (.v (.d (.int .i64 6))))])⟩, ⟨(some 104), (some (100, true)), (.call (.v (.fn (.func 17) [] [])) [(.t 102), (.t 103)])⟩, ⟨(some 105), none, (.pick (.t 100) (.t 104) (.v (.d (.bool false))))⟩, ⟨(some 106), none, (.mov (.t 105))⟩, ⟨(some 107), (some (106, true)), (.mov (.t 1))⟩, ⟨(some 108), (some (106, true)), (.call (.v (.fn (.func 55) [] [])) [(.t 107)])⟩, ⟨(some 109), (some (106, true)), (.unop .not (.t 108))⟩, ⟨(some 110), none, (.pick (.t 106) (.t 109) (.v (.d (.bool false))))⟩, ⟨(some 0), none, (.mov (.t 110))⟩]))))))))))))))))
def F43 : CFunc := ⟨111, [(.tmp 0)], (.seq (.reg [] [⟨(some 0), none, (.mov (.v (.d (.bool false))))⟩]) (.cut [] [0] [0] S43_0 .ret))⟩
theorem c43 : cAt Try.prog 43 = some F43.er := by kernel_rfl
def F44 : CFunc := ⟨25, [(.tmp 4), (.tmp 5)], (.seq (.reg [] [⟨(some 4), none, (.mov (.v (.d .nilp)))⟩, ⟨(some 5), none, (.mov (.v (.d (.int .i64 0))))⟩]) (.seq (.seq (.reg [] [⟨(some 6), none, (.mov (.t 0))⟩, ⟨(some 7), none, (.bin .lss (.t 6) (.v (.d (.int .i64 2))))⟩, ⟨(some 8), none, (.mov (.t 7))⟩, ⟨(some 9), (some (8, false)), (.mov (.t 0))⟩, ⟨(some 10), (some (8, false)), (.bin .gtr (.t 9) (.v (.d (.int .i64 16))))⟩, ⟨(some 11), none, (.pick (.t 8) (.v (.d (.bool true))) (.t 10))⟩, ⟨(some 12), none, (.mov (.t 11))⟩, ⟨(some 13), (some (12, false)), (.mov (.t 1))⟩, ⟨(some 14), (some (12, false)), (.bin .lss (.t 13) (.v (.d (.int .i64 0))))⟩, ⟨(some 15), none, (.pick (.t 12) (.v (.d (.bool true))) (.t 14))⟩, ⟨(some 16), none, (.mov (.t 15))⟩, ⟨(some 17), (some (16, false)), (.mov (.t 1))⟩, ⟨(some 18), (some (16, false)), (.call (.v (.fn (.func 73) [] [])) [(.t 17)])⟩, ⟨(some 19), (some (16, false)), (.unop .not (.t 18))⟩, ⟨(some 20), none, (.pick (.t 16) (.v (.d (.bool true))) (.t 19))⟩]) (.cond (.t 20) (.seq (.reg [] [⟨(some 4), none, (.mov (.v (.d .nilp)))⟩, ⟨(some 5), none, (.mov (.v (.d (.int .i64 1))))⟩]) .ret) .skip)) (.seq (.reg [] [⟨(some 21), none, (.mov (.t 0))⟩, ⟨(some 22), none, (.mov (.t 1))⟩, ⟨(some 23), none, (.build [(.int .i64 0), (.int .i64 0), (.int .i64 0), (.int .i64 0), (.int .i64 0), (.int .i64 0), (.int .i64 0), (.int .i64 0), (.int .i64 0), (.int .i64 0), (.int .i64 0), (.int .i64 0), (.int .i64 0), (.int .i64 0), (.int .i64 0), (.int .i64 0), (.int .i64 0), (.int .i64 0), (.int .i64 0), (.int .i64 0)] [(0, (1, (.t 21))), (1, (1, (.t 22)))])⟩, ⟨(some 24), none, (.box 82 true 20 (.t 23))⟩, ⟨(some 4), none, (.mov (.t 24))⟩, ⟨(some 5), none, (.mov (.v (.d (.int .i64 0))))⟩]) .ret)))⟩
theorem c44 : cAt Try.prog 44 = some F44.er := by kernel_rfl
def F46 : CFunc := ⟨8, [(.tmp 2)], (.seq (.reg [] [⟨(some 2), none, (.mov (.v (.d .nilp)))⟩]) (.seq (.seq (.reg [] [⟨(some 3), none, (.mov (.t 0))⟩, ⟨(some 4), none, (.beq .ptr false (.t 3) (.v (.d .nilp)))⟩]) (.cond (.t 4) (.seq (.reg [] [⟨(some 2), none, (.mov (.v (.d .nilp)))⟩]) .ret) .skip)) (.seq (.reg [] [⟨(some 5), none, (.mov (.t 0))⟩, ⟨(some 6), none, (.build [.nilp, (.int .i64 0), (.int .i64 0)] [(0, (1, (.t 5)))])⟩, ⟨(some 7), none, (.box 84 false 3 (.t 6))⟩, ⟨(some 2), none, (.mov (.t 7))⟩]) .ret)))⟩
theorem c46 : cAt Try.prog 46 = some F46.er := by kernel_rfl
def F48 : CFunc := ⟨49, [(.tmp 4)], (.seq (.reg [] [⟨(some 4), none, (.mov (.v (.d (.int .i64 0))))⟩]) (.seq (.seq (.reg [] [⟨(some 5), none, (.mov (.t 0))⟩, ⟨(some 6), none, (.beq .ptr false (.t 5) (.v (.d .nilp)))⟩, ⟨(some 7), none, (.mov (.t 6))⟩, ⟨(some 8), (some (7, false)), (.mov (.t 1))⟩, ⟨(some 9), (some (7, false)), (.call (.v (.fn (.func 73) [] [])) [(.t 8)])⟩, ⟨(some 10), (some (7, false)), (.unop .not (.t 9))⟩, ⟨(some 11), none, (.pick (.t 7) (.v (.d (.bool true))) (.t 10))⟩]) (.cond (.t 11) (.seq (.reg [] [⟨(some 4), none, (.mov (.v (.d (.int .i64 1))))⟩]) .ret) .skip)) (.seq (.reg [⟨(some 12), none, (.mov (.t 0))⟩, ⟨(some 13), none, (.mov (.t 0))⟩, ⟨(some 14), none, (.nilck (.t 13))⟩, ⟨(some 15), none, (.fieldA 18 (.t 14))⟩, ⟨(some 16), none, (.load false 1 (.t 15))⟩, ⟨(some 17), none, (.mov (.t 1))⟩, ⟨(some 18), none, (.nilck (.t 12))⟩, ⟨(some 19), none, (.fieldA 2 (.t 18))⟩] [⟨(some 20), none, (.idxAA 16 1 (.t 19) (.t 16))⟩, ⟨none, none, (.store 1 (.t 20) (.t 17))⟩]) (.seq (.reg [⟨(some 21), none, (.mov (.t 0))⟩, ⟨(some 22), none, (.mov (.t 0))⟩, ⟨(some 23), none, (.nilck (.t 22))⟩, ⟨(some 24), none, (.fieldA 18 (.t 23))⟩, ⟨(some 25), none, (.load false 1 (.t 24))⟩, ⟨(some 26), none, (.bin .add (.t 25) (.v (.d (.int .i64 1))))⟩, ⟨(some 27), none, (.mov (.t 0))⟩, ⟨(some 28), none, (.nilck (.t 27))⟩, ⟨(some 29), none, (.fieldA 0 (.t 28))⟩, ⟨(some 30), none, (.load false 1 (.t 29))⟩, ⟨(some 31), none, (.bin .sub (.t 30) (.v (.d (.int .i64 1))))⟩, ⟨(some 32), none, (.bin .rem (.t 26) (.t 31))⟩] [⟨(some 33), none, (.nilck (.t 21))⟩, ⟨(some 34), none, (.fieldA 18 (.t 33))⟩, ⟨none, none, (.store 1 (.t 34) (.t 32))⟩]) (.seq (.reg [⟨(some 35), none, (.mov (.t 0))⟩, ⟨(some 36), none, (.mov (.t 0))⟩, ⟨(some 37), none, (.nilck (.t 36))⟩, ⟨(some 38), none, (.fieldA 19 (.t 37))⟩, ⟨(some 39), none, (.load false 1 (.t 38))⟩, ⟨(some 40), none, (.bin .add (.t 39) (.v (.d (.int .i64 1))))⟩, ⟨(some 41), none, (.mov (.t 0))⟩, ⟨(some 42), none, (.nilck (.t 41))⟩, ⟨(some 43), none, (.fieldA 0 (.t 42))⟩, ⟨(some 44), none, (.load false 1 (.t 43))⟩, ⟨(some 45), none, (.bin .sub (.t 44) (.v (.d (.int .i64 1))))⟩, ⟨(some 46), none, (.mn [(.t 40), (.t 45)])⟩] [⟨(some 47), none, (.nilck (.t 35))⟩, ⟨(some 48), none, (.fieldA 19 (.t 47))⟩, ⟨none, none, (.store 1 (.t 48) (.t 46))⟩]) (.seq (.reg [] [⟨(some 4), none, (.mov (.v (.d (.int .i64 0))))⟩]) .ret))))))⟩
theorem c48 : cAt Try.prog 48 = some F48.er := by kernel_rfl
def F50 : CFunc := ⟨7, [], (.seq (.reg [] [⟨(some 2), none, (.mov (.t 0))⟩, ⟨(some 3), none, (.beq .ptr true (.t 2) (.v (.d .nilp)))⟩]) (.cond (.t 3) (.reg [] [⟨(some 4), none, (.mov (.t 0))⟩, ⟨(some 5), none, (.nilck (.t 4))⟩, ⟨(some 6), none, (.fieldA 2 (.t 5))⟩, ⟨none, none, (.store 1 (.t 6) (.v (.d (.int .i64 0))))⟩]) .skip))⟩
theorem c50 : cAt Try.prog 50 = some F50.er := by kernel_rfl
def F51 : CFunc := ⟨68, [(.tmp 4), (.tmp 5)], (.seq (.reg [] [⟨(some 4), none, (.mov (.v (.d (.bool false))))⟩, ⟨(some 5), none, (.mov (.v (.d (.int .i64 0))))⟩]) (.seq (.seq (.reg [] [⟨(some 6), none, (.mov (.t 0))⟩, ⟨(some 7), none, (.beq .ptr false (.t 6) (.v (.d .nilp)))⟩, ⟨(some 8), none, (.mov (.t 7))⟩, ⟨(some 9), (some (8, false)), (.mov (.t 1))⟩, ⟨(some 10), (some (8, false)), (.call (.v (.fn (.func 73) [] [])) [(.t 9)])⟩, ⟨(some 11), (some (8, false)), (.unop .not (.t 10))⟩, ⟨(some 12), none, (.pick (.t 8) (.v (.d (.bool true))) (.t 11))⟩]) (.cond (.t 12) (.seq (.reg [] [⟨(some 4), none, (.mov (.v (.d (.bool false))))⟩, ⟨(some 5), none, (.mov (.v (.d (.int .i64 1))))⟩]) .ret) .skip)) (.seq (.seq (.reg [] [⟨(some 13), none, (.mov (.t 0))⟩, ⟨(some 14), none, (.nilck (.t 13))⟩, ⟨(some 15), none, (.fieldA 2 (.t 14))⟩, ⟨(some 16), none, (.load false 1 (.t 15))⟩, ⟨(some 17), none, (.bin .eql (.t 16) (.v (.d (.int .i64 0))))⟩, ⟨(some 18), none, (.mov (.t 17))⟩, ⟨(some 19), (some (18, false)), (.mov (.t 1))⟩, ⟨(some 20), (some (18, false)), (.mov (.t 0))⟩, ⟨(some 21), (some (18, false)), (.nilck (.t 20))⟩, ⟨(some 22), (some (18, false)), (.fieldA 1 (.t 21))⟩, ⟨(some 23), (some (18, false)), (.load false 1 (.t 22))⟩, ⟨(some 24), (some (18, false)), (.bin .neq (.t 19) (.t 23))⟩, ⟨(some 25), none, (.pick (.t 18) (.v (.d (.bool true))) (.t 24))⟩]) (.cond (.t 25) (.reg [] [⟨(some 26), none, (.mov (.t 0))⟩, ⟨(some 27), none, (.nilck (.t 26))⟩, ⟨(some 28), none, (.fieldA 2 (.t 27))⟩, ⟨none, none, (.store 1 (.t 28) (.v (.d (.int .i64 0))))⟩]) .skip)) (.seq (.reg [] [⟨(some 29), none, (.mov (.t 0))⟩, ⟨(some 30), none, (.mov (.t 0))⟩, ⟨(some 31), none, (.mov (.t 1))⟩, ⟨(some 32), none, (.mov (.t 0))⟩, ⟨(some 33), none, (.nilck (.t 32))⟩, ⟨(some 34), none, (.fieldA 2 (.t 33))⟩, ⟨(some 35), none, (.load false 1 (.t 34))⟩, ⟨(some 36), none, (.bin .add (.t 35) (.v (.d (.int .i64 1))))⟩, ⟨(some 37), none, (.mov (.t 0))⟩, ⟨(some 38), none, (.nilck (.t 37))⟩, ⟨(some 39), none, (.fieldA 0 (.t 38))⟩, ⟨(some 40), none, (.load false 1 (.t 39))⟩, ⟨(some 41), none, (.nilck (.t 40))⟩, ⟨(some 42), none, (.fieldA 0 (.t 41))⟩, ⟨(some 43), none, (.load false 1 (.t 42))⟩, ⟨(some 44), none, (.mn [(.t 36), (.t 43)])⟩, ⟨(some 45), none, (.nilck (.t 29))⟩, ⟨(some 46), none, (.fieldA 1 (.t 45))⟩, ⟨none, none, (.store 1 (.t 46) (.t 31))⟩, ⟨(some 47), none, (.nilck (.t 30))⟩, ⟨(some 48), none, (.fieldA 2 (.t 47))⟩, ⟨none, none, (.store 1 (.t 48) (.t 44))⟩]) (.seq (.reg [⟨(some 49), none, (.mov (.t 0))⟩, ⟨(some 50), none, (.nilck (.t 49))⟩, ⟨(some 51), none, (.fieldA 2 (.t 50))⟩, ⟨(some 52), none, (.load false 1 (.t 51))⟩, ⟨(some 53), none, (.mov (.t 0))⟩, ⟨(some 54), none, (.nilck (.t 53))⟩, ⟨(some 55), none, (.fieldA 0 (.t 54))⟩, ⟨(some 56), none, (.load false 1 (.t 55))⟩, ⟨(some 57), none, (.nilck (.t 56))⟩, ⟨(some 58), none, (.fieldA 0 (.t 57))⟩, ⟨(some 59), none, (.load false 1 (.t 58))⟩] [⟨(some 60), none, (.bin .eql (.t 52) (.t 59))⟩, ⟨(some 61), none, (.mov (.t 60))⟩, ⟨(some 62), (some (61, true)), (.mov (.t 0))⟩, ⟨(some 63), (some (61, true)), (.nilck (.t 62))⟩, ⟨(some 64), (some (61, true)), (.fieldA 0 (.t 63))⟩, ⟨(some 65), (some (61, true)), (.load false 1 (.t 64))⟩, ⟨(some 66), (some (61, true)), (.call (.v (.fn (.func 55) [] [])) [(.t 65)])⟩, ⟨(some 67), none, (.pick (.t 61) (.t 66) (.v (.d (.bool false))))⟩, ⟨(some 4), none, (.mov (.t 67))⟩, ⟨(some 5), none, (.mov (.v (.d (.int .i64 0))))⟩]) .ret)))))⟩
theorem c51 : cAt Try.prog 51 = some F51.er := by kernel_rfl
def L53_0 : C := (.reg [] [⟨(some 4), none, (.mov (.t 7))⟩])
def L53_1 : C := (.block 1 (.reg [] [⟨(some 8), none, (.load false 1 (.t 3))⟩, ⟨(some 9), none, (.mov (.t 4))⟩, ⟨(some 10), none, (.bslice 3 true 1 1 [(.int .i64 0)] [(0, (.t 9))])⟩, ⟨(some 11), none, (.append 3 true 1 8 (.t 8) (.t 10))⟩, ⟨none, none, (.store 1 (.t 3) (.t 11))⟩]))
def F53 : CFunc := ⟨13, [(.tmp 2)], (.seq (.reg [] [⟨(some 2), none, (.nsl 3 true 1)⟩]) (.seq (.reg [] [⟨(some 3), none, (.allocn 22 3 true 1)⟩]) (.seq (.seq (.reg [] [⟨(some 5), none, (.mov (.t 0))⟩, ⟨(some 6), none, (.call (.v (.fn (.func 75) [] [])) [(.t 5)])⟩]) (.block 0 (.rfun 13 [3] (.t 6) [7] L53_0 L53_1))) (.seq (.reg [] [⟨(some 12), none, (.load false 1 (.t 3))⟩, ⟨(some 2), none, (.mov (.t 12))⟩]) .ret))))⟩
theorem c53 : cAt Try.prog 53 = some F53.er := by kernel_rfl
def F55 : CFunc := ⟨27, [(.tmp 2)], (.seq (.reg [] [⟨(some 2), none, (.mov (.v (.d (.bool false))))⟩]) (.seq (.mix [⟨(some 3), none, (.mov (.t 0))⟩, ⟨(some 4), none, (.beq .ptr true (.t 3) (.v (.d .nilp)))⟩, ⟨(some 5), none, (.mov (.t 4))⟩, ⟨(some 6), (some (5, true)), (.mov (.t 0))⟩, ⟨(some 7), (some (5, true)), (.nilck (.t 6))⟩, ⟨(some 8), (some (5, true)), (.fieldA 19 (.t 7))⟩, ⟨(some 9), (some (5, true)), (.load false 1 (.t 8))⟩, ⟨(some 10), (some (5, true)), (.mov (.t 0))⟩, ⟨(some 11), (some (5, true)), (.nilck (.t 10))⟩, ⟨(some 12), (some (5, true)), (.fieldA 0 (.t 11))⟩, ⟨(some 13), (some (5, true)), (.load false 1 (.t 12))⟩, ⟨(some 14), (some (5, true)), (.bin .sub (.t 13) (.v (.d (.int .i64 1))))⟩, ⟨(some 15), (some (5, true)), (.bin .eql (.t 9) (.t 14))⟩, ⟨(some 16), none, (.pick (.t 5) (.t 15) (.v (.d (.bool false))))⟩, ⟨(some 17), none, (.mov (.t 16))⟩, ⟨(some 18), (some (17, true)), (.mov (.t 0))⟩, ⟨(some 19), (some (17, true)), (.call (.v (.fn (.func 53) [] [])) [(.t 18)])⟩, ⟨(some 20), (some (17, true)), (.call (.v (.fn (.func 22) [] [])) [(.t 19)])⟩, ⟨(some 21), (some (17, true)), (.mov (.t 0))⟩, ⟨(some 22), (some (17, true)), (.nilck (.t 21))⟩, ⟨(some 23), (some (17, true)), (.fieldA 1 (.t 22))⟩, ⟨(some 24), (some (17, true)), (.load false 1 (.t 23))⟩, ⟨(some 25), (some (17, true)), (.bin .gtr (.t 20) (.t 24))⟩, ⟨(some 26), none, (.pick (.t 17) (.t 25) (.v (.d (.bool false))))⟩, ⟨(some 2), none, (.mov (.t 26))⟩] [[], [], [], [], [], [], [], [], [], [], [], [], [], [], [], [], [], [], [], [], [], [16, 17], [], [], []] [false, false, false, false, false, false, false, false, false, false, false, false, false, false, false, false, false, false, false, false, false, false, false, false, false]) .ret))⟩
theorem c55 : cAt Try.prog 55 = some F55.er := by kernel_rfl
def F57 : CFunc := ⟨9, [(.tmp 2)], (.seq (.reg [] [⟨(some 2), none, (.mov (.v (.d (.int .i64 0))))⟩]) (.seq (.seq (.reg [] [⟨(some 3), none, (.mov (.t 0))⟩, ⟨(some 4), none, (.beq .ptr false (.t 3) (.v (.d .nilp)))⟩]) (.cond (.t 4) (.seq (.reg [] [⟨(some 2), none, (.mov (.v (.d (.int .i64 0))))⟩]) .ret) .skip)) (.seq (.reg [] [⟨(some 5), none, (.mov (.t 0))⟩, ⟨(some 6), none, (.nilck (.t 5))⟩, ⟨(some 7), none, (.fieldA 2 (.t 6))⟩, ⟨(some 8), none, (.load false 1 (.t 7))⟩, ⟨(some 2), none, (.mov (.t 8))⟩]) .ret)))⟩
theorem c57 : cAt Try.prog 57 = some F57.er := by kernel_rfl
def F63 : CFunc := ⟨13, [(.tmp 2)], (.seq (.reg [] [⟨(some 2), none, (.mov (.v (.d (.bool false))))⟩]) (.seq (.reg [] [⟨(some 3), none, (.mov (.v (.fn (.func 78) [] [])))⟩]) (.seq (.reg [] [⟨(some 4), none, (.mov (.t 0))⟩, ⟨(some 5), none, (.len (.t 4))⟩, ⟨(some 6), none, (.bin .leq (.t 5) (.v (.d (.int .i64 16))))⟩, ⟨(some 7), none, (.mov (.t 6))⟩, ⟨(some 8), (some (7, true)), (.mov (.t 0))⟩, ⟨(some 9), (some (7, true)), (.mov (.t 3))⟩, ⟨(some 10), (some (7, true)), (.call (.v (.fn (.func 77) [] [])) [(.t 8), (.t 9)])⟩, ⟨(some 11), (some (7, true)), (.unop .not (.t 10))⟩, ⟨(some 12), none, (.pick (.t 7) (.t 11) (.v (.d (.bool false))))⟩, ⟨(some 2), none, (.mov (.t 12))⟩]) .ret)))⟩
theorem c63 : cAt Try.prog 63 = some F63.er := by kernel_rfl
def L67_0 : C := (.seq (.seq (.reg [] [⟨(some 12), none, (.mov (.t 4))⟩, ⟨(some 13), none, (.mov (.t 0))⟩, ⟨(some 14), none, (.len (.t 13))⟩, ⟨(some 15), none, (.bin .lss (.t 12) (.t 14))⟩]) (.cond (.t 15) .skip (.exit 0))) (.seq (.block 1 (.reg [] [⟨(some 18), none, (.mov (.t 3))⟩, ⟨(some 19), none, (.mov (.t 0))⟩, ⟨(some 20), none, (.mov (.t 4))⟩, ⟨(some 21), none, (.idxA 1 (.t 19) (.t 20))⟩, ⟨(some 22), none, (.load false 1 (.t 21))⟩, ⟨(some 23), none, (.mx [(.t 18), (.t 22)])⟩, ⟨(some 3), none, (.mov (.t 23))⟩])) (.reg [] [⟨(some 16), none, (.mov (.t 4))⟩, ⟨(some 17), none, (.bin .add (.t 16) (.v (.d (.int .i64 1))))⟩, ⟨(some 4), none, (.mov (.t 17))⟩])))
def F67 : CFunc := ⟨25, [(.tmp 2)], (.seq (.reg [] [⟨(some 2), none, (.mov (.v (.d (.int .i64 0))))⟩]) (.seq (.seq (.reg [] [⟨(some 5), none, (.mov (.t 0))⟩, ⟨(some 6), none, (.len (.t 5))⟩, ⟨(some 7), none, (.bin .lss (.t 6) (.v (.d (.int .i64 1))))⟩]) (.cond (.t 7) (.reg [] [⟨(some 8), none, (.mkif 9 (.v (.d (.str ⟨#[115, 108, 105, 99, 101, 115, 46, 77, 97, 120, 58, 32, 101, 109, 112, 116, 121, 32, 108, 105, 115, 116]⟩))))⟩, ⟨none, none, (.chk 1 (.v (.ptr 0 1 0 0)) 1 (.v (.ptr 0 1 0 0)))⟩]) .skip)) (.seq (.reg [] [⟨(some 9), none, (.mov (.t 0))⟩, ⟨(some 10), none, (.idxA 1 (.t 9) (.v (.d (.int .i64 0))))⟩, ⟨(some 11), none, (.load false 1 (.t 10))⟩, ⟨(some 3), none, (.mov (.t 11))⟩]) (.seq (.seq (.reg [] [⟨(some 4), none, (.mov (.v (.d (.int .i64 1))))⟩]) (.block 0 (.loop [0, 3, 4] [3] L67_0))) (.seq (.reg [] [⟨(some 24), none, (.mov (.t 3))⟩, ⟨(some 2), none, (.mov (.t 24))⟩]) .ret)))))⟩
theorem c67 : cAt Try.prog 67 = some F67.er := by kernel_rfl
def L68_0 : C := (.seq (.seq (.reg [] [⟨(some 12), none, (.mov (.t 4))⟩, ⟨(some 13), none, (.mov (.t 0))⟩, ⟨(some 14), none, (.len (.t 13))⟩, ⟨(some 15), none, (.bin .lss (.t 12) (.t 14))⟩]) (.cond (.t 15) .skip (.exit 0))) (.seq (.block 1 (.reg [] [⟨(some 18), none, (.mov (.t 3))⟩, ⟨(some 19), none, (.mov (.t 0))⟩, ⟨(some 20), none, (.mov (.t 4))⟩, ⟨(some 21), none, (.idxA 1 (.t 19) (.t 20))⟩, ⟨(some 22), none, (.load false 1 (.t 21))⟩, ⟨(some 23), none, (.mn [(.t 18), (.t 22)])⟩, ⟨(some 3), none, (.mov (.t 23))⟩])) (.reg [] [⟨(some 16), none, (.mov (.t 4))⟩, ⟨(some 17), none, (.bin .add (.t 16) (.v (.d (.int .i64 1))))⟩, ⟨(some 4), none, (.mov (.t 17))⟩])))
def F68 : CFunc := ⟨25, [(.tmp 2)], (.seq (.reg [] [⟨(some 2), none, (.mov (.v (.d (.int .i64 0))))⟩]) (.seq (.seq (.reg [] [⟨(some 5), none, (.mov (.t 0))⟩, ⟨(some 6), none, (.len (.t 5))⟩, ⟨(some 7), none, (.bin .lss (.t 6) (.v (.d (.int .i64 1))))⟩]) (.cond (.t 7) (.reg [] [⟨(some 8), none, (.mkif 9 (.v (.d (.str ⟨#[115, 108, 105, 99, 101, 115, 46, 77, 105, 110, 58, 32, 101, 109, 112, 116, 121, 32, 108, 105, 115, 116]⟩))))⟩, ⟨none, none, (.chk 1 (.v (.ptr 0 1 0 0)) 1 (.v (.ptr 0 1 0 0)))⟩]) .skip)) (.seq (.reg [] [⟨(some 9), none, (.mov (.t 0))⟩, ⟨(some 10), none, (.idxA 1 (.t 9) (.v (.d (.int .i64 0))))⟩, ⟨(some 11), none, (.load false 1 (.t 10))⟩, ⟨(some 3), none, (.mov (.t 11))⟩]) (.seq (.seq (.reg [] [⟨(some 4), none, (.mov (.v (.d (.int .i64 1))))⟩]) (.block 0 (.loop [0, 3, 4] [3] L68_0))) (.seq (.reg [] [⟨(some 24), none, (.mov (.t 3))⟩, ⟨(some 2), none, (.mov (.t 24))⟩]) .ret)))))⟩
theorem c68 : cAt Try.prog 68 = some F68.er := by kernel_rfl
def F73 : CFunc := ⟨9, [(.tmp 2)], (.seq (.reg [] [⟨(some 2), none, (.mov (.v (.d (.bool false))))⟩]) (.seq (.reg [] [⟨(some 3), none, (.mov (.t 0))⟩, ⟨(some 4), none, (.bin .geq (.t 3) (.v (.d (.int .i64 (-2147483648)))))⟩, ⟨(some 5), none, (.mov (.t 4))⟩, ⟨(some 6), (some (5, true)), (.mov (.t 0))⟩, ⟨(some 7), (some (5, true)), (.bin .leq (.t 6) (.v (.d (.int .i64 2147483647))))⟩, ⟨(some 8), none, (.pick (.t 5) (.t 7) (.v (.d (.bool false))))⟩, ⟨(some 2), none, (.mov (.t 8))⟩]) .ret))⟩
theorem c73 : cAt Try.prog 73 = some F73.er := by kernel_rfl
def F75 : CFunc := ⟨4, [(.tmp 2)], (.seq (.reg [] [⟨(some 1), none, (.box 44 false 1 (.t 0))⟩, ⟨(some 2), none, (.mov (.v (.d .nilf)))⟩]) (.seq (.reg [] [⟨(some 3), none, (.mkfn (.func 81) [] [(.t 1)])⟩, ⟨(some 2), none, (.mov (.t 3))⟩]) .ret))⟩
theorem c75 : cAt Try.prog 75 = some F75.er := by kernel_rfl
def F77 : CFunc := ⟨9, [(.tmp 4)], (.seq (.reg [] [⟨(some 4), none, (.mov (.v (.d (.bool false))))⟩]) (.seq (.reg [] [⟨(some 5), none, (.mov (.t 0))⟩, ⟨(some 6), none, (.mov (.t 1))⟩, ⟨(some 7), none, (.call (.v (.fn (.func 82) [] [])) [(.t 5), (.t 6)])⟩, ⟨(some 8), none, (.bin .geq (.t 7) (.v (.d (.int .i64 0))))⟩, ⟨(some 4), none, (.mov (.t 8))⟩]) .ret))⟩
theorem c77 : cAt Try.prog 77 = some F77.er := by kernel_rfl
def F78 : CFunc := ⟨9, [(.tmp 2)], (.seq (.reg [] [⟨(some 2), none, (.mov (.v (.d (.bool false))))⟩]) (.seq (.reg [] [⟨(some 3), none, (.mov (.t 0))⟩, ⟨(some 4), none, (.bin .lss (.t 3) (.v (.d (.int .i64 (-1099511627776)))))⟩, ⟨(some 5), none, (.mov (.t 4))⟩, ⟨(some 6), (some (5, false)), (.mov (.t 0))⟩, ⟨(some 7), (some (5, false)), (.bin .gtr (.t 6) (.v (.d (.int .i64 1099511627776))))⟩, ⟨(some 8), none, (.pick (.t 5) (.v (.d (.bool true))) (.t 7))⟩, ⟨(some 2), none, (.mov (.t 8))⟩]) .ret))⟩
theorem c78 : cAt Try.prog 78 = some F78.er := by kernel_rfl
def L81_0 : C := (.seq (.reg [] [⟨(some 17), none, (.bin .lss (.t 16) (.t 15))⟩]) (.seq (.cond (.t 17) .skip (.exit 0)) (.seq (.block 1 (.seq (.reg [] [⟨(some 18), none, (.mov (.t 16))⟩, ⟨(some 4), none, (.mov (.t 18))⟩]) (.seq (.reg [⟨(some 19), none, (.mov (.t 0))⟩, ⟨(some 20), none, (.load false 1 (.t 1))⟩, ⟨(some 21), none, (.load false 1 (.t 1))⟩, ⟨(some 22), none, (.nilck (.t 21))⟩, ⟨(some 23), none, (.fieldA 18 (.t 22))⟩, ⟨(some 24), none, (.load false 1 (.t 23))⟩, ⟨(some 25), none, (.load false 1 (.t 1))⟩, ⟨(some 26), none, (.nilck (.t 25))⟩, ⟨(some 27), none, (.fieldA 19 (.t 26))⟩, ⟨(some 28), none, (.load false 1 (.t 27))⟩, ⟨(some 29), none, (.bin .sub (.t 24) (.t 28))⟩, ⟨(some 30), none, (.mov (.t 4))⟩, ⟨(some 31), none, (.bin .add (.t 29) (.t 30))⟩, ⟨(some 32), none, (.mov (.t 3))⟩, ⟨(some 33), none, (.bin .add (.t 31) (.t 32))⟩, ⟨(some 34), none, (.mov (.t 3))⟩, ⟨(some 35), none, (.bin .rem (.t 33) (.t 34))⟩, ⟨(some 36), none, (.nilck (.t 20))⟩, ⟨(some 37), none, (.fieldA 2 (.t 36))⟩, ⟨(some 38), none, (.idxAA 16 1 (.t 37) (.t 35))⟩, ⟨(some 39), none, (.load false 1 (.t 38))⟩] [⟨(some 40), none, (.call (.t 19) [(.t 39)])⟩, ⟨(some 41), none, (.unop .not (.t 40))⟩]) (.cond (.t 41) .ret .skip)))) (.reg [] [⟨(some 42), none, (.bin .add (.t 16) (.v (.d (.int .i64 1))))⟩, ⟨(some 16), none, (.mov (.t 42))⟩]))))
def F81 : CFunc := ⟨43, [], (.seq (.seq (.reg [] [⟨(some 5), none, (.load false 1 (.t 1))⟩, ⟨(some 6), none, (.beq .ptr false (.t 5) (.v (.d .nilp)))⟩]) (.cond (.t 6) .ret .skip)) (.seq (.reg [] [⟨(some 7), none, (.load false 1 (.t 1))⟩, ⟨(some 8), none, (.nilck (.t 7))⟩, ⟨(some 9), none, (.fieldA 0 (.t 8))⟩, ⟨(some 10), none, (.load false 1 (.t 9))⟩, ⟨(some 11), none, (.bin .sub (.t 10) (.v (.d (.int .i64 1))))⟩, ⟨(some 3), none, (.mov (.t 11))⟩]) (.seq (.reg [] [⟨(some 12), none, (.load false 1 (.t 1))⟩, ⟨(some 13), none, (.nilck (.t 12))⟩, ⟨(some 14), none, (.fieldA 19 (.t 13))⟩, ⟨(some 15), none, (.load false 1 (.t 14))⟩, ⟨(some 16), none, (.mov (.v (.d (.int .i64 0))))⟩]) (.block 0 (.loop [0, 1, 3, 15, 16] [] L81_0)))))⟩
theorem c81 : cAt Try.prog 81 = some F81.er := by kernel_rfl
def L82_0 : C := (.seq (.reg [] [⟨(some 9), none, (.bin .lss (.t 8) (.t 7))⟩]) (.seq (.cond (.t 9) .skip (.exit 0)) (.seq (.block 1 (.seq (.reg [] [⟨(some 10), none, (.mov (.t 8))⟩, ⟨(some 5), none, (.mov (.t 10))⟩]) (.seq (.reg [] [⟨(some 11), none, (.mov (.t 1))⟩, ⟨(some 12), none, (.mov (.t 0))⟩, ⟨(some 13), none, (.mov (.t 5))⟩, ⟨(some 14), none, (.idxA 1 (.t 12) (.t 13))⟩, ⟨(some 15), none, (.load false 1 (.t 14))⟩, ⟨(some 16), none, (.call (.t 11) [(.t 15)])⟩]) (.cond (.t 16) (.seq (.reg [] [⟨(some 17), none, (.mov (.t 5))⟩, ⟨(some 4), none, (.mov (.t 17))⟩]) .ret) .skip)))) (.reg [] [⟨(some 18), none, (.bin .add (.t 8) (.v (.d (.int .i64 1))))⟩, ⟨(some 8), none, (.mov (.t 18))⟩]))))
def F82 : CFunc := ⟨19, [(.tmp 4)], (.seq (.reg [] [⟨(some 4), none, (.mov (.v (.d (.int .i64 0))))⟩]) (.seq (.seq (.reg [] [⟨(some 6), none, (.mov (.t 0))⟩, ⟨(some 7), none, (.len (.t 6))⟩, ⟨(some 8), none, (.mov (.v (.d (.int .i64 0))))⟩]) (.block 0 (.loop [0, 1, 7, 8] [4] L82_0))) (.seq (.reg [] [⟨(some 4), none, (.mov (.v (.d (.int .i64 (-1)))))⟩]) .ret)))⟩
theorem c82 : cAt Try.prog 82 = some F82.er := by kernel_rfl
def cfT : List (Nat × CFunc) := [(3, F3), (4, F4), (11, F11), (17, F17), (22, F22), (43, F43), (44, F44), (46, F46), (48, F48), (50, F50), (51, F51), (53, F53), (55, F55), (57, F57), (63, F63), (67, F67), (68, F68), (73, F73), (75, F75), (77, F77), (78, F78), (81, F81), (82, F82)]
def lookT : List (Nat × CFunc) → Nat → Option CFunc
  | [], _ => none
  | (i, F) :: r, j => match Nat.beq j i with | true => some F | false => lookT r j
def E0 : Env := ⟨lookT cfT, fun _ _ _ => none, fun _ => none, fun f => Nat.beq f 66⟩
theorem lookT_ok : ∀ (l : List (Nat × CFunc)), (∀ p, p ∈ l → cAt Try.prog p.1 = some p.2.er) → ∀ f F, lookT l f = some F → cAt Try.prog f = some F.er
  | [], _, f, F, h => by simp [lookT] at h
  | (i, G) :: r, hl, f, F, h => by
    simp only [lookT] at h
    split at h
    · rename_i hb
      cases h
      rw [Nat.eq_of_beq_eq_true hb]
      exact hl (i, _) (List.mem_cons_self ..)
    · exact lookT_ok r (fun p hp => hl p (by simp [hp])) f F h
theorem cfT_ok : ∀ p, p ∈ cfT → cAt Try.prog p.1 = some p.2.er := by
  unfold cfT
  simp only [List.forall_mem_cons]
  exact ⟨c3, c4, c11, c17, c22, c43, c44, c46, c48, c50, c51, c53, c55, c57, c63, c67, c68, c73, c75, c77, c78, c81, c82, fun p h => by simp at h⟩
theorem e0_ext : ∀ f a m, E0.ext f a m = none := fun _ _ _ => rfl
theorem e0_cf : ∀ f F, E0.cf f = some F → cAt Try.prog f = some F.er := lookT_ok cfT cfT_ok
theorem w3 {args : List V} {m : Mem} (os : List (A E0)) {r : List V × Mem} (h : walkF E0 F3 args m os = some (r, want os)) : cl E0 3 args m = some r := cl_walk e0_ext (by kernel_rfl) (by decide) os h
theorem w4 {args : List V} {m : Mem} (os : List (A E0)) {r : List V × Mem} (h : walkF E0 F4 args m os = some (r, want os)) : cl E0 4 args m = some r := cl_walk e0_ext (by kernel_rfl) (by decide) os h
theorem w11 {args : List V} {m : Mem} (os : List (A E0)) {r : List V × Mem} (h : walkF E0 F11 args m os = some (r, want os)) : cl E0 11 args m = some r := cl_walk e0_ext (by kernel_rfl) (by decide) os h
theorem w22 {args : List V} {m : Mem} (os : List (A E0)) {r : List V × Mem} (h : walkF E0 F22 args m os = some (r, want os)) : cl E0 22 args m = some r := cl_walk e0_ext (by kernel_rfl) (by decide) os h
theorem w44 {args : List V} {m : Mem} (os : List (A E0)) {r : List V × Mem} (h : walkF E0 F44 args m os = some (r, want os)) : cl E0 44 args m = some r := cl_walk e0_ext (by kernel_rfl) (by decide) os h
theorem w46 {args : List V} {m : Mem} (os : List (A E0)) {r : List V × Mem} (h : walkF E0 F46 args m os = some (r, want os)) : cl E0 46 args m = some r := cl_walk e0_ext (by kernel_rfl) (by decide) os h
theorem w48 {args : List V} {m : Mem} (os : List (A E0)) {r : List V × Mem} (h : walkF E0 F48 args m os = some (r, want os)) : cl E0 48 args m = some r := cl_walk e0_ext (by kernel_rfl) (by decide) os h
theorem w50 {args : List V} {m : Mem} (os : List (A E0)) {r : List V × Mem} (h : walkF E0 F50 args m os = some (r, want os)) : cl E0 50 args m = some r := cl_walk e0_ext (by kernel_rfl) (by decide) os h
theorem w51 {args : List V} {m : Mem} (os : List (A E0)) {r : List V × Mem} (h : walkF E0 F51 args m os = some (r, want os)) : cl E0 51 args m = some r := cl_walk e0_ext (by kernel_rfl) (by decide) os h
theorem w53 {args : List V} {m : Mem} (os : List (A E0)) {r : List V × Mem} (h : walkF E0 F53 args m os = some (r, want os)) : cl E0 53 args m = some r := cl_walk e0_ext (by kernel_rfl) (by decide) os h
theorem w55 {args : List V} {m : Mem} (os : List (A E0)) {r : List V × Mem} (h : walkF E0 F55 args m os = some (r, want os)) : cl E0 55 args m = some r := cl_walk e0_ext (by kernel_rfl) (by decide) os h
theorem w63 {args : List V} {m : Mem} (os : List (A E0)) {r : List V × Mem} (h : walkF E0 F63 args m os = some (r, want os)) : cl E0 63 args m = some r := cl_walk e0_ext (by kernel_rfl) (by decide) os h
theorem w67 {args : List V} {m : Mem} (os : List (A E0)) {r : List V × Mem} (h : walkF E0 F67 args m os = some (r, want os)) : cl E0 67 args m = some r := cl_walk e0_ext (by kernel_rfl) (by decide) os h
theorem w68 {args : List V} {m : Mem} (os : List (A E0)) {r : List V × Mem} (h : walkF E0 F68 args m os = some (r, want os)) : cl E0 68 args m = some r := cl_walk e0_ext (by kernel_rfl) (by decide) os h
theorem w73 {args : List V} {m : Mem} (os : List (A E0)) {r : List V × Mem} (h : walkF E0 F73 args m os = some (r, want os)) : cl E0 73 args m = some r := cl_walk e0_ext (by kernel_rfl) (by decide) os h
theorem w75 {args : List V} {m : Mem} (os : List (A E0)) {r : List V × Mem} (h : walkF E0 F75 args m os = some (r, want os)) : cl E0 75 args m = some r := cl_walk e0_ext (by kernel_rfl) (by decide) os h
theorem w77 {args : List V} {m : Mem} (os : List (A E0)) {r : List V × Mem} (h : walkF E0 F77 args m os = some (r, want os)) : cl E0 77 args m = some r := cl_walk e0_ext (by kernel_rfl) (by decide) os h
theorem w78 {args : List V} {m : Mem} (os : List (A E0)) {r : List V × Mem} (h : walkF E0 F78 args m os = some (r, want os)) : cl E0 78 args m = some r := cl_walk e0_ext (by kernel_rfl) (by decide) os h
theorem w81 {args : List V} {m : Mem} (os : List (A E0)) {r : List V × Mem} (h : walkF E0 F81 args m os = some (r, want os)) : cl E0 81 args m = some r := cl_walk e0_ext (by kernel_rfl) (by decide) os h
theorem w82 {args : List V} {m : Mem} (os : List (A E0)) {r : List V × Mem} (h : walkF E0 F82 args m os = some (r, want os)) : cl E0 82 args m = some r := cl_walk e0_ext (by kernel_rfl) (by decide) os h
def rhoD : Shelf.Ren := ⟨fun x => if x = 23 then 66 else x, fun x => match x with | 0 => 0 | 3 => 3 | 4 => 4 | 22 => 22 | x => x, fun x => x⟩
theorem laysD : Lays2.n23 Try.prog rhoD := by
  constructor
  all_goals first | kernel_rfl | (intro w; kernel_rfl)
theorem e0_del : ∀ f, E0.del f = true → DelOK Try.prog f := fun f h => by
  have e : f = 66 := Nat.eq_of_beq_eq_true h
  subst e
  exact delOK_of laysD rfl ⟨_, rfl, by kernel_rfl, by kernel_rfl⟩
end Go.Proofs.Ytdlhhoejnhjbhaa.Den

namespace Go.Proofs.Ytdlhhoejnhjbhaa.Den
open Go
set_option linter.unusedVariables false
set_option linter.unusedSimpArgs false
abbrev wi (x : Int) : Int := IntKind.i64.wrap x
def encI (k : IntKind) (z : Int) : List D := [.int k z]
def gt {α : Type} [Inhabited α] (l : List α) (i : Int) : α := l.getD i.toNat default
def st {α : Type} (l : List α) (i : Int) (x : α) : List α := l.set i.toNat x
def inb (n : Nat) (i : Int) : Bool := decide (0 ≤ i) && decide (i < (n : Int))
def remI (k : IntKind) (x y : Int) : Int := x.tmod y
def mxI (x y : Int) : Int := if y > x then y else x
def mnI (x y : Int) : Int := if y < x then y else x
def slD {α : Type} (enc : α → List D) (fl : Bool) (s : Nat) (n : Bool) (l : List α) : D := D.ofRows n fl s (l.map enc)
@[simp] theorem deSo_d (x : D) : deSo (.d x) = .d x := rfl
@[simp] theorem deSo_sl (id n o l : Nat) : deSo (.sl id n o l) = .sl id n o l := rfl
theorem slD_rs {α : Type} (enc : α → List D) (fl : Bool) (s : Nat) (l : List α) : D.rs fl s (l.map enc) false = slD enc fl s false l := by cases l <;> rfl
def tb (b : Bool) : Bool := b
theorem tbE {b c : Bool} (h : tb b = c) : b = c := h
theorem notT {b : Bool} (h : b = true) : (!b) = false := by rw [h]; rfl
theorem notF {b : Bool} (h : b = false) : (!b) = true := by rw [h]; rfl
theorem tf : ¬ (true = false) := Bool.noConfusion
theorem ft : ¬ (false = true) := Bool.noConfusion
def itS {S : Type} (sel : S → Bool) (nx : S → S) : Nat → S → Option S
  | 0, _ => none
  | n + 1, s => match sel s with | true => itS sel nx n (nx s) | false => some s
theorem loop_it {S : Type} {g : List V × Mem → Option (X × (List V × Mem))} {enc : S → List V × Mem} {sel : S → Bool} {nx : S → S} (hn : ∀ s, sel s = true → g (enc s) = some (.normal, enc (nx s))) :
    ∀ (n : Nat) (s0 s1 : S) (x : X) (h : List V × Mem), itS sel nx n s0 = some s1 → x ≠ .normal → g (enc s1) = some (x, h) → loopG g n (enc s0) = some (x, h)
  | 0, s0, s1, x, h, hi, _, _ => by simp [itS] at hi
  | n + 1, s0, s1, x, h, hi, hx, hg => by
    simp only [itS] at hi
    simp only [loopG]
    split at hi
    · rename_i hs
      rw [hn s0 hs]
      exact loop_it hn n (nx s0) s1 x h hi hx hg
    · cases hi
      rw [hg]
      cases x with
      | normal => exact absurd rfl hx
      | exit i => rfl
      | ret => rfl
theorem itS_false {S : Type} {sel : S → Bool} {nx : S → S} : ∀ {n : Nat} {s0 s1 : S}, itS sel nx n s0 = some s1 → sel s1 = false
  | 0, _, _, h => by simp [itS] at h
  | n + 1, s0, s1, h => by
    simp only [itS] at h
    split at h
    · exact itS_false h
    · rename_i hs; cases h; exact hs
theorem itS_get {S : Type} {sel : S → Bool} {nx : S → S} {n : Nat} {s0 d : S} (h : (itS sel nx n s0).isSome = true) : itS sel nx n s0 = some ((itS sel nx n s0).getD d) := by
  cases hi : itS sel nx n s0 with
  | none => rw [hi] at h; cases h
  | some s => rfl
theorem itS_inv {S : Type} {sel : S → Bool} {nx : S → S} (J : S → Prop) (μ : S → Nat) (hn : ∀ s, J s → sel s = true → J (nx s) ∧ μ (nx s) < μ s) :
    ∀ (n : Nat) (s : S), J s → μ s < n → ∃ s1, itS sel nx n s = some s1 ∧ J s1 ∧ sel s1 = false
  | 0, s, _, h => by omega
  | n + 1, s, hJ, h => by
    simp only [itS]
    cases hc : sel s with
    | true =>
      obtain ⟨h1, h2⟩ := hn s hJ hc
      exact itS_inv J μ hn n (nx s) h1 (by omega)
    | false => exact ⟨s, rfl, hJ, hc⟩
section
variable {E : Env} {c : CallT} {t : Nat → V} {m : Mem}
theorem inb_spec {n : Nat} {i : Int} (h : inb n i = true) : 0 ≤ i ∧ i.toNat < n := by
  simp only [inb, Bool.and_eq_true, decide_eq_true_eq] at h
  omega
theorem asNat_inb {k : IntKind} {i : Int} (h : 0 ≤ i) : asNat (.d (.int k i)) = some i.toNat := by simp [asNat, h]
theorem o_idx_rs {α : Type} [Inhabited α] {enc : α → List D} {l : List α} {fl tg : Bool} {s : Nat} {k : IntKind} {i : Int} (h : inb l.length i = true) :
    doI E c (.idxA s (.v (.d (.rs fl s (l.map enc) tg))) (.v (.d (.int k i)))) t m = some (.d (.rp (enc (gt l i))), m) := by
  obtain ⟨h1, h2⟩ := inb_spec h
  have hl : l[i.toNat]? = some l[i.toNat] := List.getElem?_eq_getElem h2
  simp [doI, ev, sizeOk, asNat_inb h1, idxSV, List.getElem?_map, hl, gt, List.getD]
theorem o_len_os {α : Type} {enc : α → List D} {fl : Bool} {s : Nat} {n : Bool} {l : List α} :
    doI E c (.len (.v (.d (slD enc fl s n l)))) t m = some (.d (.int .i64 ((l.length : Nat) : Int)), m) := by
  cases n <;> cases l <;> simp [doI, ev, lenV, slD, D.ofRows]
theorem o_idx_os {α : Type} [Inhabited α] {enc : α → List D} {l : List α} {fl n : Bool} {s : Nat} {k : IntKind} {i : Int} (h : inb l.length i = true) :
    doI E c (.idxA s (.v (.d (slD enc fl s n l))) (.v (.d (.int k i)))) t m = some (.d (.rp (enc (gt l i))), m) := by
  have key : slD enc fl s n l = .rs fl s (l.map enc) false := by
    cases n <;> cases l <;> first | rfl | (obtain ⟨_, h2⟩ := inb_spec h; simp at h2)
  rw [key]; exact o_idx_rs h
theorem o_rem {k : IntKind} {x y : Int} (h : ((y : Int) == 0) = false) : doI E c (.bin .rem (.v (.d (.int k x))) (.v (.d (.int k y)))) t m = some (.d (.int k (remI k x y)), m) := by
  have h1 : ¬ (y = 0) := by simpa using h
  simp [doI, ev, binV, binInt, h1, remI]
def hi0 (n : Nat) (x : Option (IntKind × Int)) : Int := match x with | some p => p.2 | none => (n : Int)
def ins (n : Nat) (lo hi : Int) : Bool := decide (0 ≤ lo) && decide (lo ≤ hi) && decide (hi ≤ (n : Int))
def sub {α : Type} (l : List α) (lo hi : Int) : List α := (l.drop lo.toNat).take (hi - lo).toNat
theorem beq_len {n k : Nat} (h : Nat.beq n k = true) : n = k := Nat.eq_of_beq_eq_true h
theorem byvals_cons {v v1 : V} {l l1 : List V} (h : V.byval m v = v1) (h2 : V.byvals m l = l1) : V.byvals m (v :: l) = v1 :: l1 := by
  rw [V.byvals, h, h2]
theorem byval_so {α : Type} {enc : α → List D} {l : List α} {b p : Bool} {id e s n : Nat} (hn : Nat.beq n l.length = true) (hm : m[id]? = some (.flat e s (l.map enc) p)) : V.byval m (.so b id n) = .d (slD enc true s b l) := by
  rw [beq_len hn]
  simp only [V.byval, byvalS, hm, List.length_map, if_true, slD]
theorem o_app_so {α : Type} {enc : α → List D} {l0 l1 : List α} {nl : Bool} {id e s bytes n : Nat} {x : V} (hn : Nat.beq n l0.length = true) (hm : m[id]? = some (.flat e s (l0.map enc) false)) (hx : flatRowsOf m x = some (l1.map enc)) (hs : sizeOk m s x = true)
    (h : decide ((l0.length + l1.length) * bytes ≤ 140737488355328) = true) :
    doI E c (.append e true s bytes (.v (.so nl id n)) (.v x)) t m = some (.so (l1.isEmpty && nl) id (l0 ++ l1).length, m.set id (.flat e s ((l0 ++ l1).map enc) false)) := by
  rw [beq_len hn]
  have h := of_decide_eq_true h
  simp only [doI, ev, appendV, hs, hm, hx, Option.bind_some, List.length_map, true_and, if_true]
  rw [if_pos h]
  cases l1 with
  | nil => simp
  | cons a l1 => simp
def tab (T : List Int) (n : Nat) : List Int := (List.range n).map fun (j : Nat) => gt T (j : Int)
def sta (T : List Int) (n : Nat) (i v : Int) : List Int := st (tab T n) i v
def arrD (k : IntKind) (T : List Int) (n : Nat) : List D := (List.range n).map fun (j : Nat) => .int k (gt T (j : Int))
theorem tab_len (T : List Int) (n : Nat) : (tab T n).length = n := by simp [tab]
theorem arrD_get (k : IntKind) (T : List Int) (n j : Nat) : (arrD k T n)[j]? = if j < n then some (.int k (gt T (j : Int))) else none := by
  unfold arrD
  rw [List.getElem?_map]
  by_cases h : j < n
  · simp [h]
  · simp [h]
theorem gt_tab {T : List Int} {n : Nat} {i : Int} (h1 : 0 ≤ i) (h2 : i < n) : gt (tab T n) i = gt T i := by
  have h3 : i.toNat < n := by omega
  have h4 : ((i.toNat : Nat) : Int) = i := Int.toNat_of_nonneg h1
  simp only [gt, tab, List.getD_eq_getElem?_getD, List.getElem?_map]
  rw [List.getElem?_range h3]
  simp only [Option.map_some, Option.getD_some, h4, gt, List.getD_eq_getElem?_getD]
theorem gt_sta {T : List Int} {n : Nat} {i v j : Int} (h1 : 0 ≤ j) (h2 : j < n) (h3 : 0 ≤ i) : gt (sta T n i v) j = if j = i then v else gt T j := by
  have hj : j.toNat < (tab T n).length := by rw [tab_len]; omega
  by_cases h : j = i
  · subst h
    simp [sta, st, gt, List.getD_eq_getElem?_getD, hj]
  · rw [if_neg h]
    have e := gt_tab (T := T) (n := n) h1 h2
    have : ¬ i.toNat = j.toNat := by omega
    simp only [gt, sta, st, List.getD_eq_getElem?_getD, List.getElem?_set, this, if_false] at e ⊢
    exact e
theorem arrD_sta {k : IntKind} {T : List Int} {n : Nat} {i v : Int} (h1 : 0 ≤ i) (h2 : i < n) : arrD k (sta T n i v) n = (arrD k T n).set i.toNat (.int k v) := by
  apply List.ext_getElem?
  intro j
  rw [arrD_get, List.getElem?_set, arrD_get]
  by_cases hj : j < n
  · rw [if_pos hj, if_pos hj, gt_sta (by omega) (by omega) h1]
    have hl : (arrD k T n).length = n := by simp [arrD]
    by_cases h : (j : Int) = i
    · have h' : i.toNat = j := by omega
      simp [h, h', hl, hj]
    · have h' : ¬ i.toNat = j := by omega
      simp [h, h']
  · have hl : (arrD k T n).length = n := by simp [arrD]
    have h' : ¬ i.toNat = j := by omega
    simp [hj, h']
theorem o_idxAA {id nn row off n s : Nat} {k : IntKind} {i : Int} (h : inb n i = true) :
    doI E c (.idxAA n s (.v (.ptr id nn row off)) (.v (.d (.int k i)))) t m = some (.ptr id nn row (off + i.toNat * s), m) := by
  obtain ⟨h1, h2⟩ := inb_spec h
  simp [doI, ev, asNat_inb h1, idxAV, h2]
theorem arr_at {β : Type} {cs : List β} {ar : List β} {off n j : Nat} (h : (cs.drop off).take n = ar) (hj : j < n) : cs[off + j]? = ar[j]? := by
  subst h
  rw [List.getElem?_take, if_pos hj, List.getElem?_drop]
theorem o_load_arr {id nn row off n : Nat} {k : IntKind} {T : List Int} {i : Int} (hx : (((m[id]?).bind fun b => b.row? nn row).map fun cs => (cs.drop off).take n) = some ((arrD k T n).map V.d)) (h : inb n i = true) :
    doI E c (.load false 1 (.v (.ptr id nn row (off + i.toNat * 1)))) t m = some (.d (.int k (gt T i)), m) := by
  obtain ⟨h1, h2⟩ := inb_spec h
  obtain ⟨cs, hc, hx⟩ := Option.map_eq_some_iff.1 hx
  obtain ⟨b, hb, hc⟩ := Option.bind_eq_some_iff.1 hc
  have h4 : ((i.toNat : Nat) : Int) = i := Int.toNat_of_nonneg h1
  have e := arr_at hx h2
  rw [List.getElem?_map, arrD_get, if_pos h2] at e
  simp [doI, ev, loadV, hb, hc, part, e, h4]
theorem o_store_arr {id nn row off n s : Nat} {e : TypeId} {rows : List (List D)} {cs : List D} {k : IntKind} {T : List Int} {i v : Int} (hm : m[id]? = some (.flat e s rows false)) (hr : rows[row]? = some cs) (hn : Nat.beq nn rows.length = true)
    (hx : (cs.drop off).take n = arrD k T n) (h : inb n i = true) :
    doI E c (.store 1 (.v (.ptr id nn row (off + i.toNat * 1))) (.v (.d (.int k v)))) t m = some (.tup [], m.set id (.flat e s (rows.set row (cs.take off ++ (arrD k (sta T n i v) n ++ cs.drop (off + n)))) false)) := by
  obtain ⟨h1, h2⟩ := inb_spec h
  have hlen : off + n ≤ cs.length := by
    have := congrArg List.length hx
    simp [arrD] at this; omega
  have hset : cs.set (off + i.toNat) (.int k v) = cs.take off ++ (arrD k (sta T n i v) n ++ cs.drop (off + n)) := by
    rw [arrD_sta h1 (by omega), ← hx]
    have e1 : cs = cs.take off ++ ((cs.drop off).take n ++ cs.drop (off + n)) := by
      rw [← List.drop_drop, List.take_append_drop, List.take_append_drop]
    have hl1 : (cs.take off).length = off := by simp; omega
    have hl2 : ((cs.drop off).take n).length = n := by simp; omega
    conv => lhs; rw [e1]
    rw [List.set_append_right _ _ (by omega), hl1, show off + i.toNat - off = i.toNat by omega, List.set_append_left _ _ (by omega)]
  have hput : cs.take (off + i.toNat) ++ ([.int k v] ++ cs.drop (off + i.toNat + 1)) = cs.set (off + i.toNat) (.int k v) := by
    rw [List.set_eq_take_append_cons_drop, if_pos (by omega)]; rfl
  have hle : off + i.toNat + 1 ≤ cs.length := by omega
  simp only [doI, ev, storeV, V.cells, List.length_cons, List.length_nil, Nat.zero_add, V.cellsOk, hm, Option.bind_some, Blk.put?, beq_len hn, if_true, toSs, setRow, hr]
  simp [V.cellOk, toSs, D.scalar, hle, setRow, hr, Nat.mul_one, ← hset, ← hput]
end
end Go.Proofs.Ytdlhhoejnhjbhaa.Den

namespace Go.Proofs.Ytdlhhoejnhjbhaa.Den
open Go Go.Proofs
set_option maxRecDepth 100000
set_option maxHeartbeats 4000000
set_option linter.unusedVariables false
set_option linter.unusedSimpArgs false
structure R_u8_bool_i64 where
  c0 : Int
  c1 : Bool
  c2 : Int
  deriving Inhabited
structure R_bool_i16_i16 where
  c0 : Bool
  c1 : Int
  c2 : Int
  deriving Inhabited
def enc_R_bool_i16_i16 (p : R_bool_i16_i16) : List D := [(.bool p.c0), (.int .i16 p.c1), (.int .i16 p.c2)]
end Go.Proofs.Ytdlhhoejnhjbhaa.Den

namespace Go.Proofs.Ytdlhhoejnhjbhaa.Den
open Go Go.Proofs
set_option maxRecDepth 100000
set_option maxHeartbeats 4000000
set_option linter.unusedVariables false
set_option linter.unusedSimpArgs false
theorem law09_alive_t0 : cl E0 43 [] [] = some ([(V.d (.bool true))], []) := cl_of (n := 60) (by kernel_rfl)
end Go.Proofs.Ytdlhhoejnhjbhaa.Den

namespace Go.Proofs.Ytdlhhoejnhjbhaa.Den
open Go Go.Proofs
set_option maxRecDepth 100000
set_option maxHeartbeats 4000000
set_option linter.unusedVariables false
set_option linter.unusedSimpArgs false
structure slices_Max_int_o_L0_s0 where
  c2 : Int
  c3 : Int
  deriving Inhabited
def slices_Max_int_o_L0_enc (x0 : Bool) (x1 : List Int) (x2 : Int) (x3 : Int) (s0 : slices_Max_int_o_L0_s0) : List V × Mem := ([(V.d (slD (encI .i64) true 1 x0 x1)), (V.d (.int .i64 s0.c2)), (V.d (.int .i64 s0.c3))], [])
def slices_Max_int_o_L0_sel (x1 : List Int) (s0 : slices_Max_int_o_L0_s0) : Bool := (bif tb (decide (s0.c3 < ((x1.length : Nat) : Int))) then (bif tb (inb x1.length s0.c3) then true else false) else false)
def slices_Max_int_o_L0_nx (x1 : List Int) (s0 : slices_Max_int_o_L0_s0) : slices_Max_int_o_L0_s0 := ⟨(mxI s0.c2 (gt x1 s0.c3)), (wi (s0.c3 + 1))⟩
def slices_Max_int_o_L0_ok (x1 : List Int) (s0 : slices_Max_int_o_L0_s0) : Bool := (itS (slices_Max_int_o_L0_sel x1) (slices_Max_int_o_L0_nx x1) bound s0).isSome
def slices_Max_int_o_L0_end (x1 : List Int) (s0 : slices_Max_int_o_L0_s0) : slices_Max_int_o_L0_s0 := (itS (slices_Max_int_o_L0_sel x1) (slices_Max_int_o_L0_nx x1) bound s0).getD default
theorem slices_Max_int_o_L0_go (x0 : Bool) (x1 : List Int) (x2 : Int) (x3 : Int) (s0 : slices_Max_int_o_L0_s0) : slices_Max_int_o_L0_sel x1 s0 = true → (roundG (runC E0 (cl E0) L67_0) [0, 3, 4] [3] 0) (slices_Max_int_o_L0_enc x0 x1 x2 x3 s0) = some (.normal, slices_Max_int_o_L0_enc x0 x1 x2 x3 (slices_Max_int_o_L0_nx x1 s0)) := by
  unfold slices_Max_int_o_L0_sel slices_Max_int_o_L0_nx
  cases h1 : tb (decide (s0.c3 < ((x1.length : Nat) : Int)))
  · intro g0
    exact absurd g0 ft
  · cases h2 : tb (inb x1.length s0.c3)
    · intro g0
      exact absurd g0 ft
    · intro _
      exact round_walk [.o 14 (fun _ => o_len_os (enc := (encI .i64)) (l := x1) (fl := true) (n := x0) (s := 1)), .b (tbE h1), .o 21 (fun _ => o_idx_os (enc := (encI .i64)) (l := x1) (fl := true) (n := x0) (s := 1) (k := .i64) (tbE h2))] (by kernel_rfl)
def slices_Max_int_o_L0_c0 (x1 : List Int) (s0 : slices_Max_int_o_L0_s0) : Bool := (bif tb (decide (s0.c3 < ((x1.length : Nat) : Int))) then false else true)
theorem slices_Max_int_o_L0_x0 (x0 : Bool) (x1 : List Int) (x2 : Int) (x3 : Int) (s0 : slices_Max_int_o_L0_s0) : slices_Max_int_o_L0_sel x1 s0 = false → slices_Max_int_o_L0_c0 x1 s0 = true → (roundG (runC E0 (cl E0) L67_0) [0, 3, 4] [3] 0) (slices_Max_int_o_L0_enc x0 x1 x2 x3 s0) = some ((.exit 0), ([(V.d (.int .i64 s0.c2))], [])) := by
  unfold slices_Max_int_o_L0_sel slices_Max_int_o_L0_c0
  cases h1 : tb (decide (s0.c3 < ((x1.length : Nat) : Int)))
  · intro g0 g1
    exact round_walk [.o 14 (fun _ => o_len_os (enc := (encI .i64)) (l := x1) (fl := true) (n := x0) (s := 1)), .b (tbE h1)] (by kernel_rfl)
  · cases h2 : tb (inb x1.length s0.c3)
    · intro g0 g1
      exact absurd g1 ft
    · intro g0 g1
      exact absurd g0 tf
theorem slices_Max_int_o_L0_f0_0 (x0 : Bool) (x1 : List Int) (x2 : Int) (x3 : Int) (s : slices_Max_int_o_L0_s0) (hok : slices_Max_int_o_L0_ok x1 s = true) (c0 : slices_Max_int_o_L0_c0 x1 (slices_Max_int_o_L0_end x1 s) = true) : loopG (roundG (runC E0 (cl E0) L67_0) [0, 3, 4] [3] 0) bound (slices_Max_int_o_L0_enc x0 x1 x2 x3 s) = some ((.exit 0), ([(V.d (.int .i64 ((slices_Max_int_o_L0_end x1 s).c2)))], [])) := by
  have e : itS (slices_Max_int_o_L0_sel x1) (slices_Max_int_o_L0_nx x1) bound s = some (slices_Max_int_o_L0_end x1 s) := itS_get hok
  have f := itS_false e
  exact loop_it (slices_Max_int_o_L0_go x0 x1 x2 x3) bound s _ _ _ e (fun h => by cases h) (slices_Max_int_o_L0_x0 x0 x1 x2 x3 (slices_Max_int_o_L0_end x1 s) f c0)
def slices_Max_int_o_e0 (x1 : List Int) : slices_Max_int_o_L0_s0 := slices_Max_int_o_L0_end x1 (⟨(gt x1 0), 1⟩ : slices_Max_int_o_L0_s0)
def slices_Max_int_o_c0 (x1 : List Int) : Bool := (bif tb (decide (((x1.length : Nat) : Int) < 1)) then false else (bif tb (inb x1.length 0) then (bif tb (slices_Max_int_o_L0_ok x1 (⟨(gt x1 0), 1⟩ : slices_Max_int_o_L0_s0)) then (bif tb (slices_Max_int_o_L0_c0 x1 (slices_Max_int_o_e0 x1)) then true else false) else false) else false))
theorem slices_Max_int_o_t0 (x0 : Bool) (x1 : List Int) : slices_Max_int_o_c0 x1 = true → cl E0 67 [(V.d (slD (encI .i64) true 1 x0 x1))] [] = some ([(V.d (.int .i64 ((slices_Max_int_o_e0 x1).c2)))], []) := by
  unfold slices_Max_int_o_c0
  cases h1 : tb (decide (((x1.length : Nat) : Int) < 1))
  · cases h2 : tb (inb x1.length 0)
    · intro g0
      exact absurd g0 ft
    · cases h3 : tb (slices_Max_int_o_L0_ok x1 (⟨(gt x1 0), 1⟩ : slices_Max_int_o_L0_s0))
      · intro g0
        exact absurd g0 ft
      · cases h4 : tb (slices_Max_int_o_L0_c0 x1 (slices_Max_int_o_e0 x1))
        · intro g0
          exact absurd g0 ft
        · intro g0
          exact w67 [.o 6 (fun _ => o_len_os (enc := (encI .i64)) (l := x1) (fl := true) (n := x0) (s := 1)), .b (tbE h1), .o 10 (fun _ => o_idx_os (enc := (encI .i64)) (l := x1) (fl := true) (n := x0) (s := 1) (k := .i64) (tbE h2)), .l (slices_Max_int_o_L0_f0_0 x0 x1 (gt x1 0) 1 (⟨(gt x1 0), 1⟩ : slices_Max_int_o_L0_s0) (tbE h3) (tbE h4))] (by kernel_rfl)
  · intro g0
    exact absurd g0 ft
structure slices_Min_int_o_L0_s0 where
  c2 : Int
  c3 : Int
  deriving Inhabited
def slices_Min_int_o_L0_enc (x0 : Bool) (x1 : List Int) (x2 : Int) (x3 : Int) (s0 : slices_Min_int_o_L0_s0) : List V × Mem := ([(V.d (slD (encI .i64) true 1 x0 x1)), (V.d (.int .i64 s0.c2)), (V.d (.int .i64 s0.c3))], [])
def slices_Min_int_o_L0_sel (x1 : List Int) (s0 : slices_Min_int_o_L0_s0) : Bool := (bif tb (decide (s0.c3 < ((x1.length : Nat) : Int))) then (bif tb (inb x1.length s0.c3) then true else false) else false)
def slices_Min_int_o_L0_nx (x1 : List Int) (s0 : slices_Min_int_o_L0_s0) : slices_Min_int_o_L0_s0 := ⟨(mnI s0.c2 (gt x1 s0.c3)), (wi (s0.c3 + 1))⟩
def slices_Min_int_o_L0_ok (x1 : List Int) (s0 : slices_Min_int_o_L0_s0) : Bool := (itS (slices_Min_int_o_L0_sel x1) (slices_Min_int_o_L0_nx x1) bound s0).isSome
def slices_Min_int_o_L0_end (x1 : List Int) (s0 : slices_Min_int_o_L0_s0) : slices_Min_int_o_L0_s0 := (itS (slices_Min_int_o_L0_sel x1) (slices_Min_int_o_L0_nx x1) bound s0).getD default
theorem slices_Min_int_o_L0_go (x0 : Bool) (x1 : List Int) (x2 : Int) (x3 : Int) (s0 : slices_Min_int_o_L0_s0) : slices_Min_int_o_L0_sel x1 s0 = true → (roundG (runC E0 (cl E0) L68_0) [0, 3, 4] [3] 0) (slices_Min_int_o_L0_enc x0 x1 x2 x3 s0) = some (.normal, slices_Min_int_o_L0_enc x0 x1 x2 x3 (slices_Min_int_o_L0_nx x1 s0)) := by
  unfold slices_Min_int_o_L0_sel slices_Min_int_o_L0_nx
  cases h1 : tb (decide (s0.c3 < ((x1.length : Nat) : Int)))
  · intro g0
    exact absurd g0 ft
  · cases h2 : tb (inb x1.length s0.c3)
    · intro g0
      exact absurd g0 ft
    · intro _
      exact round_walk [.o 14 (fun _ => o_len_os (enc := (encI .i64)) (l := x1) (fl := true) (n := x0) (s := 1)), .b (tbE h1), .o 21 (fun _ => o_idx_os (enc := (encI .i64)) (l := x1) (fl := true) (n := x0) (s := 1) (k := .i64) (tbE h2))] (by kernel_rfl)
def slices_Min_int_o_L0_c0 (x1 : List Int) (s0 : slices_Min_int_o_L0_s0) : Bool := (bif tb (decide (s0.c3 < ((x1.length : Nat) : Int))) then false else true)
theorem slices_Min_int_o_L0_x0 (x0 : Bool) (x1 : List Int) (x2 : Int) (x3 : Int) (s0 : slices_Min_int_o_L0_s0) : slices_Min_int_o_L0_sel x1 s0 = false → slices_Min_int_o_L0_c0 x1 s0 = true → (roundG (runC E0 (cl E0) L68_0) [0, 3, 4] [3] 0) (slices_Min_int_o_L0_enc x0 x1 x2 x3 s0) = some ((.exit 0), ([(V.d (.int .i64 s0.c2))], [])) := by
  unfold slices_Min_int_o_L0_sel slices_Min_int_o_L0_c0
  cases h1 : tb (decide (s0.c3 < ((x1.length : Nat) : Int)))
  · intro g0 g1
    exact round_walk [.o 14 (fun _ => o_len_os (enc := (encI .i64)) (l := x1) (fl := true) (n := x0) (s := 1)), .b (tbE h1)] (by kernel_rfl)
  · cases h2 : tb (inb x1.length s0.c3)
    · intro g0 g1
      exact absurd g1 ft
    · intro g0 g1
      exact absurd g0 tf
theorem slices_Min_int_o_L0_f0_0 (x0 : Bool) (x1 : List Int) (x2 : Int) (x3 : Int) (s : slices_Min_int_o_L0_s0) (hok : slices_Min_int_o_L0_ok x1 s = true) (c0 : slices_Min_int_o_L0_c0 x1 (slices_Min_int_o_L0_end x1 s) = true) : loopG (roundG (runC E0 (cl E0) L68_0) [0, 3, 4] [3] 0) bound (slices_Min_int_o_L0_enc x0 x1 x2 x3 s) = some ((.exit 0), ([(V.d (.int .i64 ((slices_Min_int_o_L0_end x1 s).c2)))], [])) := by
  have e : itS (slices_Min_int_o_L0_sel x1) (slices_Min_int_o_L0_nx x1) bound s = some (slices_Min_int_o_L0_end x1 s) := itS_get hok
  have f := itS_false e
  exact loop_it (slices_Min_int_o_L0_go x0 x1 x2 x3) bound s _ _ _ e (fun h => by cases h) (slices_Min_int_o_L0_x0 x0 x1 x2 x3 (slices_Min_int_o_L0_end x1 s) f c0)
def slices_Min_int_o_e0 (x1 : List Int) : slices_Min_int_o_L0_s0 := slices_Min_int_o_L0_end x1 (⟨(gt x1 0), 1⟩ : slices_Min_int_o_L0_s0)
def slices_Min_int_o_c0 (x1 : List Int) : Bool := (bif tb (decide (((x1.length : Nat) : Int) < 1)) then false else (bif tb (inb x1.length 0) then (bif tb (slices_Min_int_o_L0_ok x1 (⟨(gt x1 0), 1⟩ : slices_Min_int_o_L0_s0)) then (bif tb (slices_Min_int_o_L0_c0 x1 (slices_Min_int_o_e0 x1)) then true else false) else false) else false))
theorem slices_Min_int_o_t0 (x0 : Bool) (x1 : List Int) : slices_Min_int_o_c0 x1 = true → cl E0 68 [(V.d (slD (encI .i64) true 1 x0 x1))] [] = some ([(V.d (.int .i64 ((slices_Min_int_o_e0 x1).c2)))], []) := by
  unfold slices_Min_int_o_c0
  cases h1 : tb (decide (((x1.length : Nat) : Int) < 1))
  · cases h2 : tb (inb x1.length 0)
    · intro g0
      exact absurd g0 ft
    · cases h3 : tb (slices_Min_int_o_L0_ok x1 (⟨(gt x1 0), 1⟩ : slices_Min_int_o_L0_s0))
      · intro g0
        exact absurd g0 ft
      · cases h4 : tb (slices_Min_int_o_L0_c0 x1 (slices_Min_int_o_e0 x1))
        · intro g0
          exact absurd g0 ft
        · intro g0
          exact w68 [.o 6 (fun _ => o_len_os (enc := (encI .i64)) (l := x1) (fl := true) (n := x0) (s := 1)), .b (tbE h1), .o 10 (fun _ => o_idx_os (enc := (encI .i64)) (l := x1) (fl := true) (n := x0) (s := 1) (k := .i64) (tbE h2)), .l (slices_Min_int_o_L0_f0_0 x0 x1 (gt x1 0) 1 (⟨(gt x1 0), 1⟩ : slices_Min_int_o_L0_s0) (tbE h3) (tbE h4))] (by kernel_rfl)
  · intro g0
    exact absurd g0 ft
end Go.Proofs.Ytdlhhoejnhjbhaa.Den

namespace Go.Proofs.Ytdlhhoejnhjbhaa.Den
open Go Go.Proofs
set_option maxRecDepth 100000
set_option maxHeartbeats 4000000
set_option linter.unusedVariables false
set_option linter.unusedSimpArgs false
def order_right_c1_i_r0_0 (x0 : Int) : Bool := (bif tb (decide (x0 < (-1099511627776))) then true else (decide (1099511627776 < x0)))
theorem order_right_c1_i_t0 (x0 : Int) : cl E0 78 [(V.d (.int .i64 x0))] [] = some ([(V.d (.bool (order_right_c1_i_r0_0 x0)))], []) := by
  unfold order_right_c1_i_r0_0
  cases h1 : tb (decide (x0 < (-1099511627776)))
  · exact w78 [.b (tbE h1)] (by kernel_rfl)
  · exact w78 [.b (tbE h1)] (by kernel_rfl)
structure slices_IndexFunc_int_o_order_right_c1_L0_s0 where
  c3 : Int
  deriving Inhabited
def slices_IndexFunc_int_o_order_right_c1_L0_enc (x0 : Bool) (x1 : List Int) (x2 : Int) (x3 : Int) (s0 : slices_IndexFunc_int_o_order_right_c1_L0_s0) : List V × Mem := ([(V.d (slD (encI .i64) true 1 x0 x1)), (V.fn (.func 78) [] []), (V.d (.int .i64 x2)), (V.d (.int .i64 s0.c3))], [])
def slices_IndexFunc_int_o_order_right_c1_L0_sel (x1 : List Int) (x2 : Int) (s0 : slices_IndexFunc_int_o_order_right_c1_L0_s0) : Bool := (bif tb (decide (s0.c3 < x2)) then (bif tb (inb x1.length s0.c3) then (bif tb (order_right_c1_i_r0_0 (gt x1 s0.c3)) then false else true) else false) else false)
def slices_IndexFunc_int_o_order_right_c1_L0_nx (x1 : List Int) (x2 : Int) (s0 : slices_IndexFunc_int_o_order_right_c1_L0_s0) : slices_IndexFunc_int_o_order_right_c1_L0_s0 := ⟨(wi (s0.c3 + 1))⟩
def slices_IndexFunc_int_o_order_right_c1_L0_ok (x1 : List Int) (x2 : Int) (s0 : slices_IndexFunc_int_o_order_right_c1_L0_s0) : Bool := (itS (slices_IndexFunc_int_o_order_right_c1_L0_sel x1 x2) (slices_IndexFunc_int_o_order_right_c1_L0_nx x1 x2) bound s0).isSome
def slices_IndexFunc_int_o_order_right_c1_L0_end (x1 : List Int) (x2 : Int) (s0 : slices_IndexFunc_int_o_order_right_c1_L0_s0) : slices_IndexFunc_int_o_order_right_c1_L0_s0 := (itS (slices_IndexFunc_int_o_order_right_c1_L0_sel x1 x2) (slices_IndexFunc_int_o_order_right_c1_L0_nx x1 x2) bound s0).getD default
theorem slices_IndexFunc_int_o_order_right_c1_L0_go (x0 : Bool) (x1 : List Int) (x2 : Int) (x3 : Int) (s0 : slices_IndexFunc_int_o_order_right_c1_L0_s0) : slices_IndexFunc_int_o_order_right_c1_L0_sel x1 x2 s0 = true → (roundG (runC E0 (cl E0) L82_0) [0, 1, 7, 8] [4] 0) (slices_IndexFunc_int_o_order_right_c1_L0_enc x0 x1 x2 x3 s0) = some (.normal, slices_IndexFunc_int_o_order_right_c1_L0_enc x0 x1 x2 x3 (slices_IndexFunc_int_o_order_right_c1_L0_nx x1 x2 s0)) := by
  unfold slices_IndexFunc_int_o_order_right_c1_L0_sel slices_IndexFunc_int_o_order_right_c1_L0_nx
  cases h1 : tb (decide (s0.c3 < x2))
  · intro g0
    exact absurd g0 ft
  · cases h2 : tb (inb x1.length s0.c3)
    · intro g0
      exact absurd g0 ft
    · cases h3 : tb (order_right_c1_i_r0_0 (gt x1 s0.c3))
      · intro _
        exact round_walk [.b (tbE h1), .o 14 (fun _ => o_idx_os (enc := (encI .i64)) (l := x1) (fl := true) (n := x0) (s := 1) (k := .i64) (tbE h2)), .c (order_right_c1_i_t0 (gt x1 s0.c3)), .b (tbE h3)] (by kernel_rfl)
      · intro g0
        exact absurd g0 ft
def slices_IndexFunc_int_o_order_right_c1_L0_c0 (x1 : List Int) (x2 : Int) (s0 : slices_IndexFunc_int_o_order_right_c1_L0_s0) : Bool := (bif tb (decide (s0.c3 < x2)) then (bif tb (inb x1.length s0.c3) then true else false) else false)
def slices_IndexFunc_int_o_order_right_c1_L0_c1 (x2 : Int) (s0 : slices_IndexFunc_int_o_order_right_c1_L0_s0) : Bool := (bif tb (decide (s0.c3 < x2)) then false else true)
theorem slices_IndexFunc_int_o_order_right_c1_L0_x0 (x0 : Bool) (x1 : List Int) (x2 : Int) (x3 : Int) (s0 : slices_IndexFunc_int_o_order_right_c1_L0_s0) : slices_IndexFunc_int_o_order_right_c1_L0_sel x1 x2 s0 = false → slices_IndexFunc_int_o_order_right_c1_L0_c0 x1 x2 s0 = true → (roundG (runC E0 (cl E0) L82_0) [0, 1, 7, 8] [4] 0) (slices_IndexFunc_int_o_order_right_c1_L0_enc x0 x1 x2 x3 s0) = some (.ret, ([(V.d (.int .i64 s0.c3))], [])) := by
  unfold slices_IndexFunc_int_o_order_right_c1_L0_sel slices_IndexFunc_int_o_order_right_c1_L0_c0
  cases h1 : tb (decide (s0.c3 < x2))
  · intro g0 g1
    exact absurd g1 ft
  · cases h2 : tb (inb x1.length s0.c3)
    · intro g0 g1
      exact absurd g1 ft
    · cases h3 : tb (order_right_c1_i_r0_0 (gt x1 s0.c3))
      · intro g0 g1
        exact absurd g0 tf
      · intro g0 g1
        exact round_walk [.b (tbE h1), .o 14 (fun _ => o_idx_os (enc := (encI .i64)) (l := x1) (fl := true) (n := x0) (s := 1) (k := .i64) (tbE h2)), .c (order_right_c1_i_t0 (gt x1 s0.c3)), .b (tbE h3)] (by kernel_rfl)
theorem slices_IndexFunc_int_o_order_right_c1_L0_x1 (x0 : Bool) (x1 : List Int) (x2 : Int) (x3 : Int) (s0 : slices_IndexFunc_int_o_order_right_c1_L0_s0) : slices_IndexFunc_int_o_order_right_c1_L0_sel x1 x2 s0 = false → slices_IndexFunc_int_o_order_right_c1_L0_c0 x1 x2 s0 = false → slices_IndexFunc_int_o_order_right_c1_L0_c1 x2 s0 = true → (roundG (runC E0 (cl E0) L82_0) [0, 1, 7, 8] [4] 0) (slices_IndexFunc_int_o_order_right_c1_L0_enc x0 x1 x2 x3 s0) = some ((.exit 0), ([V.un], [])) := by
  unfold slices_IndexFunc_int_o_order_right_c1_L0_sel slices_IndexFunc_int_o_order_right_c1_L0_c0 slices_IndexFunc_int_o_order_right_c1_L0_c1
  cases h1 : tb (decide (s0.c3 < x2))
  · intro g0 g1 g2
    exact round_walk [.b (tbE h1)] (by kernel_rfl)
  · cases h2 : tb (inb x1.length s0.c3)
    · intro g0 g1 g2
      exact absurd g2 ft
    · cases h3 : tb (order_right_c1_i_r0_0 (gt x1 s0.c3))
      · intro g0 g1 g2
        exact absurd g0 tf
      · intro g0 g1 g2
        exact absurd g1 tf
theorem slices_IndexFunc_int_o_order_right_c1_L0_f0_0 (x0 : Bool) (x1 : List Int) (x2 : Int) (x3 : Int) (s : slices_IndexFunc_int_o_order_right_c1_L0_s0) (hok : slices_IndexFunc_int_o_order_right_c1_L0_ok x1 x2 s = true) (c0 : slices_IndexFunc_int_o_order_right_c1_L0_c0 x1 x2 (slices_IndexFunc_int_o_order_right_c1_L0_end x1 x2 s) = true) : loopG (roundG (runC E0 (cl E0) L82_0) [0, 1, 7, 8] [4] 0) bound (slices_IndexFunc_int_o_order_right_c1_L0_enc x0 x1 x2 x3 s) = some (.ret, ([(V.d (.int .i64 ((slices_IndexFunc_int_o_order_right_c1_L0_end x1 x2 s).c3)))], [])) := by
  have e : itS (slices_IndexFunc_int_o_order_right_c1_L0_sel x1 x2) (slices_IndexFunc_int_o_order_right_c1_L0_nx x1 x2) bound s = some (slices_IndexFunc_int_o_order_right_c1_L0_end x1 x2 s) := itS_get hok
  have f := itS_false e
  exact loop_it (slices_IndexFunc_int_o_order_right_c1_L0_go x0 x1 x2 x3) bound s _ _ _ e (fun h => by cases h) (slices_IndexFunc_int_o_order_right_c1_L0_x0 x0 x1 x2 x3 (slices_IndexFunc_int_o_order_right_c1_L0_end x1 x2 s) f c0)
theorem slices_IndexFunc_int_o_order_right_c1_L0_f0_1 (x0 : Bool) (x1 : List Int) (x2 : Int) (x3 : Int) (s : slices_IndexFunc_int_o_order_right_c1_L0_s0) (hok : slices_IndexFunc_int_o_order_right_c1_L0_ok x1 x2 s = true) (c0 : slices_IndexFunc_int_o_order_right_c1_L0_c0 x1 x2 (slices_IndexFunc_int_o_order_right_c1_L0_end x1 x2 s) = false) (c1 : slices_IndexFunc_int_o_order_right_c1_L0_c1 x2 (slices_IndexFunc_int_o_order_right_c1_L0_end x1 x2 s) = true) : loopG (roundG (runC E0 (cl E0) L82_0) [0, 1, 7, 8] [4] 0) bound (slices_IndexFunc_int_o_order_right_c1_L0_enc x0 x1 x2 x3 s) = some ((.exit 0), ([V.un], [])) := by
  have e : itS (slices_IndexFunc_int_o_order_right_c1_L0_sel x1 x2) (slices_IndexFunc_int_o_order_right_c1_L0_nx x1 x2) bound s = some (slices_IndexFunc_int_o_order_right_c1_L0_end x1 x2 s) := itS_get hok
  have f := itS_false e
  exact loop_it (slices_IndexFunc_int_o_order_right_c1_L0_go x0 x1 x2 x3) bound s _ _ _ e (fun h => by cases h) (slices_IndexFunc_int_o_order_right_c1_L0_x1 x0 x1 x2 x3 (slices_IndexFunc_int_o_order_right_c1_L0_end x1 x2 s) f c0 c1)
def slices_IndexFunc_int_o_order_right_c1_e0 (x1 : List Int) : slices_IndexFunc_int_o_order_right_c1_L0_s0 := slices_IndexFunc_int_o_order_right_c1_L0_end x1 ((x1.length : Nat) : Int) (⟨0⟩ : slices_IndexFunc_int_o_order_right_c1_L0_s0)
def slices_IndexFunc_int_o_order_right_c1_c0 (x1 : List Int) : Bool := (bif tb (slices_IndexFunc_int_o_order_right_c1_L0_ok x1 ((x1.length : Nat) : Int) (⟨0⟩ : slices_IndexFunc_int_o_order_right_c1_L0_s0)) then (bif tb (slices_IndexFunc_int_o_order_right_c1_L0_c0 x1 ((x1.length : Nat) : Int) (slices_IndexFunc_int_o_order_right_c1_e0 x1)) then true else (bif tb (slices_IndexFunc_int_o_order_right_c1_L0_c1 ((x1.length : Nat) : Int) (slices_IndexFunc_int_o_order_right_c1_e0 x1)) then true else false)) else false)
def slices_IndexFunc_int_o_order_right_c1_r0_0 (x1 : List Int) : Int := (bif tb (slices_IndexFunc_int_o_order_right_c1_L0_c0 x1 ((x1.length : Nat) : Int) (slices_IndexFunc_int_o_order_right_c1_e0 x1)) then ((slices_IndexFunc_int_o_order_right_c1_e0 x1).c3) else (-1))
theorem slices_IndexFunc_int_o_order_right_c1_t0 (x0 : Bool) (x1 : List Int) : slices_IndexFunc_int_o_order_right_c1_c0 x1 = true → cl E0 82 [(V.d (slD (encI .i64) true 1 x0 x1)), (V.fn (.func 78) [] [])] [] = some ([(V.d (.int .i64 (slices_IndexFunc_int_o_order_right_c1_r0_0 x1)))], []) := by
  unfold slices_IndexFunc_int_o_order_right_c1_c0 slices_IndexFunc_int_o_order_right_c1_r0_0
  cases h1 : tb (slices_IndexFunc_int_o_order_right_c1_L0_ok x1 ((x1.length : Nat) : Int) (⟨0⟩ : slices_IndexFunc_int_o_order_right_c1_L0_s0))
  · intro g0
    exact absurd g0 ft
  · cases h2 : tb (slices_IndexFunc_int_o_order_right_c1_L0_c0 x1 ((x1.length : Nat) : Int) (slices_IndexFunc_int_o_order_right_c1_e0 x1))
    · cases h3 : tb (slices_IndexFunc_int_o_order_right_c1_L0_c1 ((x1.length : Nat) : Int) (slices_IndexFunc_int_o_order_right_c1_e0 x1))
      · intro g0
        exact absurd g0 ft
      · intro g0
        exact w82 [.o 7 (fun _ => o_len_os (enc := (encI .i64)) (l := x1) (fl := true) (n := x0) (s := 1)), .l (slices_IndexFunc_int_o_order_right_c1_L0_f0_1 x0 x1 ((x1.length : Nat) : Int) 0 (⟨0⟩ : slices_IndexFunc_int_o_order_right_c1_L0_s0) (tbE h1) (tbE h2) (tbE h3))] (by kernel_rfl)
    · intro g0
      exact w82 [.o 7 (fun _ => o_len_os (enc := (encI .i64)) (l := x1) (fl := true) (n := x0) (s := 1)), .l (slices_IndexFunc_int_o_order_right_c1_L0_f0_0 x0 x1 ((x1.length : Nat) : Int) 0 (⟨0⟩ : slices_IndexFunc_int_o_order_right_c1_L0_s0) (tbE h1) (tbE h2))] (by kernel_rfl)
def slices_ContainsFunc_int_o_order_right_c1_c0 (x1 : List Int) : Bool := (bif tb (slices_IndexFunc_int_o_order_right_c1_c0 x1) then true else false)
theorem slices_ContainsFunc_int_o_order_right_c1_t0 (x0 : Bool) (x1 : List Int) : slices_ContainsFunc_int_o_order_right_c1_c0 x1 = true → cl E0 77 [(V.d (slD (encI .i64) true 1 x0 x1)), (V.fn (.func 78) [] [])] [] = some ([(V.d (.bool (decide (0 ≤ (slices_IndexFunc_int_o_order_right_c1_r0_0 x1)))))], []) := by
  unfold slices_ContainsFunc_int_o_order_right_c1_c0
  cases h1 : tb (slices_IndexFunc_int_o_order_right_c1_c0 x1)
  · intro g0
    exact absurd g0 ft
  · intro g0
    exact w77 [.c (slices_IndexFunc_int_o_order_right_c1_t0 x0 x1 (tbE h1))] (by kernel_rfl)
def order_right_o_c0 (x1 : List Int) : Bool := (bif tb (decide (((x1.length : Nat) : Int) ≤ 16)) then (bif tb (slices_ContainsFunc_int_o_order_right_c1_c0 x1) then true else false) else true)
def order_right_o_r0_0 (x1 : List Int) : Bool := (bif tb (decide (((x1.length : Nat) : Int) ≤ 16)) then (!(decide (0 ≤ (slices_IndexFunc_int_o_order_right_c1_r0_0 x1)))) else false)
theorem order_right_o_t0 (x0 : Bool) (x1 : List Int) : order_right_o_c0 x1 = true → cl E0 63 [(V.d (slD (encI .i64) true 1 x0 x1))] [] = some ([(V.d (.bool (order_right_o_r0_0 x1)))], []) := by
  unfold order_right_o_c0 order_right_o_r0_0
  cases h1 : tb (decide (((x1.length : Nat) : Int) ≤ 16))
  · intro g0
    exact w63 [.o 5 (fun _ => o_len_os (enc := (encI .i64)) (l := x1) (fl := true) (n := x0) (s := 1)), .b (tbE h1)] (by kernel_rfl)
  · cases h2 : tb (slices_ContainsFunc_int_o_order_right_c1_c0 x1)
    · intro g0
      exact absurd g0 ft
    · intro g0
      exact w63 [.o 5 (fun _ => o_len_os (enc := (encI .i64)) (l := x1) (fl := true) (n := x0) (s := 1)), .b (tbE h1), .c (slices_ContainsFunc_int_o_order_right_c1_t0 x0 x1 (tbE h2))] (by kernel_rfl)
structure order_Sort_o_L1_s0 where
  c2 : Bool
  c3 : Int
  c7 : List Int
  deriving Inhabited
structure order_Sort_o_L2_s0 where
  c3 : Int
  c5 : List Int
  deriving Inhabited
def order_Spread_o_e0 (x1 : List Int) : Int := wi (((slices_Max_int_o_e0 x1).c2) - ((slices_Min_int_o_e0 x1).c2))
def order_Spread_o_c0 (x1 : List Int) : Bool := (bif tb (order_right_o_c0 x1) then (bif tb (order_right_o_r0_0 x1) then (bif tb ((((x1.length : Nat) : Int) : Int) == 0) then true else (bif tb (slices_Max_int_o_c0 x1) then (bif tb (slices_Min_int_o_c0 x1) then true else false) else false)) else true) else false)
def order_Spread_o_r0_0 (x1 : List Int) : Int := (bif tb (order_right_o_r0_0 x1) then (bif tb ((((x1.length : Nat) : Int) : Int) == 0) then 0 else (order_Spread_o_e0 x1)) else 0)
theorem order_Spread_o_t0 (x0 : Bool) (x1 : List Int) : order_Spread_o_c0 x1 = true → cl E0 22 [(V.d (slD (encI .i64) true 1 x0 x1))] [] = some ([(V.d (.int .i64 (order_Spread_o_r0_0 x1)))], []) := by
  unfold order_Spread_o_c0 order_Spread_o_r0_0
  cases h1 : tb (order_right_o_c0 x1)
  · intro g0
    exact absurd g0 ft
  · cases h2 : tb (order_right_o_r0_0 x1)
    · intro g0
      exact w22 [.c (order_right_o_t0 x0 x1 (tbE h1)), .b (notF (tbE h2))] (by kernel_rfl)
    · cases h3 : tb ((((x1.length : Nat) : Int) : Int) == 0)
      · cases h4 : tb (slices_Max_int_o_c0 x1)
        · intro g0
          exact absurd g0 ft
        · cases h5 : tb (slices_Min_int_o_c0 x1)
          · intro g0
            exact absurd g0 ft
          · intro g0
            exact w22 [.c (order_right_o_t0 x0 x1 (tbE h1)), .b (notT (tbE h2)), .o 8 (fun _ => o_len_os (enc := (encI .i64)) (l := x1) (fl := true) (n := x0) (s := 1)), .b (tbE h3), .c (slices_Max_int_o_t0 x0 x1 (tbE h4)), .c (slices_Min_int_o_t0 x0 x1 (tbE h5))] (by kernel_rfl)
      · intro g0
        exact w22 [.c (order_right_o_t0 x0 x1 (tbE h1)), .b (notT (tbE h2)), .o 8 (fun _ => o_len_os (enc := (encI .i64)) (l := x1) (fl := true) (n := x0) (s := 1)), .b (tbE h3)] (by kernel_rfl)
end Go.Proofs.Ytdlhhoejnhjbhaa.Den

namespace Go.Proofs.Ytdlhhoejnhjbhaa.Den
open Go Go.Proofs
set_option maxRecDepth 100000
set_option maxHeartbeats 4000000
set_option linter.unusedVariables false
set_option linter.unusedSimpArgs false
def stuck_right_i_r0_0 (x0 : Int) : Bool := (bif tb (decide ((-2147483648) ≤ x0)) then (decide (x0 ≤ 2147483647)) else false)
theorem stuck_right_i_t0 (x0 : Int) : cl E0 73 [(V.d (.int .i64 x0))] [] = some ([(V.d (.bool (stuck_right_i_r0_0 x0)))], []) := by
  unfold stuck_right_i_r0_0
  cases h1 : tb (decide ((-2147483648) ≤ x0))
  · exact w73 [.b (tbE h1)] (by kernel_rfl)
  · exact w73 [.b (tbE h1)] (by kernel_rfl)
def stuck_New_ii_c0 (x0 : Int) (x1 : Int) : Bool := (bif tb (decide (x0 < 2)) then true else (bif tb (decide (16 < x0)) then true else (bif tb (decide (x1 < 0)) then true else (bif tb (stuck_right_i_r0_0 x1) then false else true))))
theorem stuck_New_ii_t0 (x0 : Int) (x1 : Int) : stuck_New_ii_c0 x0 x1 = true → cl E0 44 [(V.d (.int .i64 x0)), (V.d (.int .i64 x1))] [] = some ([(V.d .nilp), (V.d (.int .i64 1))], []) := by
  unfold stuck_New_ii_c0
  cases h1 : tb (decide (x0 < 2))
  · cases h2 : tb (decide (16 < x0))
    · cases h3 : tb (decide (x1 < 0))
      · cases h4 : tb (stuck_right_i_r0_0 x1)
        · intro g0
          exact w44 [.b (tbE h1), .b (tbE h2), .b (tbE h3), .c (stuck_right_i_t0 x1), .b (notF (tbE h4))] (by kernel_rfl)
        · intro g0
          exact absurd g0 ft
      · intro g0
        exact w44 [.b (tbE h1), .b (tbE h2), .b (tbE h3)] (by kernel_rfl)
    · intro g0
      exact w44 [.b (tbE h1), .b (tbE h2)] (by kernel_rfl)
  · intro g0
    exact w44 [.b (tbE h1)] (by kernel_rfl)
theorem stuck_New_ii_t1 (x0 : Int) (x1 : Int) : stuck_New_ii_c0 x0 x1 = false → cl E0 44 [(V.d (.int .i64 x0)), (V.d (.int .i64 x1))] [] = some ([(V.ptr 0 1 0 0), (V.d (.int .i64 0))], [(Blk.flat 82 20 [([(.int .i64 x0), (.int .i64 x1)] ++ arrD .i64 [0, 0, 0, 0, 0, 0, 0, 0, 0, 0, 0, 0, 0, 0, 0, 0] 16 ++ [(.int .i64 0), (.int .i64 0)])] false)]) := by
  unfold stuck_New_ii_c0
  cases h1 : tb (decide (x0 < 2))
  · cases h2 : tb (decide (16 < x0))
    · cases h3 : tb (decide (x1 < 0))
      · cases h4 : tb (stuck_right_i_r0_0 x1)
        · intro g0
          exact absurd g0 tf
        · intro g0
          exact w44 [.b (tbE h1), .b (tbE h2), .b (tbE h3), .c (stuck_right_i_t0 x1), .b (notT (tbE h4))] (by kernel_rfl)
      · intro g0
        exact absurd g0 tf
    · intro g0
      exact absurd g0 tf
  · intro g0
    exact absurd g0 tf
theorem stuck_Room_Watch_n_t0  : cl E0 46 [(V.d .nilp)] [] = some ([(V.d .nilp)], []) := by
  exact w46 [.k true] (by kernel_rfl)
theorem stuck_Room_Watch_p_Fi20_t0 (x0 : Int) (x1 : Int) (x2 : List Int) (x3 : Int) (x4 : Int) (x5 : Bool) : cl E0 46 [(V.ptr 0 1 0 0)] [(Blk.flat 82 20 [([(.int .i64 x0), (.int .i64 x1)] ++ arrD .i64 x2 16 ++ [(.int .i64 x3), (.int .i64 x4)])] x5)] = some ([(V.ptr 1 1 0 0)], [(Blk.flat 82 20 [([(.int .i64 x0), (.int .i64 x1)] ++ arrD .i64 x2 16 ++ [(.int .i64 x3), (.int .i64 x4)])] x5), (Blk.gen 84 3 [[(V.ptr 0 1 0 0), (V.d (.int .i64 0)), (V.d (.int .i64 0))]] false)]) := by
  exact w46 [.k false] (by kernel_rfl)
def stuck_Room_Vote_pi_Fi20_c0 (x0 : Int) (x3 : Int) (x6 : Int) : Bool := (bif tb (stuck_right_i_r0_0 x6) then (bif tb (inb 16 x3) then (bif tb (((wi (x0 - 1)) : Int) == 0) then false else true) else false) else true)
def stuck_Room_Vote_pi_Fi20_r0_0 (x6 : Int) : Int := (bif tb (stuck_right_i_r0_0 x6) then 0 else 1)
def stuck_Room_Vote_pi_Fi20_r0_3 (x2 : List Int) (x3 : Int) (x6 : Int) : List Int := (bif tb (stuck_right_i_r0_0 x6) then (sta x2 16 x3 x6) else x2)
def stuck_Room_Vote_pi_Fi20_r0_4 (x0 : Int) (x3 : Int) (x6 : Int) : Int := (bif tb (stuck_right_i_r0_0 x6) then (remI .i64 (wi (x3 + 1)) (wi (x0 - 1))) else x3)
def stuck_Room_Vote_pi_Fi20_r0_5 (x0 : Int) (x4 : Int) (x6 : Int) : Int := (bif tb (stuck_right_i_r0_0 x6) then (mnI (wi (x4 + 1)) (wi (x0 - 1))) else x4)
theorem stuck_Room_Vote_pi_Fi20_t0 (x0 : Int) (x1 : Int) (x2 : List Int) (x3 : Int) (x4 : Int) (x6 : Int) : stuck_Room_Vote_pi_Fi20_c0 x0 x3 x6 = true → cl E0 48 [(V.ptr 0 1 0 0), (V.d (.int .i64 x6))] [(Blk.flat 82 20 [([(.int .i64 x0), (.int .i64 x1)] ++ arrD .i64 x2 16 ++ [(.int .i64 x3), (.int .i64 x4)])] false)] = some ([(V.d (.int .i64 (stuck_Room_Vote_pi_Fi20_r0_0 x6)))], [(Blk.flat 82 20 [([(.int .i64 x0), (.int .i64 x1)] ++ arrD .i64 (stuck_Room_Vote_pi_Fi20_r0_3 x2 x3 x6) 16 ++ [(.int .i64 (stuck_Room_Vote_pi_Fi20_r0_4 x0 x3 x6)), (.int .i64 (stuck_Room_Vote_pi_Fi20_r0_5 x0 x4 x6))])] false)]) := by
  unfold stuck_Room_Vote_pi_Fi20_c0 stuck_Room_Vote_pi_Fi20_r0_0 stuck_Room_Vote_pi_Fi20_r0_3 stuck_Room_Vote_pi_Fi20_r0_4 stuck_Room_Vote_pi_Fi20_r0_5
  cases h1 : tb (stuck_right_i_r0_0 x6)
  · intro g0
    exact w48 [.k false, .c (stuck_right_i_t0 x6), .b (notF (tbE h1))] (by kernel_rfl)
  · cases h2 : tb (inb 16 x3)
    · intro g0
      exact absurd g0 ft
    · cases h3 : tb (((wi (x0 - 1)) : Int) == 0)
      · intro g0
        exact w48 [.k false, .c (stuck_right_i_t0 x6), .b (notT (tbE h1)), .o 20 (fun _ => o_idxAA (id := 0) (nn := 1) (row := 0) (off := 2) (n := 16) (s := 1) (k := .i64) (i := x3) (tbE h2)), .m 100020 (o_store_arr (m := [(Blk.flat 82 20 [([(.int .i64 x0), (.int .i64 x1)] ++ arrD .i64 x2 16 ++ [(.int .i64 x3), (.int .i64 x4)])] false)]) (id := 0) (nn := 1) (row := 0) (off := 2) (n := 16) (s := 20) (e := 82) (rows := [([(.int .i64 x0), (.int .i64 x1)] ++ arrD .i64 x2 16 ++ [(.int .i64 x3), (.int .i64 x4)])]) (cs := ([(.int .i64 x0), (.int .i64 x1)] ++ arrD .i64 x2 16 ++ [(.int .i64 x3), (.int .i64 x4)])) (k := .i64) (T := x2) (i := x3) (v := x6) (by kernel_rfl) (by kernel_rfl) (by kernel_rfl) (by kernel_rfl) (tbE h2)), .o 32 (fun _ => o_rem (k := .i64) (x := (wi (x3 + 1))) (y := (wi (x0 - 1))) (tbE h3))] (by kernel_rfl)
      · intro g0
        exact absurd g0 ft
theorem stuck_Room_votes_p_Fi20_t0 (x0 : Int) (x1 : Int) (x2 : List Int) (x3 : Int) (x4 : Int) (x5 : Bool) : cl E0 75 [(V.ptr 0 1 0 0)] [(Blk.flat 82 20 [([(.int .i64 x0), (.int .i64 x1)] ++ arrD .i64 x2 16 ++ [(.int .i64 x3), (.int .i64 x4)])] x5)] = some ([(V.fn (.func 81) [] [(V.ptr 1 1 0 0)])], [(Blk.flat 82 20 [([(.int .i64 x0), (.int .i64 x1)] ++ arrD .i64 x2 16 ++ [(.int .i64 x3), (.int .i64 x4)])] x5), (Blk.gen 44 1 [[(V.ptr 0 1 0 0)]] false)]) := by
  exact w75 [] (by kernel_rfl)
def stuck_Room_Votes_Y1_i_Y53_1pGvL_c0 (x0 : List Int) (x5 : Int) : Bool := (bif tb (decide ((x0.length + [x5].length) * 8 ≤ 140737488355328)) then true else false)
theorem stuck_Room_Votes_Y1_i_Y53_1pGvL_t0 (x0 : List Int) (x2 : Bool) (x5 : Int) : stuck_Room_Votes_Y1_i_Y53_1pGvL_c0 x0 x5 = true → cl E0 yfn [(V.yl 0), (V.d (.int .i64 x5))] [(Blk.loop .ready none [V.un, V.un, V.un, (V.ptr 1 1 0 0), V.un, V.un, V.un, V.un, V.un, V.un, V.un, V.un, V.un] [7] L53_0 L53_1 false), (Blk.gen 22 1 [[(V.so x2 2 x0.length)]] false), (Blk.flat 3 1 (List.map (encI .i64) x0) false)] = some ([(V.d (.bool true))], [(Blk.loop .ready none [V.un, V.un, V.un, (V.ptr 1 1 0 0), V.un, V.un, V.un, V.un, V.un, V.un, V.un, V.un, V.un] [7] L53_0 L53_1 false), (Blk.gen 22 1 [[(V.so false 2 ((x0 ++ [x5]).length))]] false), (Blk.flat 3 1 (List.map (encI .i64) (x0 ++ [x5])) false)]) := by
  unfold stuck_Room_Votes_Y1_i_Y53_1pGvL_c0
  cases h1 : tb (decide ((x0.length + [x5].length) * 8 ≤ 140737488355328))
  · intro g0
    exact absurd g0 ft
  · intro g0
    exact round_yield [.m 11 (o_app_so (nl := x2) (m := [(Blk.loop .busy none [V.un, V.un, V.un, (V.ptr 1 1 0 0), V.un, V.un, V.un, V.un, V.un, V.un, V.un, V.un, V.un] [7] L53_0 L53_1 false), (Blk.gen 22 1 [[(V.so x2 2 x0.length)]] false), (Blk.flat 3 1 (List.map (encI .i64) x0) false), (Blk.flat 3 1 [[(.int .i64 x5)]] false)]) (enc := (encI .i64)) (l0 := x0) (l1 := [x5]) (id := 2) (e := 3) (s := 1) (bytes := 8) (x := (V.so false 3 1)) (n := x0.length) (Nat.beq_refl _) (by kernel_rfl) (by kernel_rfl) (by kernel_rfl) (tbE h1))] (by kernel_rfl)
structure stuck_Room_votes_c1_yp_Y53_1pGvLGpFi20_L0_s0 where
  c2 : Int
  c4 : Bool
  c6 : List Int
  deriving Inhabited
def stuck_Room_votes_c1_yp_Y53_1pGvLGpFi20_L0_enc (x0 : List Int) (x1 : Int) (x2 : Int) (x3 : List Int) (x4 : Int) (x5 : Int) (x6 : Bool) (x7 : Bool) (x8 : Bool) (x9 : Bool) (x10 : Bool) (x11 : Bool) (x12 : Int) (x13 : Int) (x14 : Int) (s0 : stuck_Room_votes_c1_yp_Y53_1pGvLGpFi20_L0_s0) : List V × Mem := ([(V.yl 0), (V.ptr 3 1 0 0), (V.d (.int .i64 x12)), (V.d (.int .i64 x13)), (V.d (.int .i64 s0.c2))], [(Blk.loop .ready none [V.un, V.un, V.un, (V.ptr 1 1 0 0), V.un, V.un, V.un, V.un, V.un, V.un, V.un, V.un, V.un] [7] L53_0 L53_1 false), (Blk.gen 22 1 [[(V.so s0.c4 2 s0.c6.length)]] false), (Blk.flat 3 1 (List.map (encI .i64) s0.c6) false), (Blk.gen 44 1 [[(V.ptr 4 1 0 0)]] x10), (Blk.flat 82 20 [([(.int .i64 x1), (.int .i64 x2)] ++ arrD .i64 x3 16 ++ [(.int .i64 x4), (.int .i64 x5)])] x11)])
def stuck_Room_votes_c1_yp_Y53_1pGvLGpFi20_L0_h0_e0 (x3 : List Int) (x4 : Int) (x5 : Int) (x12 : Int) (s0 : stuck_Room_votes_c1_yp_Y53_1pGvLGpFi20_L0_s0) : Int := gt x3 (remI .i64 (wi ((wi ((wi (x4 - x5)) + s0.c2)) + x12)) x12)
def stuck_Room_votes_c1_yp_Y53_1pGvLGpFi20_L0_h0_e1 (x3 : List Int) (x4 : Int) (x5 : Int) (x12 : Int) (s0 : stuck_Room_votes_c1_yp_Y53_1pGvLGpFi20_L0_s0) : Int := (stuck_Room_votes_c1_yp_Y53_1pGvLGpFi20_L0_h0_e0 x3 x4 x5 x12 s0)
def stuck_Room_votes_c1_yp_Y53_1pGvLGpFi20_L0_sel (x3 : List Int) (x4 : Int) (x5 : Int) (x12 : Int) (x13 : Int) (s0 : stuck_Room_votes_c1_yp_Y53_1pGvLGpFi20_L0_s0) : Bool := (bif tb (decide (s0.c2 < x13)) then (bif tb ((x12 : Int) == 0) then false else (bif tb (inb 16 (remI .i64 (wi ((wi ((wi (x4 - x5)) + s0.c2)) + x12)) x12)) then (bif tb (stuck_Room_Votes_Y1_i_Y53_1pGvL_c0 s0.c6 (stuck_Room_votes_c1_yp_Y53_1pGvLGpFi20_L0_h0_e1 x3 x4 x5 x12 s0)) then true else false) else false)) else false)
def stuck_Room_votes_c1_yp_Y53_1pGvLGpFi20_L0_nx (x3 : List Int) (x4 : Int) (x5 : Int) (x12 : Int) (x13 : Int) (s0 : stuck_Room_votes_c1_yp_Y53_1pGvLGpFi20_L0_s0) : stuck_Room_votes_c1_yp_Y53_1pGvLGpFi20_L0_s0 := ⟨(wi (s0.c2 + 1)), false, (s0.c6 ++ [(stuck_Room_votes_c1_yp_Y53_1pGvLGpFi20_L0_h0_e1 x3 x4 x5 x12 s0)])⟩
def stuck_Room_votes_c1_yp_Y53_1pGvLGpFi20_L0_ok (x3 : List Int) (x4 : Int) (x5 : Int) (x12 : Int) (x13 : Int) (s0 : stuck_Room_votes_c1_yp_Y53_1pGvLGpFi20_L0_s0) : Bool := (itS (stuck_Room_votes_c1_yp_Y53_1pGvLGpFi20_L0_sel x3 x4 x5 x12 x13) (stuck_Room_votes_c1_yp_Y53_1pGvLGpFi20_L0_nx x3 x4 x5 x12 x13) bound s0).isSome
def stuck_Room_votes_c1_yp_Y53_1pGvLGpFi20_L0_end (x3 : List Int) (x4 : Int) (x5 : Int) (x12 : Int) (x13 : Int) (s0 : stuck_Room_votes_c1_yp_Y53_1pGvLGpFi20_L0_s0) : stuck_Room_votes_c1_yp_Y53_1pGvLGpFi20_L0_s0 := (itS (stuck_Room_votes_c1_yp_Y53_1pGvLGpFi20_L0_sel x3 x4 x5 x12 x13) (stuck_Room_votes_c1_yp_Y53_1pGvLGpFi20_L0_nx x3 x4 x5 x12 x13) bound s0).getD default
theorem stuck_Room_votes_c1_yp_Y53_1pGvLGpFi20_L0_go (x0 : List Int) (x1 : Int) (x2 : Int) (x3 : List Int) (x4 : Int) (x5 : Int) (x6 : Bool) (x7 : Bool) (x8 : Bool) (x9 : Bool) (x10 : Bool) (x11 : Bool) (x12 : Int) (x13 : Int) (x14 : Int) (s0 : stuck_Room_votes_c1_yp_Y53_1pGvLGpFi20_L0_s0) : stuck_Room_votes_c1_yp_Y53_1pGvLGpFi20_L0_sel x3 x4 x5 x12 x13 s0 = true → (roundG (runC E0 (cl E0) L81_0) [0, 1, 3, 15, 16] [] 5) (stuck_Room_votes_c1_yp_Y53_1pGvLGpFi20_L0_enc x0 x1 x2 x3 x4 x5 x6 x7 x8 x9 x10 x11 x12 x13 x14 s0) = some (.normal, stuck_Room_votes_c1_yp_Y53_1pGvLGpFi20_L0_enc x0 x1 x2 x3 x4 x5 x6 x7 x8 x9 x10 x11 x12 x13 x14 (stuck_Room_votes_c1_yp_Y53_1pGvLGpFi20_L0_nx x3 x4 x5 x12 x13 s0)) := by
  unfold stuck_Room_votes_c1_yp_Y53_1pGvLGpFi20_L0_sel stuck_Room_votes_c1_yp_Y53_1pGvLGpFi20_L0_nx
  cases h1 : tb (decide (s0.c2 < x13))
  · intro g0
    exact absurd g0 ft
  · cases h2 : tb ((x12 : Int) == 0)
    · cases h3 : tb (inb 16 (remI .i64 (wi ((wi ((wi (x4 - x5)) + s0.c2)) + x12)) x12))
      · intro g0
        exact absurd g0 ft
      · cases h4 : tb (stuck_Room_Votes_Y1_i_Y53_1pGvL_c0 s0.c6 (stuck_Room_votes_c1_yp_Y53_1pGvLGpFi20_L0_h0_e1 x3 x4 x5 x12 s0))
        · intro g0
          exact absurd g0 ft
        · intro _
          exact round_walk [.b (tbE h1), .o 35 (fun _ => o_rem (k := .i64) (x := (wi ((wi ((wi (x4 - x5)) + s0.c2)) + x12))) (y := x12) (tbE h2)), .o 38 (fun _ => o_idxAA (id := 4) (nn := 1) (row := 0) (off := 2) (n := 16) (s := 1) (k := .i64) (i := (remI .i64 (wi ((wi ((wi (x4 - x5)) + s0.c2)) + x12)) x12)) (tbE h3)), .m 39 (o_load_arr (m := [(Blk.loop .ready none [V.un, V.un, V.un, (V.ptr 1 1 0 0), V.un, V.un, V.un, V.un, V.un, V.un, V.un, V.un, V.un] [7] L53_0 L53_1 true), (Blk.gen 22 1 [[(V.so s0.c4 2 s0.c6.length)]] true), (Blk.flat 3 1 (List.map (encI .i64) s0.c6) true), (Blk.gen 44 1 [[(V.ptr 4 1 0 0)]] true), (Blk.flat 82 20 [([(.int .i64 x1), (.int .i64 x2)] ++ arrD .i64 x3 16 ++ [(.int .i64 x4), (.int .i64 x5)])] true)]) (id := 4) (nn := 1) (row := 0) (off := 2) (n := 16) (k := .i64) (T := x3) (i := (remI .i64 (wi ((wi ((wi (x4 - x5)) + s0.c2)) + x12)) x12)) (by kernel_rfl) (tbE h3)), .c (stuck_Room_Votes_Y1_i_Y53_1pGvL_t0 s0.c6 s0.c4 (stuck_Room_votes_c1_yp_Y53_1pGvLGpFi20_L0_h0_e1 x3 x4 x5 x12 s0) (tbE h4)), .k false] (by kernel_rfl)
    · intro g0
      exact absurd g0 ft
def stuck_Room_votes_c1_yp_Y53_1pGvLGpFi20_L0_c0 (x13 : Int) (s0 : stuck_Room_votes_c1_yp_Y53_1pGvLGpFi20_L0_s0) : Bool := (bif tb (decide (s0.c2 < x13)) then false else true)
theorem stuck_Room_votes_c1_yp_Y53_1pGvLGpFi20_L0_x0 (x0 : List Int) (x1 : Int) (x2 : Int) (x3 : List Int) (x4 : Int) (x5 : Int) (x6 : Bool) (x7 : Bool) (x8 : Bool) (x9 : Bool) (x10 : Bool) (x11 : Bool) (x12 : Int) (x13 : Int) (x14 : Int) (s0 : stuck_Room_votes_c1_yp_Y53_1pGvLGpFi20_L0_s0) : stuck_Room_votes_c1_yp_Y53_1pGvLGpFi20_L0_sel x3 x4 x5 x12 x13 s0 = false → stuck_Room_votes_c1_yp_Y53_1pGvLGpFi20_L0_c0 x13 s0 = true → (roundG (runC E0 (cl E0) L81_0) [0, 1, 3, 15, 16] [] 5) (stuck_Room_votes_c1_yp_Y53_1pGvLGpFi20_L0_enc x0 x1 x2 x3 x4 x5 x6 x7 x8 x9 x10 x11 x12 x13 x14 s0) = some ((.exit 0), ([], [(Blk.loop .ready none [V.un, V.un, V.un, (V.ptr 1 1 0 0), V.un, V.un, V.un, V.un, V.un, V.un, V.un, V.un, V.un] [7] L53_0 L53_1 false), (Blk.gen 22 1 [[(V.so s0.c4 2 s0.c6.length)]] false), (Blk.flat 3 1 (List.map (encI .i64) s0.c6) false), (Blk.gen 44 1 [[(V.ptr 4 1 0 0)]] x10), (Blk.flat 82 20 [([(.int .i64 x1), (.int .i64 x2)] ++ arrD .i64 x3 16 ++ [(.int .i64 x4), (.int .i64 x5)])] x11)])) := by
  unfold stuck_Room_votes_c1_yp_Y53_1pGvLGpFi20_L0_sel stuck_Room_votes_c1_yp_Y53_1pGvLGpFi20_L0_c0
  cases h1 : tb (decide (s0.c2 < x13))
  · intro g0 g1
    exact round_walk [.b (tbE h1)] (by kernel_rfl)
  · cases h2 : tb ((x12 : Int) == 0)
    · cases h3 : tb (inb 16 (remI .i64 (wi ((wi ((wi (x4 - x5)) + s0.c2)) + x12)) x12))
      · intro g0 g1
        exact absurd g1 ft
      · cases h4 : tb (stuck_Room_Votes_Y1_i_Y53_1pGvL_c0 s0.c6 (stuck_Room_votes_c1_yp_Y53_1pGvLGpFi20_L0_h0_e1 x3 x4 x5 x12 s0))
        · intro g0 g1
          exact absurd g1 ft
        · intro g0 g1
          exact absurd g0 tf
    · intro g0 g1
      exact absurd g1 ft
theorem stuck_Room_votes_c1_yp_Y53_1pGvLGpFi20_L0_f0_0 (x0 : List Int) (x1 : Int) (x2 : Int) (x3 : List Int) (x4 : Int) (x5 : Int) (x6 : Bool) (x7 : Bool) (x8 : Bool) (x9 : Bool) (x10 : Bool) (x11 : Bool) (x12 : Int) (x13 : Int) (x14 : Int) (s : stuck_Room_votes_c1_yp_Y53_1pGvLGpFi20_L0_s0) (hok : stuck_Room_votes_c1_yp_Y53_1pGvLGpFi20_L0_ok x3 x4 x5 x12 x13 s = true) (c0 : stuck_Room_votes_c1_yp_Y53_1pGvLGpFi20_L0_c0 x13 (stuck_Room_votes_c1_yp_Y53_1pGvLGpFi20_L0_end x3 x4 x5 x12 x13 s) = true) : loopG (roundG (runC E0 (cl E0) L81_0) [0, 1, 3, 15, 16] [] 5) bound (stuck_Room_votes_c1_yp_Y53_1pGvLGpFi20_L0_enc x0 x1 x2 x3 x4 x5 x6 x7 x8 x9 x10 x11 x12 x13 x14 s) = some ((.exit 0), ([], [(Blk.loop .ready none [V.un, V.un, V.un, (V.ptr 1 1 0 0), V.un, V.un, V.un, V.un, V.un, V.un, V.un, V.un, V.un] [7] L53_0 L53_1 false), (Blk.gen 22 1 [[(V.so ((stuck_Room_votes_c1_yp_Y53_1pGvLGpFi20_L0_end x3 x4 x5 x12 x13 s).c4) 2 (((stuck_Room_votes_c1_yp_Y53_1pGvLGpFi20_L0_end x3 x4 x5 x12 x13 s).c6).length))]] false), (Blk.flat 3 1 (List.map (encI .i64) ((stuck_Room_votes_c1_yp_Y53_1pGvLGpFi20_L0_end x3 x4 x5 x12 x13 s).c6)) false), (Blk.gen 44 1 [[(V.ptr 4 1 0 0)]] x10), (Blk.flat 82 20 [([(.int .i64 x1), (.int .i64 x2)] ++ arrD .i64 x3 16 ++ [(.int .i64 x4), (.int .i64 x5)])] x11)])) := by
  have e : itS (stuck_Room_votes_c1_yp_Y53_1pGvLGpFi20_L0_sel x3 x4 x5 x12 x13) (stuck_Room_votes_c1_yp_Y53_1pGvLGpFi20_L0_nx x3 x4 x5 x12 x13) bound s = some (stuck_Room_votes_c1_yp_Y53_1pGvLGpFi20_L0_end x3 x4 x5 x12 x13 s) := itS_get hok
  have f := itS_false e
  exact loop_it (stuck_Room_votes_c1_yp_Y53_1pGvLGpFi20_L0_go x0 x1 x2 x3 x4 x5 x6 x7 x8 x9 x10 x11 x12 x13 x14) bound s _ _ _ e (fun h => by cases h) (stuck_Room_votes_c1_yp_Y53_1pGvLGpFi20_L0_x0 x0 x1 x2 x3 x4 x5 x6 x7 x8 x9 x10 x11 x12 x13 x14 (stuck_Room_votes_c1_yp_Y53_1pGvLGpFi20_L0_end x3 x4 x5 x12 x13 s) f c0)
def stuck_Room_votes_c1_yp_Y53_1pGvLGpFi20_e0 (x0 : List Int) (x1 : Int) (x3 : List Int) (x4 : Int) (x5 : Int) (x7 : Bool) : stuck_Room_votes_c1_yp_Y53_1pGvLGpFi20_L0_s0 := stuck_Room_votes_c1_yp_Y53_1pGvLGpFi20_L0_end x3 x4 x5 (wi (x1 - 1)) x5 (⟨0, x7, x0⟩ : stuck_Room_votes_c1_yp_Y53_1pGvLGpFi20_L0_s0)
def stuck_Room_votes_c1_yp_Y53_1pGvLGpFi20_c0 (x0 : List Int) (x1 : Int) (x3 : List Int) (x4 : Int) (x5 : Int) (x7 : Bool) : Bool := (bif tb (stuck_Room_votes_c1_yp_Y53_1pGvLGpFi20_L0_ok x3 x4 x5 (wi (x1 - 1)) x5 (⟨0, x7, x0⟩ : stuck_Room_votes_c1_yp_Y53_1pGvLGpFi20_L0_s0)) then (bif tb (stuck_Room_votes_c1_yp_Y53_1pGvLGpFi20_L0_c0 x5 (stuck_Room_votes_c1_yp_Y53_1pGvLGpFi20_e0 x0 x1 x3 x4 x5 x7)) then true else false) else false)
theorem stuck_Room_votes_c1_yp_Y53_1pGvLGpFi20_t0 (x0 : List Int) (x1 : Int) (x2 : Int) (x3 : List Int) (x4 : Int) (x5 : Int) (x7 : Bool) (x10 : Bool) (x11 : Bool) : stuck_Room_votes_c1_yp_Y53_1pGvLGpFi20_c0 x0 x1 x3 x4 x5 x7 = true → cl E0 81 [(V.yl 0), (V.ptr 3 1 0 0)] [(Blk.loop .ready none [V.un, V.un, V.un, (V.ptr 1 1 0 0), V.un, V.un, V.un, V.un, V.un, V.un, V.un, V.un, V.un] [7] L53_0 L53_1 false), (Blk.gen 22 1 [[(V.so x7 2 x0.length)]] false), (Blk.flat 3 1 (List.map (encI .i64) x0) false), (Blk.gen 44 1 [[(V.ptr 4 1 0 0)]] x10), (Blk.flat 82 20 [([(.int .i64 x1), (.int .i64 x2)] ++ arrD .i64 x3 16 ++ [(.int .i64 x4), (.int .i64 x5)])] x11)] = some ([], [(Blk.loop .ready none [V.un, V.un, V.un, (V.ptr 1 1 0 0), V.un, V.un, V.un, V.un, V.un, V.un, V.un, V.un, V.un] [7] L53_0 L53_1 false), (Blk.gen 22 1 [[(V.so ((stuck_Room_votes_c1_yp_Y53_1pGvLGpFi20_e0 x0 x1 x3 x4 x5 x7).c4) 2 (((stuck_Room_votes_c1_yp_Y53_1pGvLGpFi20_e0 x0 x1 x3 x4 x5 x7).c6).length))]] false), (Blk.flat 3 1 (List.map (encI .i64) ((stuck_Room_votes_c1_yp_Y53_1pGvLGpFi20_e0 x0 x1 x3 x4 x5 x7).c6)) false), (Blk.gen 44 1 [[(V.ptr 4 1 0 0)]] x10), (Blk.flat 82 20 [([(.int .i64 x1), (.int .i64 x2)] ++ arrD .i64 x3 16 ++ [(.int .i64 x4), (.int .i64 x5)])] x11)]) := by
  unfold stuck_Room_votes_c1_yp_Y53_1pGvLGpFi20_c0
  cases h1 : tb (stuck_Room_votes_c1_yp_Y53_1pGvLGpFi20_L0_ok x3 x4 x5 (wi (x1 - 1)) x5 (⟨0, x7, x0⟩ : stuck_Room_votes_c1_yp_Y53_1pGvLGpFi20_L0_s0))
  · intro g0
    exact absurd g0 ft
  · cases h2 : tb (stuck_Room_votes_c1_yp_Y53_1pGvLGpFi20_L0_c0 x5 (stuck_Room_votes_c1_yp_Y53_1pGvLGpFi20_e0 x0 x1 x3 x4 x5 x7))
    · intro g0
      exact absurd g0 ft
    · intro g0
      exact w81 [.k false, .l (stuck_Room_votes_c1_yp_Y53_1pGvLGpFi20_L0_f0_0 x0 x1 x2 x3 x4 x5 false x7 false false x10 x11 (wi (x1 - 1)) x5 0 (⟨0, x7, x0⟩ : stuck_Room_votes_c1_yp_Y53_1pGvLGpFi20_L0_s0) (tbE h1) (tbE h2))] (by kernel_rfl)
def stuck_Room_Votes_p_Fi20_c0 (x0 : Int) (x2 : List Int) (x3 : Int) (x4 : Int) : Bool := (bif tb (stuck_Room_votes_c1_yp_Y53_1pGvLGpFi20_c0 ([] : List Int) x0 x2 x3 x4 true) then true else false)
theorem stuck_Room_Votes_p_Fi20_t0 (x0 : Int) (x1 : Int) (x2 : List Int) (x3 : Int) (x4 : Int) (x5 : Bool) : stuck_Room_Votes_p_Fi20_c0 x0 x2 x3 x4 = true → cl E0 53 [(V.ptr 0 1 0 0)] [(Blk.flat 82 20 [([(.int .i64 x0), (.int .i64 x1)] ++ arrD .i64 x2 16 ++ [(.int .i64 x3), (.int .i64 x4)])] x5)] = some ([(V.so ((stuck_Room_votes_c1_yp_Y53_1pGvLGpFi20_e0 ([] : List Int) x0 x2 x3 x4 true).c4) 1 (((stuck_Room_votes_c1_yp_Y53_1pGvLGpFi20_e0 ([] : List Int) x0 x2 x3 x4 true).c6).length))], [(Blk.flat 82 20 [([(.int .i64 x0), (.int .i64 x1)] ++ arrD .i64 x2 16 ++ [(.int .i64 x3), (.int .i64 x4)])] x5), (Blk.flat 3 1 (List.map (encI .i64) ((stuck_Room_votes_c1_yp_Y53_1pGvLGpFi20_e0 ([] : List Int) x0 x2 x3 x4 true).c6)) false)]) := by
  unfold stuck_Room_Votes_p_Fi20_c0
  cases h1 : tb (stuck_Room_votes_c1_yp_Y53_1pGvLGpFi20_c0 ([] : List Int) x0 x2 x3 x4 true)
  · intro g0
    exact absurd g0 ft
  · intro g0
    exact w53 [.c (stuck_Room_votes_p_Fi20_t0 x0 x1 x2 x3 x4 x5), .c (stuck_Room_votes_c1_yp_Y53_1pGvLGpFi20_t0 ([] : List Int) x0 x1 x2 x3 x4 true false x5 (tbE h1))] (by kernel_rfl)
def stuck_Room_Moved_p_Fi20_e0 (x0 : Int) (x2 : List Int) (x3 : Int) (x4 : Int) : Bool := ((stuck_Room_votes_c1_yp_Y53_1pGvLGpFi20_e0 ([] : List Int) x0 x2 x3 x4 true).c4)
def stuck_Room_Moved_p_Fi20_e1 (x0 : Int) (x2 : List Int) (x3 : Int) (x4 : Int) : List Int := ((stuck_Room_votes_c1_yp_Y53_1pGvLGpFi20_e0 ([] : List Int) x0 x2 x3 x4 true).c6)
def stuck_Room_Moved_p_Fi20_c0 (x0 : Int) (x2 : List Int) (x3 : Int) (x4 : Int) : Bool := (bif tb ((x4 : Int) == (wi (x0 - 1))) then (bif tb (stuck_Room_Votes_p_Fi20_c0 x0 x2 x3 x4) then (bif tb (order_Spread_o_c0 (stuck_Room_Moved_p_Fi20_e1 x0 x2 x3 x4)) then true else false) else false) else true)
def stuck_Room_Moved_p_Fi20_r0_0 (x0 : Int) (x1 : Int) (x2 : List Int) (x3 : Int) (x4 : Int) : Bool := (bif tb ((x4 : Int) == (wi (x0 - 1))) then (decide (x1 < (order_Spread_o_r0_0 (stuck_Room_Moved_p_Fi20_e1 x0 x2 x3 x4)))) else false)
theorem stuck_Room_Moved_p_Fi20_t0 (x0 : Int) (x1 : Int) (x2 : List Int) (x3 : Int) (x4 : Int) (x5 : Bool) : stuck_Room_Moved_p_Fi20_c0 x0 x2 x3 x4 = true → cl E0 55 [(V.ptr 0 1 0 0)] [(Blk.flat 82 20 [([(.int .i64 x0), (.int .i64 x1)] ++ arrD .i64 x2 16 ++ [(.int .i64 x3), (.int .i64 x4)])] x5)] = some ([(V.d (.bool (stuck_Room_Moved_p_Fi20_r0_0 x0 x1 x2 x3 x4)))], [(Blk.flat 82 20 [([(.int .i64 x0), (.int .i64 x1)] ++ arrD .i64 x2 16 ++ [(.int .i64 x3), (.int .i64 x4)])] x5)]) := by
  unfold stuck_Room_Moved_p_Fi20_c0 stuck_Room_Moved_p_Fi20_r0_0
  cases h1 : tb ((x4 : Int) == (wi (x0 - 1)))
  · intro g0
    exact w55 [.k true, .b (tbE h1)] (by kernel_rfl)
  · cases h2 : tb (stuck_Room_Votes_p_Fi20_c0 x0 x2 x3 x4)
    · intro g0
      exact absurd g0 ft
    · cases h3 : tb (order_Spread_o_c0 (stuck_Room_Moved_p_Fi20_e1 x0 x2 x3 x4))
      · intro g0
        exact absurd g0 ft
      · intro g0
        exact w55 [.k true, .b (tbE h1), .c (stuck_Room_Votes_p_Fi20_t0 x0 x1 x2 x3 x4 x5 (tbE h2)), .y (mm := [(Blk.flat 82 20 [([(.int .i64 x0), (.int .i64 x1)] ++ arrD .i64 x2 16 ++ [(.int .i64 x3), (.int .i64 x4)])] x5), (Blk.flat 3 1 (List.map (encI .i64) ((stuck_Room_votes_c1_yp_Y53_1pGvLGpFi20_e0 ([] : List Int) x0 x2 x3 x4 true).c6)) false)]) (args := [(V.so ((stuck_Room_votes_c1_yp_Y53_1pGvLGpFi20_e0 ([] : List Int) x0 x2 x3 x4 true).c4) 1 (((stuck_Room_votes_c1_yp_Y53_1pGvLGpFi20_e0 ([] : List Int) x0 x2 x3 x4 true).c6).length))]) (args1 := [(V.d (slD (encI .i64) true 1 ((stuck_Room_votes_c1_yp_Y53_1pGvLGpFi20_e0 ([] : List Int) x0 x2 x3 x4 true).c4) ((stuck_Room_votes_c1_yp_Y53_1pGvLGpFi20_e0 ([] : List Int) x0 x2 x3 x4 true).c6)))]) (byvals_cons (byval_so (enc := (encI .i64)) (l := ((stuck_Room_votes_c1_yp_Y53_1pGvLGpFi20_e0 ([] : List Int) x0 x2 x3 x4 true).c6)) (b := ((stuck_Room_votes_c1_yp_Y53_1pGvLGpFi20_e0 ([] : List Int) x0 x2 x3 x4 true).c4)) (e := 3) (s := 1) (p := false) (n := (((stuck_Room_votes_c1_yp_Y53_1pGvLGpFi20_e0 ([] : List Int) x0 x2 x3 x4 true).c6).length)) (Nat.beq_refl _) (by kernel_rfl)) (by kernel_rfl)), .c (order_Spread_o_t0 (stuck_Room_Moved_p_Fi20_e0 x0 x2 x3 x4) (stuck_Room_Moved_p_Fi20_e1 x0 x2 x3 x4) (tbE h3)), .e (u := (V.d (.int .i64 x1))) (u' := (V.d (.int .i64 x1))) rfl] (by kernel_rfl)
theorem stuck_Watch_Miss_p_Gpi2Fi20_t0 (x0 : Int) (x1 : Int) (x2 : List Int) (x3 : Int) (x4 : Int) (x5 : Int) (x6 : Int) (x8 : Bool) : cl E0 50 [(V.ptr 0 1 0 0)] [(Blk.gen 84 3 [[(V.ptr 1 1 0 0), (V.d (.int .i64 x5)), (V.d (.int .i64 x6))]] false), (Blk.flat 82 20 [([(.int .i64 x0), (.int .i64 x1)] ++ arrD .i64 x2 16 ++ [(.int .i64 x3), (.int .i64 x4)])] x8)] = some ([], [(Blk.gen 84 3 [[(V.ptr 1 1 0 0), (V.d (.int .i64 x5)), (V.d (.int .i64 0))]] false), (Blk.flat 82 20 [([(.int .i64 x0), (.int .i64 x1)] ++ arrD .i64 x2 16 ++ [(.int .i64 x3), (.int .i64 x4)])] x8)]) := by
  exact w50 [.k true] (by kernel_rfl)
def stuck_Watch_Come_pi_Gpi2Fi20_c0 (x0 : Int) (x2 : List Int) (x3 : Int) (x4 : Int) (x5 : Int) (x6 : Int) (x9 : Int) : Bool := (bif tb (stuck_right_i_r0_0 x9) then (bif tb ((x6 : Int) == 0) then (bif tb (((mnI 1 x0) : Int) == x0) then (bif tb (stuck_Room_Moved_p_Fi20_c0 x0 x2 x3 x4) then true else false) else true) else (bif tb ((x9 : Int) != x5) then (bif tb (((mnI 1 x0) : Int) == x0) then (bif tb (stuck_Room_Moved_p_Fi20_c0 x0 x2 x3 x4) then true else false) else true) else (bif tb (((mnI (wi (x6 + 1)) x0) : Int) == x0) then (bif tb (stuck_Room_Moved_p_Fi20_c0 x0 x2 x3 x4) then true else false) else true))) else true)
def stuck_Watch_Come_pi_Gpi2Fi20_r0_0 (x0 : Int) (x1 : Int) (x2 : List Int) (x3 : Int) (x4 : Int) (x5 : Int) (x6 : Int) (x9 : Int) : Bool := (bif tb (stuck_right_i_r0_0 x9) then (bif tb ((x6 : Int) == 0) then (bif tb (((mnI 1 x0) : Int) == x0) then (stuck_Room_Moved_p_Fi20_r0_0 x0 x1 x2 x3 x4) else false) else (bif tb ((x9 : Int) != x5) then (bif tb (((mnI 1 x0) : Int) == x0) then (stuck_Room_Moved_p_Fi20_r0_0 x0 x1 x2 x3 x4) else false) else (bif tb (((mnI (wi (x6 + 1)) x0) : Int) == x0) then (stuck_Room_Moved_p_Fi20_r0_0 x0 x1 x2 x3 x4) else false))) else false)
def stuck_Watch_Come_pi_Gpi2Fi20_r0_1 (x9 : Int) : Int := (bif tb (stuck_right_i_r0_0 x9) then 0 else 1)
def stuck_Watch_Come_pi_Gpi2Fi20_r0_2 (x5 : Int) (x9 : Int) : Int := (bif tb (stuck_right_i_r0_0 x9) then x9 else x5)
def stuck_Watch_Come_pi_Gpi2Fi20_r0_3 (x0 : Int) (x5 : Int) (x6 : Int) (x9 : Int) : Int := (bif tb (stuck_right_i_r0_0 x9) then (bif tb ((x6 : Int) == 0) then (mnI 1 x0) else (bif tb ((x9 : Int) != x5) then (mnI 1 x0) else (mnI (wi (x6 + 1)) x0))) else x6)
theorem stuck_Watch_Come_pi_Gpi2Fi20_t0 (x0 : Int) (x1 : Int) (x2 : List Int) (x3 : Int) (x4 : Int) (x5 : Int) (x6 : Int) (x8 : Bool) (x9 : Int) : stuck_Watch_Come_pi_Gpi2Fi20_c0 x0 x2 x3 x4 x5 x6 x9 = true → cl E0 51 [(V.ptr 0 1 0 0), (V.d (.int .i64 x9))] [(Blk.gen 84 3 [[(V.ptr 1 1 0 0), (V.d (.int .i64 x5)), (V.d (.int .i64 x6))]] false), (Blk.flat 82 20 [([(.int .i64 x0), (.int .i64 x1)] ++ arrD .i64 x2 16 ++ [(.int .i64 x3), (.int .i64 x4)])] x8)] = some ([(V.d (.bool (stuck_Watch_Come_pi_Gpi2Fi20_r0_0 x0 x1 x2 x3 x4 x5 x6 x9))), (V.d (.int .i64 (stuck_Watch_Come_pi_Gpi2Fi20_r0_1 x9)))], [(Blk.gen 84 3 [[(V.ptr 1 1 0 0), (V.d (.int .i64 (stuck_Watch_Come_pi_Gpi2Fi20_r0_2 x5 x9))), (V.d (.int .i64 (stuck_Watch_Come_pi_Gpi2Fi20_r0_3 x0 x5 x6 x9)))]] false), (Blk.flat 82 20 [([(.int .i64 x0), (.int .i64 x1)] ++ arrD .i64 x2 16 ++ [(.int .i64 x3), (.int .i64 x4)])] x8)]) := by
  unfold stuck_Watch_Come_pi_Gpi2Fi20_c0 stuck_Watch_Come_pi_Gpi2Fi20_r0_0 stuck_Watch_Come_pi_Gpi2Fi20_r0_1 stuck_Watch_Come_pi_Gpi2Fi20_r0_2 stuck_Watch_Come_pi_Gpi2Fi20_r0_3
  cases h1 : tb (stuck_right_i_r0_0 x9)
  · intro g0
    exact w51 [.k false, .c (stuck_right_i_t0 x9), .b (notF (tbE h1))] (by kernel_rfl)
  · cases h2 : tb ((x6 : Int) == 0)
    · cases h3 : tb ((x9 : Int) != x5)
      · cases h4 : tb (((mnI (wi (x6 + 1)) x0) : Int) == x0)
        · intro g0
          exact w51 [.k false, .c (stuck_right_i_t0 x9), .b (notT (tbE h1)), .b (tbE h2), .b (tbE h3), .b (tbE h4)] (by kernel_rfl)
        · cases h5 : tb (stuck_Room_Moved_p_Fi20_c0 x0 x2 x3 x4)
          · intro g0
            exact absurd g0 ft
          · intro g0
            exact w51 [.k false, .c (stuck_right_i_t0 x9), .b (notT (tbE h1)), .b (tbE h2), .b (tbE h3), .b (tbE h4), .c (stuck_Room_Moved_p_Fi20_t0 x0 x1 x2 x3 x4 x8 (tbE h5))] (by kernel_rfl)
      · cases h4 : tb (((mnI 1 x0) : Int) == x0)
        · intro g0
          exact w51 [.k false, .c (stuck_right_i_t0 x9), .b (notT (tbE h1)), .b (tbE h2), .b (tbE h3), .b (tbE h4)] (by kernel_rfl)
        · cases h5 : tb (stuck_Room_Moved_p_Fi20_c0 x0 x2 x3 x4)
          · intro g0
            exact absurd g0 ft
          · intro g0
            exact w51 [.k false, .c (stuck_right_i_t0 x9), .b (notT (tbE h1)), .b (tbE h2), .b (tbE h3), .b (tbE h4), .c (stuck_Room_Moved_p_Fi20_t0 x0 x1 x2 x3 x4 x8 (tbE h5))] (by kernel_rfl)
    · cases h3 : tb (((mnI 1 x0) : Int) == x0)
      · intro g0
        exact w51 [.k false, .c (stuck_right_i_t0 x9), .b (notT (tbE h1)), .b (tbE h2), .b (tbE h3)] (by kernel_rfl)
      · cases h4 : tb (stuck_Room_Moved_p_Fi20_c0 x0 x2 x3 x4)
        · intro g0
          exact absurd g0 ft
        · intro g0
          exact w51 [.k false, .c (stuck_right_i_t0 x9), .b (notT (tbE h1)), .b (tbE h2), .b (tbE h3), .c (stuck_Room_Moved_p_Fi20_t0 x0 x1 x2 x3 x4 x8 (tbE h4))] (by kernel_rfl)
end Go.Proofs.Ytdlhhoejnhjbhaa.Den
