/- Regions that draw their order: congruence, and the bits that order operations. -/
import Derived.Test.YtgalchmjpfmemaaDenFn
import Derived.Orders
namespace Go.Proofs.Ytgalchmjpfmemaa.Den
open Go
set_option linter.unusedVariables false
set_option linter.unusedSimpArgs false

theorem fillV_congr {E : Env} {t t' : Nat → V} : ∀ (ps : List (Nat × Nat × O)) (cs : List V), (∀ o, o ∈ ps.map (·.2.2) → ev E t o = ev E t' o) → fillV E t ps cs = fillV E t' ps cs
  | [], cs, _ => rfl
  | (off, sz, x) :: r, cs, h => by
    simp only [fillV]
    rw [h x (by simp), fillV_congr r _ fun o ho => h o (by simp at ho ⊢; exact .inr ho)]

theorem fillRows_congr {E : Env} {t t' : Nat → V} {sz : Nat} : ∀ (ps : List (Nat × O)) (cs : List (List V)), (∀ o, o ∈ ps.map (·.2) → ev E t o = ev E t' o) → fillRows E t sz ps cs = fillRows E t' sz ps cs
  | [], cs, _ => rfl
  | (i, x) :: r, cs, h => by
    simp only [fillRows]
    rw [h x (by simp), fillRows_congr r _ fun o ho => h o (by simp at ho ⊢; exact .inr ho)]

theorem evs_congr {E : Env} {t t' : Nat → V} {l : List O} (h : ∀ o, o ∈ l → ev E t o = ev E t' o) : evs E t l = evs E t' l := List.map_congr_left h

theorem optNat_congr {E : Env} {t t' : Nat → V} {o : Option O} {n : Nat} (h : ∀ x, x ∈ o.toList → ev E t x = ev E t' x) : optNat E t o n = optNat E t' o n := by
  cases o with
  | none => rfl
  | some x => simp only [optNat]; rw [h x (by simp)]

theorem doI_congr {E : Env} {call : CallT} {i : I} {t t' : Nat → V} {m : Mem} (h : ∀ o, o ∈ i.ops → ev E t o = ev E t' o) : doI E call i t m = doI E call i t' m := by
  cases i with
  | build z ps => simp only [doI]; rw [fillV_congr ps _ h]
  | bslice e f s n z ps => simp only [doI]; rw [fillRows_congr ps _ h]
  | mkfn f a b => simp only [doI]; rw [evs_congr (l := a) fun o ho => h o (by simp [I.ops, ho]), evs_congr (l := b) fun o ho => h o (by simp [I.ops, ho])]
  | call f args => simp only [doI]; rw [h f (by simp [I.ops]), evs_congr (l := args) fun o ho => h o (by simp [I.ops, ho])]
  | mx xs => simp only [doI]; rw [evs_congr (l := xs) h]
  | mn xs => simp only [doI]; rw [evs_congr (l := xs) h]
  | slice s x lo hi mx =>
    simp only [doI]
    rw [h x (by simp [I.ops])]
    have h1 : ∀ n, optNat E t lo n = optNat E t' lo n := fun n => optNat_congr fun y hy => h y (by simp only [I.ops, List.mem_cons, List.mem_append]; exact .inr (.inl (.inl hy)))
    have h2 : ∀ n, optNat E t hi n = optNat E t' hi n := fun n => optNat_congr fun y hy => h y (by simp only [I.ops, List.mem_cons, List.mem_append]; exact .inr (.inl (.inr hy)))
    simp only [h1, h2]
    cases mx with
    | none => rfl
    | some k => simp only [h k (by simp [I.ops])]
  | slstr x lo hi =>
    simp only [doI]
    rw [h x (by simp [I.ops])]
    have h1 : ∀ n, optNat E t lo n = optNat E t' lo n := fun n => optNat_congr fun y hy => h y (by simp only [I.ops, List.mem_cons, List.mem_append]; exact .inr (.inl hy))
    have h2 : ∀ n, optNat E t hi n = optNat E t' hi n := fun n => optNat_congr fun y hy => h y (by simp only [I.ops, List.mem_cons, List.mem_append]; exact .inr (.inr hy))
    simp only [h1, h2]
  | slarr n s x lo hi mx =>
    simp only [doI]
    rw [h x (by simp [I.ops])]
    have h1 : ∀ n, optNat E t lo n = optNat E t' lo n := fun n => optNat_congr fun y hy => h y (by simp only [I.ops, List.mem_cons, List.mem_append]; exact .inr (.inl (.inl hy)))
    have h2 : ∀ n, optNat E t hi n = optNat E t' hi n := fun n => optNat_congr fun y hy => h y (by simp only [I.ops, List.mem_cons, List.mem_append]; exact .inr (.inl (.inr hy)))
    simp only [h1, h2]
  | conv k x => simp only [doI]; rw [h x (by simp [I.ops])]
  | _ => simp only [I.ops, List.mem_cons, List.mem_nil_iff, or_false, forall_eq_or_imp, forall_eq] at h <;> simp only [doI, h] <;> rfl

/-- Temporaries that agree where an operation looks. -/
theorem look_congr {E : Env} {oc : OpC} {t t' : Nat → V} (h : ∀ d, d ∈ oc.looks → t d = t' d) : (∀ o, o ∈ oc.ins.ops → ev E t o = ev E t' o) ∧ wantedC oc.guard t = wantedC oc.guard t' := by
  constructor
  · intro o ho
    cases o with
    | t i => exact h i (by simp only [OpC.looks, List.mem_append, List.mem_filterMap]; exact .inl ⟨.t i, ho, rfl⟩)
    | v x => rfl
    | g x => rfl
  · cases hg : oc.guard with
    | none => rfl
    | some jw =>
      obtain ⟨j, w⟩ := jw
      simp only [wantedC]
      rw [h j (by simp [OpC.looks, hg])]

theorem apartC_spec {x y : OpC} (h : apartC x y = true) : (∀ d, x.dst = some d → d ∉ y.looks ∧ y.dst ≠ some d) ∧ (∀ d, y.dst = some d → d ∉ x.looks ∧ x.dst ≠ some d) := by
  simp only [apartC, Bool.and_eq_true] at h
  refine ⟨fun d hd => ?_, fun d hd => ?_⟩
  · have := h.1; simp [hd] at this; exact this
  · refine ⟨?_, fun hx => ?_⟩
    · have := h.2; simp [hd] at this; exact this
    · have := h.1; simp [hx] at this; exact this.2 hd

/-! ### the bits -/

/-- A bit of an operation's number: an edge's own, or one of an edge's. -/
theorem one_bit (look : Nat → Nat) (o : Oper) (i : Nat) (h : (CheckFast.one look o).testBit i = true) : ∃ e, e ∈ o.after ∧ Region.binds .any e = true ∧ (e.on = i ∨ (look e.on).testBit i = true) := by
  unfold CheckFast.one at h
  have key : ∀ (l : List Edge) (s : Nat), (l.foldl (fun s e => if Region.binds .any e then s ||| 2 ^ e.on ||| look e.on else s) s).testBit i = true → s.testBit i = true ∨ ∃ e, e ∈ l ∧ Region.binds .any e = true ∧ (e.on = i ∨ (look e.on).testBit i = true) := by
    intro l
    induction l with
    | nil => intro s h; exact .inl h
    | cons e l ih =>
      intro s h
      simp only [List.foldl_cons] at h
      rcases ih _ h with h1 | ⟨e', h1, h2, h3⟩
      · split at h1
        · rename_i hb
          simp only [Nat.testBit_or, Bool.or_eq_true] at h1
          rcases h1 with (h1 | h1) | h1
          · exact .inl h1
          · rw [Nat.testBit_two_pow] at h1
            exact .inr ⟨e, by simp, hb, .inl (by simpa using h1)⟩
          · exact .inr ⟨e, by simp, hb, .inr h1⟩
        · exact .inl h1
      · exact .inr ⟨e', by simp [h1], h2, h3⟩
  rw [← Array.foldl_toList] at h
  rcases key _ _ h with h1 | ⟨e, h1, h2, h3⟩
  · simp at h1
  · exact ⟨e, by simpa using h1, h2, h3⟩

/-- The numbers, one by one. -/
theorem beforeL_at : ∀ (l : List Oper) (j : Nat) (acc : List Nat), acc.length = j →
    (CheckFast.beforeL l j acc).length = j + l.length ∧ (∀ i, i < j → (CheckFast.beforeL l j acc)[i]? = acc[j - 1 - i]?) ∧
    ∀ (k : Nat) (o : Oper), l[k]? = some o → (CheckFast.beforeL l j acc).getD (j + k) 0 = CheckFast.one (fun i => if i < j + k then (CheckFast.beforeL l j acc).getD i 0 else 0) o
  | [], j, acc, h => by
    simp only [CheckFast.beforeL]
    refine ⟨by simp [h], fun i hi => ?_, fun k o hk => by simp at hk⟩
    rw [List.getElem?_reverse (by omega), h]
  | o :: rest, j, acc, h => by
    simp only [CheckFast.beforeL, CheckFast.force_eq]
    obtain ⟨h1, h2, h3⟩ := beforeL_at rest (j + 1) (CheckFast.one (fun i => if i < j then acc.getD (j - 1 - i) 0 else 0) o :: acc) (by simp [h])
    refine ⟨by rw [h1]; simp; omega, fun i hi => ?_, fun k o' hk => ?_⟩
    · rw [h2 i (by omega), show j + 1 - 1 - i = (j - 1 - i) + 1 by omega]; simp
    · cases k with
      | zero =>
        simp at hk; subst hk
        have e0 := h2 j (by omega)
        generalize hR : CheckFast.beforeL rest (j + 1) (CheckFast.one (fun i => if i < j then acc.getD (j - 1 - i) 0 else 0) o :: acc) = R at *
        rw [show j + 1 - 1 - j = 0 by omega] at e0
        have e1 : R.getD (j + 0) 0 = CheckFast.one (fun i => if i < j then acc.getD (j - 1 - i) 0 else 0) o := by
          rw [Nat.add_zero, List.getD_eq_getElem?_getD, e0]; rfl
        rw [e1]
        congr 1
        funext i
        by_cases hi : i < j
        · rw [if_pos hi, if_pos (by omega), List.getD_eq_getElem?_getD, List.getD_eq_getElem?_getD, h2 i (by omega), show j + 1 - 1 - i = (j - 1 - i) + 1 by omega]
          simp
        · rw [if_neg hi, if_neg (by omega)]
      | succ k =>
        have := h3 k o' (by simpa using hk)
        rw [show j + (k + 1) = j + 1 + k by omega]; exact this

theorem before_at {ops : Array Oper} {j : Nat} {o : Oper} (h : ops[j]? = some o) :
    (CheckFast.beforeF ops).getD j 0 = CheckFast.one (fun i => if i < j then (CheckFast.beforeF ops).getD i 0 else 0) o := by
  have := (beforeL_at ops.toList 0 [] rfl).2.2 j o (by simpa using h)
  simp only [Nat.zero_add, List.getD_eq_getElem?_getD] at this
  simp only [CheckFast.beforeF, Array.getD_eq_getD_getElem?, List.getElem?_toArray]
  exact this

/-- Who is listed has all ahead of it listed. -/
def Closed (ops : Array Oper) (L : Nat → Bool) : Prop := ∀ (i : Nat) (o : Oper), ops[i]? = some o → L i = true → ∀ e, e ∈ o.after → Region.binds .any e = true → L e.on = true

theorem bits_listed {ops : Array Oper} {L : Nat → Bool} (hL : Closed ops L) : ∀ (n j : Nat), j < n → ∀ (o : Oper), ops[j]? = some o → (∀ e, e ∈ o.after → Region.binds .any e = true → L e.on = true) →
    ∀ i, ((CheckFast.beforeF ops).getD j 0).testBit i = true → L i = true
  | 0, j, hj, _, _, _, _, _ => by omega
  | n + 1, j, hj, o, ho, he, i, hb => by
    rw [before_at ho] at hb
    obtain ⟨e, h1, h2, h3⟩ := one_bit _ _ _ hb
    rcases h3 with h3 | h3
    · exact h3 ▸ he e h1 h2
    · split at h3
      · rename_i hlt
        have hon := he e h1 h2
        have hsz : e.on < ops.size := by have := (Array.getElem?_eq_some_iff.1 ho).1; omega
        exact bits_listed hL n e.on (by omega) ops[e.on] (by simp [hsz]) (hL e.on _ (by simp [hsz]) hon) i h3
      · simp at h3

theorem tailAt_le (b : Array Nat) : ∀ n, tailAt b n ≤ n
  | 0 => by simp [tailAt]
  | n + 1 => by
    simp only [tailAt]
    split
    · exact Nat.le_succ_of_le (tailAt_le b n)
    · omega

theorem tailAt_spec (b : Array Nat) : ∀ (n q : Nat), tailAt b n ≤ q → q < n → b.getD q 0 = 2 ^ q - 1
  | 0, q, _, h => by omega
  | n + 1, q, h1, h2 => by
    simp only [tailAt] at h1
    split at h1
    · rename_i hb
      by_cases e : q = n
      · subst e; exact hb
      · exact tailAt_spec b n q h1 (by omega)
    · omega

end Go.Proofs.Ytgalchmjpfmemaa.Den
