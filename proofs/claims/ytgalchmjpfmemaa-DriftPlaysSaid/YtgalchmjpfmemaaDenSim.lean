/- Small laws for working the evaluator out by 'simp'. -/
import Derived.Test.YtgalchmjpfmemaaDenRow
namespace Go.Proofs.Ytgalchmjpfmemaa.Den
open Go

theorem wrap64 {x : Int} (h1 : -9223372036854775808 ≤ x) (h2 : x ≤ 9223372036854775807) : IntKind.i64.wrap x = x := by
  unfold IntKind.wrap
  simp [IntKind.bits, IntKind.signed]
  omega

theorem callD_succ {E : Env} {n f : Nat} {F : CFunc} {args : List V} {m : Mem} (he : E.ext f args m = none) (h : E.cf f = some F) : callD E (n + 1) f args m = runF E (callD E n) F args m := by
  simp only [callD, he, h]

theorem callE {P : Program} {n f : Nat} {F : CFunc} {args : List V} {m : Mem} (h : cAt P f = some F) : callD (envOf P) (n + 1) f args m = runF (envOf P) (callD (envOf P) n) F args m :=
  callD_succ rfl h

/-- A loop, told round by round. -/
theorem iter_more {f : S → Option (X × S)} : ∀ {k k' : Nat} {s : S} {r : X × S}, k ≤ k' → iter f k s = some r → iter f k' s = some r
  | 0, _, _, _, _, h => by simp [iter] at h
  | k + 1, 0, _, _, hk, _ => by omega
  | k + 1, k' + 1, s, r, hk, h => by
    simp only [iter] at h ⊢
    cases hf : f s with
    | none => simp [hf] at h
    | some y =>
      obtain ⟨x, s'⟩ := y
      cases x with
      | normal => simp only [hf] at h ⊢; exact iter_more (by omega) h
      | exit i => simp only [hf] at h ⊢; exact h
      | ret => simp only [hf] at h ⊢; exact h

theorem iter_step {f : S → Option (X × S)} {k : Nat} {s s' : S} (h : f s = some (.normal, s')) : iter f (k + 1) s = iter f k s' := by
  simp only [iter, h]

theorem iter_end {f : S → Option (X × S)} {k : Nat} {s s' : S} {x : X} (h : f s = some (x, s')) (hx : x ≠ .normal) : iter f (k + 1) s = some (x, s') := by
  cases x with
  | normal => exact absurd rfl hx
  | exit i => simp only [iter, h]
  | ret => simp only [iter, h]

/-- A loop with a measure: each round either ends it, or goes on with less. -/
theorem iter_inv {f : S → Option (X × S)} (J : Nat → S → Prop) (Q : X × S → Prop) (h : ∀ n s, J n s → (∃ x s', f s = some (x, s') ∧ x ≠ .normal ∧ Q (x, s')) ∨ ∃ m s', m < n ∧ f s = some (.normal, s') ∧ J m s') :
    ∀ (n : Nat) (s : S), J n s → ∀ k, n < k → ∃ r, iter f k s = some r ∧ Q r := by
  intro n
  induction n using Nat.strongRecOn with
  | ind n ih =>
    intro s hJ k hk
    obtain ⟨k, rfl⟩ : ∃ k', k = k' + 1 := ⟨k - 1, by omega⟩
    rcases h n s hJ with ⟨x, s', h1, h2, h3⟩ | ⟨m, s', hm, h1, h2⟩
    · exact ⟨_, iter_end h1 h2, h3⟩
    · obtain ⟨r, g1, g2⟩ := ih m hm s' h2 k (by omega)
      exact ⟨r, by rw [iter_step h1]; exact g1, g2⟩

theorem bound_eq : bound = 1152921504606846975 + 1 := rfl

end Go.Proofs.Ytgalchmjpfmemaa.Den
namespace Go.Proofs.Ytgalchmjpfmemaa.Den
open Go

@[simp] theorem upd_eq (t : Nat → V) (i : Nat) (v : V) : upd t i v i = v := by simp [upd]
@[simp] theorem upd_ne {t : Nat → V} {i j : Nat} {v : V} (h : j ≠ i) : upd t i v j = t j := by simp [upd, h]

section
variable (E : Env) (call : CallT)
@[simp] theorem runC_skip (s : S) : runC E call .skip s = some (.normal, s) := rfl
@[simp] theorem runC_seq (a b : C) (s : S) : runC E call (.seq a b) s = match runC E call a s with | some (.normal, s') => runC E call b s' | r => r := rfl
@[simp] theorem runC_cond (c : O) (a b : C) (s : S) : runC E call (.cond c a b) s = match ev E s.t c with | .d (.bool true) => runC E call a s | .d (.bool false) => runC E call b s | _ => none := rfl
@[simp] theorem runC_block (id : Nat) (b : C) (s : S) : runC E call (.block id b) s = match runC E call b s with | some (.exit i, s') => if i = id then some (.normal, s') else some (.exit i, s') | r => r := rfl
@[simp] theorem runC_exit (id : Nat) (s : S) : runC E call (.exit id) s = some (.exit id, s) := rfl
@[simp] theorem runC_scope (b : C) (s : S) : runC E call (.scope b) s = runC E call b s := rfl
@[simp] theorem runC_ret (s : S) : runC E call .ret s = some (.ret, s) := rfl
@[simp] theorem runC_reg (qs ts : List OpC) (s : S) : runC E call (.reg qs ts) s = match opsC (doQ E call) qs s with | some s1 => (match opsC (doI E call) ts s1 with | some s2 => some (.normal, s2) | none => none) | none => none := rfl
theorem runC_loop (b : C) (s : S) : runC E call (.loop b) s = iter (runC E call b) bound s := rfl

@[simp] theorem opsC_nil (step : I → (Nat → V) → Mem → Option (V × Mem)) (s : S) : opsC step [] s = some s := rfl
@[simp] theorem opsC_none (step : I → (Nat → V) → Mem → Option (V × Mem)) (d : Option Nat) (i : I) (r : List OpC) (s : S) : opsC step (⟨d, none, i⟩ :: r) s = match step i s.t s.m with | some (v, m') => opsC step r ⟨putT s.t d v, m'⟩ | none => none := rfl
@[simp] theorem opsC_some (step : I → (Nat → V) → Mem → Option (V × Mem)) (d : Option Nat) (j : Nat) (w : Bool) (i : I) (r : List OpC) (s : S) : opsC step (⟨d, some (j, w), i⟩ :: r) s =
    match s.t j with
    | .d (.bool b) => (match b == w with | true => (match step i s.t s.m with | some (v, m') => opsC step r ⟨putT s.t d v, m'⟩ | none => none) | false => opsC step r ⟨putT s.t d (.tup []), s.m⟩)
    | .tup [] => opsC step r ⟨putT s.t d (.tup []), s.m⟩
    | _ => none := by
  simp only [opsC, wantedC]
  cases s.t j with
  | d x => cases x <;> simp <;> rename_i b <;> cases (b == w) <;> rfl
  | tup l => cases l <;> rfl
  | _ => rfl

@[simp] theorem putT_none (t : Nat → V) (v : V) : putT t none v = t := rfl
@[simp] theorem putT_some (t : Nat → V) (i : Nat) (v : V) : putT t (some i) v = upd t i v := rfl
@[simp] theorem ev_t (t : Nat → V) (i : Nat) : ev E t (.t i) = t i := rfl
@[simp] theorem ev_v (t : Nat → V) (x : V) : ev E t (.v x) = x := rfl
@[simp] theorem evs_nil (t : Nat → V) : evs E t [] = [] := rfl
@[simp] theorem evs_cons (t : Nat → V) (x : O) (l : List O) : evs E t (x :: l) = ev E t x :: evs E t l := rfl
@[simp] theorem initT_nil (j : Nat) : initT [] j = .tup [] := by simp [initT]
@[simp] theorem initT_zero (v : V) (l : List V) : initT (v :: l) 0 = v := by simp [initT]
@[simp] theorem initT_succ (v : V) (l : List V) (j : Nat) : initT (v :: l) (j + 1) = initT l j := by simp [initT]
end

attribute [simp] runF resVs resV doI doQ

mutual
theorem ren_noids {ρ : Nat → Option Nat} : ∀ (v : V), v.ids = [] → v.ren ρ = v
  | .d x, _ => rfl
  | .un, _ => rfl
  | .ptr _ _ _ _, h => by simp [V.ids] at h
  | .sl _ _ _ _, h => by simp [V.ids] at h
  | .sa _ _ _ _ _ _, h => by simp [V.ids] at h
  | .pa _ _ _ _, h => by simp [V.ids] at h
  | .yl _, h => by simp [V.ids] at h
  | .fn f a b, h => by
    simp only [V.ids, List.append_eq_nil_iff] at h
    simp only [V.ren]
    rw [rens_noids a h.1, rens_noids b h.2]
  | .ifc t v, h => by simp only [V.ids] at h; simp only [V.ren]; rw [ren_noids v h]
  | .agg cs, h => by simp only [V.ids] at h; simp only [V.ren]; rw [rens_noids cs h]
  | .tup cs, h => by simp only [V.ids] at h; simp only [V.ren]; rw [rens_noids cs h]
theorem rens_noids {ρ : Nat → Option Nat} : ∀ (l : List V), V.idss l = [] → V.rens ρ l = l
  | [], _ => rfl
  | v :: r, h => by
    simp only [V.idss, List.append_eq_nil_iff] at h
    simp only [V.rens]
    rw [ren_noids v h.1, rens_noids r h.2]
end

@[simp] theorem tidy_nil {rs : List V} : tidy 0 (rs, []) = some (rs, []) := rfl

/-- Of a function that was handed data alone, and leaves data alone, no block of its own is left. -/
theorem tidy_data {rs : List V} {m : Mem} (h : V.idss rs = []) : tidy 0 (rs, m) = some (rs, []) := by
  unfold tidy
  cases m with
  | nil => rfl
  | cons b m =>
    have : ¬ ((b :: m).length = 0) := by simp
    simp only [this, if_false, h]
    have e : (reach (b :: m) 1000 ([] ++ List.range 0) []).filter (fun x => decide (0 ≤ x)) = [] := rfl
    simp only [e, distinct, if_true, pickBlks, Option.map_some, rens_noids _ h]
    rfl

/-- A call that is handed data alone, and leaves data alone. -/
theorem callV_data {call : CallT} {f : FuncId} {args args' : List V} {m : Mem} {rs : List V} (h : call f args' [] = some (rs, [])) (h2 : V.byvals m args = args' := by rfl) (h3 : V.idss args' = [] := by rfl) (h4 : V.idss rs = [] := by rfl) (h5 : V.noRss rs = true := by rfl) :
    callV call f args m = some (rs, m) := by
  unfold callV
  simp only [h2, h3]
  have e : reach m 1000 [] [] = [] := rfl
  simp only [e, distinct, List.contains_nil, Bool.not_false, Bool.true_and, pickBlks, Option.bind_some]
  rw [rens_noids _ h3, h]
  simp [rens_noids _ h4, layBack, restBlks, h5]

theorem callOf_data {call : CallT} {f : FuncId} {args args' : List V} {m : Mem} {rs : List V} (h : call f args' [] = some (rs, [])) (h2 : V.byvals m args = args' := by rfl) (h3 : V.idss args' = [] := by rfl) (h4 : V.idss rs = [] := by rfl) (h5 : V.noRss rs = true := by rfl) :
    callOf call (.fn (.func f) [] []) args m = some (packV rs, m) := by
  simp only [callOf, List.nil_append, List.append_nil]
  rw [callV_data h h2 h3 h4 h5]; rfl

/-- What there is for each, told by a function. -/
theorem skolem {Pre : (Nat → V) → Mem → Prop} {Q : (Nat → V) → Mem → (Nat → V) → Prop} (h : ∀ t m, Pre t m → ∃ t', Q t m t') : ∃ R : (Nat → V) → Mem → (Nat → V), ∀ t m, Pre t m → Q t m (R t m) := by
  classical
  exact ⟨fun t m => if h' : Pre t m then Classical.choose (h t m h') else t, fun t m h' => by simp only [h', dif_pos]; exact Classical.choose_spec (h t m h')⟩

theorem skolem2 {α β : Type} [Inhabited β] {Pre : α → Prop} {Q : α → β → Prop} (h : ∀ t, Pre t → ∃ t', Q t t') : ∃ R : α → β, ∀ t, Pre t → Q t (R t) := by
  classical
  exact ⟨fun t => if h' : Pre t then Classical.choose (h t h') else default, fun t h' => by simp only [h', dif_pos]; exact Classical.choose_spec (h t h')⟩

end Go.Proofs.Ytgalchmjpfmemaa.Den
