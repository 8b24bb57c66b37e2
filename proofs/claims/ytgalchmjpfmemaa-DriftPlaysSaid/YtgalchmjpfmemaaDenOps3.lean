/- Each instruction of the evaluator is what the model's operation does: aggregates and rows. -/
import Derived.Test.YtgalchmjpfmemaaDenOps2
namespace Go.Proofs.Ytgalchmjpfmemaa.Den
open Go
set_option linter.unusedVariables false
set_option linter.unusedSimpArgs false

variable {P : Program}

theorem run_mapM_list {α β : Type} (f : α → Sem β) (g : α → β) (w : World) : ∀ (l : List α), (∀ a, a ∈ l → (f a).run P w = .ok (g a) w) → (l.mapM f).run P w = .ok (l.map g) w
  | [], _ => by simp
  | a :: l, h => by
    have h1 := h a (by simp)
    have h2 := run_mapM_list f g w l (fun b hb => h b (List.mem_cons_of_mem _ hb))
    simp [List.mapM_cons, h1, h2]

theorem run_mapM_array {α β : Type} (f : α → Sem β) (g : α → β) (w : World) (l : Array α) (h : ∀ a, a ∈ l.toList → (f a).run P w = .ok (g a) w) : (l.mapM f).run P w = .ok (l.map g) w := by
  rw [Array.mapM_eq_mapM_toList]
  simp only [Sem.run_map, run_mapM_list f g w l.toList h, Result.andThen_ok]
  congr 1
  apply Array.ext'
  simp

theorem foldl_set : ∀ (c : List Value) (k : Nat) (cells : Array Value) (off : Nat), off + k + c.length ≤ cells.size →
    ((c.zipIdx k).foldl (fun (cs : Array Value) (p : Value × Nat) => cs.setIfInBounds (off + p.2) p.1) cells).toList = cells.toList.take (off + k) ++ c ++ cells.toList.drop (off + k + c.length)
  | [], k, cells, off, h => by simp
  | x :: c, k, cells, off, h => by
    simp only [List.length_cons] at h
    rw [List.zipIdx_cons, List.foldl_cons, foldl_set c (k + 1) _ off (by simp; omega)]
    have hk : off + k < cells.toList.length := by simp; omega
    simp only [Array.toList_setIfInBounds, List.length_cons]
    have e1 : (cells.toList.set (off + k) x).take (off + (k + 1)) = cells.toList.take (off + k) ++ [x] := by
      rw [show off + (k + 1) = off + k + 1 by omega, List.take_add_one]
      rw [List.take_set_of_le (Nat.le_refl _), List.getElem?_set_self hk]; rfl
    have e2 : (cells.toList.set (off + k) x).drop (off + (k + 1) + c.length) = cells.toList.drop (off + k + (c.length + 1)) := by
      rw [List.drop_set_of_lt (by omega)]; congr 1; omega
    rw [e1, e2]; simp

theorem foldl_set_arr (v : Array Value) (cells : Array Value) (off : Nat) (h : off + v.size ≤ cells.size) :
    (v.zipIdx.foldl (fun (cs : Array Value) (p : Value × Nat) => cs.setIfInBounds (off + p.2) p.1) cells).toList = cells.toList.take off ++ v.toList ++ cells.toList.drop (off + v.size) := by
  have := foldl_set v.toList 0 cells off (by simpa using h)
  rw [← Array.foldl_toList, Array.toList_zipIdx]
  simpa using this

theorem fill_cons (place : Nat → Option (Nat × Nat)) (cells : Array Value) (i : Nat) (v : Value) (rest : List (Nat × Value)) (off size : Nat) (h : place i = some (off, size)) (h1 : v.cells.size = size) (h2 : off + size ≤ cells.size) :
    Instr.fill place cells ((i, v) :: rest) = Instr.fill place (cells.toList.take off ++ v.cells.toList ++ cells.toList.drop (off + size)).toArray rest := by
  have e := foldl_set_arr v.cells cells off (by omega)
  simp only [Instr.fill, h]
  rw [if_neg (by simp [h1]; omega)]
  congr 1
  apply Array.ext'
  rw [h1] at e
  simpa using e

/-- Parts laid over cells, in the evaluator and in the model. -/
theorem fill_ok {E : Env} {c : Cx} {t : Nat → V} {a : Act} (ht : TRel c t a) (hg : GlOK E c) {place : Nat → Option (Nat × Nat)} :
    ∀ (ps : List (Nat × Operand)) (qs : List (Nat × Nat × O)) (cells cells' : List V) (us : List Value),
    (∀ (j : Nat) (i : Nat) (x : Operand), ps[j]? = some (i, x) → ∃ (off size : Nat) (o : O), qs[j]? = some (off, size, o) ∧ place i = some (off, size) ∧ cO x = some o) → qs.length = ps.length →
    fillV E t qs cells = some cells' → RelVs c cells us → (∀ u, u ∈ us → OneC u) →
    ∃ us', Instr.fill place us.toArray (ps.map fun p => (p.1, a.eval p.2)) = some us'.toArray ∧ RelVs c cells' us' ∧ (∀ u, u ∈ us' → OneC u) ∧ cells'.length = cells.length
  | [], qs, cells, cells', us, _, hl, hf, hr, h1 => by
    have : qs = [] := List.length_eq_zero_iff.1 (by simpa using hl)
    subst this
    simp [fillV] at hf; subst hf
    exact ⟨us, by simp [Instr.fill], hr, h1, rfl⟩
  | (i, x) :: ps, [], cells, cells', us, _, hl, hf, hr, h1 => by simp at hl
  | (i, x) :: ps, (off, size, o) :: qs, cells, cells', us, hp, hl, hf, hr, h1 => by
    obtain ⟨off', size', o', hq, hpl, hx⟩ := hp 0 i x (by simp)
    simp at hq
    obtain ⟨rfl, rfl, rfl⟩ := hq
    simp only [fillV] at hf
    split at hf
    case isFalse => cases hf
    rename_i hc
    obtain ⟨hc1, hc2, hc3⟩ := hc
    obtain ⟨k1, k2⟩ := cells_rel (ev_rel ht hg hx) hc3
    have hlen := k1.len
    have hul := hr.len
    have hsz : (a.eval x).cells.size = size := by rw [← Array.length_toList, hlen, hc1]
    obtain ⟨us', g1, g2, g3, g4⟩ := fill_ok ht hg ps qs _ cells' (us.take off ++ (a.eval x).cells.toList ++ us.drop (off + size)) (fun j i' x' hj => by
        have := hp (j + 1) i' x' (by simpa using hj); simpa using this) (by simpa using hl) hf
      ((RelVs.take off hr).append k1 |>.append (RelVs.drop (off + size) hr)) (fun u hu => by
        rcases List.mem_append.1 hu with hu | hu
        · rcases List.mem_append.1 hu with hu | hu
          · exact h1 u (List.mem_of_mem_take hu)
          · exact k2 u hu
        · exact h1 u (List.mem_of_mem_drop hu))
    refine ⟨us', ?_, g2, g3, ?_⟩
    · rw [List.map_cons, fill_cons place us.toArray i (a.eval x) _ off size hpl hsz (by simp; omega)]
      simpa using g1
    · rw [g4]; simp [hc1]; omega

theorem cParts_spec {fields : Array Field} : ∀ {ps : List (Nat × Operand)} {qs : List (Nat × Nat × O)}, cParts P fields ps = some qs →
    qs.length = ps.length ∧ ∀ (j : Nat) (i : Nat) (x : Operand), ps[j]? = some (i, x) → ∃ f s o, fields[i]? = some f ∧ sizeOfT P f.type = some s ∧ cO x = some o ∧ qs[j]? = some (f.offset, s, o)
  | [], qs, h => by simp [cParts] at h; subst h; simp
  | (i, x) :: ps, qs, h => by
    simp only [cParts] at h
    cases h1 : fields[i]? with
    | none => simp [h1] at h
    | some f =>
      cases h2 : cO x with
      | none => simp [h1, h2] at h
      | some o =>
        cases h3 : cParts P fields ps with
        | none => simp [h1, h2, h3] at h
        | some l =>
          cases h4 : sizeOfT P f.type with
          | none => simp [h1, h2, h3, h4] at h
          | some s =>
            simp [h1, h2, h3, h4] at h; subst h
            obtain ⟨g1, g2⟩ := cParts_spec h3
            refine ⟨by simp [g1], fun j i' x' hj => ?_⟩
            cases j with
            | zero => simp at hj; obtain ⟨rfl, rfl⟩ := hj; exact ⟨f, s, o, h1, h4, h2, by simp⟩
            | succ j => simpa using g2 j i' x' (by simpa using hj)

theorem cPartsA_spec {size : Nat} : ∀ {ps : List (Nat × Operand)} {qs : List (Nat × Nat × O)}, cPartsA size ps = some qs →
    qs.length = ps.length ∧ ∀ (j : Nat) (i : Nat) (x : Operand), ps[j]? = some (i, x) → ∃ o, cO x = some o ∧ qs[j]? = some (i * size, size, o)
  | [], qs, h => by simp [cPartsA] at h; subst h; simp
  | (i, x) :: ps, qs, h => by
    simp only [cPartsA] at h
    cases h2 : cO x with
    | none => simp [h2] at h
    | some o =>
      cases h3 : cPartsA size ps with
      | none => simp [h2, h3] at h
      | some l =>
        simp [h2, h3] at h; subst h
        obtain ⟨g1, g2⟩ := cPartsA_spec h3
        refine ⟨by simp [g1], fun j i' x' hj => ?_⟩
        cases j with
        | zero => simp at hj; obtain ⟨rfl, rfl⟩ := hj; exact ⟨o, h2, by simp⟩
        | succ j => simpa using g2 j i' x' (by simpa using hj)

theorem cPartsS_spec : ∀ {ps : List (Nat × Operand)} {qs : List (Nat × O)}, cPartsS ps = some qs →
    qs.length = ps.length ∧ ∀ (j : Nat) (i : Nat) (x : Operand), ps[j]? = some (i, x) → ∃ o, cO x = some o ∧ qs[j]? = some (i, o)
  | [], qs, h => by simp [cPartsS] at h; subst h; simp
  | (i, x) :: ps, qs, h => by
    simp only [cPartsS] at h
    cases h2 : cO x with
    | none => simp [h2] at h
    | some o =>
      cases h3 : cPartsS ps with
      | none => simp [h2, h3] at h
      | some l =>
        simp [h2, h3] at h; subst h
        obtain ⟨g1, g2⟩ := cPartsS_spec h3
        refine ⟨by simp [g1], fun j i' x' hj => ?_⟩
        cases j with
        | zero => simp at hj; obtain ⟨rfl, rfl⟩ := hj; exact ⟨o, h2, by simp⟩
        | succ j => simpa using g2 j i' x' (by simpa using hj)

theorem parts_toList (parts : Array (Nat × Operand)) (a : Act) : (parts.map fun (i, x) => (i, a.eval x)).toList = parts.toList.map fun p => (p.1, a.eval p.2) := by
  simp

/-- 'build' of a struct or an array. -/
theorem build_ok {E : Env} {c : Cx} {t : Nat → V} {a : Act} (ht : TRel c t a) (hg : GlOK E c) {ty : TypeId} {parts : Array (Nat × Operand)} {i : I} {cs : List V}
    (h : cOp P { dst := none, op := .build ty parts, type := 0, pos := "", after := #[], guard := none } = some i) (hd : ∃ z qs, i = .build z qs ∧ fillV E t qs (z.map V.d) = some cs) :
    ∃ u, (Instr.build ty (parts.map fun (i, x) => (i, a.eval x))).run P c.w = .ok u c.w ∧ RelV c (.agg cs) u := by
  simp only [cOp] at h
  cases hz : zeroOf P ty with
  | none => simp [hz] at h
  | some z =>
    obtain ⟨zv, hzr, hzc⟩ := zeroOf_run hz c.w
    obtain ⟨hzrel, hz1⟩ := constCells_rel (c := c) hzc
    cases hu : P.underlying ty with
    | none => simp [hz, hu] at h
    | some d =>
      cases d with
      | struct fs =>
        simp only [hz, hu] at h
        split at h
        case isFalse => cases h
        rename_i hall
        obtain ⟨qs, hq, rfl⟩ := Option.map_eq_some_iff.1 h
        obtain ⟨z', qs', e, hf⟩ := hd
        cases e
        obtain ⟨hl, hs⟩ := cParts_spec hq
        have hpl : ∀ (k : Nat) (f : Field), fs[k]? = some f → ∃ s, sizeOfT P f.type = some s := fun k f hk => by
          have := List.all_eq_true.1 hall f (by rw [Array.mem_toList_iff]; exact Array.mem_of_getElem? hk)
          exact Option.isSome_iff_exists.1 this
        have hmap : (fs.mapM fun f => do pure (f.offset, ← sizeOf f.type) : Sem _).run P c.w = .ok (fs.map fun f => (f.offset, (sizeOfT P f.type).getD 0)) c.w := by
          refine run_mapM_array _ _ c.w fs fun f hf => ?_
          obtain ⟨s, hs⟩ := Option.isSome_iff_exists.1 (List.all_eq_true.1 hall f hf)
          simp [sizeOf_run hs, hs]
        obtain ⟨us', g1, g2, g3, _⟩ := fill_ok ht hg (place := fun k => (fs.map fun f => (f.offset, (sizeOfT P f.type).getD 0))[k]?) parts.toList qs _ cs zv.cells.toList
          (fun j k x hj => by
            obtain ⟨f, s, o, q1, q2, q3, q4⟩ := hs j k x hj
            exact ⟨f.offset, s, o, q4, by simp [q1, q2], q3⟩) hl hf hzrel hz1
        refine ⟨.agg us'.toArray, ?_, by simp only [RelV]; exact ⟨us', rfl, g2, g3⟩⟩
        simp only [Array.toArray_toList] at g1
        simp only [Instr.build, Sem.run_bind, hzr, Result.andThen_ok, run_underlying hu, hmap, parts_toList]
        rw [g1]; simp
      | array n e =>
        simp only [hz, hu] at h
        obtain ⟨s, hsz, h⟩ := Option.bind_eq_some_iff.1 h
        obtain ⟨qs, hq, rfl⟩ := Option.map_eq_some_iff.1 h
        obtain ⟨z', qs', e, hf⟩ := hd
        cases e
        obtain ⟨hl, hs⟩ := cPartsA_spec hq
        obtain ⟨us', g1, g2, g3, _⟩ := fill_ok ht hg (place := fun k => some (k * s, s)) parts.toList qs _ cs zv.cells.toList
          (fun j k x hj => by
            obtain ⟨o, q3, q4⟩ := hs j k x hj
            exact ⟨k * s, s, o, q4, rfl, q3⟩) hl hf hzrel hz1
        refine ⟨.agg us'.toArray, ?_, by simp only [RelV]; exact ⟨us', rfl, g2, g3⟩⟩
        simp only [Array.toArray_toList] at g1
        simp only [Instr.build, Sem.run_bind, hzr, Result.andThen_ok, run_underlying hu, sizeOf_run hsz, parts_toList]
        rw [g1]; simp
      | _ => simp [hz, hu] at h

end Go.Proofs.Ytgalchmjpfmemaa.Den
