/- Each instruction of the evaluator is what the model's operation does: what changes memory; numbers. -/
import Derived.Test.YtgalchmjpfmemaaDenOps
namespace Go.Proofs.Ytgalchmjpfmemaa.Den
open Go
set_option linter.unusedVariables false
set_option linter.unusedSimpArgs false

variable {P : Program}

/-- What an operation comes to. -/
def Good (P : Program) (c : Cx) (m' : Mem) (v : V) (s : Sem Next) : Prop :=
  (∃ u c', (s.run P c.w = .ok (.value u) c'.w ∨ (s.run P c.w = .ok .skip c'.w ∧ u = undef)) ∧ c'.m = m' ∧ Post P c c' ∧ RelV c' v u) ∨
  (∃ f args, s.run P c.w = .ok (.enter f args) c.w ∧ Calls P f args c.w fun e w' => ∃ u c', e = .returned u ∧ c'.w = w' ∧ c'.m = m' ∧ Post P c c' ∧ RelV c' v u)

theorem Good.wp {c : Cx} {m' : Mem} {v : V} {o : Oper} {a : Act} {next : Act → World → Prop} {Q : Exit → Act → World → Prop} (h : Good P c m' v (execOp a.eval o))
    (hk : ∀ c' u, c'.m = m' → Post P c c' → RelV c' v u → next (a.put o.dst u) c'.w) : o.wp P a c.w next Q := by
  unfold Oper.wp
  rcases h with ⟨u, c', h1 | ⟨h1, rfl⟩, h2, h3, h4⟩ | ⟨f, args, h1, h2⟩
  · rw [h1]; exact hk c' u h2 h3 h4
  · rw [h1]; exact hk c' undef h2 h3 h4
  · rw [h1, Oper.upon_enter]
    refine h2.mono ?_
    rintro e w' ⟨u, c', rfl, rfl, g2, g3, g4⟩
    exact hk c' u g2 g3 g4

theorem Good.val {c : Cx} (hs : PSim P c) {v : V} {u : Value} {s : Sem Next} (h : s.run P c.w = .ok (.value u) c.w) (hr : RelV c v u) : Good P c c.m v s :=
  .inl ⟨u, c, .inl h, rfl, Post.refl hs, hr⟩

theorem Good.new {c : Cx} {m' : Mem} {v : V} {u : Value} {s : Sem Next} {c' : Cx} (h : s.run P c.w = .ok (.value u) c'.w) (hm : c'.m = m') (hp : Post P c c') (hr : RelV c' v u) : Good P c m' v s :=
  .inl ⟨u, c', .inl h, hm, hp, hr⟩

/-! ### new blocks -/

theorem toSs_eq : ∀ {l : List V} {ds : List D}, toSs l = some ds → l = ds.map V.d ∧ ∀ x, x ∈ ds → D.scalar x = true
  | [], ds, h => by simp [toSs] at h; subst h; simp
  | .d x :: r, ds, h => by
    simp only [toSs] at h
    split at h
    · rename_i hx
      obtain ⟨l, hl, rfl⟩ := Option.map_eq_some_iff.1 h
      obtain ⟨h1, h2⟩ := toSs_eq hl
      subst h1
      refine ⟨rfl, fun y hy => ?_⟩
      rcases List.mem_cons.1 hy with rfl | hy
      · exact hx
      · exact h2 y hy
    · cases h
  | .un :: r, ds, h => by simp [toSs] at h
  | .ptr .. :: r, ds, h => by simp [toSs] at h
  | .sl .. :: r, ds, h => by simp [toSs] at h
  | .sa .. :: r, ds, h => by simp [toSs] at h
  | .pa .. :: r, ds, h => by simp [toSs] at h
  | .fn .. :: r, ds, h => by simp [toSs] at h
  | .yl .. :: r, ds, h => by simp [toSs] at h
  | .ifc .. :: r, ds, h => by simp [toSs] at h
  | .agg .. :: r, ds, h => by simp [toSs] at h
  | .tup .. :: r, ds, h => by simp [toSs] at h

theorem allSs_eq : ∀ {l : List (List V)} {rs : List (List D)}, allSs l = some rs → l = rs.map (List.map V.d) ∧ ∀ r, r ∈ rs → ∀ x, x ∈ r → D.scalar x = true
  | [], rs, h => by simp [allSs] at h; subst h; simp
  | r :: l, rs, h => by
    simp only [allSs] at h
    cases h1 : toSs r with
    | none => simp [h1] at h
    | some a =>
      cases h2 : allSs l with
      | none => simp [h1, h2] at h
      | some b =>
        simp [h1, h2] at h; subst h
        obtain ⟨e1, p1⟩ := toSs_eq h1
        obtain ⟨e2, p2⟩ := allSs_eq h2
        subst e1; subst e2
        refine ⟨rfl, fun x hx => ?_⟩
        rcases List.mem_cons.1 hx with rfl | hx
        · exact p1
        · exact p2 x hx

theorem mkBlk_spec {e : TypeId} {flat : Bool} {s : Nat} {rows : List (List V)} {b : Blk} (h : mkBlk e flat s rows = some b) :
    b.isLoop = false ∧ b.elem = e ∧ b.size = s ∧ b.vrows = rows ∧ b.len = rows.length ∧ b.prot = false ∧ b.plain := by
  unfold mkBlk at h
  split at h
  · obtain ⟨rs, hr, rfl⟩ := Option.map_eq_some_iff.1 h
    obtain ⟨h1, h2⟩ := allSs_eq hr
    subst h1
    exact ⟨rfl, rfl, rfl, rfl, by simp [Blk.len], rfl, h2⟩
  · cases h; exact ⟨rfl, rfl, rfl, rfl, rfl, rfl, trivial⟩

/-- A new block of just these cells. -/
theorem new_block {c : Cx} (hs : PSim P c) {e : TypeId} {flat : Bool} {s : Nat} {rows : List (List V)} {b : Blk} (h : mkBlk e flat s rows = some b) (hpos : 0 < s) (hrows : ∀ r, r ∈ rows → r.length = s)
    {us : List Value} (hus : RelVs c rows.flatten us) (h1 : ∀ u, u ∈ us → OneC u) :
    Post P c (cxNew c b (c.w.alloc (.cells ⟨us⟩ e))) := by
  obtain ⟨g1, g2, g3, g4, g5, g6, g7⟩ := mkBlk_spec h
  have hl : us.length = rows.length * s := by rw [hus.len, flatten_len hrows]
  refine (new_alloc hs b _).cells (us := us) (rest := []) (fr := (0, 0)) (cap := rows.length) g1 ?_ (.inl rfl) (by rw [g3]; exact hpos) (by rw [g3]; simpa using hl) (by rw [g4]; exact hus) h1 (by rw [g4, g3]; exact hrows) g7
  rw [heap_alloc_self, g2]; simp

theorem new_ptr {c : Cx} {b : Blk} {w' : World} (hb : b.len = 1) : RelV (cxNew c b w') (.ptr c.m.length 1 0 0) (.pointer (some ⟨c.w.heap.size, 0, none⟩)) := by
  simp only [RelV]
  exact ⟨b, _, by simp [cxNew], by omega, rfl, fun _ => ⟨c.w.heap.size, by simp [cxNew, updφ], by simp⟩⟩

theorem new_sl {c : Cx} {b : Blk} {w' : World} {cap : Nat} {e : TypeId} (hc : b.len ≤ cap) (hsh : w'.shape? c.w.heap.size = some (e, cap * b.size)) :
    RelV (cxNew c b w') (.sl c.m.length b.len 0 b.len) (.slice (some ⟨c.w.heap.size, 0, none⟩) b.len cap) := by
  simp only [RelV]
  exact ⟨b, _, cap, by simp [cxNew], by omega, rfl, hc, fun _ => ⟨c.w.heap.size, e, by simp [cxNew, updφ], by simp, by simpa [cxNew] using hsh⟩⟩

theorem shape_alloc (w : World) (cs : List Value) (e : TypeId) : (w.alloc (.cells ⟨cs⟩ e)).shape? w.heap.size = some (e, cs.length) := by
  simp only [World.shape?]; rw [heap_alloc_self]; simp

theorem newRow_run (w : World) (e : TypeId) (cs : Array Value) : (newRow e cs).run P w = .ok ⟨w.heap.size, 0, none⟩ (w.alloc (.cells cs e)) := by
  simp [newRow]

/-! ### values as cells -/

theorem OneC_iff (v : Value) : OneC v ↔ v.oneCell' = true := by cases v <;> simp [OneC, Value.oneCell']

theorem one {c : Cx} {v : V} {u : Value} (h : RelV c v u) (hv : v.cells = [v]) (hu : u.cells.toList = [u]) (h1 : OneC u) : RelVs c v.cells u.cells.toList ∧ ∀ x, x ∈ u.cells.toList → OneC x := by
  rw [hv, hu]
  exact ⟨by simp only [RelVs]; exact ⟨u, [], rfl, h, rfl⟩, fun x hx => by simp at hx; subst hx; exact h1⟩

theorem cells_rel {c : Cx} {v : V} {u : Value} (h : RelV c v u) (hk : v.cellsOk = true) : RelVs c v.cells u.cells.toList ∧ ∀ x, x ∈ u.cells.toList → OneC x := by
  cases v with
  | agg cs =>
    simp only [RelV] at h
    obtain ⟨a, rfl, h1, h2⟩ := h
    exact ⟨h1, h2⟩
  | un => simp [V.cellsOk, V.cellOk] at hk
  | tup vs => simp [V.cellsOk, V.cellOk] at hk
  | d x =>
    have h' := h
    cases x <;> simp only [RelV, RelD] at h
    case bool => subst h; simp [V.cells, Value.cells, RelVs, RelV, RelD, OneC]
    case int => subst h; simp [V.cells, Value.cells, RelVs, RelV, RelD, OneC]
    case str => subst h; simp [V.cells, Value.cells, RelVs, RelV, RelD, OneC]
    case nilp => subst h; simp [V.cells, Value.cells, RelVs, RelV, RelD, OneC]
    case nils => subst h; simp [V.cells, Value.cells, RelVs, RelV, RelD, OneC]
    case nilf => subst h; simp [V.cells, Value.cells, RelVs, RelV, RelD, OneC]
    case nili => subst h; simp [V.cells, Value.cells, RelVs, RelV, RelD, OneC]
    case rs => obtain ⟨_, _, _, b, o, sp, cap, rfl, _⟩ := h; exact one h' rfl (by simp [Value.cells]) (by simp [OneC])
    case rp => obtain ⟨b, o, rfl, _⟩ := h; exact one h' rfl (by simp [Value.cells]) (by simp [OneC])
  | ptr id n row off =>
    have h' := h
    simp only [RelV] at h; obtain ⟨_, a, _, _, rfl, _⟩ := h; exact one h' rfl (by simp [Value.cells]) (by simp [OneC])
  | sl id n off len =>
    have h' := h
    simp only [RelV] at h; obtain ⟨_, a, _, _, _, rfl, _⟩ := h; exact one h' rfl (by simp [Value.cells]) (by simp [OneC])
  | sa id n row off s len =>
    have h' := h
    simp only [RelV] at h; obtain ⟨_, a, _, _, _, rfl, _⟩ := h; exact one h' rfl (by simp [Value.cells]) (by simp [OneC])
  | pa id n off len =>
    have h' := h
    simp only [RelV] at h; obtain ⟨_, a, _, _, rfl, _⟩ := h; exact one h' rfl (by simp [Value.cells]) (by simp [OneC])
  | fn f a b =>
    have h' := h
    simp only [RelV] at h; obtain ⟨_, _, rfl, _⟩ := h; exact one h' rfl (by simp [Value.cells]) (by simp [OneC])
  | yl id =>
    have h' := h
    simp only [RelV] at h; obtain ⟨_, _, _, _, _, rfl⟩ := h; exact one h' rfl (by simp [Value.cells]) (by simp [OneC])
  | ifc t x =>
    have h' := h
    simp only [RelV] at h; obtain ⟨_, rfl, _⟩ := h; exact one h' rfl (by simp [Value.cells]) (by simp [OneC])

end Go.Proofs.Ytgalchmjpfmemaa.Den
