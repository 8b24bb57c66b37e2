/- Each instruction of the evaluator is what the model's operation does: new memory, stores. -/
import Derived.Test.YtgalchmjpfmemaaDenOps3
namespace Go.Proofs.Ytgalchmjpfmemaa.Den
open Go
set_option linter.unusedVariables false
set_option linter.unusedSimpArgs false

variable {P : Program}

/-- 'execOp' at an operation that yields a value. -/
theorem run_v {s : Sem Value} {u : Value} {w w' : World} (h : s.run P w = .ok u w') : ((do pure (.value (← s)) : Sem Next)).run P w = .ok (.value u) w' := by
  simp [h]

theorem run_u {s : Sem Unit} {w w' : World} (h : s.run P w = .ok () w') : ((do s; pure .skip : Sem Next)).run P w = .ok .skip w' := by
  simp [h]

theorem fillRows_ok {E : Env} {c : Cx} {t : Nat → V} {a : Act} (ht : TRel c t a) (hg : GlOK E c) {size : Nat} :
    ∀ (ps : List (Nat × Operand)) (qs : List (Nat × O)) (rows rows' : List (List V)) (us : List Value),
    (∀ (j : Nat) (i : Nat) (x : Operand), ps[j]? = some (i, x) → ∃ o : O, cO x = some o ∧ qs[j]? = some (i, o)) → qs.length = ps.length → (∀ r, r ∈ rows → r.length = size) →
    fillRows E t size qs rows = some rows' → RelVs c rows.flatten us → (∀ u, u ∈ us → OneC u) →
    ∃ us', Instr.fill (fun i => some (i * size, size)) us.toArray (ps.map fun p => (p.1, a.eval p.2)) = some us'.toArray ∧ RelVs c rows'.flatten us' ∧ (∀ u, u ∈ us' → OneC u) ∧ rows'.length = rows.length ∧ (∀ r, r ∈ rows' → r.length = size)
  | [], qs, rows, rows', us, _, hl, hz, hf, hr, h1 => by
    have : qs = [] := List.length_eq_zero_iff.1 (by simpa using hl)
    subst this
    simp [fillRows] at hf; subst hf
    exact ⟨us, by simp [Instr.fill], hr, h1, rfl, hz⟩
  | (i, x) :: ps, [], rows, rows', us, _, hl, hz, hf, hr, h1 => by simp at hl
  | (i, x) :: ps, (i', o) :: qs, rows, rows', us, hp, hl, hz, hf, hr, h1 => by
    obtain ⟨o', hx, hq⟩ := hp 0 i x (by simp)
    simp at hq
    obtain ⟨rfl, rfl⟩ := hq
    simp only [fillRows] at hf
    split at hf
    case isFalse => cases hf
    rename_i hc
    obtain ⟨hc1, hc2, hc3⟩ := hc
    obtain ⟨k1, k2⟩ := cells_rel (ev_rel ht hg hx) hc3
    have hlen := k1.len
    have hul := hr.len
    have hfl := flatten_len hz
    have hsz : (a.eval x).cells.size = size := by rw [← Array.length_toList, hlen, hc1]
    have hle : i' * size + size ≤ rows.length * size := by
      have := Nat.mul_le_mul_right size (show i' + 1 ≤ rows.length by omega)
      rw [Nat.add_mul] at this; omega
    have hset : ∀ (l : List (List V)) (k : Nat) (r : List V), (∀ r, r ∈ l → r.length = size) → k < l.length → r.length = size → (l.set k r).flatten = l.flatten.take (k * size) ++ r ++ l.flatten.drop (k * size + size) := by
      intro l
      induction l with
      | nil => intro k r _ hk; simp at hk
      | cons y l ih =>
        intro k r hy hk hr
        have hyl := hy y (by simp)
        cases k with
        | zero => simp [← hyl]
        | succ k =>
          simp only [List.set_cons_succ, List.flatten_cons]
          rw [ih k r (fun r hr => hy r (List.mem_cons_of_mem _ hr)) (by simpa using hk) hr]
          have e1 : (y ++ l.flatten).take ((k + 1) * size) = y ++ l.flatten.take (k * size) := by
            rw [Nat.add_mul, Nat.one_mul, Nat.add_comm, ← hyl, List.take_length_add_append]
          have e2 : (y ++ l.flatten).drop ((k + 1) * size + size) = l.flatten.drop (k * size + size) := by
            rw [show (k + 1) * size + size = y.length + (k * size + size) by rw [hyl, Nat.add_mul]; omega, ← List.drop_drop, List.drop_left]
          rw [e1, e2]; simp
    have hrel : RelVs c (rows.set i' (ev E t o).cells).flatten (us.take (i' * size) ++ (a.eval x).cells.toList ++ us.drop (i' * size + size)) := by
      rw [hset rows i' _ hz hc2 hc1]
      exact ((RelVs.take _ hr).append k1).append (RelVs.drop _ hr)
    obtain ⟨us', g1, g2, g3, g4, g5⟩ := fillRows_ok ht hg ps qs _ rows' _ (fun j i' x' hj => by
        have := hp (j + 1) i' x' (by simpa using hj); simpa using this) (by simpa using hl) (fun r hr => by
        rcases List.mem_or_eq_of_mem_set hr with hr | hr
        · exact hz r hr
        · rw [hr]; exact hc1) hf hrel (fun u hu => by
        rcases List.mem_append.1 hu with hu | hu
        · rcases List.mem_append.1 hu with hu | hu
          · exact h1 u (List.mem_of_mem_take hu)
          · exact k2 u hu
        · exact h1 u (List.mem_of_mem_drop hu))
    refine ⟨us', ?_, g2, g3, by simpa using g4, g5⟩
    rw [List.map_cons, fill_cons (fun i => some (i * size, size)) us.toArray i' (a.eval x) _ (i' * size) size rfl hsz (by simp; omega)]
    simpa using g1

theorem replicate_flat (z : List V) : ∀ n : Nat, (List.replicate n z).flatten.length = n * z.length
  | 0 => by simp
  | n + 1 => by simp [List.replicate_succ, replicate_flat z n, Nat.add_mul]; omega

/-- The zero cells that make and a literal begin with. -/
theorem zeros_rel {c : Cx} {z : List V} {zs : List Value} (h : RelVs c z zs) (h1 : ∀ u, u ∈ zs → OneC u) (n : Nat) (hpos : 0 < zs.length) :
    RelVs c (List.replicate n z).flatten ((Array.range (n * zs.length)).map (fun i => zs.toArray[i % zs.toArray.size]!)).toList ∧
    ∀ u, u ∈ ((Array.range (n * zs.length)).map (fun i => zs.toArray[i % zs.toArray.size]!)).toList → OneC u := by
  have key : ((Array.range (n * zs.length)).map (fun i => zs.toArray[i % zs.toArray.size]!)).toList = (List.replicate n zs).flatten := by
    apply List.ext_getElem?
    intro j
    simp only [Array.toList_map, Array.toList_range, List.getElem?_map]
    by_cases hj : j < n * zs.length
    · have hd : j / zs.length < n := (Nat.div_lt_iff_lt_mul hpos).2 hj
      have hm : j % zs.length < zs.length := Nat.mod_lt _ hpos
      have := flatten_at (s := zs.length) (l := List.replicate n zs) (fun r hr => by rw [(List.mem_replicate.1 hr).2]) (j / zs.length) (j % zs.length) zs zs[j % zs.length]
        (by simp [List.getElem?_replicate, hd]) (List.getElem?_eq_getElem hm)
      have e : j / zs.length * zs.length + j % zs.length = j := by rw [Nat.mul_comm]; exact Nat.div_add_mod j zs.length
      rw [e] at this
      rw [this]
      simp [List.getElem?_range, hj, getElem!_def, hm]
    · have h2 : ((List.replicate n zs).flatten)[j]? = none := List.getElem?_eq_none (by
        rw [flatten_len (s := zs.length) (fun r hr => by rw [(List.mem_replicate.1 hr).2])]; simp; omega)
      rw [h2]
      simp [List.getElem?_eq_none, hj]
  rw [key]
  constructor
  · clear key
    induction n with
    | zero => simp [RelVs]
    | succ n ih => simp only [List.replicate_succ, List.flatten_cons]; exact h.append ih
  · intro u hu
    obtain ⟨l, hl, hu⟩ := List.mem_flatten.1 hu
    rw [(List.mem_replicate.1 hl).2] at hu
    exact h1 u hu

section
variable {E : Env} {c : Cx} {t : Nat → V} {a : Act}

theorem good_alloc (hs : PSim P c) {e : TypeId} {z : List D} {fl : Bool} {b : Blk} (hz : zeroOf P e = some z) (hpos : 0 < z.length) (h : mkBlk e fl z.length [z.map V.d] = some b) :
    Good P c (c.m ++ [b]) (.ptr c.m.length 1 0 0) (do pure (.value (← Instr.alloc e true (.tuple #[])))) := by
  obtain ⟨zv, h1, h2⟩ := zeroOf_run hz c.w
  obtain ⟨r1, r2⟩ := constCells_rel (c := c) h2
  have hp := new_block hs h hpos (by simp) (us := zv.cells.toList) (by simpa using r1) r2
  refine Good.new (c' := cxNew c b _) (run_v (u := .pointer (some ⟨c.w.heap.size, 0, none⟩)) ?_) rfl hp (new_ptr (mkBlk_spec h).2.2.2.2.1)
  simp [Instr.alloc, h1, newVar, newRow, cxNew]

theorem good_box (hs : PSim P c) {e : TypeId} {fl : Bool} {size : Nat} {b : Blk} {x : V} {xv : Value} (hr : RelV c x xv) (hk : x.cellsOk = true) (hl : x.cells.length = size) (hpos : 0 < size)
    (h : mkBlk e fl size [x.cells] = some b) : Good P c (c.m ++ [b]) (.ptr c.m.length 1 0 0) (do pure (.value (← Instr.box e xv))) := by
  obtain ⟨r1, r2⟩ := cells_rel hr hk
  have hp := new_block hs h hpos (by simpa using hl) (us := xv.cells.toList) (by simpa using r1) r2
  refine Good.new (c' := cxNew c b _) (run_v (u := .pointer (some ⟨c.w.heap.size, 0, none⟩)) ?_) rfl hp (new_ptr (mkBlk_spec h).2.2.2.2.1)
  simp [Instr.box, newVar, newRow, cxNew]

theorem good_bslice (hs : PSim P c) (ht : TRel c t a) (hg : GlOK E c) {ty e : TypeId} {fl : Bool} {size len : Nat} {z : List D} {parts : Array (Nat × Operand)} {qs : List (Nat × O)} {rows : List (List V)} {b : Blk}
    (hu : P.underlying ty = some (.slice e)) (hsz : sizeOfT P e = some size) (hz : zeroOf P e = some z) (hzl : z.length = size) (hq : cPartsS parts.toList = some qs) (hlen : len * size ≤ 16777216) (hpos : 0 < size)
    (hf : fillRows E t size qs (List.replicate len (z.map V.d)) = some rows) (h : mkBlk e fl size rows = some b) :
    Good P c (c.m ++ [b]) (.sl c.m.length len 0 len) (do pure (.value (← Instr.buildSlice ty len (parts.map fun (i, x) => (i, a.eval x))))) := by
  obtain ⟨zv, h1, h2⟩ := zeroOf_run hz c.w
  obtain ⟨r1, r2⟩ := constCells_rel (c := c) h2
  have hzv : zv.cells.toList.length = size := by rw [r1.len]; simpa using hzl
  have hrep : ∀ r, r ∈ List.replicate len (z.map V.d) → r.length = size := fun r hr => by rw [(List.mem_replicate.1 hr).2]; simpa using hzl
  obtain ⟨k1, k2⟩ := zeros_rel r1 r2 len (by omega)
  obtain ⟨q1, q2⟩ := cPartsS_spec hq
  obtain ⟨us', g1, g2, g3, g4, g5⟩ := fillRows_ok ht hg parts.toList qs _ rows _ q2 q1 hrep hf k1 k2
  have hp := new_block hs h hpos g5 g2 g3
  have hbl : b.len = len := by rw [(mkBlk_spec h).2.2.2.2.1, g4]; simp
  have husl : us'.length = len * size := by rw [g2.len, flatten_len g5, g4]; simp
  have hv : RelV (cxNew c b (c.w.alloc (.cells ⟨us'⟩ e))) (.sl c.m.length len 0 len) (.slice (some ⟨c.w.heap.size, 0, none⟩) len len) := by
    have := new_sl (c := c) (b := b) (w' := c.w.alloc (.cells ⟨us'⟩ e)) (cap := len) (e := e) (by omega) (by rw [shape_alloc, husl, (mkBlk_spec h).2.2.1])
    rw [hbl] at this; exact this
  refine Good.new (c' := cxNew c b _) (run_v (u := .slice (some ⟨c.w.heap.size, 0, none⟩) len len) ?_) rfl hp hv
  simp only [Array.toArray_toList] at g1
  rw [hzv] at g1
  have hzs : zv.cells.size = size := by rw [← Array.length_toList]; exact hzv
  by_cases h0 : len * size = 0
  · have hl0 : len = 0 := by rcases Nat.mul_eq_zero.1 h0 with h | h <;> omega
    subst hl0
    have e0 : (Array.range (0 * size)).map (fun i => zv.cells[i % zv.cells.size]!) = #[] := by simp
    rw [e0] at g1
    simp only [Instr.buildSlice, run_underlying hu, Sem.run_bind, Result.andThen_ok, sizeOf_run hsz, parts_toList]
    simp
    rw [show Array.map (fun _ => (default : Value)) (Array.range 0) = #[] from by apply Array.ext'; simp, g1]
    simp [newRow, cxNew]
  · have hn : ¬ (2 ^ 24 < len * size) := by omega
    have hn' : ¬ (16777216 < len * size) := by omega
    simp only [Instr.buildSlice, run_underlying hu, Sem.run_bind, Result.andThen_ok, sizeOf_run hsz, parts_toList]
    simp [h0, hn', h1, g1, newRow, cxNew]

end
end Go.Proofs.Ytgalchmjpfmemaa.Den
