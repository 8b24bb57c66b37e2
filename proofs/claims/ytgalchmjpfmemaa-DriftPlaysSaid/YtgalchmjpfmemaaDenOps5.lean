/- Each instruction of the evaluator is what the model's operation does: stores, appends, copies. -/
import Derived.Test.YtgalchmjpfmemaaDenOps4
namespace Go.Proofs.Ytgalchmjpfmemaa.Den
open Go
set_option linter.unusedVariables false
set_option linter.unusedSimpArgs false

variable {P : Program}

theorem setCell_heap (w : World) (g o : Nat) (v : Value) (arr : Array Value) (e : TypeId) (fr : Nat × Nat) (h : w.heap[g]? = some (.cells arr e fr)) :
    (w.setCell ⟨g, o, none⟩ v).heap[g]? = some (.cells (arr.setIfInBounds o v) e fr) := by
  have hg := heap_lt h
  have hv : w.heap[g] = .cells arr e fr := (Array.getElem?_eq_some_iff.1 h).2
  simp [World.setCell, Array.getElem?_modify, h]

theorem setCell_other (w : World) (g o : Nat) (v : Value) (k : Nat) (h : k ≠ g) : (w.setCell ⟨g, o, none⟩ v).heap[k]? = w.heap[k]? := by
  simp [World.setCell, Array.getElem?_modify, Ne.symm h]

theorem setCells_heap (g : Nat) (e : TypeId) (fr : Nat × Nat) : ∀ (vs : List Value) (o : Nat) (w : World) (arr : Array Value), w.heap[g]? = some (.cells arr e fr) → o + vs.length ≤ arr.size →
    (w.setCells g o vs).heap[g]? = some (.cells ⟨arr.toList.take o ++ vs ++ arr.toList.drop (o + vs.length)⟩ e fr)
  | [], o, w, arr, h, _ => by
    simp only [World.setCells, List.append_nil, List.length_nil, Nat.add_zero, List.take_append_drop]; exact h
  | v :: r, o, w, arr, h, hl => by
    simp only [List.length_cons] at hl
    simp only [World.setCells]
    rw [setCells_heap g e fr r (o + 1) _ _ (setCell_heap w g o v arr e fr h) (by simp; omega)]
    have ho : o < arr.toList.length := by simp; omega
    congr 3
    simp only [Array.toList_setIfInBounds, List.length_cons]
    have e1 : (arr.toList.set o v).take (o + 1) = arr.toList.take o ++ [v] := by
      rw [List.take_add_one, List.take_set_of_le (Nat.le_refl _), List.getElem?_set_self ho]; rfl
    have e2 : (arr.toList.set o v).drop (o + 1 + r.length) = arr.toList.drop (o + (r.length + 1)) := by
      rw [List.drop_set_of_lt (by omega)]; congr 1; omega
    rw [e1, e2]; simp

theorem setCells_other (g : Nat) : ∀ (vs : List Value) (o : Nat) (w : World) (k : Nat), k ≠ g → (w.setCells g o vs).heap[k]? = w.heap[k]?
  | [], _, _, _, _ => rfl
  | v :: r, o, w, k, h => by simp only [World.setCells]; rw [setCells_other g r _ _ k h, setCell_other w g o v k h]

theorem setCells_frame (g : Nat) : ∀ (vs : List Value) (o : Nat) (w : World), (w.setCells g o vs).heap.size = w.heap.size ∧ (w.setCells g o vs).os = w.os ∧ (w.setCells g o vs).tape = w.tape ∧ (w.setCells g o vs).output = w.output
  | [], _, w => ⟨rfl, rfl, rfl, rfl⟩
  | v :: r, o, w => by
    simp only [World.setCells]
    obtain ⟨h1, h2, h3, h4⟩ := setCells_frame g r (o + 1) (w.setCell ⟨g, o, none⟩ v)
    exact ⟨h1.trans (by simp), h2, h3, h4⟩

/-- The same turn, at a world with cells set in place. -/
theorem turn_set {c : Cx} (hs : PSim P c) {id B : Nat} {b b' : Blk} (hb : c.m[id]? = some b) (hφ : c.φ id = some B) (hp : b.prot = false) (hp' : b'.prot = false) (hl : b.isLoop = false)
    (hsz : b'.size = b.size) (hlen : b.len ≤ b'.len) {arr : Array Value} {fr : Nat × Nat} (hh : c.w.heap[B]? = some (.cells arr b.elem fr)) {o : Nat} {vs : List Value} (hle : o + vs.length ≤ arr.size) :
    Turn P c id b b' B B (c.w.setCells B o vs) := by
  obtain ⟨f1, f2, f3, f4⟩ := setCells_frame B vs o c.w
  refine ⟨hs, hb, hφ, hp, hp', hl, hsz, hlen, fun _ => ⟨rfl, fun e n h => ?_⟩, .inl rfl, fun k x hk hx => by rw [setCells_other B vs o c.w k hk]; exact hx, by omega, f2, f3, f4⟩
  have := setCells_heap B b.elem fr vs o c.w arr hh hle
  simp only [World.shape?, hh] at h
  simp only [World.shape?, this]
  simp at h
  obtain ⟨rfl, rfl⟩ := h
  simp
  omega

/-- Some cells of a row, changed. -/
theorem setRow_spec {α : Type} {s : Nat} {rows rows' : List (List α)} {r off : Nat} {xs : List α} (hr : ∀ x, x ∈ rows → x.length = s) (h : setRow rows r off xs = some rows') :
    r < rows.length ∧ off + xs.length ≤ s ∧ rows'.length = rows.length ∧ (∀ x, x ∈ rows' → x.length = s) ∧
    rows'.flatten = rows.flatten.take (r * s + off) ++ xs ++ rows.flatten.drop (r * s + off + xs.length) := by
  unfold setRow at h
  split at h
  case h_2 => cases h
  rename_i c hc
  split at h
  case isFalse => cases h
  rename_i hle
  obtain rfl := Option.some.inj h
  have hcs : c.length = s := hr c (List.mem_of_getElem? hc)
  have hrl : r < rows.length := (List.getElem?_eq_some_iff.1 hc).1
  refine ⟨hrl, by omega, by simp, fun x hx => ?_, ?_⟩
  · rcases List.mem_or_eq_of_mem_set hx with hx | hx
    · exact hr x hx
    · subst hx; simp; omega
  · clear h
    induction rows generalizing r with
    | nil => simp at hrl
    | cons y l ih =>
      have hy := hr y (by simp)
      cases r with
      | zero =>
        simp at hc; subst hc
        simp only [List.set_cons_zero, List.flatten_cons, Nat.zero_mul, Nat.zero_add]
        rw [List.take_append_of_le_length (by omega), List.drop_append_of_le_length (by omega)]
        simp
      | succ r =>
        have := ih (r := r) (fun x hx => hr x (List.mem_cons_of_mem _ hx)) (by simpa using hc) (by simpa using hrl)
        simp only [List.set_cons_succ, List.flatten_cons]
        rw [this]
        have e1 : (r + 1) * s + off = y.length + (r * s + off) := by rw [Nat.add_mul, hy]; omega
        have e2 : ∀ K, (y ++ l.flatten).drop (y.length + K) = l.flatten.drop K := fun K => by rw [← List.drop_drop, List.drop_left]
        rw [e1, List.take_length_add_append, Nat.add_assoc y.length, e2]
        simp

theorem put_spec {b b' : Blk} {n r off : Nat} {xs : List V} (hrows : ∀ x, x ∈ b.vrows → x.length = b.size) (h : b.put? n r off xs = some b') :
    n = b.len ∧ b.prot = false ∧ b.isLoop = false ∧ b'.prot = false ∧ b'.isLoop = false ∧ b'.size = b.size ∧ b'.len = b.len ∧ b'.elem = b.elem ∧ r < b.len ∧ off + xs.length ≤ b.size ∧ (∀ x, x ∈ b'.vrows → x.length = b.size) ∧
    b'.vrows.flatten = b.vrows.flatten.take (r * b.size + off) ++ xs ++ b.vrows.flatten.drop (r * b.size + off + xs.length) ∧ (b.plain → b'.plain) := by
  cases b with
  | flat e s rows p =>
    cases p with
    | true => simp [Blk.put?] at h
    | false =>
      simp only [Blk.put?] at h
      split at h
      case isFalse => cases h
      rename_i hn
      obtain ⟨ys, hy, h⟩ := Option.bind_eq_some_iff.1 h
      obtain ⟨rows', hr', rfl⟩ := Option.map_eq_some_iff.1 h
      obtain ⟨rfl, hsc⟩ := toSs_eq hy
      have hrows' : ∀ x, x ∈ rows → x.length = s := fun x hx => by
        have := hrows (x.map V.d) (by simp only [Blk.vrows]; exact List.mem_map.2 ⟨x, hx, rfl⟩)
        simpa [Blk.size] using this
      obtain ⟨g1, g2, g3, g4, g5⟩ := setRow_spec hrows' hr'
      have hm : ∀ l : List (List D), (l.map (List.map V.d)).flatten = l.flatten.map V.d := fun l => by induction l <;> simp_all
      refine ⟨hn, rfl, rfl, rfl, rfl, rfl, g3, rfl, g1, by simpa [Blk.size] using g2, fun x hx => ?_, ?_, fun hp x hx y hy => ?_⟩
      · simp only [Blk.vrows] at hx
        obtain ⟨x0, h0, rfl⟩ := List.mem_map.1 hx
        simpa [Blk.size] using g4 x0 h0
      · simp only [Blk.vrows, Blk.size, hm, g5]; simp
      · -- the cells of the changed rows are those of the old ones, or new ones
        have hin : y ∈ rows'.flatten := List.mem_flatten.2 ⟨x, hx, hy⟩
        rw [g5] at hin
        have old : ∀ z, z ∈ rows.flatten → D.scalar z = true := fun z hz => by
          obtain ⟨l, hl, hz⟩ := List.mem_flatten.1 hz
          exact hp l hl z hz
        rcases List.mem_append.1 hin with hin | hin
        · rcases List.mem_append.1 hin with hin | hin
          · exact old y (List.mem_of_mem_take hin)
          · exact hsc y hin
        · exact old y (List.mem_of_mem_drop hin)
  | gen e s rows p =>
    cases p with
    | true => simp [Blk.put?] at h
    | false =>
      simp only [Blk.put?] at h
      split at h
      case isFalse => cases h
      rename_i hn
      obtain ⟨rows', hr', rfl⟩ := Option.map_eq_some_iff.1 h
      obtain ⟨g1, g2, g3, g4, g5⟩ := setRow_spec hrows hr'
      exact ⟨hn, rfl, rfl, rfl, rfl, rfl, g3, rfl, g1, g2, g4, g5, fun _ => trivial⟩
  | loop => simp [Blk.put?] at h

theorem blk_of_cells {c : Cx} {B : Nat} {b : Blk} (hl : b.isLoop = false) (h : CellsOK c B b) : BlkOK P c B b := by
  cases b with
  | flat => exact h
  | gen => exact h
  | loop => cases hl

/-- Cells of a block set: the evaluator's and the model's. -/
theorem cells_set {c : Cx} (hs : PSim P c) {id B : Nat} {b b' : Blk} (hb : c.m[id]? = some b) (hφ : c.φ id = some B) (hp : b.prot = false) (hp' : b'.prot = false) (hl : b.isLoop = false) (hl' : b'.isLoop = false)
    (hsz : b'.size = b.size) (hlen : b.len = b'.len) (he : b'.elem = b.elem) (hrows : ∀ x, x ∈ b'.vrows → x.length = b.size) (hpl : b.plain → b'.plain) {k : Nat} {xs : List V} {vs : List Value}
    (hfl : b'.vrows.flatten = b.vrows.flatten.take k ++ xs ++ b.vrows.flatten.drop (k + xs.length)) (hk : k + xs.length ≤ b.vrows.flatten.length) (hr : RelVs c xs vs) (h1 : ∀ u, u ∈ vs → OneC u) :
    Post P c (cxSet c id b' B (c.w.setCells B k vs)) ∧ (∀ j, j < vs.length → (c.w.cell? ⟨B, k + j, none⟩).isSome = true) ∧ (∀ j, j < vs.length → c.w.frozen? ⟨B, k + j, none⟩ = false) := by
  have hc := hs.cellsOK hb hφ hl
  obtain ⟨arr, fr, cap, us, rest, g1, g2, g3, g4, g5, g6⟩ := hc.ex
  have hvl := hr.len
  have hul := g5.len
  have hal : us.length + rest.length = arr.size := by rw [← Array.length_toList, g4]; simp
  have hT := turn_set hs hb hφ hp hp' hl hsz (Nat.le_of_eq hlen) g1 (o := k) (vs := vs) (by omega)
  refine ⟨hT.post (blk_of_cells hl' ⟨by rw [hsz]; exact hc.pos, ?_, by rw [hsz]; exact hrows, hc.noI, hpl hc.plain⟩), fun j hj => ?_, fun j hj => ?_⟩
  · refine ⟨_, fr, cap, us.take k ++ vs ++ us.drop (k + vs.length), rest, by rw [he]; exact setCells_heap B b.elem fr vs k c.w arr g1 (by omega), ?_, ?_, ?_, ?_, ?_⟩
    · rcases g2 with h | h
      · exact .inl h
      · refine .inr ?_; simp; omega
    · rw [hsz, ← g3]; simp; omega
    · simp only [g4]
      rw [List.take_append_of_le_length (by omega), List.drop_append_of_le_length (by omega)]
      simp
    · rw [hfl, ← hvl]
      refine RelVs.mono hT.st _ _ (((RelVs.take k g5).append hr).append (RelVs.drop _ g5))
    · intro u hu
      rcases List.mem_append.1 hu with hu | hu
      · rcases List.mem_append.1 hu with hu | hu
        · exact g6 u (List.mem_of_mem_take hu)
        · exact h1 u hu
      · exact g6 u (List.mem_of_mem_drop hu)
  · obtain ⟨u, hu, _⟩ := hc.cell (k + j) _ (List.getElem?_eq_getElem (by omega))
    rw [hu]; rfl
  · obtain ⟨u, _, _, _, hu⟩ := hc.cell (k + j) _ (List.getElem?_eq_getElem (by omega))
    exact hu

theorem good_store {c : Cx} (hs : PSim P c) {ty : TypeId} {size : Nat} (hz : sizeOfT P ty = some size) {x v : V} {xv vv : Value} (hx : RelV c x xv) (hv : RelV c v vv) {m' : Mem} (h : storeV c.m size x v = some m') :
    Good P c m' (.tup []) (do Instr.storeAt ty xv vv; pure .skip) := by
  cases x with
  | ptr id n row off =>
    simp only [RelV] at hx
    obtain ⟨blk, ad, hb, hn, rfl, hx⟩ := hx
    simp only [storeV] at h
    split at h
    case isFalse => cases h
    rename_i hc
    simp only [hb, Option.bind_some] at h
    obtain ⟨b', hput, rfl⟩ := Option.map_eq_some_iff.1 h
    have hnl : blk.isLoop = false ∧ n = blk.len := by
      cases blk with
      | flat e s rows p => cases p <;> simp [Blk.put?] at hput; exact ⟨rfl, hput.1⟩
      | gen e s rows p => cases p <;> simp [Blk.put?] at hput; exact ⟨rfl, hput.1⟩
      | loop => simp [Blk.put?] at hput
    obtain ⟨B, hφ, rfl⟩ := hx hnl.2
    have hcok := hs.cellsOK hb hφ hnl.1
    obtain ⟨p1, p2, p3, p4, p5, p6, p7, p8, p9, p10, p11, p12, p13⟩ := put_spec hcok.rows hput
    obtain ⟨k1, k2⟩ := cells_rel hv hc.2
    have hk : row * blk.size + off + v.cells.length ≤ blk.vrows.flatten.length := by
      rw [flatten_len hcok.rows]
      have hvl : blk.vrows.length = blk.len := by cases blk <;> simp_all [Blk.vrows, Blk.len, Blk.isLoop]
      rw [hvl]
      have := Nat.mul_le_mul_right blk.size (show row + 1 ≤ blk.len by omega)
      rw [Nat.add_mul] at this; omega
    obtain ⟨q1, q2, q3⟩ := cells_set hs hb hφ p2 p4 p3 p5 p6 p7.symm p8 p11 p13 p12 hk k1 k2
    refine .inl ⟨undef, _, .inr ⟨?_, rfl⟩, rfl, q1, undef_rel _⟩
    have hst := run_storeCells_cells (P := P) B (row * blk.size + off) vv.cells.toList 0 c.w (by simpa using q2) (by simpa using q3) (fun u hu => (OneC_iff u).1 (k2 u hu))
    have hsz : vv.cells.size = size := by rw [← Array.length_toList, k1.len]; exact hc.1
    refine run_u ?_
    simp [Instr.storeAt, Instr.sureAddr, storeVar, sizeOf_run hz, hsz, hst, cxSet]
  | _ => simp [storeV] at h

end Go.Proofs.Ytgalchmjpfmemaa.Den
