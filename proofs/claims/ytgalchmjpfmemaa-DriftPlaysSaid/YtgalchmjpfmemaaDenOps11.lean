/- Each instruction of the evaluator is what the model's operation does: bytes as a string, marks, copy. -/
import Derived.Test.YtgalchmjpfmemaaDenOps10
namespace Go.Proofs.Ytgalchmjpfmemaa.Den
open Go
set_option linter.unusedVariables false
set_option linter.unusedSimpArgs false

variable {P : Program}

theorem toStr_ok {c : Cx} (hs : PSim P c) {s d e : TypeId} (h1 : P.underlying s = some (.slice e)) (h2 : P.underlying d = some .string) (h3 : P.underlying e = some (.int .u8)) {x : V} {xv : Value} (hx : RelV c x xv) {rows : List (List D)} (hr : flatRowsOf c.m x = some rows) (hz : sizeOk c.m 1 x = true) {l : List UInt8} (hl : strOf rows = some l) :
    (convert s d xv).run P c.w = .ok (.string ⟨l.toArray⟩) c.w := by
  have hconv : (convert s d xv).run P c.w = (Conv.bytesToString xv).run P c.w ∨ ∃ k n, xv = .int k n := by
    by_cases hi : ∃ k n, xv = .int k n
    · exact .inr hi
    · left
      rcases rows_seen hs hx (flatRows_rows hr) hz with ⟨rfl, _⟩ | ⟨b, o, sp, cap, us, rfl, _⟩ <;> simp [convert, run_underlying h1, run_underlying h2, run_underlying h3]
  have key : (Conv.bytesToString xv).run P c.w = .ok (.string ⟨l.toArray⟩) c.w := by
    rcases rows_seen hs hx (flatRows_rows hr) hz with ⟨rfl, h0⟩ | ⟨b, o, sp, cap, us, rfl, hat, hcap, hu, hlr⟩
    · have : rows = [] := by simpa using h0
      subst this
      simp [strOf] at hl; subst hl
      simp [Conv.bytesToString]; rfl
    · obtain ⟨g1, ns, g2, g3⟩ := strOf_bytes hl hu.rel
      have hlen : (rows.map (List.map V.d)).length = us.length := by rw [hu.rel.len, flatten_len hlr]; simp
      have hload := run_loadCells_list (P := P) c.w ⟨b, o, sp⟩ us hat
      have hfold : ns.foldl (fun a n => a.push (UInt8.ofNat n.toNat)) ByteArray.empty = (⟨l.toArray⟩ : ByteArray) := by
        have e : ns.foldl (fun (a : ByteArray) n => a.push (UInt8.ofNat n.toNat)) ByteArray.empty = (ns.map fun n => UInt8.ofNat n.toNat).foldl ByteArray.push ByteArray.empty := by
          rw [List.foldl_map]
        rw [e, ← g3]
        have := foldl_push l ByteArray.empty
        generalize l.foldl ByteArray.push ByteArray.empty = z at *
        cases z with
        | mk d => simp at this; congr 1; apply Array.ext'; simpa using this
      subst g2
      simp only [Conv.bytesToString, Sem.run_bind, hlen, hload, Result.andThen_ok]
      rw [bytesLoop P _ (fun n s => rfl), hfold]; rfl
  rcases hconv with h | ⟨k, n, rfl⟩
  · rw [h]; exact key
  · rcases rows_seen hs hx (flatRows_rows hr) hz with ⟨e, _⟩ | ⟨b, o, sp, cap, us, e, _⟩ <;> cases e

/-- '[]byte' of a slice of bytes that the program itself made: the bytes are marked. -/
theorem good_mark {c : Cx} (hs : PSim P c) {s e : TypeId} (h1 : P.underlying s = some (.slice e)) (h3 : P.underlying e = some (.int .u8)) {id n off len : Nat} {xv : Value} (hx : RelV c (.sl id n off len) xv) {el : TypeId} {z : Nat} {rows : List (List D)} (hb : c.m[id]? = some (.flat el z rows false)) (hn : n = rows.length) :
    Good P c c.m (.sl id n off len) (do pure (.value (← convert s s xv))) := by
  have hx0 := hx
  simp only [RelV] at hx
  obtain ⟨blk, ad, cap, hb', hnl, rfl, hcap, hx⟩ := hx
  rw [hb] at hb'; cases hb'
  obtain ⟨B, e', hφ, rfl, hsh⟩ := hx hn
  have hid : id < c.m.length := hs.dom id B hφ
  have hk : CellsOK c B (.flat el z rows false) := hs.cellsOK hb hφ rfl
  obtain ⟨arr, fr, cp, us, rest, g1, g2, g3, g4, g5, g6⟩ := hk.ex
  let fr' : Nat × Nat := if fr.1 == fr.2 then (arr.size, arr.size + 1) else (min fr.1 arr.size, max fr.2 (arr.size + 1))
  let w' : World := c.w.freeze ⟨B, arr.size, none⟩ 1
  have hw : w'.heap[B]? = some (.cells arr el fr') := by
    simp only [w', World.freeze]
    obtain ⟨lo, hi⟩ := fr
    simp [Array.getElem?_modify, g1, fr', Blk.elem]
  have hoth : ∀ (k : Nat) (o : Obj), k ≠ B → c.w.heap[k]? = some o → w'.heap[k]? = some o := by
    intro k o hk ho
    simp only [w', World.freeze]
    simp [Array.getElem?_modify, Ne.symm hk, ho]
  have hT : Turn P c id (.flat el z rows false) (.flat el z rows false) B B w' :=
    ⟨hs, hb, hφ, rfl, rfl, rfl, rfl, Nat.le_refl _, fun _ => ⟨rfl, fun e n h => by simp only [World.shape?, g1] at h; simp only [World.shape?, hw]; simpa [Blk.elem] using h⟩, .inl rfl, hoth, by simp [w', World.freeze], rfl, rfl, rfl⟩
  have hP := hT.post (P := P) (show BlkOK P _ B _ from (⟨hk.pos, ⟨arr, fr', cp, us, rest, hw, by
      right
      simp only [fr']
      split
      · simp
      · rename_i h
        simp only
        rcases g2 with g2 | g2
        · exact absurd (by simpa using g2) h
        · omega, g3, g4, RelVs.mono hT.st _ _ g5, g6⟩, hk.rows, hk.noI, hk.plain⟩ : CellsOK _ B _))
  have hm : (cxSet c id (.flat el z rows false) B w').m = c.m := by
    simp only [cxSet]
    apply List.ext_getElem?
    intro j
    by_cases e : j = id
    · subst e; simp [List.getElem?_set, hid]; exact ((List.getElem?_eq_some_iff.1 hb).2).symm
    · simp [List.getElem?_set, Ne.symm e]
  refine Good.new (c' := cxSet c id (.flat el z rows false) B w') (run_v (u := .slice (some ⟨B, off * (Blk.flat el z rows false).size, none⟩) len cap) ?_) hm hP (RelV.mono hT.st _ _ hx0)
  have hshape : c.w.shape? B = some (el, arr.size) := by simp only [World.shape?, g1, Blk.elem]
  simp only [convert, Sem.run_bind, run_underlying h1, run_underlying h3, Result.andThen_ok, beq_self_eq_true, markStringish, run_shape, hshape]
  simp [cxSet, w']

theorem min_take {α : Type} (l : List α) (n : Nat) : l.take (min l.length n) = l.take n := by
  rw [Nat.min_comm, ← List.take_take]; simp

theorem good_copy {c : Cx} (hs : PSim P c) {dT sT ty e : TypeId} {size : Nat} (hd : P.underlying dT = some (.slice e)) (hsz : sizeOfT P e = some size) {s x : V} {sv xv : Value} (hsv : RelV c s sv) (hx : RelV c x xv) {v : V} {m' : Mem} (h : copyV size c.m s x = some (v, m')) :
    Good P c m' v (do pure (.value (← Builtin.copy_ #[dT, sT] ty #[sv, xv]))) := by
  cases s with
  | sl id n off len =>
    simp only [copyV] at h
    split at h
    case isFalse => cases h
    rename_i hxs
    obtain ⟨b, hb, h2⟩ := Option.bind_eq_some_iff.1 h
    clear h
    have h := h2
    clear h2
    simp only [RelV] at hsv
    obtain ⟨blk, ad, cap, hb', hn', rfl, hcap, hsv⟩ := hsv
    rw [hb] at hb'; cases hb'
    cases b with
    | flat el z rows p =>
      cases p with
      | true => simp at h
      | false =>
        simp only at h
        split at h
        case isFalse => cases h
        rename_i hc
        obtain ⟨hn, hol, rfl⟩ := hc
        obtain ⟨ys, hy, h2⟩ := Option.bind_eq_some_iff.1 h
        cases h2
        obtain ⟨B, e', hφ, rfl, hsh⟩ := hsv hn
        have hk : CellsOK c B (.flat el z rows false) := hs.cellsOK hb hφ rfl
        have hsc := flatRows_scalar hs hx hy
        have hrl : ∀ r, r ∈ rows → r.length = z := fun r hr => by
          have := hk.rows (r.map V.d) (by simp only [Blk.vrows]; exact List.mem_map.2 ⟨r, hr, rfl⟩)
          simpa [Blk.size] using this
        -- what is copied
        obtain ⟨news, hlen, hnl, hsrcl, hfirst, hrel, h1, hyl⟩ : ∃ news : List Value, (Builtin.lenOf xv).run P c.w = .ok ys.length c.w ∧ news.length = min ys.length len * z ∧ True ∧
            (Builtin.firstCells z (min ys.length len) xv).run P c.w = .ok news.toArray c.w ∧ RelVs c ((ys.take (min ys.length len)).map (List.map V.d)).flatten news ∧ (∀ u, u ∈ news → OneC u) ∧ (∀ r, r ∈ ys → r.length = z) := by
          rcases rows_seen hs hx (flatRows_rows hy) hxs with ⟨rfl, h0⟩ | ⟨b, o, sp, cap', us, rfl, hat, hc', hu, hl⟩
          · have : ys = [] := by simpa using h0
            subst this
            exact ⟨[], by simp [Builtin.lenOf], by simp, trivial, by simp [Builtin.firstCells], by simp [RelVs], by simp, by simp⟩
          · have hl' : ∀ r, r ∈ ys → r.length = z := fun r hr => by
              have := hl (r.map V.d) (List.mem_map.2 ⟨r, hr, rfl⟩); simpa using this
            have hul : us.length = ys.length * z := by rw [hu.rel.len, flatten_len hl]; simp
            have hmin : min ys.length len * z ≤ ys.length * z := Nat.mul_le_mul_right _ (Nat.min_le_left _ _)
            have ht := hu.take (min ys.length len * z)
            have e1 : ∀ (l : List (List D)) (k : Nat), (∀ r, r ∈ l → r.length = z) → ((l.take k).map (List.map V.d)).flatten = ((l.map (List.map V.d)).flatten).take (k * z) := by
              intro l
              induction l with
              | nil => intro k _; simp
              | cons x l ih =>
                intro k hx
                cases k with
                | zero => simp
                | succ k =>
                  simp only [List.take_succ_cons, List.map_cons, List.flatten_cons]
                  rw [ih k (fun r hr => hx r (List.mem_cons_of_mem _ hr)), Nat.add_mul, Nat.one_mul, Nat.add_comm]
                  have hxl : (x.map V.d).length = z := by simpa using hx x (by simp)
                  rw [← hxl, List.take_length_add_append]
            refine ⟨us.take (min ys.length len * z), by simp [Builtin.lenOf], by simp; omega, trivial, ?_, by rw [e1 _ _ hl']; exact ht.rel, ht.one, hl'⟩
            have := run_loadCells_list (P := P) c.w ⟨b, o, sp⟩ (us.take (min ys.length len * z)) (fun j v hv => hat j v (by rw [List.getElem?_take] at hv; split at hv; exact hv; cases hv))
            rw [show (us.take (min ys.length len * z)).length = min ys.length len * z by simp; omega] at this
            simpa [Builtin.firstCells] using this
        have hmin : min ys.length len ≤ len := Nat.min_le_right _ _
        have hfl : ∀ (l : List (List D)), (l.map (List.map V.d)).flatten = l.flatten.map V.d := fun l => by induction l <;> simp_all
        have hmid : (rows.take off ++ ys.take (min ys.length len) ++ rows.drop (off + min ys.length len)).length = rows.length := by simp; omega
        have hxl : ((ys.take (min ys.length len)).map (List.map V.d)).flatten.length = min ys.length len * z := by rw [← hrel.len]; exact hnl
        have hkk : off * z + min ys.length len * z ≤ rows.length * z := by
          rw [← Nat.add_mul]; exact Nat.mul_le_mul_right _ (by omega)
        have hvf : (Blk.flat el z rows false).vrows.flatten.length = rows.length * z := by
          rw [flatten_len hk.rows]; simp [Blk.vrows, Blk.size]
        have tk : ∀ (l : List (List D)) (k : Nat), (∀ r, r ∈ l → r.length = z) → ((l.take k).map (List.map V.d)).flatten = ((l.map (List.map V.d)).flatten).take (k * z) := by
          intro l
          induction l with
          | nil => intro k _; simp
          | cons x l ih =>
            intro k hx
            cases k with
            | zero => simp
            | succ k =>
              simp only [List.take_succ_cons, List.map_cons, List.flatten_cons]
              rw [ih k (fun r hr => hx r (List.mem_cons_of_mem _ hr)), Nat.add_mul, Nat.one_mul, Nat.add_comm]
              have hxl : (x.map V.d).length = z := by simpa using hx x (by simp)
              rw [← hxl, List.take_length_add_append]
        have dr : ∀ (l : List (List D)) (k : Nat), (∀ r, r ∈ l → r.length = z) → ((l.drop k).map (List.map V.d)).flatten = ((l.map (List.map V.d)).flatten).drop (k * z) := by
          intro l
          induction l with
          | nil => intro k _; simp
          | cons x l ih =>
            intro k hx
            cases k with
            | zero => simp
            | succ k =>
              simp only [List.drop_succ_cons, List.map_cons, List.flatten_cons]
              rw [ih k (fun r hr => hx r (List.mem_cons_of_mem _ hr)), Nat.add_mul, Nat.one_mul, Nat.add_comm]
              have hxl : (x.map V.d).length = z := by simpa using hx x (by simp)
              rw [← hxl, ← List.drop_drop, List.drop_left]
        obtain ⟨q1, q2, q3⟩ := cells_set (b' := .flat el z (rows.take off ++ ys.take (min ys.length len) ++ rows.drop (off + min ys.length len)) false) hs hb hφ rfl rfl rfl rfl rfl (by simp only [Blk.len]; exact hmid.symm) rfl
          (fun r hr => by
            simp only [Blk.vrows, Blk.size] at hr ⊢
            obtain ⟨r0, h0, rfl⟩ := List.mem_map.1 hr
            rw [List.length_map]
            rcases List.mem_append.1 h0 with h0 | h0
            · rcases List.mem_append.1 h0 with h0 | h0
              · exact hrl _ (List.mem_of_mem_take h0)
              · exact hyl _ (List.mem_of_mem_take h0)
            · exact hrl _ (List.mem_of_mem_drop h0))
          (fun hp r hr y hy' => by
            rcases List.mem_append.1 hr with hr | hr
            · rcases List.mem_append.1 hr with hr | hr
              · exact hp r (List.mem_of_mem_take hr) y hy'
              · exact hsc r (List.mem_of_mem_take hr) y hy'
            · exact hp r (List.mem_of_mem_drop hr) y hy') (k := off * z) (xs := ((ys.take (min ys.length len)).map (List.map V.d)).flatten)
          (by simp only [Blk.vrows, List.map_append, List.flatten_append]
              rw [tk rows off hrl, dr rows _ hrl, hxl, Nat.add_mul]) (by rw [hxl, hvf]; exact hkk) hrel h1
        refine .inl ⟨.int .i64 ((min ys.length len : Nat) : Int), _, .inl ?_, rfl, q1, by simp only [RelV, RelD]⟩
        have hst := run_storeCells_cells (P := P) B (off * z) news 0 c.w (by simpa using q2) (by simpa using q3) (fun u hu => (OneC_iff u).1 (h1 u hu))
        refine run_v ?_
        have e1 : ys.length.min len = min ys.length len := rfl
        simp [Builtin.copy_, run_underlying hd, hlen, sizeOf_run hsz, e1, hfirst, Blk.size, hst, cxSet, goInt]
    | gen => simp at h
    | loop => simp at h
  | _ => simp [copyV] at h

end Go.Proofs.Ytgalchmjpfmemaa.Den
