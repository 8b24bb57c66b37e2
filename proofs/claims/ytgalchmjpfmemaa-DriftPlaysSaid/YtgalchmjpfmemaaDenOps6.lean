/- Each instruction of the evaluator is what the model's operation does: append, copy. -/
import Derived.Test.YtgalchmjpfmemaaDenOps5
namespace Go.Proofs.Ytgalchmjpfmemaa.Den
open Go
set_option linter.unusedVariables false
set_option linter.unusedSimpArgs false

variable {P : Program}

theorem flatRows_rows {m : Mem} {x : V} {ys : List (List D)} (h : flatRowsOf m x = some ys) : rowsOf m x = some (ys.map (List.map V.d)) := by
  cases x with
  | d x =>
    cases x with
    | nils => simp [flatRowsOf] at h; subst h; rfl
    | rs fl s rows tight =>
      cases fl with
      | false => simp [flatRowsOf] at h
      | true => simp [flatRowsOf] at h; subst h; rfl
    | _ => simp [flatRowsOf] at h
  | sl id n off len =>
    simp only [flatRowsOf] at h
    obtain ⟨b, hb, h⟩ := Option.bind_eq_some_iff.1 h
    cases b with
    | flat e s rows p =>
      simp only at h
      split at h
      · rename_i hc; obtain rfl := Option.some.inj h; simp only [rowsOf, hb, Option.bind_some]; rw [if_pos hc]
      · cases h
    | gen => simp at h
    | loop => simp at h
  | _ => simp [flatRowsOf] at h

theorem flatRows_scalar {c : Cx} (hs : PSim P c) {x : V} {xv : Value} (hr : RelV c x xv) {ys : List (List D)} (h : flatRowsOf c.m x = some ys) : ∀ r, r ∈ ys → ∀ y, y ∈ r → D.scalar y = true := by
  cases x with
  | d x =>
    cases x with
    | nils => simp [flatRowsOf] at h; subst h; simp
    | rs fl s rows tight =>
      cases fl with
      | false => simp [flatRowsOf] at h
      | true => simp [flatRowsOf] at h; subst h; simp only [RelV, RelD] at hr; exact hr.2.1 trivial
    | _ => simp [flatRowsOf] at h
  | sl id n off len =>
    simp only [flatRowsOf] at h
    obtain ⟨b, hb, h⟩ := Option.bind_eq_some_iff.1 h
    cases b with
    | flat e s' rows p =>
      simp only at h
      split at h
      · rename_i hc
        obtain rfl := Option.some.inj h
        simp only [RelV] at hr
        obtain ⟨blk, ad, cap, hb', hn, rfl, hcap, hr⟩ := hr
        rw [hb] at hb'; cases hb'
        obtain ⟨B, e', hφ, _⟩ := hr hc.1
        have hk := hs.cellsOK hb hφ rfl
        intro r hr' y hy
        exact hk.plain r (List.mem_of_mem_drop (List.mem_of_mem_take hr')) y hy
      · cases h
    | gen => simp at h
    | loop => simp at h
  | _ => simp [flatRowsOf] at h

/-- What an append's second argument yields. -/
theorem src_of {c : Cx} (hs : PSim P c) {x : V} {xv : Value} (hr : RelV c x xv) {rows : List (List V)} (h : rowsOf c.m x = some rows) {size : Nat} (hz : sizeOk c.m size x = true) {u e : TypeId} (hu : P.underlying u = some (.slice e)) :
    ∃ news, Src P size u xv rows.length news c.w ∧ RelVs c rows.flatten news ∧ (∀ v, v ∈ news → OneC v) ∧ (∀ r, r ∈ rows → r.length = size) := by
  rcases rows_seen hs hr h hz with ⟨rfl, rfl⟩ | ⟨b, o, sp, cap, us, rfl, hat, hc, hu', hl⟩
  · exact ⟨[], by simpa using Src.ofNil c.w hu 0, by simp [RelVs], by simp, by simp⟩
  · refine ⟨us, Src.ofSlice c.w hu ⟨b, o, sp⟩ rows.length cap us (by rw [hu'.rel.len, flatten_len hl]) hat (fun v hv => (OneC_iff v).1 (hu'.one v hv)), hu'.rel, hu'.one, hl⟩

theorem alloc_heap_lt (w : World) (o : Obj) (k : Nat) (h : k < w.heap.size) : (w.alloc o).heap[k]? = w.heap[k]? := by
  unfold World.alloc
  simp only
  rw [Array.getElem?_push_lt h]
  exact (Array.getElem?_eq_getElem h).symm

theorem zeroCells_size (z : Array Value) (n : Nat) : (Builtin.zeroCells z n).size = n * z.size := by simp [Builtin.zeroCells]

theorem grownCap_le (w : World) (need old : Nat) (e : TypeId) : need ≤ grownCap w need old e := by
  unfold grownCap Question.cut; simp

/-- A block with rows behind its rows. -/
structure Grown (b b' : Blk) (rows : List (List V)) : Prop where
  prot : b.prot = false
  prot' : b'.prot = false
  nl : b.isLoop = false
  nl' : b'.isLoop = false
  size : b'.size = b.size
  elem : b'.elem = b.elem
  vrows : b'.vrows = b.vrows ++ rows
  len : b'.len = b.len + rows.length
  vlen : b.vrows.length = b.len
  plain : b.plain → b'.plain

theorem good_grow {c : Cx} (hs : PSim P c) {t u e ty : TypeId} (ht : P.underlying t = some (.slice e)) (hu : P.underlying u = some (.slice e)) {i : TypeInfo} {z : Value} (hi : P.info? e = some i) (hz : i.zero = some z) (hzs : z.cells.size = i.size)
    {id n : Nat} {sv x : V} {svv xv : Value} {b b' : Blk} {rows : List (List V)} (hsv : RelV c (.sl id n 0 n) svv) (hx : RelV c x xv) (hb : c.m[id]? = some b) (hn : n = b.len) (hbs : b.size = i.size)
    (hrows : rowsOf c.m x = some rows) (hxs : sizeOk c.m i.size x = true) (hg : Grown b b' rows) (hbytes : (n + rows.length) * i.bytes ≤ 140737488355328) (h63 : n + rows.length ≤ 9223372036854775807) (hne : rows.length ≠ 0) (hbe : b.elem = e) :
    Good P c (c.m.set id b') (.sl id (n + rows.length) 0 (n + rows.length)) (do pure (.value (← Builtin.append_ #[t, u] ty #[svv, xv]))) := by
  simp only [RelV] at hsv
  obtain ⟨blk, ad, cap, hb', hn', rfl, hcap, hsv⟩ := hsv
  rw [hb] at hb'; cases hb'
  obtain ⟨B, e', hφ, rfl, hsh⟩ := hsv hn
  have hid : id < c.m.length := hs.dom id B hφ
  obtain ⟨news, hsrc, hrel, h1, hl⟩ := src_of hs hx hrows hxs hu
  have hk := hs.cellsOK hb hφ hg.nl
  obtain ⟨arr, fr, cp, us, rest, g1, g2, g3, g4, g5, g6⟩ := hk.ex
  have hcp : cp = cap := by
    simp only [World.shape?, g1, Nat.zero_add] at hsh
    simp at hsh
    have := hsh.2
    rw [g3] at this
    exact Nat.eq_of_mul_eq_mul_right hk.pos this
  subst hcp
  have hul : us.length = n * b.size := by rw [g5.len, flatten_len hk.rows, hg.vlen, hn]
  have hnl : news.length = rows.length * b.size := by rw [hsrc.newsLen, hbs]
  have hal : us.length + rest.length = arr.size := by rw [← Array.length_toList, g4]; simp
  have hfl : b'.vrows.flatten = b.vrows.flatten ++ rows.flatten := by rw [hg.vrows]; simp
  have hrw : ∀ r, r ∈ b'.vrows → r.length = b'.size := fun r hr => by
    rw [hg.vrows] at hr; rw [hg.size]
    rcases List.mem_append.1 hr with hr | hr
    · exact hk.rows r hr
    · rw [hl r hr, hbs]
  by_cases hroom : n + rows.length ≤ cp
  · -- in place
    have hmul : n * b.size + rows.length * b.size ≤ cp * b.size := by rw [← Nat.add_mul]; exact Nat.mul_le_mul_right _ hroom
    have hin : ∀ j, j < news.length → arr[n * b.size + j]? ≠ none := fun j hj => by
      rw [ne_eq, Array.getElem?_eq_none_iff]; omega
    have hc1 : ∀ j, j < news.length → (c.w.cell? ⟨B, n * i.size + j, none⟩).isSome = true := fun j hj => by
      rw [← hbs]
      simp only [World.cell?, g1]
      simp
      omega
    have hc2 : ∀ j, j < news.length → c.w.frozen? ⟨B, n * i.size + j, none⟩ = false := fun j hj => by
      rw [← hbs]
      obtain ⟨lo, hi'⟩ := fr
      simp only [World.frozen?, g1]
      simp only at g2
      rw [Bool.and_eq_false_iff]; simp; omega
    have hrun := run_append_room_src (P := P) c.w t u ty e i ht hi B 0 n cp xv rows.length news hsrc hroom (by simpa using hc1) (by simpa using hc2)
    obtain ⟨f1, f2, f3, f4⟩ := setCells_frame B news (n * b.size) c.w
    have hheap := setCells_heap B b.elem fr news (n * b.size) c.w arr g1 (by omega)
    have hT : Turn P c id b b' B B (c.w.setCells B (n * b.size) news) :=
      ⟨hs, hb, hφ, hg.prot, hg.prot', hg.nl, hg.size, by rw [hg.len]; omega, fun e => by rw [hg.len] at e; omega, .inl rfl, fun k o hk ho => by rw [setCells_other B news _ c.w k hk]; exact ho, by omega, f2, f3, f4⟩
    have harr : (arr.toList.take (n * b.size) ++ news ++ arr.toList.drop (n * b.size + news.length)).length = arr.size := by simp; omega
    have hP := hT.post (blk_of_cells hg.nl' ⟨by rw [hg.size]; exact hk.pos, ⟨_, fr, cp, us ++ news, rest.drop news.length, by rw [hg.elem]; exact hheap, by
        rcases g2 with h | h
        · exact .inl h
        · refine .inr ?_; simp only [List.size_toArray]; omega, by rw [hg.size, ← g3]; simp only [List.size_toArray]; omega, by
        simp only [g4]
        rw [← hul, List.take_left, ← List.drop_drop, List.drop_left]; try simp, by
        rw [hfl]; exact RelVs.mono hT.st _ _ (g5.append hrel), fun v hv => by
        rcases List.mem_append.1 hv with hv | hv
        · exact g6 v hv
        · exact h1 v hv⟩, hrw, hk.noI, hg.plain hk.plain⟩)
    refine Good.new (c' := cxSet c id b' B _) (run_v (u := .slice (some ⟨B, 0, none⟩) (n + rows.length) cp) ?_) rfl hP ?_
    · simp only [Nat.zero_mul]
      rw [hrun]; simp [cxSet, hbs]
    · simp only [RelV]
      refine ⟨b', _, cp, by simp [cxSet, hid], by rw [hg.len]; omega, rfl, hroom, fun _ => ⟨B, b.elem, by simp [cxSet, updφ], by simp, ?_⟩⟩
      simp only [cxSet, World.shape?, hheap, hg.size]
      simp only [List.size_toArray, harr, g3, Nat.zero_add]
  · -- moved
    have hrun := run_append_grow_src (P := P) c.w t u ty e i z ht hi hz (some ⟨B, 0, none⟩) n cp us (run_firstCells_some c.w.drew i.size n ⟨B, 0, none⟩ n cp us (by rw [hul, hbs]) (fun j v hv => by
        rw [addr_add]
        have hj : j < us.length := (List.getElem?_eq_some_iff.1 hv).1
        have ha : arr[j]? = some v := by
          have : arr.toList[j]? = some v := by rw [g4, List.getElem?_append_left hj, hv]
          simpa using this
        simp only [World.cell?, Nat.zero_add, heap_drew, g1]
        simp [ha])) xv rows.length news hsrc (by omega) (by omega) (growslice_fits (by omega) hbytes)
    have hcapl := grownCap_le c.w (n + rows.length) cp e
    have hzl : (Builtin.zeroCells z.cells (grownCap c.w (n + rows.length) cp e - (n + rows.length))).toList.length = (grownCap c.w (n + rows.length) cp e - (n + rows.length)) * b.size := by
      rw [Array.length_toList, zeroCells_size, hzs, hbs]
    have hobj : (us ++ news).toArray ++ Builtin.zeroCells z.cells (grownCap c.w (n + rows.length) cp e - (n + rows.length)) = ⟨(us ++ news) ++ (Builtin.zeroCells z.cells (grownCap c.w (n + rows.length) cp e - (n + rows.length))).toList⟩ := by
      apply Array.ext'; simp
    have hT : Turn P c id b b' B c.w.heap.size (c.w.drew.alloc (.cells ((us ++ news).toArray ++ Builtin.zeroCells z.cells (grownCap c.w (n + rows.length) cp e - (n + rows.length))) e)) :=
      ⟨hs, hb, hφ, hg.prot, hg.prot', hg.nl, hg.size, by rw [hg.len]; omega, fun e => by rw [hg.len] at e; omega, .inr (Nat.le_refl _), fun k o hk ho => by
        have := heap_lt ho
        rw [alloc_heap_lt c.w.drew _ k (by simpa using this)]; exact ho, by simp, rfl, rfl, rfl⟩
    have hheap : (c.w.drew.alloc (.cells ((us ++ news).toArray ++ Builtin.zeroCells z.cells (grownCap c.w (n + rows.length) cp e - (n + rows.length))) e)).heap[c.w.heap.size]? = some (.cells ⟨(us ++ news) ++ (Builtin.zeroCells z.cells (grownCap c.w (n + rows.length) cp e - (n + rows.length))).toList⟩ b'.elem (0, 0)) := by
      have := heap_alloc_self c.w.drew (.cells ((us ++ news).toArray ++ Builtin.zeroCells z.cells (grownCap c.w (n + rows.length) cp e - (n + rows.length))) e)
      rw [World.size_drew] at this
      rw [this, hobj, hg.elem, hbe]
    have hsize : (us ++ news).length + (Builtin.zeroCells z.cells (grownCap c.w (n + rows.length) cp e - (n + rows.length))).toList.length = grownCap c.w (n + rows.length) cp e * b.size := by
      rw [hzl, List.length_append, hul, hnl, ← Nat.add_mul, ← Nat.add_mul]; congr 1; omega
    have hP := hT.post (blk_of_cells hg.nl' ⟨by rw [hg.size]; exact hk.pos, ⟨_, (0, 0), grownCap c.w (n + rows.length) cp e, us ++ news, _, hheap, .inl rfl, by rw [hg.size, ← hsize]; simp [Nat.add_assoc], rfl, by
        rw [hfl]; exact RelVs.mono hT.st _ _ (g5.append hrel), fun v hv => by
        rcases List.mem_append.1 hv with hv | hv
        · exact g6 v hv
        · exact h1 v hv⟩, hrw, fun o hI => by have := hs.imm _ _ hI; omega, hg.plain hk.plain⟩)
    refine Good.new (c' := cxSet c id b' c.w.heap.size _) (run_v (u := .slice (some ⟨c.w.heap.size, 0, none⟩) (n + rows.length) (grownCap c.w (n + rows.length) cp e)) ?_) rfl hP ?_
    · simp only [Nat.zero_mul]
      rw [hrun]; simp [cxSet]
    · simp only [RelV]
      refine ⟨b', _, _, by simp [cxSet, hid], by rw [hg.len]; omega, rfl, hcapl, fun _ => ⟨c.w.heap.size, b'.elem, by simp [cxSet, updφ], by simp, ?_⟩⟩
      simp only [cxSet, World.shape?, hheap, hg.size]
      simp only [Nat.zero_add, ← hsize]; simp [Nat.add_assoc]

end Go.Proofs.Ytgalchmjpfmemaa.Den
