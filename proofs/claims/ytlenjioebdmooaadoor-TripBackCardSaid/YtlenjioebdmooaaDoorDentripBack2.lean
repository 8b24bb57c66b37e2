/- TripBackCard: part 2 of what its proof rests on: an evaluator of the program's code, proved sound; plain functions printed from the code by a program of this session, with proofs; plain laws. No condition. -/
import Derived.Test.YtlenjioebdmooaaDoorDentripBack1
import Derived.IntWalk
import Derived.Sort.Row
import Derived.DeepKeys
import Derived.RangeFuncLeaves
import Derived.RangeFuncNested

namespace Go.Proofs.YtlenjioebdmooaaDoor.Den
open Go
set_option linter.unusedVariables false
set_option linter.unusedSimpArgs false
variable {P : Program}
theorem good_append_new {c : Cx} (hs : PSim P c) {t u e ty : TypeId} (ht : P.underlying t = some (.slice e)) (hu : P.underlying u = some (.slice e)) {i : TypeInfo} {z : Value} (hi : P.info? e = some i) (hz : i.zero = some z) (hzs : z.cells.size = i.size) (hpos : 0 < i.size)
    {base : Option Addr} {sv x : V} {xv : Value} {b : Blk} {rows : List (List V)} (hsv : RelV c sv (.slice base 0 0)) (hx : RelV c x xv)
    (hrows : rowsOf c.m x = some rows) (hxs : sizeOk c.m i.size x = true) (hbytes : rows.length * i.bytes ≤ 140737488355328) (h63 : rows.length ≤ 9223372036854775807) {v : V} {m' : Mem}
    (hb : b.isLoop = false ∧ b.elem = e ∧ b.size = i.size ∧ b.vrows = rows ∧ b.len = rows.length ∧ b.plain)
    (h : (if rows.length = 0 then some (sv, c.m) else some (V.sl c.m.length rows.length 0 rows.length, c.m ++ [b])) = some (v, m')) :
    Good P c m' v (do pure (.value (← Builtin.append_ #[t, u] ty #[.slice base 0 0, xv]))) := by
  obtain ⟨news, hsrc, hrel, h1, hl⟩ := src_of hs hx hrows hxs hu
  obtain ⟨b1, b2, b3, b4, b5, b6⟩ := hb
  split at h
  · rename_i h0
    cases h
    refine Good.val hs (run_v (u := .slice base 0 0) ?_) hsv
    have hn : news = [] := List.length_eq_zero_iff.1 (by rw [hsrc.newsLen, h0]; simp)
    rw [h0, hn] at hsrc
    exact run_append_nothing c.w t u ty e i ht hi base 0 0 (by simp) xv hsrc
  · rename_i h0
    cases h
    have hold : (Builtin.firstCells i.size 0 (.slice base 0 0)).run P c.w.drew = .ok ([] : List Value).toArray c.w.drew := by
      cases base with
      | none => exact run_firstCells_none c.w.drew i.size 0 0 0
      | some ad => exact run_firstCells_some c.w.drew i.size 0 ad 0 0 [] (by simp) (by simp)
    have hrun := run_append_grow_src (P := P) c.w t u ty e i z ht hi hz base 0 0 [] hold xv rows.length news hsrc (by omega) (by omega) (growslice_fits (by omega) (by simpa using hbytes))
    simp only [Nat.zero_add, List.nil_append] at hrun
    have hcapl := grownCap_le c.w rows.length 0 e
    have hzl : (Builtin.zeroCells z.cells (grownCap c.w rows.length 0 e - rows.length)).toList.length = (grownCap c.w rows.length 0 e - rows.length) * b.size := by
      rw [Array.length_toList, zeroCells_size, hzs, b3]
    have hobj : news.toArray ++ Builtin.zeroCells z.cells (grownCap c.w rows.length 0 e - rows.length) = ⟨news ++ (Builtin.zeroCells z.cells (grownCap c.w rows.length 0 e - rows.length)).toList⟩ := by
      apply Array.ext'; simp
    have hN : New P c b (c.w.drew.alloc (.cells (news.toArray ++ Builtin.zeroCells z.cells (grownCap c.w rows.length 0 e - rows.length)) e)) :=
      ⟨hs, fun k o hk => by rw [alloc_heap_lt c.w.drew _ k (by simpa using heap_lt hk)]; exact hk, by simp, rfl, rfl, rfl⟩
    have hheap : (c.w.drew.alloc (.cells (news.toArray ++ Builtin.zeroCells z.cells (grownCap c.w rows.length 0 e - rows.length)) e)).heap[c.w.heap.size]? = some (.cells ⟨news ++ (Builtin.zeroCells z.cells (grownCap c.w rows.length 0 e - rows.length)).toList⟩ b.elem (0, 0)) := by
      have := heap_alloc_self c.w.drew (.cells (news.toArray ++ Builtin.zeroCells z.cells (grownCap c.w rows.length 0 e - rows.length)) e)
      rw [World.size_drew] at this
      rw [this, hobj, b2]
    have hsize : news.length + (Builtin.zeroCells z.cells (grownCap c.w rows.length 0 e - rows.length)).toList.length = grownCap c.w rows.length 0 e * b.size := by
      rw [hzl, hsrc.newsLen, ← b3, ← Nat.add_mul]; congr 1; omega
    have hP := hN.cells b1 hheap (.inl rfl) (by rw [b3]; exact hpos) hsize (by rw [b4]; exact hrel) h1 (by rw [b4, b3]; exact hl) b6
    refine Good.new (c' := cxNew c b _) (run_v (u := .slice (some ⟨c.w.heap.size, 0, none⟩) rows.length (grownCap c.w rows.length 0 e)) ?_) rfl hP ?_
    · rw [hrun]; simp [cxNew]
    · have := new_sl (c := c) (b := b) (w' := c.w.drew.alloc (.cells (news.toArray ++ Builtin.zeroCells z.cells (grownCap c.w rows.length 0 e - rows.length)) e)) (cap := grownCap c.w rows.length 0 e) (e := b.elem) (by omega)
        (by simp only [World.shape?, hheap]; simp only [← hsize]; simp)
      rw [b5] at this; exact this
theorem Good.mapv {c : Cx} {m' : Mem} {v v' : V} {s : Sem Next} (h : ∀ c' u, RelV c' v u → RelV c' v' u) (g : Good P c m' v s) : Good P c m' v' s := by
  rcases g with ⟨u, c', h1, h2, h3, h4⟩ | ⟨f, args, h1, h2⟩ | ⟨l, f, tmps, as1, bo, h1, h2⟩
  · exact .inl ⟨u, c', h1, h2, h3, h _ _ h4⟩
  · refine .inr (.inl ⟨f, args, h1, Calls.mono h2 ?_⟩)
    rintro e w' ⟨u, c', g1, g2, g3, g4, g5⟩
    exact ⟨u, c', g1, g2, g3, g4, h _ _ g5⟩
  · refine .inr (.inr ⟨l, f, tmps, as1, bo, h1, h2.mono ?_⟩)
    rintro e w' ⟨u, c', g1, g2, g3, g4, g5⟩
    exact ⟨u, c', g1, g2, g3, g4, h _ _ g5⟩
theorem set_same {m : Mem} {id : Nat} {b : Blk} (h : m[id]? = some b) : m.set id b = m := by
  apply List.ext_getElem?
  intro j
  rw [List.getElem?_set]
  split
  · rename_i e; subst e
    split
    · exact h.symm
    · rename_i hl; rw [List.getElem?_eq_none (by omega)]
  · rfl
theorem good_append_fill {c : Cx} (hs : PSim P c) {t u e ty : TypeId} (ht : P.underlying t = some (.slice e)) {i : TypeInfo} {z : Value} (hi : P.info? e = some i) (hz : i.zero = some z) (hzs : z.cells.size = i.size) (hpos : 0 < i.size)
    {xv : Value} {id : Nat} {b b' : Blk} {rows : List (List V)} (hb : c.m[id]? = some b) (hbz : b'.size = b.size) (hp : b.prot = false) (hnl : b.isLoop = false) (hbl : b.len = 0)
    (hS : Apps P c i z u xv rows) (hbytes : rows.length * i.bytes ≤ 140737488355328) (h63 : rows.length ≤ 9223372036854775807) (h0 : ¬ rows.length = 0)
    (hb' : b'.isLoop = false ∧ b'.prot = false ∧ b'.elem = e ∧ b'.size = i.size ∧ b'.vrows = rows ∧ b'.len = rows.length ∧ b'.plain) :
    Good P c (c.m.set id b') (.so false id rows.length) (do pure (.value (← Builtin.append_ #[t, u] ty #[.slice none 0 0, xv]))) := by
  obtain ⟨news, hsrc, hrel, h1, hl⟩ := hS
  obtain ⟨b1, b0, b2, b3, b4, b5, b6⟩ := hb'
  have hid : id < c.m.length := (List.getElem?_eq_some_iff.1 hb).1
  have hold : (Builtin.firstCells i.size 0 (.slice none 0 0)).run P c.w.drew = .ok ([] : List Value).toArray c.w.drew := run_firstCells_none c.w.drew i.size 0 0 0
  have hrun := run_append_grow_z (P := P) c.w t u ty e i z ht hi hz none 0 0 [] hold xv rows.length news hsrc (by omega) (by omega) (by omega) (growslice_fits (by omega) (by simpa using hbytes))
  simp only [Nat.zero_add, List.nil_append] at hrun
  have hcapl := grownCap_le c.w rows.length 0 e
  have hzl : (Builtin.zeroCells z.cells (grownCap c.w rows.length 0 e - rows.length)).toList.length = (grownCap c.w rows.length 0 e - rows.length) * b'.size := by
    rw [Array.length_toList, zeroCells_size, hzs, b3]
  have hobj : news.toArray ++ Builtin.zeroCells z.cells (grownCap c.w rows.length 0 e - rows.length) = ⟨news ++ (Builtin.zeroCells z.cells (grownCap c.w rows.length 0 e - rows.length)).toList⟩ := by
    apply Array.ext'; simp
  have hheap : (c.w.drew.alloc (.cells (news.toArray ++ Builtin.zeroCells z.cells (grownCap c.w rows.length 0 e - rows.length)) e)).heap[c.w.heap.size]? = some (.cells ⟨news ++ (Builtin.zeroCells z.cells (grownCap c.w rows.length 0 e - rows.length)).toList⟩ b'.elem (0, 0)) := by
    have := heap_alloc_self c.w.drew (.cells (news.toArray ++ Builtin.zeroCells z.cells (grownCap c.w rows.length 0 e - rows.length)) e)
    rw [World.size_drew] at this
    rw [this, hobj, b2]
  have hsize : news.length + (Builtin.zeroCells z.cells (grownCap c.w rows.length 0 e - rows.length)).toList.length = grownCap c.w rows.length 0 e * b'.size := by
    rw [hzl, hsrc.newsLen, ← b3, ← Nat.add_mul]; congr 1; omega
  have hoth : ∀ (k : Nat) (o : Obj), c.w.heap[k]? = some o → (c.w.drew.alloc (.cells (news.toArray ++ Builtin.zeroCells z.cells (grownCap c.w rows.length 0 e - rows.length)) e)).heap[k]? = some o := fun k o hk => by rw [alloc_heap_lt c.w.drew _ k (by simpa using heap_lt hk)]; exact hk
  have hP : Post P c (cxSet c id b' c.w.heap.size (c.w.drew.alloc (.cells (news.toArray ++ Builtin.zeroCells z.cells (grownCap c.w rows.length 0 e - rows.length)) e))) := by
    cases hφ : c.φ id with
    | none =>
      have hF : Fill P c id b b' (c.w.drew.alloc (.cells (news.toArray ++ Builtin.zeroCells z.cells (grownCap c.w rows.length 0 e - rows.length)) e)) := ⟨hs, hb, hφ, hp, b0, hnl, by rw [hbl, b5]; omega, hoth, by simp, rfl, rfl, rfl⟩
      exact hF.cells b1 hheap (.inl rfl) (by rw [b3]; exact hpos) hsize (by rw [b4]; exact hrel) h1 (by rw [b4, b3]; exact hl) b6
    | some B =>
      have hT : Turn P c id b b' B c.w.heap.size (c.w.drew.alloc (.cells (news.toArray ++ Builtin.zeroCells z.cells (grownCap c.w rows.length 0 e - rows.length)) e)) :=
        ⟨hs, hb, hφ, hp, b0, nlF hnl, hbz, by omega, fun e => by rw [b5, hbl] at e; omega, .inr (Nat.le_refl _), fun k o _ hk => hoth k o hk, by simp, rfl, rfl, rfl⟩
      refine hT.post (blk_of_cells b1 ⟨by rw [b3]; exact hpos, ⟨_, (0, 0), grownCap c.w rows.length 0 e, news, _, hheap, .inl rfl, by simpa using hsize, rfl, by rw [b4]; exact RelVs.mono hT.st _ _ hrel, h1⟩, by rw [b4, b3]; exact hl, fun o hI => by have := hs.imm _ _ hI; omega, b6⟩)
  refine Good.new (c' := cxSet c id b' c.w.heap.size _) (run_v (u := .slice (some ⟨c.w.heap.size, 0, none⟩) rows.length (grownCap c.w rows.length 0 e)) ?_) rfl hP ?_
  · rw [hrun]; simp [cxSet]
  · simp only [RelV]
    refine ⟨b', _, grownCap c.w rows.length 0 e, by simp [cxSet, hid], by omega, rfl, hcapl, fun _ => ⟨c.w.heap.size, b'.elem, by simp [cxSet, updφ], by simp, ?_⟩⟩
    simp only [cxSet, World.shape?, hheap]
    rw [Nat.zero_add, ← hsize]; simp
theorem good_append_soZ {c : Cx} (hs : PSim P c) {t u e ty : TypeId} (ht : P.underlying t = some (.slice e)) {i : TypeInfo} {z : Value} (hi : P.info? e = some i) (hz : i.zero = some z) (hzs : z.cells.size = i.size) (hpos : 0 < i.size)
    {sv xv : Value} {nl : Bool} {id n : Nat} {b b' : Blk} {rows : List (List V)} (hsv : RelV c (.so nl id n) sv) (hb : c.m[id]? = some b) (hn : n = b.len) (hbs : b.size = i.size) (hbe : b.elem = e)
    (hS : Apps P c i z u xv rows) (hg : Grown b b' rows) (hbytes : (n + rows.length) * i.bytes ≤ 140737488355328) (h63 : n + rows.length ≤ 9223372036854775807) (hsame : rows.length = 0 → b' = b) (hpl : b.len = 0 → b'.plain) :
    Good P c (c.m.set id b') (.so (rows.isEmpty && nl) id (n + rows.length)) (do pure (.value (← Builtin.append_ #[t, u] ty #[sv, xv]))) := by
  by_cases h0 : rows.length = 0
  · have hr : rows = [] := List.length_eq_zero_iff.1 h0
    obtain ⟨news, hsrc, hrel, h1, hl⟩ := hS
    have hnw : news = [] := List.length_eq_zero_iff.1 (by rw [hsrc.newsLen, h0]; simp)
    rw [h0, hnw] at hsrc
    rw [hsame h0, set_same hb]
    subst hr
    simp only [List.isEmpty_nil, Bool.true_and, List.length_nil, Nat.add_zero]
    cases nl with
    | true =>
      have hsv' := hsv
      simp only [RelV] at hsv'
      obtain ⟨rfl, _⟩ := hsv'
      exact Good.val hs (run_v (run_append_nothing_z c.w t u ty e i z ht hi none 0 0 (by simp) xv hsrc)) hsv
    | false =>
      have hsv' := hsv
      simp only [RelV] at hsv'
      obtain ⟨_, ad, cap, _, _, rfl, hcap, _⟩ := hsv'
      exact Good.val hs (run_v (run_append_nothing_z c.w t u ty e i z ht hi _ _ _ hcap xv hsrc)) hsv
  · have hne : rows.isEmpty = false := by cases rows <;> simp_all
    rw [hne, Bool.false_and]
    cases nl with
    | false => exact (good_growZ (ty := ty) hs ht hi hz hzs (so_false hsv) hb hn hbs hS hg hbytes h63 h0 hbe).mapv fun c' u h => of_so_false h
    | true =>
      simp only [RelV] at hsv
      obtain ⟨rfl, hn0, _⟩ := hsv
      subst hn0
      have hbl : b.len = 0 := hn.symm
      have hvr : b.vrows = [] := List.length_eq_zero_iff.1 (by rw [hg.vlen]; exact hbl)
      have := good_append_fill (ty := ty) hs ht hi hz hzs hpos hb hg.size hg.prot hg.nl hbl hS (by simpa using hbytes) (by simpa using h63) h0 (b' := b')
        ⟨hg.nl', hg.prot', by rw [hg.elem]; exact hbe, by rw [hg.size]; exact hbs, by rw [hg.vrows, hvr]; rfl, by rw [hg.len, hbl]; omega, hpl hbl⟩
      simpa using this
theorem good_append_so {c : Cx} (hs : PSim P c) {t u e ty : TypeId} (ht : P.underlying t = some (.slice e)) (hu : P.underlying u = some (.slice e)) {i : TypeInfo} {z : Value} (hi : P.info? e = some i) (hz : i.zero = some z) (hzs : z.cells.size = i.size) (hpos : 0 < i.size)
    {x : V} {sv xv : Value} {nl : Bool} {id n : Nat} {b b' : Blk} {rows : List (List V)} (hsv : RelV c (.so nl id n) sv) (hx : RelV c x xv) (hb : c.m[id]? = some b) (hn : n = b.len) (hbs : b.size = i.size) (hbe : b.elem = e)
    (hrows : rowsOf c.m x = some rows) (hxs : sizeOk c.m i.size x = true) (hg : Grown b b' rows) (hbytes : (n + rows.length) * i.bytes ≤ 140737488355328) (h63 : n + rows.length ≤ 9223372036854775807) (hsame : rows.length = 0 → b' = b) (hpl : b.len = 0 → b'.plain) :
    Good P c (c.m.set id b') (.so (rows.isEmpty && nl) id (n + rows.length)) (do pure (.value (← Builtin.append_ #[t, u] ty #[sv, xv]))) :=
  good_append_soZ hs ht hi hz hzs hpos hsv hb hn hbs hbe (apps_of hs hx hrows hxs hu) hg hbytes h63 hsame hpl
theorem good_appz {c : Cx} (hs : PSim P c) {t u e ty : TypeId} {kn kq : IntKind} (ht : P.underlying t = some (.slice e)) (hu : P.underlying u = some (.int kn)) {i : TypeInfo} {zs : List D} (hi : P.info? e = some i) (hz : zeroOf P e = some zs) (hzl : zs.length = i.size) (hpos : 0 < i.size) (hby : 0 < i.bytes)
    {s : V} {sv : Value} {k : Nat} (hsv : RelV c s sv) {v : V} {m' : Mem} (h : appendZ e i.size i.bytes zs c.m s k = some (v, m')) :
    Good P c m' v (do pure (.value (← Builtin.append_ #[t, u] ty #[sv, .int kq (k : Int)]))) := by
  unfold appendZ at h
  split at h
  case h_2 => cases h
  rename_i nl id n
  obtain ⟨b, hb, h2⟩ := Option.bind_eq_some_iff.1 h
  clear h
  split at h2
  case h_2 => cases h2
  rename_i e' z' rows
  split at h2
  case isFalse => cases h2
  rename_i hc
  obtain ⟨rfl, rfl, rfl, hbytes, hsc⟩ := hc
  cases h2
  obtain ⟨zv, hzv, hcc⟩ : ∃ zv, i.zero = some zv ∧ constCells zv.cells.toList = some zs := by
    simp only [zeroOf, hi, Option.bind_some] at hz
    obtain ⟨zv, h1, h2⟩ := Option.bind_eq_some_iff.1 hz
    exact ⟨zv, h1, h2⟩
  have hzs : zv.cells.size = i.size := by
    obtain ⟨r1, _⟩ := constCells_rel (c := c) hcc
    rw [← Array.length_toList, r1.len]; simpa using hzl
  have hm1 := Nat.le_mul_of_pos_right (rows.length + k) hby
  have hm2 : k * i.bytes ≤ (rows.length + k) * i.bytes := Nat.mul_le_mul_right _ (by omega)
  have hS : Apps P c i zv u (.int kq (k : Int)) ((List.replicate k zs).map (List.map V.d)) := apps_zeros hcc hzl hpos hu (by omega) (by omega)
  have := good_append_soZ (ty := ty) hs ht hi hzv hzs hpos (b' := .flat e' i.size (rows ++ List.replicate k zs) false) hsv hb rfl rfl rfl hS
    ⟨rfl, rfl, rfl, rfl, rfl, rfl, by simp [Blk.vrows], by simp [Blk.len], by simp [Blk.vrows, Blk.len], fun hp r hr y hy' => by
      rcases List.mem_append.1 hr with hr | hr
      · exact hp r hr y hy'
      · rw [(List.mem_replicate.1 hr).2] at hy'; exact List.all_eq_true.1 hsc y hy'⟩ (by simpa [Blk.len] using hbytes) (by simp [Blk.len]; omega) (fun h0 => by
      have : List.replicate k zs = [] := List.length_eq_zero_iff.1 (by simpa using h0)
      rw [this, List.append_nil]) (fun hl r hr y hy' => by
      have : rows = [] := List.length_eq_zero_iff.1 (by simpa [Blk.len] using hl)
      subst this
      have hr' : r ∈ List.replicate k zs := by simpa using hr
      rw [(List.mem_replicate.1 hr').2] at hy'; exact List.all_eq_true.1 hsc y hy')
  have e1 : ((List.replicate k zs).map (List.map V.d)).isEmpty = (List.replicate k zs).isEmpty := by cases k <;> rfl
  rw [e1, List.length_map, List.length_replicate] at this
  simpa [Blk.len] using this
theorem good_append {c : Cx} (hs : PSim P c) {t u e ty : TypeId} (ht : P.underlying t = some (.slice e)) (hu : P.underlying u = some (.slice e)) {i : TypeInfo} {z : Value} (hi : P.info? e = some i) (hz : i.zero = some z) (hzs : z.cells.size = i.size) (hpos : 0 < i.size)
    {fl : Bool} {s x : V} {sv xv : Value} (hsv : RelV c s sv) (hx : RelV c x xv) (h63 : ∀ k : Nat, k * i.bytes ≤ 140737488355328 → k ≤ 9223372036854775807) {v : V} {m' : Mem} (h : appendV e fl i.size i.bytes c.m s x = some (v, m')) :
    Good P c m' v (do pure (.value (← Builtin.append_ #[t, u] ty #[sv, xv]))) := by
  cases s with
  | sl id n off len =>
    simp only [appendV] at h
    split at h
    case isFalse => cases h
    rename_i hc
    obtain ⟨hxs, rfl, rfl⟩ := hc
    obtain ⟨b, hb, h⟩ := Option.bind_eq_some_iff.1 h
    have hsv0 := hsv
    simp only [RelV] at hsv
    obtain ⟨blk, ad, cap, hb', hn', rfl, hcap, hsv⟩ := hsv
    rw [hb] at hb'; cases hb'
    cases b with
    | flat e' z' rows p =>
      cases p with
      | true => simp at h
      | false =>
        simp only at h
        split at h
        case isFalse => cases h
        rename_i hc
        obtain ⟨rfl, rfl, he⟩ := hc
        obtain ⟨ys, hy, h2⟩ := Option.bind_eq_some_iff.1 h
        clear h
        subst he
        have h := h2
        clear h2
        split at h
        case isFalse => cases h
        rename_i hbytes
        have hrows := flatRows_rows hy
        split at h
        · rename_i h0
          cases h
          obtain ⟨news, hsrc, hrel, h1, hl⟩ := src_of hs hx hrows hxs hu
          have hn : news = [] := List.length_eq_zero_iff.1 (by rw [hsrc.newsLen]; simp [h0])
          have h0' : (ys.map (List.map V.d)).length = 0 := by simpa using h0
          rw [h0', hn] at hsrc
          refine Good.val hs (run_v (run_append_nothing c.w t u ty _ i ht hi _ _ _ hcap xv hsrc)) ?_
          simp only [RelV]
          exact ⟨_, _, _, hb, hn', rfl, hcap, hsv⟩
        · rename_i h0
          cases h
          have hsc := flatRows_scalar hs hx hy
          have := good_grow (ty := ty) hs ht hu hi hz hzs (sv := .un) (x := x) (b' := .flat e' i.size (rows ++ ys) false) hsv0 hx hb rfl rfl hrows hxs
            ⟨rfl, rfl, rfl, rfl, rfl, rfl, by simp [Blk.vrows], by simp [Blk.len], by simp [Blk.vrows, Blk.len], fun hp r hr y hy' => by
              rcases List.mem_append.1 hr with hr | hr
              · exact hp r hr y hy'
              · exact hsc r hr y hy'⟩ (by simpa [Blk.len] using hbytes) (by have := h63 _ hbytes; simpa using this) (by simpa using h0) rfl
          simpa using this
    | gen e' z' rows p =>
      cases p with
      | true => simp at h
      | false =>
        simp only at h
        split at h
        case isFalse => cases h
        rename_i hc
        obtain ⟨rfl, rfl, he⟩ := hc
        obtain ⟨ys, hy, h2⟩ := Option.bind_eq_some_iff.1 h
        clear h
        subst he
        have h := h2
        clear h2
        split at h
        case isFalse => cases h
        rename_i hbytes
        split at h
        · rename_i h0
          cases h
          obtain ⟨news, hsrc, hrel, h1, hl⟩ := src_of hs hx hy hxs hu
          have hn : news = [] := List.length_eq_zero_iff.1 (by rw [hsrc.newsLen]; simp [h0])
          rw [h0, hn] at hsrc
          refine Good.val hs (run_v (run_append_nothing c.w t u ty _ i ht hi _ _ _ hcap xv hsrc)) ?_
          simp only [RelV]
          exact ⟨_, _, _, hb, hn', rfl, hcap, hsv⟩
        · rename_i h0
          cases h
          exact good_grow (ty := ty) hs ht hu hi hz hzs (sv := .un) (x := x) (b' := .gen e' i.size (rows ++ ys) false) hsv0 hx hb rfl rfl hy hxs
            ⟨rfl, rfl, rfl, rfl, rfl, rfl, by simp [Blk.vrows], by simp [Blk.len], by simp [Blk.vrows, Blk.len], fun hp => trivial⟩ (by simpa [Blk.len] using hbytes) (h63 _ hbytes) h0 rfl
    | loop => simp at h
  | so nl id n =>
    simp only [appendV] at h
    split at h
    case isFalse => cases h
    rename_i hxs
    obtain ⟨b, hb, h⟩ := Option.bind_eq_some_iff.1 h
    cases b with
    | flat e' z' rows p =>
      cases p with
      | true => simp at h
      | false =>
        simp only at h
        split at h
        case isFalse => cases h
        rename_i hc
        obtain ⟨rfl, rfl, he⟩ := hc
        obtain ⟨ys, hy, h2⟩ := Option.bind_eq_some_iff.1 h
        subst he
        split at h2
        case isFalse => cases h2
        rename_i hbytes
        cases h2
        have hsc := flatRows_scalar hs hx hy
        have := good_append_so (ty := ty) hs ht hu hi hz hzs hpos (b' := .flat e' i.size (rows ++ ys) false) hsv hx hb rfl rfl rfl (flatRows_rows hy) hxs
          ⟨rfl, rfl, rfl, rfl, rfl, rfl, by simp [Blk.vrows], by simp [Blk.len], by simp [Blk.vrows, Blk.len], fun hp r hr y hy' => by
            rcases List.mem_append.1 hr with hr | hr
            · exact hp r hr y hy'
            · exact hsc r hr y hy'⟩ (by simpa [Blk.len] using hbytes) (by have := h63 _ hbytes; simpa using this) (fun h0 => by
              have : ys = [] := List.length_eq_zero_iff.1 (by simpa using h0)
              rw [this, List.append_nil]) (fun hl r hr y hy' => by
              have : rows = [] := List.length_eq_zero_iff.1 (by simpa [Blk.len] using hl)
              subst this
              exact hsc r (by simpa using hr) y hy')
        have e1 : (ys.map (List.map V.d)).isEmpty = ys.isEmpty := by cases ys <;> rfl
        rw [e1, List.length_map] at this; exact this
    | gen e' z' rows p =>
      cases p with
      | true => simp at h
      | false =>
        simp only at h
        split at h
        case isFalse => cases h
        rename_i hc
        obtain ⟨rfl, rfl, he⟩ := hc
        obtain ⟨ys, hy, h2⟩ := Option.bind_eq_some_iff.1 h
        subst he
        split at h2
        case isFalse => cases h2
        rename_i hbytes
        cases h2
        exact good_append_so (ty := ty) hs ht hu hi hz hzs hpos (b' := .gen e' i.size (rows ++ ys) false) hsv hx hb rfl rfl rfl hy hxs
          ⟨rfl, rfl, rfl, rfl, rfl, rfl, by simp [Blk.vrows], by simp [Blk.len], by simp [Blk.vrows, Blk.len], fun hp => trivial⟩ (by simpa [Blk.len] using hbytes) (h63 _ hbytes) (fun h0 => by
            have : ys = [] := List.length_eq_zero_iff.1 h0
            rw [this, List.append_nil]) (fun _ => trivial)
    | loop => simp at h
  | d s =>
    cases s with
    | nils =>
      have hsv' := hsv
      simp only [RelV, RelD] at hsv'
      subst hsv'
      simp only [appendV] at h
      split at h
      case isFalse => cases h
      rename_i hxs
      split at h
      · obtain ⟨ys, hy, h⟩ := Option.bind_eq_some_iff.1 h
        split at h
        case isFalse => cases h
        rename_i hbytes
        have hsc := flatRows_scalar hs hx hy
        exact good_append_new hs ht hu hi hz hzs hpos hsv hx (flatRows_rows hy) hxs (by simpa using hbytes) (by have := h63 _ hbytes; simpa using this) (b := .flat e i.size ys false) ⟨rfl, rfl, rfl, rfl, by simp [Blk.len], hsc⟩ (by simpa using h)
      · obtain ⟨ys, hy, h⟩ := Option.bind_eq_some_iff.1 h
        split at h
        case isFalse => cases h
        rename_i hbytes
        exact good_append_new hs ht hu hi hz hzs hpos hsv hx hy hxs hbytes (h63 _ hbytes) (b := .gen e i.size ys false) ⟨rfl, rfl, rfl, rfl, by simp [Blk.len], trivial⟩ h
    | rs fl' z' rows tight =>
      cases tight with
      | false => simp [appendV] at h
      | true =>
        have hsv' := hsv
        simp only [RelV, RelD] at hsv'
        obtain ⟨_, _, _, b0, o0, sp0, cap, rfl, _, hcap, htt, _⟩ := hsv'
        simp only [appendV] at h
        split at h
        case isFalse => cases h
        rename_i hc
        obtain ⟨hxs, rfl, h0⟩ := hc
        have hcap0 : cap = 0 := by have := htt trivial; omega
        subst hcap0
        rw [h0] at hsv ⊢
        split at h
        · obtain ⟨ys, hy, h⟩ := Option.bind_eq_some_iff.1 h
          split at h
          case isFalse => cases h
          rename_i hbytes
          have hsc := flatRows_scalar hs hx hy
          exact good_append_new hs ht hu hi hz hzs hpos hsv hx (flatRows_rows hy) hxs (by simpa using hbytes) (by have := h63 _ hbytes; simpa using this) (b := .flat e i.size ys false) ⟨rfl, rfl, rfl, rfl, by simp [Blk.len], hsc⟩ (by simpa using h)
        · obtain ⟨ys, hy, h⟩ := Option.bind_eq_some_iff.1 h
          split at h
          case isFalse => cases h
          rename_i hbytes
          exact good_append_new hs ht hu hi hz hzs hpos hsv hx hy hxs hbytes (h63 _ hbytes) (b := .gen e i.size ys false) ⟨rfl, rfl, rfl, rfl, by simp [Blk.len], trivial⟩ h
    | _ => simp [appendV] at h
  | _ => simp [appendV] at h
theorem intBits_ok {op : BinOp} {k : IntKind} {a b r : Int} (h : intBits op k a b = some r) (w : World) : (Op.intBits op k a b).run P w = .ok (.int k r) w := by
  unfold intBits at h
  cases op <;> simp at h <;> subst h <;> simp [Op.intBits]
theorem binInt_ok {op : BinOp} {k : IntKind} {a b : Int} {r : D} (h : binInt op k a b = some r) (t : TypeId) (w : World) (c : Cx) : ∃ u, (binOp op t (.int k a) (.int k b)).run P w = .ok u w ∧ RelD c.I c.w r u := by
  cases op <;> simp only [binInt] at h
  case add => cases h; exact ⟨_, by simp [binOp, Op.intArith], rfl⟩
  case sub => cases h; exact ⟨_, by simp [binOp, Op.intArith], rfl⟩
  case mul => cases h; exact ⟨_, by simp [binOp, Op.intArith], rfl⟩
  case quo =>
    split at h
    · cases h
    · rename_i h0; cases h; exact ⟨_, by simp [binOp, Op.intDiv, h0], rfl⟩
  case rem =>
    split at h
    · cases h
    · rename_i h0; cases h; exact ⟨_, by simp [binOp, Op.intDiv, h0], rfl⟩
  case eql => cases h; exact ⟨_, by simp [binOp, Op.intCmp], rfl⟩
  case neq => cases h; exact ⟨_, by simp [binOp, Op.intCmp], rfl⟩
  case lss => cases h; exact ⟨_, by simp [binOp, Op.intCmp], rfl⟩
  case leq => cases h; exact ⟨_, by simp [binOp, Op.intCmp], rfl⟩
  case gtr => cases h; exact ⟨.bool (decide (a > b)), by simp [binOp, Op.intCmp], rfl⟩
  case geq => cases h; exact ⟨.bool (decide (a ≥ b)), by simp [binOp, Op.intCmp], rfl⟩
  case shl => cases h
  case shr => cases h
  case and => obtain ⟨x, hx, rfl⟩ := Option.map_eq_some_iff.1 h; exact ⟨.int k x, by simpa [binOp] using intBits_ok (P := P) hx w, rfl⟩
  case or => obtain ⟨x, hx, rfl⟩ := Option.map_eq_some_iff.1 h; exact ⟨.int k x, by simpa [binOp] using intBits_ok (P := P) hx w, rfl⟩
  case xor => obtain ⟨x, hx, rfl⟩ := Option.map_eq_some_iff.1 h; exact ⟨.int k x, by simpa [binOp] using intBits_ok (P := P) hx w, rfl⟩
  case andNot => obtain ⟨x, hx, rfl⟩ := Option.map_eq_some_iff.1 h; exact ⟨.int k x, by simpa [binOp] using intBits_ok (P := P) hx w, rfl⟩
theorem binStr_ok {op : BinOp} {a b : ByteArray} {r : D} (h : binStr op a b = some r) (t : TypeId) (w : World) (c : Cx) : ∃ u, (binOp op t (.string a) (.string b)).run P w = .ok u w ∧ RelD c.I c.w r u := by
  cases op <;> simp only [binStr] at h
  case add =>
    split at h
    · rename_i hl; cases h
      have hn : ¬ ((9223372036854775807 : Int) < (a.size : Int) + (b.size : Int)) := by omega
      exact ⟨.string (a ++ b), by simp [binOp, Op.stringOp, IntKind.max, IntKind.signed, IntKind.bits, hn], rfl⟩
    · cases h
  case eql => cases h; exact ⟨_, by simp [binOp, Op.stringOp], rfl⟩
  case neq => cases h; exact ⟨_, by simp [binOp, Op.stringOp], rfl⟩
  case lss => cases h; exact ⟨_, by simp [binOp, Op.stringOp], rfl⟩
  case leq => cases h; exact ⟨_, by simp [binOp, Op.stringOp], rfl⟩
  case gtr => cases h; exact ⟨.bool !(Op.bytesLess a.toList b.toList || a.toList == b.toList), by simp [binOp, Op.stringOp], rfl⟩
  case geq => cases h; exact ⟨_, by simp [binOp, Op.stringOp], rfl⟩
  all_goals cases h
theorem shift_ok {op : BinOp} {k yk : IntKind} {a b : Int} {r : D} (hop : op = .shl ∨ op = .shr) (h : shiftInt op k a b = some r) (t : TypeId) (w : World) (c : Cx) : ∃ u, (binOp op t (.int k a) (.int yk b)).run P w = .ok u w ∧ RelD c.I c.w r u := by
  unfold shiftInt at h
  split at h
  · cases h
  · rename_i hb
    rcases hop with rfl | rfl <;> cases h
    · exact ⟨_, by simp [binOp, Op.shift, hb], rfl⟩
    · exact ⟨_, by simp [binOp, Op.shift, hb], rfl⟩
theorem bin_ok {c : Cx} {op : BinOp} {x y v : V} {xv yv : Value} (hx : RelV c x xv) (hy : RelV c y yv) (h : binV op x y = some v) (t : TypeId) (xo yo : Operand) :
    ∃ u, (do eqGuard op t xo yo xv yv; binOp op t xv yv).run P c.w = .ok u c.w ∧ RelV c v u := by
  cases x with
  | d x =>
    cases y with
    | d y =>
      cases x <;> cases y <;> try (simp [binV] at h; done)
      case int.int k a k' b =>
        simp only [RelV, RelD] at hx hy
        subst hx; subst hy
        have key : ∃ u, (binOp op t (.int k a) (.int k' b)).run P c.w = .ok u c.w ∧ RelV c v u := by
          simp only [binV] at h
          split at h
          · obtain ⟨r, hr, rfl⟩ := Option.map_eq_some_iff.1 h; simpa only [RelV] using shift_ok (P := P) (.inl rfl) hr t c.w c
          · obtain ⟨r, hr, rfl⟩ := Option.map_eq_some_iff.1 h; simpa only [RelV] using shift_ok (P := P) (.inr rfl) hr t c.w c
          · split at h
            · rename_i hk; subst hk
              obtain ⟨r, hr, rfl⟩ := Option.map_eq_some_iff.1 h; simpa only [RelV] using binInt_ok (P := P) hr t c.w c
            · cases h
        obtain ⟨u, h1, h2⟩ := key
        exact ⟨u, by cases op <;> simp [eqGuard, h1], h2⟩
      case str.str a b =>
        simp only [RelV, RelD] at hx hy
        subst hx; subst hy
        simp only [binV] at h
        obtain ⟨r, hr, rfl⟩ := Option.map_eq_some_iff.1 h
        obtain ⟨u, h1, h2⟩ := binStr_ok (P := P) hr t c.w c
        exact ⟨u, by cases op <;> simp [eqGuard, h1], by simpa only [RelV] using h2⟩
    | _ => cases x <;> simp [binV] at h
  | _ => simp [binV] at h
theorem un_ok {c : Cx} {op : UnOp} {x v : V} {xv : Value} (hx : RelV c x xv) (h : unV op x = some v) : ∃ u, (Op.unary op xv).run P c.w = .ok u c.w ∧ RelV c v u := by
  cases x with
  | d x =>
    cases x <;> cases op <;> simp [unV] at h
    case bool.not b => subst h; simp only [RelV, RelD] at hx; subst hx; exact ⟨.bool !b, by simp [Op.unary], by simp only [RelV, RelD]⟩
    case int.neg k n => subst h; simp only [RelV, RelD] at hx; subst hx; exact ⟨.int k (k.wrap (0 - n)), by simp [Op.unary, Op.intArith], by simp [RelV, RelD]⟩
    case int.xor k n =>
      obtain ⟨r, hr, rfl⟩ := h
      simp only [RelV, RelD] at hx; subst hx
      exact ⟨.int k r, by simpa [Op.unary] using intBits_ok (P := P) hr c.w, by simp [RelV, RelD]⟩
  | _ => cases op <;> simp [unV] at h
end Go.Proofs.YtlenjioebdmooaaDoor.Den

namespace Go.Proofs.YtlenjioebdmooaaDoor.Den
open Go
set_option linter.unusedVariables false
set_option linter.unusedSimpArgs false
variable {P : Program}
theorem equal_step {t : TypeId} {x y : Value} {w : World} {r : Result Bool} (h : ∀ d, (Op.equalIn (d + 1) t x y).run P w = r) : (Op.equal t x y).run P w = r := h 9999
theorem eq_ptr {c : Cx} {x y : V} {xv yv : Value} (hx : RelV c x xv) (hy : RelV c y yv) {b : Bool} (h : eqV .ptr x y = some b) {t e : TypeId} (ht : P.underlying t = some (.pointer e)) :
    (∃ p q, xv = .pointer p ∧ yv = .pointer q) ∧ (Op.equal t xv yv).run P c.w = .ok b c.w := by
  have some_of : ∀ z zv, RelV c z zv → isPtr z = true → ∃ a, zv = .pointer (some a) := by
    intro z zv hz hp
    cases z with
    | d z => cases z <;> simp [isPtr] at hp; simp only [RelV, RelD] at hz; obtain ⟨b, o, rfl, _⟩ := hz; exact ⟨_, rfl⟩
    | ptr => simp only [RelV] at hz; obtain ⟨_, a, _, _, rfl, _⟩ := hz; exact ⟨_, rfl⟩
    | pa => simp only [RelV] at hz; obtain ⟨_, a, _, _, rfl, _⟩ := hz; exact ⟨_, rfl⟩
    | _ => simp [isPtr] at hp
  have e1 : (Op.equal t (.pointer none) (.pointer none)).run P c.w = .ok true c.w := equal_step fun d => by simp [Op.equalIn, run_underlying ht]
  have e2 : ∀ a, (Op.equal t (.pointer none) (.pointer (some a))).run P c.w = .ok false c.w := fun a => equal_step fun d => by simp [Op.equalIn, run_underlying ht]
  have e3 : ∀ a, (Op.equal t (.pointer (some a)) (.pointer none)).run P c.w = .ok false c.w := fun a => equal_step fun d => by simp [Op.equalIn, run_underlying ht]
  unfold eqV at h
  simp only at h
  split at h
  · cases h; simp only [RelV, RelD] at hx hy; subst hx; subst hy; exact ⟨⟨_, _, rfl, rfl⟩, e1⟩
  · split at h
    · rename_i hp; cases h; obtain ⟨a, rfl⟩ := some_of _ _ hy hp; simp only [RelV, RelD] at hx; subst hx; exact ⟨⟨_, _, rfl, rfl⟩, e2 a⟩
    · cases h
  · split at h
    · rename_i hp; cases h; obtain ⟨a, rfl⟩ := some_of _ _ hx hp; simp only [RelV, RelD] at hy; subst hy; exact ⟨⟨_, _, rfl, rfl⟩, e3 a⟩
    · cases h
  · cases h
theorem eq_slc {c : Cx} {x y : V} {xv yv : Value} (hx : RelV c x xv) (hy : RelV c y yv) {b : Bool} (h : eqV .slc x y = some b) {t e : TypeId} (ht : P.underlying t = some (.slice e)) :
    (∃ p n k q l j, xv = .slice p n k ∧ yv = .slice q l j) ∧ (Op.equal t xv yv).run P c.w = .ok b c.w := by
  have some_of : ∀ z zv, RelV c z zv → isSlc z = true → ∃ a n k, zv = .slice (some a) n k := by
    intro z zv hz hp
    cases z with
    | d z => cases z <;> simp [isSlc] at hp; simp only [RelV, RelD] at hz; obtain ⟨_, _, _, b, o, sp, cap, rfl, _⟩ := hz; exact ⟨_, _, _, rfl⟩
    | sl => simp only [RelV] at hz; obtain ⟨_, a, _, _, _, rfl, _⟩ := hz; exact ⟨_, _, _, rfl⟩
    | sa => simp only [RelV] at hz; obtain ⟨_, a, _, _, _, rfl, _⟩ := hz; exact ⟨_, _, _, rfl⟩
    | _ => simp [isSlc] at hp
  have e1 : ∀ n k l j, (Op.equal t (.slice none n k) (.slice none l j)).run P c.w = .ok true c.w := fun _ _ _ _ => equal_step fun d => by simp [Op.equalIn, run_underlying ht]
  have e2 : ∀ a n k l j, (Op.equal t (.slice none n k) (.slice (some a) l j)).run P c.w = .ok false c.w := fun _ _ _ _ _ => equal_step fun d => by simp [Op.equalIn, run_underlying ht]
  have e3 : ∀ a n k l j, (Op.equal t (.slice (some a) n k) (.slice none l j)).run P c.w = .ok false c.w := fun _ _ _ _ _ => equal_step fun d => by simp [Op.equalIn, run_underlying ht]
  unfold eqV at h
  simp only at h
  split at h
  · cases h; simp only [RelV, RelD] at hx hy; subst hx; subst hy; exact ⟨⟨_, _, _, _, _, _, rfl, rfl⟩, e1 _ _ _ _⟩
  · rename_i b0 id n
    cases h
    cases b with
    | true => simp only [RelV, RelD] at hx hy; obtain ⟨rfl, _⟩ := hx; subst hy; exact ⟨⟨_, _, _, _, _, _, rfl, rfl⟩, e1 _ _ _ _⟩
    | false => simp only [RelV, RelD] at hx hy; obtain ⟨_, a, _, _, _, rfl, _⟩ := hx; subst hy; exact ⟨⟨_, _, _, _, _, _, rfl, rfl⟩, e3 _ _ _ _ _⟩
  · rename_i b0 id n
    cases h
    cases b with
    | true => simp only [RelV, RelD] at hx hy; obtain ⟨rfl, _⟩ := hy; subst hx; exact ⟨⟨_, _, _, _, _, _, rfl, rfl⟩, e1 _ _ _ _⟩
    | false => simp only [RelV, RelD] at hx hy; obtain ⟨_, a, _, _, _, rfl, _⟩ := hy; subst hx; exact ⟨⟨_, _, _, _, _, _, rfl, rfl⟩, e2 _ _ _ _ _⟩
  · split at h
    · rename_i hp; cases h; obtain ⟨a, n, k, rfl⟩ := some_of _ _ hy hp; simp only [RelV, RelD] at hx; subst hx; exact ⟨⟨_, _, _, _, _, _, rfl, rfl⟩, e2 _ _ _ _ _⟩
    · cases h
  · split at h
    · rename_i hp; cases h; obtain ⟨a, n, k, rfl⟩ := some_of _ _ hx hp; simp only [RelV, RelD] at hy; subst hy; exact ⟨⟨_, _, _, _, _, _, rfl, rfl⟩, e3 _ _ _ _ _⟩
    · cases h
  · cases h
theorem eq_bool {c : Cx} {x y : V} {xv yv : Value} (hx : RelV c x xv) (hy : RelV c y yv) {b : Bool} (h : eqV .bool x y = some b) {t : TypeId} (ht : P.underlying t = some .bool) :
    (∃ p q, xv = .bool p ∧ yv = .bool q) ∧ (Op.equal t xv yv).run P c.w = .ok b c.w := by
  unfold eqV at h
  simp only at h
  split at h
  · cases h; simp only [RelV, RelD] at hx hy; subst hx; subst hy; exact ⟨⟨_, _, rfl, rfl⟩, equal_step fun d => by simp [Op.equalIn, run_underlying ht]⟩
  · cases h
theorem eq_ifc {c : Cx} {x y : V} {xv yv : Value} (hx : RelV c x xv) (hy : RelV c y yv) {b : Bool} (h : eqV .ifc x y = some b) {t : TypeId} {ms : Array (String × TypeId)} (ht : P.underlying t = some (.interface ms)) :
    ((xv = .nilIface ∨ ∃ a u, xv = .iface a u) ∧ (yv = .nilIface ∨ ∃ a u, yv = .iface a u)) ∧ (Op.equal t xv yv).run P c.w = .ok b c.w := by
  unfold eqV at h
  simp only at h
  split at h
  · cases h; simp only [RelV, RelD] at hx hy; subst hx; subst hy; exact ⟨⟨.inl rfl, .inl rfl⟩, equal_step fun d => by simp [Op.equalIn, run_underlying ht]⟩
  · cases h; simp only [RelV, RelD] at hx hy; obtain ⟨u, rfl, _⟩ := hy; subst hx; exact ⟨⟨.inl rfl, .inr ⟨_, _, rfl⟩⟩, equal_step fun d => by simp [Op.equalIn, run_underlying ht]⟩
  · cases h; simp only [RelV, RelD] at hx hy; obtain ⟨u, rfl, _⟩ := hx; subst hy; exact ⟨⟨.inr ⟨_, _, rfl⟩, .inl rfl⟩, equal_step fun d => by simp [Op.equalIn, run_underlying ht]⟩
  · cases h
theorem beq_run_ifc {xo yo : Operand} {t : TypeId} {x y : Value} {b : Bool} {w : World} (hs : (x = .nilIface ∨ ∃ a u, x = .iface a u) ∧ (y = .nilIface ∨ ∃ a u, y = .iface a u)) (hc : (∃ v, xo = .const v) ∨ (∃ v, yo = .const v))
    (h : (Op.equal t x y).run P w = .ok b w) :
    (do eqGuard .eql t xo yo x y; binOp .eql t x y).run P w = .ok (.bool (false != b)) w ∧ (do eqGuard .neq t xo yo x y; binOp .neq t x y).run P w = .ok (.bool (true != b)) w := by
  obtain ⟨rfl | ⟨a, u, rfl⟩, rfl | ⟨a', u', rfl⟩⟩ := hs
  · rcases hc with ⟨v, rfl⟩ | ⟨v, rfl⟩ <;> constructor <;> simp [eqGuard, binOp, h]
  · constructor <;> simp [eqGuard, binOp, h]
  · constructor <;> simp [eqGuard, binOp, h]
  · constructor <;> simp [eqGuard, binOp, h]
theorem nili_const {x : Operand} {o : O} (h : cO x = some o) (hn : isNili o = true) : ∃ v, x = .const v := by
  cases x with
  | tmp i => simp [cO] at h; subst h; simp [isNili] at hn
  | const v => exact ⟨v, rfl⟩
  | global g => simp [cO] at h; subst h; simp [isNili] at hn
  | func f => simp [cO] at h; subst h; simp [isNili] at hn
theorem beq_run {xo yo : Operand} {t : TypeId} {x y : Value} {b : Bool} {w : World} (hs : (∃ p q, x = .pointer p ∧ y = .pointer q) ∨ (∃ p n k q l j, x = .slice p n k ∧ y = .slice q l j) ∨ (∃ p q, x = .bool p ∧ y = .bool q))
    (h : (Op.equal t x y).run P w = .ok b w) :
    (do eqGuard .eql t xo yo x y; binOp .eql t x y).run P w = .ok (.bool (false != b)) w ∧ (do eqGuard .neq t xo yo x y; binOp .neq t x y).run P w = .ok (.bool (true != b)) w := by
  rcases hs with ⟨p, q, rfl, rfl⟩ | ⟨p, n, k, q, l, j, rfl, rfl⟩ | ⟨p, q, rfl, rfl⟩
  · constructor <;> simp [eqGuard, binOp, h]
  · constructor <;> simp [eqGuard, binOp, h]
  · constructor <;> simp [eqGuard, binOp, h]
theorem asNat_int {c : Cx} {x : V} {xv : Value} {n : Nat} (hx : RelV c x xv) (h : asNat x = some n) : ∃ k, xv = .int k (n : Int) := by
  cases x with
  | d x =>
    cases x <;> simp [asNat] at h
    simp only [RelV, RelD] at hx
    obtain ⟨h0, rfl⟩ := h
    exact ⟨_, by rw [hx, Int.toNat_of_nonneg h0]⟩
  | _ => simp [asNat] at h
theorem len_int {c : Cx} {x : V} {xv : Value} {n : Nat} (hx : RelV c x xv) (h : lenV x = some n) : ∃ a cap, xv = .slice a n cap ∧ n ≤ cap := by
  cases x with
  | d x =>
    cases x <;> simp [lenV] at h
    case nils => subst h; simp only [RelV, RelD] at hx; exact ⟨_, _, hx, by simp⟩
    case rs => subst h; simp only [RelV, RelD] at hx; obtain ⟨_, _, _, b, o, sp, cap, rfl, _, hc, _⟩ := hx; exact ⟨_, _, rfl, hc⟩
  | sl => simp [lenV] at h; subst h; simp only [RelV] at hx; obtain ⟨_, a, cap, _, _, rfl, hc, _⟩ := hx; exact ⟨_, _, rfl, hc⟩
  | sa => simp [lenV] at h; subst h; simp only [RelV] at hx; obtain ⟨_, a, cap, _, _, rfl, hc, _⟩ := hx; exact ⟨_, _, rfl, hc⟩
  | so b id n =>
    simp [lenV] at h; subst h
    cases b with
    | true => simp only [RelV] at hx; obtain ⟨rfl, rfl, _⟩ := hx; exact ⟨_, _, rfl, by simp⟩
    | false => simp only [RelV] at hx; obtain ⟨_, a, cap, _, _, rfl, hc, _⟩ := hx; exact ⟨_, _, rfl, hc⟩
  | _ => simp [lenV] at h
theorem fieldA_ok {c : Cx} {x v : V} {xv : Value} {sid : TypeId} {k : Nat} {fs : Array Field} {f : Field} {s : Nat} (hx : RelV c x xv) (hu : P.underlying sid = some (.struct fs)) (hf : fs[k]? = some f) (hsz : sizeOfT P f.type = some s) (hpos : 0 < s)
    (h : fieldAV f.offset x = some v) :
    ∃ u, (Instr.fieldAt sid xv k).run P c.w = .ok u c.w ∧ RelV c v u := by
  have hne : s ≠ 0 := by omega
  cases x with
  | d x =>
    cases x with
    | rp cells =>
      simp [fieldAV] at h; subst h
      simp only [RelV, RelD] at hx
      obtain ⟨b, o, rfl, hh⟩ := hx
      refine ⟨.pointer (some ⟨b, o + f.offset, none⟩), ?_, by simp only [RelV, RelD]; exact ⟨b, _, rfl, hh.drop _⟩⟩
      simp [Instr.fieldAt, run_underlying hu, hf, Instr.sureAddr, fieldPlace, sizeOf_run hsz, hne, addr_add]
    | _ => simp [fieldAV] at h
  | ptr id n r o =>
    simp [fieldAV] at h; subst h
    simp only [RelV] at hx
    obtain ⟨blk, ad, hb, hn, rfl, hx⟩ := hx
    refine ⟨.pointer (some (ad.add f.offset)), ?_, ?_⟩
    · simp [Instr.fieldAt, run_underlying hu, hf, Instr.sureAddr, fieldPlace, sizeOf_run hsz, hne]
    · simp only [RelV]
      refine ⟨blk, _, hb, hn, rfl, fun e => ?_⟩
      obtain ⟨B, hB, rfl⟩ := hx e
      exact ⟨B, hB, by rw [addr_add, Nat.add_assoc]⟩
  | _ => simp [fieldAV] at h
theorem part_ok {c : Cx} {cs : List V} {a : List Value} {g : Bool} {off size : Nat} {v : V} {t : TypeId} (hr : RelVs c cs a) (h1 : ∀ u, u ∈ a → OneC u) (hg : aggOf P t = some g) (hz : sizeOfT P t = some size) (h : part g cs off size = some v) :
    ∃ u, (Go.part t ⟨a⟩ off).run P c.w = .ok u c.w ∧ RelV c v u := by
  cases g with
  | true =>
    simp only [part, if_true, seg] at h
    split at h
    · rename_i hle
      simp at h; subst h
      refine ⟨.agg ⟨(a.drop off).take size⟩, ?_, by simp only [RelV]; exact ⟨_, rfl, RelVs.take _ (RelVs.drop _ hr), fun u hu => h1 u (List.mem_of_mem_drop (List.mem_of_mem_take hu))⟩⟩
      simp only [Go.part, Sem.run_bind, isAgg_run hg, Result.andThen_ok, if_true, sizeOf_run hz, Sem.run_pure]
      congr 2
      apply Array.ext'
      simp
    · simp at h
  | false =>
    simp only [part] at h
    obtain ⟨u, hu, hr'⟩ := hr.at off v (by simpa using h)
    exact ⟨u, by simp [Go.part, isAgg_run hg, hu], hr'⟩
theorem field_ok {c : Cx} {x v : V} {xv : Value} {sid : TypeId} {k : Nat} {fs : Array Field} {f : Field} {g : Bool} {s : Nat} (hx : RelV c x xv) (hu : P.underlying sid = some (.struct fs)) (hf : fs[k]? = some f) (hg : aggOf P f.type = some g) (hsz : sizeOfT P f.type = some s)
    (h : fieldV g f.offset s x = some v) : ∃ u, (Instr.field sid xv k).run P c.w = .ok u c.w ∧ RelV c v u := by
  cases x with
  | agg cs =>
    simp only [RelV] at hx
    obtain ⟨a, rfl, hr, h1⟩ := hx
    obtain ⟨u, g1, g2⟩ := part_ok hr h1 hg hsz (by simpa only [fieldV] using h)
    exact ⟨u, by simp [Instr.field, run_underlying hu, hf, asAgg, g1], g2⟩
  | _ => simp [fieldV] at h
theorem idx_ok {c : Cx} {x iv v : V} {xv ivv : Value} {t e : TypeId} {n : Nat} {g : Bool} {s j : Nat} (hx : RelV c x xv) (hi : RelV c iv ivv) (hu : P.underlying t = some (.array n e)) (hg : aggOf P e = some g) (hsz : sizeOfT P e = some s) (hj : asNat iv = some j) (hlt : j < n)
    (h : fieldV g (j * s) s x = some v) : ∃ u, (Instr.index t xv ivv).run P c.w = .ok u c.w ∧ RelV c v u := by
  obtain ⟨k, rfl⟩ := asNat_int hi hj
  cases x with
  | agg cs =>
    simp only [RelV] at hx
    obtain ⟨a, rfl, hr, h1⟩ := hx
    obtain ⟨u, g1, g2⟩ := part_ok hr h1 hg hsz (by simpa only [fieldV] using h)
    refine ⟨u, ?_, g2⟩
    have hc : (0 : Int) ≤ (j : Int) ∧ (j : Int) < (n : Int) := by omega
    simp only [Instr.index, asIntOf, Sem.run_bind, Sem.run_pure, Result.andThen_ok, run_underlying hu]
    rw [if_pos hc]
    simp [sizeOf_run hsz, g1]
  | _ => simp [fieldV] at h
theorem idxs_ok {c : Cx} {iv : V} {ivv : Value} {s : ByteArray} {t : TypeId} {j : Nat} {b : UInt8} (hi : RelV c iv ivv) (hu : P.underlying t = some .string) (hj : asNat iv = some j) (hb : s.data.toList[j]? = some b) :
    (Instr.index t (.string s) ivv).run P c.w = .ok (.int .u8 b.toNat) c.w := by
  obtain ⟨k, rfl⟩ := asNat_int hi hj
  have hlt : j < s.size := by
    have := (List.getElem?_eq_some_iff.1 hb).1
    simpa using this
  have hb' : s[j]? = some b := by
    rw [getElem?_pos s j hlt]
    obtain ⟨h1, h2⟩ := List.getElem?_eq_some_iff.1 hb
    rw [← h2]; rfl
  simp [Instr.index, asIntOf, run_underlying hu, hb']
theorem idxA_slice {c : Cx} {x iv v : V} {xv ivv : Value} {t e : TypeId} {s j : Nat} (hs : PSim P c) (hx : RelV c x xv) (hi : RelV c iv ivv) (hu : P.underlying t = some (.slice e)) (hsz : sizeOfT P e = some s) (hj : asNat iv = some j) (hok : sizeOk c.m s x = true)
    (h : idxSV j x = some v) : ∃ u, (Instr.indexAt t xv ivv).run P c.w = .ok u c.w ∧ RelV c v u := by
  obtain ⟨k, rfl⟩ := asNat_int hi hj
  have run : ∀ (a : Addr) (len cap : Nat), j < len → (Instr.indexAt t (.slice (some a) len cap) (.int k j)).run P c.w = .ok (.pointer (some (a.add (j * s)))) c.w := by
    intro a len cap hlt
    have hc : (0 : Int) ≤ (j : Int) ∧ (j : Int) < (len : Int) := by omega
    simp only [Instr.indexAt, asIntOf, Sem.run_bind, Sem.run_pure, Result.andThen_ok, run_underlying hu]
    simp only [hc, and_self, if_true]
    simp [sizeOf_run hsz]
  cases x with
  | d x =>
    cases x with
    | rs fl z rows tight =>
      simp only [RelV, RelD] at hx
      obtain ⟨hpos, hsc, hl, b, o, sp, cap, rfl, hsp, hcap, htt, hh⟩ := hx
      simp only [idxSV] at h
      obtain ⟨r, hr, rfl⟩ := Option.map_eq_some_iff.1 h
      obtain rfl : sp = none := by rcases hsp with rfl | rfl; simp at hr; rfl
      have hlt : j < rows.length := (List.getElem?_eq_some_iff.1 hr).1
      have hz : z = s := by simpa [sizeOk] using hok
      subst hz
      refine ⟨_, run _ _ _ hlt, ?_⟩
      simp only [RelV, RelD]
      exact ⟨b, o + j * z, by rw [addr_add], hh.at j r hr⟩
    | _ => simp [idxSV] at h
  | sl id n off len =>
    simp only [idxSV] at h
    split at h
    case isFalse => cases h
    rename_i hlt
    cases h
    simp only [RelV] at hx
    obtain ⟨blk, ad, cap, hb, hn, rfl, hcap, hx⟩ := hx
    refine ⟨_, run _ _ _ hlt, ?_⟩
    simp only [RelV]
    refine ⟨blk, _, hb, hn, rfl, fun e => ?_⟩
    obtain ⟨B, e', hB, rfl, _⟩ := hx e
    have hz : blk.size = s := by simpa [sizeOk, hb] using hok
    exact ⟨B, hB, by rw [addr_add, hz, Nat.add_mul]; rfl⟩
  | so nl id n =>
    simp only [idxSV] at h
    split at h
    case isFalse => cases h
    rename_i hlt
    cases h
    cases nl with
    | true => simp only [RelV] at hx; obtain ⟨_, rfl, _⟩ := hx; omega
    | false =>
      simp only [RelV] at hx
      obtain ⟨blk, ad, cap, hb, hn, rfl, hcap, hx⟩ := hx
      refine ⟨_, run _ _ _ hlt, ?_⟩
      simp only [RelV]
      refine ⟨blk, _, hb, hn, rfl, fun e => ?_⟩
      obtain ⟨B, e', hB, rfl, _⟩ := hx e
      have hz : blk.size = s := by simpa [sizeOk, hb] using hok
      exact ⟨B, hB, by rw [addr_add, hz]; simp⟩
  | sa id n row off z len =>
    simp only [idxSV] at h
    split at h
    case isFalse => cases h
    rename_i hlt
    cases h
    simp only [RelV] at hx
    obtain ⟨blk, ad, cap, hb, hn, rfl, hcap, hx⟩ := hx
    refine ⟨_, run _ _ _ hlt, ?_⟩
    simp only [RelV]
    refine ⟨blk, _, hb, hn, rfl, fun e => ?_⟩
    obtain ⟨B, hB, rfl⟩ := hx e
    have hz : z = s := by simpa [sizeOk] using hok
    exact ⟨B, hB, by rw [addr_add, hz, Nat.add_assoc]⟩
  | _ => simp [idxSV] at h
theorem idxA_array {c : Cx} {x iv v : V} {xv ivv : Value} {t e : TypeId} {n s j : Nat} (hx : RelV c x xv) (hi : RelV c iv ivv) (hu : P.underlying t = some (.array n e)) (hsz : sizeOfT P e = some s) (hj : asNat iv = some j) (hlt : j < n)
    (h : idxAV j s x = some v) : ∃ u, (Instr.indexAt t xv ivv).run P c.w = .ok u c.w ∧ RelV c v u := by
  obtain ⟨k, rfl⟩ := asNat_int hi hj
  have run : ∀ (a : Addr), (Instr.indexAt t (.pointer (some a)) (.int k j)).run P c.w = .ok (.pointer (some (a.add (j * s)))) c.w := by
    intro a
    have hc : (0 : Int) ≤ (j : Int) ∧ (j : Int) < (n : Int) := by omega
    simp only [Instr.indexAt, asIntOf, Sem.run_bind, Sem.run_pure, Result.andThen_ok, run_underlying hu, Instr.sureAddr]
    simp only [hc, and_self, if_true]
    simp [sizeOf_run hsz]
  cases x with
  | d x =>
    cases x with
    | rp cells =>
      simp only [idxAV] at h; cases h
      simp only [RelV, RelD] at hx
      obtain ⟨b, o, rfl, hh⟩ := hx
      exact ⟨_, run _, by simp only [RelV, RelD]; exact ⟨b, o + j * s, by rw [addr_add], hh.drop _⟩⟩
    | _ => simp [idxAV] at h
  | ptr id n r o =>
    simp only [idxAV] at h; cases h
    simp only [RelV] at hx
    obtain ⟨blk, ad, hb, hn, rfl, hx⟩ := hx
    refine ⟨_, run _, ?_⟩
    simp only [RelV]
    refine ⟨blk, _, hb, hn, rfl, fun e => ?_⟩
    obtain ⟨B, hB, rfl⟩ := hx e
    exact ⟨B, hB, by rw [addr_add, Nat.add_assoc]⟩
  | _ => simp [idxAV] at h
end Go.Proofs.YtlenjioebdmooaaDoor.Den

namespace Go.Proofs.YtlenjioebdmooaaDoor.Den
open Go
set_option linter.unusedVariables false
set_option linter.unusedSimpArgs false
variable {P : Program}
theorem opt_int {E : Env} {c : Cx} {t : Nat → V} {a : Act} (ht : TRel c t a) (hg : GlOK E c) {x : Option Operand} {o : Option O} {dflt n : Nat} (hc : cOpt x = some o) (h : optNat E t o dflt = some n) :
    (x = none ∧ o = none ∧ n = dflt) ∨ ∃ y k, x = some y ∧ a.eval y = .int k (n : Int) := by
  cases x with
  | none => simp [cOpt] at hc; subst hc; simp [optNat] at h; exact .inl ⟨rfl, rfl, h.symm⟩
  | some y =>
    simp [cOpt] at hc
    obtain ⟨z, hz, rfl⟩ := hc
    obtain ⟨k, hk⟩ := asNat_int (ev_rel ht hg hz) (by simpa [optNat] using h)
    exact .inr ⟨y, k, rfl, hk⟩
theorem sliceBound_run {k : IntKind} {i y : Nat} {code : BoundsCode} (h : i ≤ y) (w : World) : (Instr.sliceBound (.int k (i : Int)) y code).run P w = .ok i w := by
  have hc : (0 : Int) ≤ (i : Int) ∧ (i : Int) ≤ (y : Int) := by omega
  simp only [Instr.sliceBound, asIntOf, Sem.run_bind, Sem.run_pure, Result.andThen_ok]
  rw [if_pos hc]; simp
theorem bounds_run {isSlice : Bool} {len cap l h m : Nat} {lo hi mx : Option Value} (hm : (mx = none ∧ m = cap) ∨ ∃ k, mx = some (.int k (m : Int))) (hmc : m ≤ cap) (hh : (hi = none ∧ h = len ∧ mx = none) ∨ ∃ k, hi = some (.int k (h : Int))) (hhm : h ≤ m)
    (hl : (lo = none ∧ l = 0) ∨ ∃ k, lo = some (.int k (l : Int))) (hlh : l ≤ h) (w : World) : (Instr.sliceBounds isSlice len cap lo hi mx).run P w = .ok (l, h, m) w := by
  rcases hm with ⟨rfl, rfl⟩ | ⟨k, rfl⟩ <;> rcases hh with ⟨rfl, rfl, e⟩ | ⟨k', rfl⟩ <;> rcases hl with ⟨rfl, rfl⟩ | ⟨k'', rfl⟩ <;>
    first
    | (cases e; done)
    | simp [Instr.sliceBounds, sliceBound_run, hmc, hhm, hlh]
theorem HeldR.nil {I : Imm} {w : World} {s b o : Nat} : HeldR I w s b o [] := by simp [HeldR]
theorem slice_ok {c : Cx} (hs : PSim P c) {t e : TypeId} {s : Nat} (hu : P.underlying t = some (.slice e)) (hsz : sizeOfT P e = some s) (hpos : 0 < s) {x v : V} {xv : Value} (hx : RelV c x xv) (hok : sizeOk c.m s x = true) {n l h : Nat} (hn : lenV x = some n)
    {lo hi mx : Option Value} {mo : Option Nat} (hl : (lo = none ∧ l = 0) ∨ ∃ k, lo = some (.int k (l : Int))) (hh : (hi = none ∧ h = n ∧ mx = none) ∨ ∃ k, hi = some (.int k (h : Int))) (hm : (mx = none ∧ mo = none) ∨ ∃ (k : IntKind) (m : Nat), mx = some (.int k (m : Int)) ∧ mo = some m)
    {m' : Mem} (hd : sliceV c.m x l h mo = some (v, m')) : m' = c.m ∧ ∃ u, (Instr.sliceAt t xv lo hi mx).run P c.w = .ok u c.w ∧ RelV c v u := by
  have run : ∀ (a : Option Addr) (len cap m : Nat), ((mx = none ∧ m = cap) ∨ ∃ k, mx = some (.int k (m : Int))) → m ≤ cap → ((hi = none ∧ h = len ∧ mx = none) ∨ ∃ k, hi = some (.int k (h : Int))) → h ≤ m → l ≤ h →
      (Instr.sliceAt t (.slice a len cap) lo hi mx).run P c.w = .ok (.slice (if m = l then a else a.map (·.add (l * s))) (h - l) (m - l)) c.w := by
    intro a len cap m h1 h2 h3 h4 h5
    simp [Instr.sliceAt, run_underlying hu, Instr.slice, bounds_run h1 h2 h3 h4 hl h5, sizeOf_run hsz]
  cases x with
  | d x =>
    cases x with
    | nils =>
      simp [lenV] at hn; subst hn
      simp only [RelV, RelD] at hx; subst hx
      simp only [sliceV] at hd
      split at hd
      case isFalse => cases hd
      rename_i hc
      obtain ⟨rfl, rfl, hmo⟩ := hc
      cases hd
      refine ⟨rfl, .slice none 0 0, ?_, by simp only [RelV, RelD]⟩
      have h1 : (mx = none ∧ 0 = 0) ∨ ∃ k, mx = some (.int k ((0 : Nat) : Int)) := by
        rcases hm with ⟨hm1, _⟩ | ⟨k, m, hm1, hm2⟩
        · exact .inl ⟨hm1, rfl⟩
        · rcases hmo with hmo | hmo <;> rw [hm2] at hmo <;> cases hmo
          exact .inr ⟨k, hm1⟩
      have := run none 0 0 0 h1 (Nat.le_refl _) hh (Nat.le_refl _) (Nat.le_refl _)
      simpa using this
    | rs fl z rows tight =>
      have hz : z = s := by simpa [sizeOk] using hok
      subst hz
      simp [lenV] at hn; subst hn
      simp only [RelV, RelD] at hx
      obtain ⟨_, hsc, hlr, b, o, sp, cap, rfl, hsp, hcap, htt, hheld⟩ := hx
      simp only [sliceV] at hd
      split at hd
      case isFalse => cases hd
      rename_i hc
      obtain ⟨hlh, hhr⟩ := hc
      have res : ∀ (m : Nat) (tg : Bool), l ≤ h → h ≤ m → (tg = true → m = h) →
          RelV c (.d (.rs fl z ((rows.drop l).take (h - l)) tg)) (.slice (if m = l then some ⟨b, o, sp⟩ else (some (⟨b, o, sp⟩ : Addr)).map (·.add (l * z))) (h - l) (m - l)) := by
        intro m tg h1 h2 h3
        have hlen : ((rows.drop l).take (h - l)).length = h - l := by simp; omega
        simp only [RelV, RelD]
        refine ⟨hpos, fun hf r hr => hsc hf r (List.mem_of_mem_drop (List.mem_of_mem_take hr)), fun r hr => hlr r (List.mem_of_mem_drop (List.mem_of_mem_take hr)), ?_⟩
        by_cases e : m = l
        · have e0 : (rows.drop l).take (h - l) = [] := by rw [show h - l = 0 by omega]; simp
          rw [e0]
          exact ⟨b, o, sp, m - l, by simp [e]; omega, .inl rfl, by simp, fun ht => by have := h3 ht; simp; omega, HeldR.nil⟩
        · rcases hsp with hsp | rfl
          · have hl0 : l = 0 := by rw [hsp] at hhr; simp at hhr; omega
            subst hl0
            refine ⟨b, o, sp, m - 0, by rw [if_neg e, hlen]; simp [Addr.add], .inl (by rw [hsp]; simp), by rw [hlen]; omega, fun ht => by rw [hlen, h3 ht], ?_⟩
            rw [hsp]; simp [HeldR]
          · refine ⟨b, o + l * z, none, m - l, by simp [e, addr_add, hlen], .inr rfl, by rw [hlen]; omega, fun ht => by rw [hlen, h3 ht], (hheld.drop l).take (h - l)⟩
      cases mo with
      | none =>
        cases hd
        have hmx : mx = none := by rcases hm with ⟨h1, _⟩ | ⟨k, m, _, h2⟩; exact h1; cases h2
        refine ⟨rfl, _, run _ _ _ cap (.inl ⟨hmx, rfl⟩) (Nat.le_refl _) hh (by omega) hlh, res cap _ hlh (by omega) fun ht => ?_⟩
        simp at ht
        rw [htt ht.1, ht.2]
      | some k =>
        simp only at hd
        split at hd
        case isFalse => cases hd
        rename_i hk
        cases hd
        have hmx : ∃ k', mx = some (.int k' (k : Int)) := by rcases hm with ⟨_, h2⟩ | ⟨k', m, h1, h2⟩; cases h2; cases h2; exact ⟨k', h1⟩
        exact ⟨rfl, _, run _ _ _ k (.inr hmx) (by omega) hh hk.1 hlh, res k _ hlh hk.1 fun ht => by simp at ht; exact ht.symm⟩
    | _ => simp [sliceV] at hd
  | sl id n0 off len =>
    simp [lenV] at hn; subst hn
    simp only [RelV] at hx
    obtain ⟨blk, ad, cap, hb, hnl, rfl, hcap, hx⟩ := hx
    have hz : blk.size = s := by simpa [sizeOk, hb] using hok
    simp only [sliceV] at hd
    split at hd
    case isFalse => cases hd
    rename_i hc
    obtain ⟨hlh, hhr⟩ := hc
    have emp : ∀ (m : Nat) (tg : Bool), n0 = blk.len → l = h → h ≤ m → (tg = true → m = h) →
        RelV c (.d (.rs false blk.size [] tg)) (.slice (if m = l then some ad else (some ad).map (·.add (l * s))) (h - l) (m - l)) := by
      intro m tg hn0 h1 h2 h3
      obtain ⟨B, e', hB, rfl, _⟩ := hx hn0
      simp only [RelV, RelD]
      refine ⟨by omega, by simp, by simp, ?_⟩
      by_cases e : m = l
      · exact ⟨B, off * blk.size, none, m - l, by simp [e]; omega, .inr rfl, by simp, fun ht => by have := h3 ht; simp; omega, HeldR.nil⟩
      · exact ⟨B, off * blk.size + l * s, none, m - l, by simp [e, addr_add]; omega, .inr rfl, by simp, fun ht => by have := h3 ht; simp; omega, HeldR.nil⟩
    cases mo with
    | none =>
      have hmx : mx = none := by rcases hm with ⟨h1, _⟩ | ⟨k, m, _, h2⟩; exact h1; cases h2
      simp only at hd
      split at hd
      · rename_i hlt
        cases hd
        refine ⟨rfl, _, run _ _ _ cap (.inl ⟨hmx, rfl⟩) (Nat.le_refl _) hh (by omega) hlh, ?_⟩
        have hne : cap ≠ l := by omega
        simp only [RelV, if_neg hne, Option.map_some]
        refine ⟨blk, _, _, hb, hnl, rfl, by omega, fun e => ?_⟩
        obtain ⟨B, e', hB, rfl, hsh⟩ := hx e
        refine ⟨B, e', hB, by rw [addr_add, hz, Nat.add_mul], ?_⟩
        rw [hsh]; congr 3; omega
      · rename_i hlt
        rw [hb] at hd
        simp only [Option.bind_some] at hd
        split at hd
        case isFalse => cases hd
        rename_i hn0
        cases hd
        exact ⟨rfl, _, run _ _ _ cap (.inl ⟨hmx, rfl⟩) (Nat.le_refl _) hh (by omega) hlh, emp cap false hn0 (by omega) (by omega) (fun h => by cases h)⟩
    | some k =>
      simp only at hd
      split at hd
      case isFalse => cases hd
      rename_i hk
      rw [hb] at hd
      simp only [Option.bind_some] at hd
      split at hd
      case isFalse => cases hd
      rename_i hn0
      cases hd
      have hmx : ∃ k', mx = some (.int k' (k : Int)) := by rcases hm with ⟨_, h2⟩ | ⟨k', m, h1, h2⟩; cases h2; cases h2; exact ⟨k', h1⟩
      exact ⟨rfl, _, run _ _ _ k (.inr hmx) (by omega) hh hk.1 hlh, emp k _ hn0 hk.2.2 hk.1 fun ht => by simp at ht; exact ht.symm⟩
  | so nl id n0 =>
    simp [lenV] at hn; subst hn
    simp only [sliceV] at hd
    split at hd
    case isFalse => cases hd
    rename_i hc
    obtain ⟨hlt, hhr⟩ := hc
    cases nl with
    | true => simp only [RelV] at hx; obtain ⟨_, rfl, _⟩ := hx; omega
    | false =>
      simp only [RelV] at hx
      obtain ⟨blk, ad, cap, hb, hnl, rfl, hcap, hx⟩ := hx
      have hz : blk.size = s := by simpa [sizeOk, hb] using hok
      cases mo with
      | some k => cases hd
      | none =>
        have hmx : mx = none := by rcases hm with ⟨h1, _⟩ | ⟨k, m, _, h2⟩; exact h1; cases h2
        cases hd
        refine ⟨rfl, _, run _ _ _ cap (.inl ⟨hmx, rfl⟩) (Nat.le_refl _) hh (by omega) (by omega), ?_⟩
        have hne : cap ≠ l := by omega
        simp only [RelV, if_neg hne, Option.map_some]
        refine ⟨blk, _, _, hb, hnl, rfl, by omega, fun e => ?_⟩
        obtain ⟨B, e', hB, rfl, hsh⟩ := hx e
        refine ⟨B, e', hB, by rw [addr_add, hz]; simp, ?_⟩
        rw [hsh]; congr 3; omega
  | _ => simp [sliceV] at hd
theorem Held.rows {I : Imm} {w : World} {b : Nat} {s : Nat} : ∀ (n o : Nat) (cells : List D), Held I w b o cells → n * s ≤ cells.length → HeldR I w s b o ((List.range n).map fun i => (cells.drop (i * s)).take s) := by
  intro n
  induction n with
  | zero => intro o cells h hl; simp [HeldR]
  | succ n ih =>
    intro o cells h hl
    rw [List.range_succ_eq_map, List.map_cons, List.map_map]
    simp only [HeldR]
    have hls : s ≤ cells.length := by rw [Nat.add_mul] at hl; omega
    refine ⟨by simpa using h.take s, ?_⟩
    have := ih (o + s) (cells.drop s) (h.drop s) (by rw [Nat.add_mul] at hl; simp; omega)
    refine (congrArg (HeldR I w s b (o + s)) ?_).mp this
    apply List.map_congr_left
    intro i _
    simp [List.drop_drop, Nat.add_mul, Nat.add_comm]
theorem slarr_ok {c : Cx} {t e : TypeId} {n s : Nat} (hu : P.underlying t = some (.array n e)) (hsz : sizeOfT P e = some s) (hpos : 0 < s) {x v : V} {xv : Value} (hx : RelV c x xv) {l h : Nat} {lo hi : Option Value}
    (hl : (lo = none ∧ l = 0) ∨ ∃ k, lo = some (.int k (l : Int))) (hh : (hi = none ∧ h = n) ∨ ∃ k, hi = some (.int k (h : Int))) (hlh : l < h) (hhn : h ≤ n)
    (hd : slarrV n s l h x = some v) : ∃ u, (Instr.sliceAt t xv lo hi none).run P c.w = .ok u c.w ∧ RelV c v u := by
  have run : ∀ (a : Addr), (Instr.sliceAt t (.pointer (some a)) lo hi none).run P c.w = .ok (.slice (some (a.add (l * s))) (h - l) (n - l)) c.w := by
    intro a
    have hb := bounds_run (P := P) (isSlice := false) (len := n) (cap := n) (l := l) (h := h) (m := n) (lo := lo) (hi := hi) (mx := none) (.inl ⟨rfl, rfl⟩) (Nat.le_refl _) (by rcases hh with ⟨h1, h2⟩ | h1; exact .inl ⟨h1, h2, rfl⟩; exact .inr h1) hhn hl (by omega) c.w
    have hne : n ≠ l := by omega
    simp [Instr.sliceAt, run_underlying hu, Instr.sureAddr, hb, sizeOf_run hsz, hne]
  cases x with
  | d x =>
    cases x with
    | rp cells =>
      simp only [slarrV] at hd
      split at hd
      case isFalse => cases hd
      rename_i hle
      cases hd
      simp only [RelV, RelD] at hx
      obtain ⟨b, o, rfl, hh'⟩ := hx
      refine ⟨_, run _, ?_⟩
      simp only [RelV, RelD]
      have e : (List.range (h - l)).map (fun i => (cells.drop ((l + i) * s)).take s) = (List.range (h - l)).map (fun i => ((cells.drop (l * s)).drop (i * s)).take s) := by
        apply List.map_congr_left
        intro i _
        rw [List.drop_drop, Nat.add_mul]
      have hcl : (h - l) * s ≤ (cells.drop (l * s)).length := by
        have := Nat.mul_le_mul_right s hhn
        rw [List.length_drop, Nat.sub_mul]; omega
      refine ⟨hpos, fun hf r hr y hy => ?_, fun r hr => ?_, b, o + l * s, none, n - l, by simp [addr_add], .inr rfl, by simp; omega, fun ht => by simp at ht; simp; omega, ?_⟩
      · obtain ⟨i, _, rfl⟩ := List.mem_map.1 hr
        exact List.all_eq_true.1 hf y (List.mem_of_mem_drop (List.mem_of_mem_take hy))
      · obtain ⟨i, hi', rfl⟩ := List.mem_map.1 hr
        have hi2 := List.mem_range.1 hi'
        have := Nat.mul_le_mul_right s (show l + i + 1 ≤ n by omega)
        rw [Nat.add_mul] at this
        simp; omega
      · rw [e]; exact Held.rows _ _ _ (hh'.drop _) hcl
    | _ => simp [slarrV] at hd
  | ptr id k row off =>
    simp only [slarrV] at hd; cases hd
    simp only [RelV] at hx
    obtain ⟨blk, ad, hb, hn, rfl, hx⟩ := hx
    refine ⟨_, run _, ?_⟩
    simp only [RelV]
    refine ⟨blk, _, _, hb, hn, rfl, by omega, fun e => ?_⟩
    obtain ⟨B, hB, rfl⟩ := hx e
    exact ⟨B, hB, by rw [addr_add, Nat.add_assoc]⟩
  | _ => simp [slarrV] at hd
theorem arrP_ok {c : Cx} {t e : TypeId} {n s : Nat} (hu : P.underlying t = some (.array n e)) (hsz : sizeOfT P e = some s) {x v : V} {xv : Value} (hx : RelV c x xv) (hok : sizeOk c.m s x = true)
    (hd : arrPV n x = some v) : ∃ u, (Instr.arrayAt t xv).run P c.w = .ok u c.w ∧ RelV c v u := by
  cases x with
  | d x =>
    cases x with
    | rs fl z rows tight =>
      simp only [arrPV] at hd
      split at hd
      case isFalse => cases hd
      rename_i hle0
      obtain ⟨hn0, hle⟩ := hle0
      cases hd
      simp only [RelV, RelD] at hx
      obtain ⟨hpos, hsc, hl, b, o, sp, cap, rfl, hsp, hcap, htt, hh⟩ := hx
      obtain rfl : sp = none := by
        rcases hsp with rfl | rfl
        · simp at hle; omega
        · rfl
      refine ⟨.pointer (some ⟨b, o, none⟩), ?_, ?_⟩
      · have hn : ¬ (rows.length < n) := by omega
        simp [Instr.arrayAt, run_underlying hu, hn]
      · simp only [RelV, RelD]
        exact ⟨b, o, rfl, HeldR.flat (fun r hr => hl r (List.mem_of_mem_take hr)) (hh.take n)⟩
    | _ => simp [arrPV] at hd
  | sl id k off len =>
    simp only [arrPV] at hd
    split at hd
    case isFalse => cases hd
    rename_i hle
    cases hd
    simp only [RelV] at hx
    obtain ⟨blk, ad, cap, hb, hn, rfl, hcap, hx⟩ := hx
    refine ⟨.pointer (some ad), ?_, ?_⟩
    · have hn : ¬ (len < n) := by omega
      simp [Instr.arrayAt, run_underlying hu, hn]
    · simp only [RelV]
      refine ⟨blk, ad, hb, hn, rfl, fun e => ?_⟩
      obtain ⟨B, e', hB, h1, _⟩ := hx e
      exact ⟨B, hB, h1⟩
  | _ => simp [arrPV] at hd
end Go.Proofs.YtlenjioebdmooaaDoor.Den

namespace Go.Proofs.YtlenjioebdmooaaDoor.Den
open Go
set_option linter.unusedVariables false
set_option linter.unusedSimpArgs false
variable {P : Program}
theorem conv_int {s d : TypeId} {k0 k : IntKind} (hs : P.underlying s = some (.int k0)) (hd : P.underlying d = some (.int k)) {j : IntKind} {n : Int} (w : World) : (convert s d (.int j n)).run P w = .ok (.int k (k.wrap n)) w := by
  simp [convert, run_underlying hs, run_underlying hd, Conv.intToInt]
theorem conv_same {s d : TypeId} (hs : P.underlying s = some .string) (hd : P.underlying d = some .string) {x : ByteArray} (w : World) : (convert s d (.string x)).run P w = .ok (.string x) w := by
  simp [convert, run_underlying hs, run_underlying hd]
theorem byteRow_flat (s : ByteArray) : ((byteRow s).map (List.map V.d)).flatten = s.data.toList.map fun b => V.d (.int .u8 b.toNat) := by
  unfold byteRow
  generalize s.data.toList = l
  induction l <;> simp_all
theorem bytes_rel {c : Cx} (l : List UInt8) : RelVs c (l.map fun b => V.d (.int .u8 b.toNat)) (l.map fun b => Value.int .u8 b.toNat) ∧ ∀ u, u ∈ (l.map fun b => Value.int .u8 b.toNat) → OneC u := by
  constructor
  · induction l with
    | nil => simp [RelVs]
    | cons b l ih => simp only [List.map_cons, RelVs]; exact ⟨_, _, rfl, by simp only [RelV, RelD], ih⟩
  · intro u hu
    obtain ⟨b, _, rfl⟩ := List.mem_map.1 hu
    simp [OneC]
theorem good_ofStr {c : Cx} (hs : PSim P c) {s d e : TypeId} (h1 : P.underlying s = some .string) (h2 : P.underlying d = some (.slice e)) (h3 : P.underlying e = some (.int .u8)) {x : ByteArray} (hx : x.size ≤ 140737488355328) :
    Good P c (c.m ++ [.flat e 1 (byteRow x) false]) (.sl c.m.length x.size 0 x.size) (do pure (.value (← convert s d (.string x)))) := by
  have hcap : x.size ≤ grownCap c.w x.size 0 e := grownCap_le _ _ _ _
  have hxs : x.data.toList.length = x.size := by simp
  let rest : List Value := List.replicate (grownCap c.w x.size 0 e - x.size) (.int .u8 0)
  let us : List Value := x.data.toList.map fun b => Value.int .u8 b.toNat
  let w1 : World := c.w.drew.alloc (.cells ⟨us ++ rest⟩ e)
  let w2 : World := w1.freeze ⟨c.w.heap.size, grownCap c.w x.size 0 e, none⟩ 1
  have hul : us.length = x.size := by simp [us]
  have hal : (us ++ rest).length = grownCap c.w x.size 0 e := by simp [us, rest]; omega
  have hw1 : w1.heap[c.w.heap.size]? = some (.cells ⟨us ++ rest⟩ e (0, 0)) := by
    have := heap_alloc_self c.w.drew (.cells ⟨us ++ rest⟩ e)
    rw [World.size_drew] at this; exact this
  have hsz1 : w1.heap.size = c.w.heap.size + 1 := by simp [w1]
  have hw2 : w2.heap[c.w.heap.size]? = some (.cells ⟨us ++ rest⟩ e (grownCap c.w x.size 0 e, grownCap c.w x.size 0 e + 1)) := by
    simp only [w2, World.freeze]
    simp [Array.getElem?_modify, hw1]
  have hoth : ∀ (k : Nat) (o : Obj), c.w.heap[k]? = some o → w2.heap[k]? = some o := by
    intro k o hk
    have hlt := heap_lt hk
    have h1 : w1.heap[k]? = some o := by
      simp only [w1]; rw [alloc_heap_lt c.w.drew _ k (by simpa using hlt)]; exact hk
    simp only [w2, World.freeze]
    simp [Array.getElem?_modify, show c.w.heap.size ≠ k by omega, h1]
  have hN : New P c (.flat e 1 (byteRow x) false) w2 := ⟨hs, hoth, by simp [w2, World.freeze, hsz1], rfl, rfl, rfl⟩
  have hP := hN.cells (us := us) (rest := rest) (cap := grownCap c.w x.size 0 e) rfl hw2 (.inr (by rw [List.length_append] at hal; simp only; omega)) (by simp [Blk.size])
    (by rw [List.length_append] at hal; simp [Blk.size, hal]) (by simp only [Blk.vrows]; rw [byteRow_flat]; exact (bytes_rel (c := c) _).1) (bytes_rel (c := c) _).2
    (fun r hr => by
      simp only [Blk.vrows, byteRow, List.mem_map] at hr
      obtain ⟨r0, ⟨b, _, rfl⟩, rfl⟩ := hr
      rfl) (fun r hr y hy => by
      simp only [byteRow, List.mem_map] at hr
      obtain ⟨b, _, rfl⟩ := hr
      simp at hy; subst hy; rfl)
  refine Good.new (c' := cxNew c (.flat e 1 (byteRow x) false) w2) (run_v (u := .slice (some ⟨c.w.heap.size, 0, none⟩) x.size (grownCap c.w x.size 0 e)) ?_) rfl hP ?_
  · have hobj : (x.data.map (fun b => Value.int .u8 b.toNat)) ++ Array.replicate (grownCap c.w x.size 0 e - x.size) (Value.int .u8 0) = ⟨us ++ rest⟩ := by
      apply Array.ext'
      simp [us, rest]
    have hshape : w1.shape? c.w.heap.size = some (e, grownCap c.w x.size 0 e) := by
      simp only [World.shape?, hw1, List.size_toArray, hal]
    simp only [convert, Sem.run_bind, run_underlying h1, run_underlying h2, run_underlying h3, Result.andThen_ok, Conv.stringToBytes]
    simp only [run_choose, Question.forced]
    simp only [Bool.false_eq_true, if_false, Result.andThen_ok, Sem.run_bind]
    have hg : (Question.appendCap x.size 0 e).cut (c.w.tape c.w.drawn (.appendCap x.size 0 e)) = grownCap c.w x.size 0 e := rfl
    rw [hg, hobj]
    simp only [newRow, Sem.run_bind, run_newObj, Result.andThen_ok, Sem.run_pure, markStringish, run_shape]
    have e1 : ({ heap := (World.drew c.w).heap.push (.cells ⟨us ++ rest⟩ e), tape := (World.drew c.w).tape, drawn := (World.drew c.w).drawn, os := (World.drew c.w).os, output := (World.drew c.w).output } : World) = w1 := rfl
    change Result.andThen ((match (w1.shape? c.w.heap.size) with | some (_, n) => freeze { block := c.w.heap.size, off := n } 1 | x => pure ()).run P w1) _ = _
    rw [hshape]
    simp [w2, cxNew]
  · have hbl : (Blk.flat e 1 (byteRow x) false).len = x.size := by simp [Blk.len, byteRow]
    have := new_sl (c := c) (b := .flat e 1 (byteRow x) false) (w' := w2) (cap := grownCap c.w x.size 0 e) (e := e) (by rw [hbl]; exact hcap) (by
      simp only [World.shape?, hw2, List.size_toArray, hal, Blk.size]; simp)
    rw [hbl] at this; exact this
theorem strOf_bytes : ∀ {rows : List (List D)} {l : List UInt8}, strOf rows = some l → ∀ {c : Cx} {us : List Value}, RelVs c (rows.map (List.map V.d)).flatten us → us.length = l.length ∧ ∃ ns : List Int, us = ns.map (Value.int .u8) ∧ l = ns.map fun n => UInt8.ofNat n.toNat
  | [], l, h, c, us, hr => by simp [strOf] at h; subst h; simp [RelVs] at hr; subst hr; exact ⟨rfl, [], rfl, rfl⟩
  | r :: rows, l, h, c, us, hr => by
    match r, h with
    | [.int .u8 n], h =>
      simp only [strOf] at h
      obtain ⟨l', hl', rfl⟩ := Option.map_eq_some_iff.1 h
      simp only [List.map_cons, List.map_nil, List.flatten_cons, List.singleton_append, RelVs, RelV, RelD] at hr
      obtain ⟨u, us', rfl, rfl, hr'⟩ := hr
      obtain ⟨h1, ns, h2, h3⟩ := strOf_bytes hl' hr'
      exact ⟨by simp [h1], n :: ns, by simp [h2], by simp [h3]⟩
theorem bytesLoop (P : Program) (f : Value → ByteArray → Sem (ForInStep ByteArray)) (hf : ∀ n s, f (.int .u8 n) s = pure (ForInStep.yield (s.push (UInt8.ofNat n.toNat)))) : ∀ (ns : List Int) (acc : ByteArray) (w : World),
    (forIn (ns.map (Value.int .u8)).toArray acc f).run P w = .ok (ns.foldl (fun a n => a.push (UInt8.ofNat n.toNat)) acc) w
  | ns, acc, w => by
    rw [← Array.forIn_toList]
    simp only
    induction ns generalizing acc with
    | nil => simp
    | cons n ns ih => simp [List.forIn_cons, ih, hf]
theorem foldl_push : ∀ (l : List UInt8) (acc : ByteArray), (l.foldl ByteArray.push acc).data.toList = acc.data.toList ++ l
  | [], acc => by simp
  | b :: l, acc => by simp [foldl_push l]
theorem good_mksl {c : Cx} (hs : PSim P c) {ty e : TypeId} {fl : Bool} {z : List D} {i : TypeInfo} {lv cv : Value} {n cp : Nat} {k1 k2 : IntKind} {b : Blk} (hu : P.underlying ty = some (.slice e)) (hi : P.info? e = some i) (hz : zeroOf P e = some z) (hzl : z.length = i.size) (hpos : 0 < i.size)
    (hl : lv = .int k1 (n : Int)) (hc : cv = .int k2 (cp : Int)) (hnc : n = cp) (hb : cp * i.bytes ≤ 140737488355328) (h63 : cp ≤ 9223372036854775807) (h : mkBlk e fl z.length (List.replicate n (z.map V.d)) = some b) :
    Good P c (c.m ++ [b]) (.sl c.m.length n 0 n) (do pure (.value (← Instr.makeSlice ty lv cv))) := by
  subst hl; subst hc; subst hnc
  obtain ⟨zv, h1, h2⟩ := zeroOf_run hz c.w
  obtain ⟨r1, r2⟩ := constCells_rel (c := c) h2
  have hzv : zv.cells.toList.length = i.size := by rw [r1.len]; simpa using hzl
  have hrep : ∀ r, r ∈ List.replicate n (z.map V.d) → r.length = z.length := fun r hr => by rw [(List.mem_replicate.1 hr).2]; simp
  obtain ⟨q1, q2⟩ := zeros_rel r1 r2 n (by omega)
  have hp := new_block hs h (by omega) hrep q1 q2
  have hbl : b.len = n := by rw [(mkBlk_spec h).2.2.2.2.1]; simp
  have hsz : sizeOfT P e = some i.size := by simp [sizeOfT, hi]
  have hw : IntKind.i64.wrap (n : Int) = (n : Int) := by
    exact IntWalk.i64_in _ (by omega)
  have hcells : (Array.map (fun j => zv.cells.toList.toArray[j % zv.cells.toList.toArray.size]!) (Array.range (n * zv.cells.toList.length))) = ⟨(Array.map (fun j => zv.cells.toList.toArray[j % zv.cells.toList.toArray.size]!) (Array.range (n * zv.cells.toList.length))).toList⟩ := rfl
  refine Good.new (c' := cxNew c b _) (run_v (u := .slice (some ⟨c.w.heap.size, 0, none⟩) n n) ?_) rfl hp ?_
  · have ht1 : ¬ ((n : Int) < 0) := by omega
    have ht2 : ¬ ((281474976710656 : Int) < (i.bytes : Int) * (n : Int)) := by
      have : ((n * i.bytes : Nat) : Int) ≤ 140737488355328 := by omega
      rw [Int.natCast_mul] at this
      rw [Int.mul_comm]; omega
    simp only [Instr.makeSlice, Sem.run_bind, run_underlying hu, Result.andThen_ok, asInt, asIntOf, Sem.run_pure, typeInfo, run_program, hi]
    simp only [hw]
    simp [ht1, ht2, sizeOf_run hsz, newRow]
    by_cases h0 : n * i.size = 0
    · have hn0 : n = 0 := by rcases Nat.mul_eq_zero.1 h0 with h | h <;> omega
      subst hn0
      simp [cxNew]
      rw [show Array.map (fun _ => (default : Value)) (Array.range 0) = ⟨[]⟩ from by apply Array.ext'; simp]
    · have hn0 : ¬ (n = 0) := fun h => h0 (by simp [h])
      have hi0 : ¬ (i.size = 0) := by omega
      simp only [Array.toArray_toList] at *
      have hzs : zv.cells.size = i.size := by rw [← Array.length_toList]; exact hzv
      simp [hn0, hi0, h1, cxNew]
      rw [← hzs] at h0 ⊢
      rw [if_neg h0]
      congr 3
      apply Array.ext'; simp
  · have := new_sl (c := c) (b := b) (w' := c.w.alloc (.cells ⟨(Array.map (fun j => zv.cells.toList.toArray[j % zv.cells.toList.toArray.size]!) (Array.range (n * zv.cells.toList.length))).toList⟩ e)) (cap := n) (e := e) (by omega) (by
      rw [shape_alloc, (mkBlk_spec h).2.2.1, hzl]; have hzs : zv.cells.size = i.size := by rw [← Array.length_toList]; exact hzv
      simp [hzs])
    rw [hbl] at this; exact this
theorem fold_max {c : Cx} : ∀ (l : List V) (us : List Value) (k : IntKind) (n : Int) (v : V), RelVs c l us → foldInt.go (fun a b => if b > a then b else a) k n l = some v → ∃ u, (us.foldlM Builtin.max2 (.int k n)).run P c.w = .ok u c.w ∧ RelV c v u
  | [], us, k, n, v, hr, h => by
    simp only [RelVs] at hr; subst hr
    simp [foldInt.go] at h; subst h
    exact ⟨.int k n, by simp, by simp only [RelV, RelD]⟩
  | x :: l, us, k, n, v, hr, h => by
    simp only [RelVs] at hr
    obtain ⟨u, us', rfl, h1, h2⟩ := hr
    match x, h, h1 with
    | .d (.int k' n'), h, h1 =>
      simp only [foldInt.go] at h
      split at h
      case isFalse => cases h
      rename_i hk; subst hk
      simp only [RelV, RelD] at h1; subst h1
      obtain ⟨u, g1, g2⟩ := fold_max l us' k _ v h2 h
      exact ⟨u, by simpa [List.foldlM_cons, Builtin.max2] using g1, g2⟩
theorem fold_min {c : Cx} : ∀ (l : List V) (us : List Value) (k : IntKind) (n : Int) (v : V), RelVs c l us → foldInt.go (fun a b => if b < a then b else a) k n l = some v → ∃ u, (us.foldlM Builtin.min2 (.int k n)).run P c.w = .ok u c.w ∧ RelV c v u
  | [], us, k, n, v, hr, h => by
    simp only [RelVs] at hr; subst hr
    simp [foldInt.go] at h; subst h
    exact ⟨.int k n, by simp, by simp only [RelV, RelD]⟩
  | x :: l, us, k, n, v, hr, h => by
    simp only [RelVs] at hr
    obtain ⟨u, us', rfl, h1, h2⟩ := hr
    match x, h, h1 with
    | .d (.int k' n'), h, h1 =>
      simp only [foldInt.go] at h
      split at h
      case isFalse => cases h
      rename_i hk; subst hk
      simp only [RelV, RelD] at h1; subst h1
      obtain ⟨u, g1, g2⟩ := fold_min l us' k _ v h2 h
      exact ⟨u, by simpa [List.foldlM_cons, Builtin.min2] using g1, g2⟩
theorem max_ok {c : Cx} {l : List V} {us : Array Value} {v : V} (hr : RelVs c l us.toList) (h : foldInt (fun a b => if b > a then b else a) l = some v) (ts : Array TypeId) (t : TypeId) : ∃ u, (Builtin.max_ ts t us).run P c.w = .ok u c.w ∧ RelV c v u := by
  match l, h, hr with
  | .d (.int k n) :: r, h, hr =>
    simp only [RelVs, RelV, RelD] at hr
    obtain ⟨u, us', e, rfl, h2⟩ := hr
    simp only [foldInt] at h
    obtain ⟨u, g1, g2⟩ := fold_max (P := P) r us' k n v h2 h
    exact ⟨u, by simpa [Builtin.max_, e] using g1, g2⟩
theorem min_ok {c : Cx} {l : List V} {us : Array Value} {v : V} (hr : RelVs c l us.toList) (h : foldInt (fun a b => if b < a then b else a) l = some v) (ts : Array TypeId) (t : TypeId) : ∃ u, (Builtin.min_ ts t us).run P c.w = .ok u c.w ∧ RelV c v u := by
  match l, h, hr with
  | .d (.int k n) :: r, h, hr =>
    simp only [RelVs, RelV, RelD] at hr
    obtain ⟨u, us', e, rfl, h2⟩ := hr
    simp only [foldInt] at h
    obtain ⟨u, g1, g2⟩ := fold_min (P := P) r us' k n v h2 h
    exact ⟨u, by simpa [Builtin.min_, e] using g1, g2⟩
end Go.Proofs.YtlenjioebdmooaaDoor.Den

namespace Go.Proofs.YtlenjioebdmooaaDoor.Den
open Go
set_option linter.unusedVariables false
set_option linter.unusedSimpArgs false
variable {P : Program}
theorem toStr_ok {c : Cx} (hs : PSim P c) {s d e : TypeId} (h1 : P.underlying s = some (.slice e)) (h2 : P.underlying d = some .string) (h3 : P.underlying e = some (.int .u8)) {x : V} {xv : Value} (hx : RelV c x xv) {rows : List (List D)} (hr : flatRowsOf c.m x = some rows) (hz : sizeOk c.m 1 x = true) {l : List UInt8} (hl : strOf rows = some l) :
    (convert s d xv).run P c.w = .ok (.string ⟨l.toArray⟩) c.w := by
  have hconv : (convert s d xv).run P c.w = (Conv.bytesToString xv).run P c.w ∨ ∃ k n, xv = .int k n := by
    by_cases hi : ∃ k n, xv = .int k n
    · exact .inr hi
    · left
      rcases rows_seen hs hx (flatRows_rows hr) hz with ⟨rfl, _⟩ | ⟨b, o, sp, cap, us, rfl, _⟩ <;> simp [convert, run_underlying h1, run_underlying h2, run_underlying h3]
  have key : (Conv.bytesToString xv).run P c.w = .ok (.string ⟨l.toArray⟩) c.w := by
    rcases rows_seen hs hx (flatRows_rows hr) hz with ⟨rfl, h0⟩ | ⟨b, o, sp, cap, us, rfl, hat, hcap, hu, hlr⟩
    · have : rows = [] := by simpa using h0
      subst this
      simp [strOf] at hl; subst hl
      simp [Conv.bytesToString]; rfl
    · obtain ⟨g1, ns, g2, g3⟩ := strOf_bytes hl hu.rel
      have hlen : (rows.map (List.map V.d)).length = us.length := by rw [hu.rel.len, flatten_len hlr]; simp
      have hload := run_loadCells_list (P := P) c.w ⟨b, o, sp⟩ us hat
      have hfold : ns.foldl (fun a n => a.push (UInt8.ofNat n.toNat)) ByteArray.empty = (⟨l.toArray⟩ : ByteArray) := by
        have e : ns.foldl (fun (a : ByteArray) n => a.push (UInt8.ofNat n.toNat)) ByteArray.empty = (ns.map fun n => UInt8.ofNat n.toNat).foldl ByteArray.push ByteArray.empty := by
          rw [List.foldl_map]
        rw [e, ← g3]
        have := foldl_push l ByteArray.empty
        generalize l.foldl ByteArray.push ByteArray.empty = z at *
        cases z with
        | mk d => simp at this; congr 1; apply Array.ext'; simpa using this
      subst g2
      simp only [Conv.bytesToString, Sem.run_bind, hlen, hload, Result.andThen_ok]
      rw [bytesLoop P _ (fun n s => rfl), hfold]; rfl
  rcases hconv with h | ⟨k, n, rfl⟩
  · rw [h]; exact key
  · rcases rows_seen hs hx (flatRows_rows hr) hz with ⟨e, _⟩ | ⟨b, o, sp, cap, us, e, _⟩ <;> cases e
theorem good_mark {c : Cx} (hs : PSim P c) {s e : TypeId} (h1 : P.underlying s = some (.slice e)) (h3 : P.underlying e = some (.int .u8)) {id n off len : Nat} {xv : Value} (hx : RelV c (.sl id n off len) xv) {el : TypeId} {z : Nat} {rows : List (List D)} (hb : c.m[id]? = some (.flat el z rows false)) (hn : n = rows.length) :
    Good P c c.m (.sl id n off len) (do pure (.value (← convert s s xv))) := by
  have hx0 := hx
  simp only [RelV] at hx
  obtain ⟨blk, ad, cap, hb', hnl, rfl, hcap, hx⟩ := hx
  rw [hb] at hb'; cases hb'
  obtain ⟨B, e', hφ, rfl, hsh⟩ := hx hn
  have hid : id < c.m.length := hs.dom id B hφ
  have hk : CellsOK c B (.flat el z rows false) := hs.cellsOK hb hφ rfl
  obtain ⟨arr, fr, cp, us, rest, g1, g2, g3, g4, g5, g6⟩ := hk.ex
  let fr' : Nat × Nat := if fr.1 == fr.2 then (arr.size, arr.size + 1) else (min fr.1 arr.size, max fr.2 (arr.size + 1))
  let w' : World := c.w.freeze ⟨B, arr.size, none⟩ 1
  have hw : w'.heap[B]? = some (.cells arr el fr') := by
    simp only [w', World.freeze]
    obtain ⟨lo, hi⟩ := fr
    simp [Array.getElem?_modify, g1, fr', Blk.elem]
  have hoth : ∀ (k : Nat) (o : Obj), k ≠ B → c.w.heap[k]? = some o → w'.heap[k]? = some o := by
    intro k o hk ho
    simp only [w', World.freeze]
    simp [Array.getElem?_modify, Ne.symm hk, ho]
  have hT : Turn P c id (.flat el z rows false) (.flat el z rows false) B B w' :=
    ⟨hs, hb, hφ, rfl, rfl, nlF rfl, rfl, Nat.le_refl _, fun _ => ⟨rfl, fun e n h => by simp only [World.shape?, g1] at h; simp only [World.shape?, hw]; simpa [Blk.elem] using h⟩, .inl rfl, hoth, by simp [w', World.freeze], rfl, rfl, rfl⟩
  have hP := hT.post (P := P) (show BlkOK P _ B _ from (⟨hk.pos, ⟨arr, fr', cp, us, rest, hw, by
      right
      simp only [fr']
      split
      · simp
      · rename_i h
        simp only
        rcases g2 with g2 | g2
        · exact absurd (by simpa using g2) h
        · omega, g3, g4, RelVs.mono hT.st _ _ g5, g6⟩, hk.rows, hk.noI, hk.plain⟩ : CellsOK _ B _))
  have hm : (cxSet c id (.flat el z rows false) B w').m = c.m := by
    simp only [cxSet]
    apply List.ext_getElem?
    intro j
    by_cases e : j = id
    · subst e; simp [List.getElem?_set, hid]; exact ((List.getElem?_eq_some_iff.1 hb).2).symm
    · simp [List.getElem?_set, Ne.symm e]
  refine Good.new (c' := cxSet c id (.flat el z rows false) B w') (run_v (u := .slice (some ⟨B, off * (Blk.flat el z rows false).size, none⟩) len cap) ?_) hm hP (RelV.mono hT.st _ _ hx0)
  have hshape : c.w.shape? B = some (el, arr.size) := by simp only [World.shape?, g1, Blk.elem]
  simp only [convert, Sem.run_bind, run_underlying h1, run_underlying h3, Result.andThen_ok, beq_self_eq_true, markStringish, run_shape, hshape]
  simp [cxSet, w']
theorem good_copy {c : Cx} (hs : PSim P c) {dT sT ty e : TypeId} {size : Nat} (hd : P.underlying dT = some (.slice e)) (hsz : sizeOfT P e = some size) {s x : V} {sv xv : Value} (hsv : RelV c s sv) (hx : RelV c x xv) {v : V} {m' : Mem} (h : copyV size c.m s x = some (v, m')) :
    Good P c m' v (do pure (.value (← Builtin.copy_ #[dT, sT] ty #[sv, xv]))) := by
  cases s with
  | sl id n off len =>
    simp only [copyV] at h
    split at h
    case isFalse => cases h
    rename_i hxs
    obtain ⟨b, hb, h2⟩ := Option.bind_eq_some_iff.1 h
    clear h
    have h := h2
    clear h2
    simp only [RelV] at hsv
    obtain ⟨blk, ad, cap, hb', hn', rfl, hcap, hsv⟩ := hsv
    rw [hb] at hb'; cases hb'
    cases b with
    | flat el z rows p =>
      cases p with
      | true => simp at h
      | false =>
        simp only at h
        split at h
        case isFalse => cases h
        rename_i hc
        obtain ⟨hn, hol, rfl⟩ := hc
        obtain ⟨ys, hy, h2⟩ := Option.bind_eq_some_iff.1 h
        cases h2
        obtain ⟨B, e', hφ, rfl, hsh⟩ := hsv hn
        have hk : CellsOK c B (.flat el z rows false) := hs.cellsOK hb hφ rfl
        have hsc := flatRows_scalar hs hx hy
        have hrl : ∀ r, r ∈ rows → r.length = z := fun r hr => by
          have := hk.rows (r.map V.d) (by simp only [Blk.vrows]; exact List.mem_map.2 ⟨r, hr, rfl⟩)
          simpa [Blk.size] using this
        obtain ⟨news, hlen, hnl, hsrcl, hfirst, hrel, h1, hyl⟩ : ∃ news : List Value, (Builtin.lenOf xv).run P c.w = .ok ys.length c.w ∧ news.length = min ys.length len * z ∧ True ∧
            (Builtin.firstCells z (min ys.length len) xv).run P c.w = .ok news.toArray c.w ∧ RelVs c ((ys.take (min ys.length len)).map (List.map V.d)).flatten news ∧ (∀ u, u ∈ news → OneC u) ∧ (∀ r, r ∈ ys → r.length = z) := by
          rcases rows_seen hs hx (flatRows_rows hy) hxs with ⟨rfl, h0⟩ | ⟨b, o, sp, cap', us, rfl, hat, hc', hu, hl⟩
          · have : ys = [] := by simpa using h0
            subst this
            exact ⟨[], by simp [Builtin.lenOf], by simp, trivial, by simp [Builtin.firstCells], by simp [RelVs], by simp, by simp⟩
          · have hl' : ∀ r, r ∈ ys → r.length = z := fun r hr => by
              have := hl (r.map V.d) (List.mem_map.2 ⟨r, hr, rfl⟩); simpa using this
            have hul : us.length = ys.length * z := by rw [hu.rel.len, flatten_len hl]; simp
            have hmin : min ys.length len * z ≤ ys.length * z := Nat.mul_le_mul_right _ (Nat.min_le_left _ _)
            have ht := hu.take (min ys.length len * z)
            have e1 : ∀ (l : List (List D)) (k : Nat), (∀ r, r ∈ l → r.length = z) → ((l.take k).map (List.map V.d)).flatten = ((l.map (List.map V.d)).flatten).take (k * z) := by
              intro l
              induction l with
              | nil => intro k _; simp
              | cons x l ih =>
                intro k hx
                cases k with
                | zero => simp
                | succ k =>
                  simp only [List.take_succ_cons, List.map_cons, List.flatten_cons]
                  rw [ih k (fun r hr => hx r (List.mem_cons_of_mem _ hr)), Nat.add_mul, Nat.one_mul, Nat.add_comm]
                  have hxl : (x.map V.d).length = z := by simpa using hx x (by simp)
                  rw [← hxl, List.take_length_add_append]
            refine ⟨us.take (min ys.length len * z), by simp [Builtin.lenOf], by simp; omega, trivial, ?_, by rw [e1 _ _ hl']; exact ht.rel, ht.one, hl'⟩
            have := run_loadCells_list (P := P) c.w ⟨b, o, sp⟩ (us.take (min ys.length len * z)) (fun j v hv => hat j v (by rw [List.getElem?_take] at hv; split at hv; exact hv; cases hv))
            rw [show (us.take (min ys.length len * z)).length = min ys.length len * z by simp; omega] at this
            simpa [Builtin.firstCells] using this
        have hmin : min ys.length len ≤ len := Nat.min_le_right _ _
        have hfl : ∀ (l : List (List D)), (l.map (List.map V.d)).flatten = l.flatten.map V.d := fun l => by induction l <;> simp_all
        have hmid : (rows.take off ++ ys.take (min ys.length len) ++ rows.drop (off + min ys.length len)).length = rows.length := by simp; omega
        have hxl : ((ys.take (min ys.length len)).map (List.map V.d)).flatten.length = min ys.length len * z := by rw [← hrel.len]; exact hnl
        have hkk : off * z + min ys.length len * z ≤ rows.length * z := by
          rw [← Nat.add_mul]; exact Nat.mul_le_mul_right _ (by omega)
        have hvf : (Blk.flat el z rows false).vrows.flatten.length = rows.length * z := by
          rw [flatten_len hk.rows]; simp [Blk.vrows, Blk.size]
        have tk : ∀ (l : List (List D)) (k : Nat), (∀ r, r ∈ l → r.length = z) → ((l.take k).map (List.map V.d)).flatten = ((l.map (List.map V.d)).flatten).take (k * z) := by
          intro l
          induction l with
          | nil => intro k _; simp
          | cons x l ih =>
            intro k hx
            cases k with
            | zero => simp
            | succ k =>
              simp only [List.take_succ_cons, List.map_cons, List.flatten_cons]
              rw [ih k (fun r hr => hx r (List.mem_cons_of_mem _ hr)), Nat.add_mul, Nat.one_mul, Nat.add_comm]
              have hxl : (x.map V.d).length = z := by simpa using hx x (by simp)
              rw [← hxl, List.take_length_add_append]
        have dr : ∀ (l : List (List D)) (k : Nat), (∀ r, r ∈ l → r.length = z) → ((l.drop k).map (List.map V.d)).flatten = ((l.map (List.map V.d)).flatten).drop (k * z) := by
          intro l
          induction l with
          | nil => intro k _; simp
          | cons x l ih =>
            intro k hx
            cases k with
            | zero => simp
            | succ k =>
              simp only [List.drop_succ_cons, List.map_cons, List.flatten_cons]
              rw [ih k (fun r hr => hx r (List.mem_cons_of_mem _ hr)), Nat.add_mul, Nat.one_mul, Nat.add_comm]
              have hxl : (x.map V.d).length = z := by simpa using hx x (by simp)
              rw [← hxl, ← List.drop_drop, List.drop_left]
        obtain ⟨q1, q2, q3⟩ := cells_set (b' := .flat el z (rows.take off ++ ys.take (min ys.length len) ++ rows.drop (off + min ys.length len)) false) hs hb hφ rfl rfl rfl rfl rfl (by simp only [Blk.len]; exact hmid.symm) rfl
          (fun r hr => by
            simp only [Blk.vrows, Blk.size] at hr ⊢
            obtain ⟨r0, h0, rfl⟩ := List.mem_map.1 hr
            rw [List.length_map]
            rcases List.mem_append.1 h0 with h0 | h0
            · rcases List.mem_append.1 h0 with h0 | h0
              · exact hrl _ (List.mem_of_mem_take h0)
              · exact hyl _ (List.mem_of_mem_take h0)
            · exact hrl _ (List.mem_of_mem_drop h0))
          (fun hp r hr y hy' => by
            rcases List.mem_append.1 hr with hr | hr
            · rcases List.mem_append.1 hr with hr | hr
              · exact hp r (List.mem_of_mem_take hr) y hy'
              · exact hsc r (List.mem_of_mem_take hr) y hy'
            · exact hp r (List.mem_of_mem_drop hr) y hy') (k := off * z) (xs := ((ys.take (min ys.length len)).map (List.map V.d)).flatten)
          (by simp only [Blk.vrows, List.map_append, List.flatten_append]
              rw [tk rows off hrl, dr rows _ hrl, hxl, Nat.add_mul]) (by rw [hxl, hvf]; exact hkk) hrel h1
        refine .inl ⟨.int .i64 ((min ys.length len : Nat) : Int), _, .inl ?_, rfl, q1, by simp only [RelV, RelD]⟩
        have hst := run_storeCells_cells (P := P) B (off * z) news 0 c.w (by simpa using q2) (by simpa using q3) (fun u hu => (OneC_iff u).1 (h1 u hu))
        refine run_v ?_
        have e1 : ys.length.min len = min ys.length len := rfl
        simp [Builtin.copy_, run_underlying hd, hlen, sizeOf_run hsz, e1, hfirst, Blk.size, hst, cxSet, goInt]
    | gen => simp at h
    | loop => simp at h
  | _ => simp [copyV] at h
end Go.Proofs.YtlenjioebdmooaaDoor.Den

namespace Go.Proofs.YtlenjioebdmooaaDoor.Den
open Go
set_option linter.unusedVariables false
set_option linter.unusedSimpArgs false
variable {P : Program}
structure Ren (ρ : Nat → Option Nat) (c c' : Cx) : Prop where
  keep : KeepI c.I c'.I c.w c'.w
  blk : ∀ i j, ρ i = some j → ∀ blk, c.m[i]? = some blk → ∃ blk', c'.m[j]? = some blk' ∧ blk'.len = blk.len ∧ blk'.size = blk.size ∧ blk'.isLoop = blk.isLoop ∧
    ∀ B, c.φ i = some B → c'.φ j = some B ∧ ∀ e n, c.w.shape? B = some (e, n) → c'.w.shape? B = some (e, n)
mutual
theorem RelV.ren {ρ : Nat → Option Nat} {c c' : Cx} (h : Ren ρ c c') : ∀ (x : V) (v : Value), RelV c x v → RelV c' (x.ren ρ) v
  | .d x, v, r => by simp only [V.ren, RelV] at r ⊢; exact RelD.keep h.keep x v r
  | .un, _, _ => by simp only [V.ren, RelV]
  | .ptr id n row off, v, r => by
    simp only [V.ren]
    cases hj : ρ id with
    | none => simp only [RelV]
    | some j =>
      simp only [RelV] at r ⊢
      obtain ⟨blk, a, h1, h2, hv, h3⟩ := r
      obtain ⟨blk', g1, g2, g3, g4, g5⟩ := h.blk id j hj blk h1
      exact ⟨blk', a, g1, by omega, hv, fun e => by obtain ⟨B, hB, ha⟩ := h3 (by omega); exact ⟨B, (g5 B hB).1, by rw [g3]; exact ha⟩⟩
  | .sl id n off len, v, r => by
    simp only [V.ren]
    cases hj : ρ id with
    | none => simp only [RelV]
    | some j =>
      simp only [RelV] at r ⊢
      obtain ⟨blk, a, cap, h1, h2, hv, hc, h3⟩ := r
      obtain ⟨blk', g1, g2, g3, g4, g5⟩ := h.blk id j hj blk h1
      exact ⟨blk', a, cap, g1, by omega, hv, hc, fun e => by obtain ⟨B, e0, hB, ha, hs⟩ := h3 (by omega); exact ⟨B, e0, (g5 B hB).1, by rw [g3]; exact ha, by rw [g3]; exact (g5 B hB).2 _ _ hs⟩⟩
  | .so true id n, v, r => by
    simp only [V.ren]
    cases hj : ρ id with
    | none => simp only [RelV]
    | some j =>
      simp only [RelV] at r ⊢
      obtain ⟨e1, e2, blk, h1⟩ := r
      obtain ⟨blk', g1, g2, g3, g4, g5⟩ := h.blk id j hj blk h1
      exact ⟨e1, e2, blk', g1⟩
  | .so false id n, v, r => by
    simp only [V.ren]
    cases hj : ρ id with
    | none => simp only [RelV]
    | some j =>
      simp only [RelV] at r ⊢
      obtain ⟨blk, a, cap, h1, h2, hv, hc, h3⟩ := r
      obtain ⟨blk', g1, g2, g3, g4, g5⟩ := h.blk id j hj blk h1
      exact ⟨blk', a, cap, g1, by omega, hv, hc, fun e => by obtain ⟨B, e0, hB, ha, hs⟩ := h3 (by omega); exact ⟨B, e0, (g5 B hB).1, by rw [g3]; exact ha, by rw [g3]; exact (g5 B hB).2 _ _ hs⟩⟩
  | .sa id n row off s len, v, r => by
    simp only [V.ren]
    cases hj : ρ id with
    | none => simp only [RelV]
    | some j =>
      simp only [RelV] at r ⊢
      obtain ⟨blk, a, cap, h1, h2, hv, hc, h3⟩ := r
      obtain ⟨blk', g1, g2, g3, g4, g5⟩ := h.blk id j hj blk h1
      exact ⟨blk', a, cap, g1, by omega, hv, hc, fun e => by obtain ⟨B, hB, ha⟩ := h3 (by omega); exact ⟨B, (g5 B hB).1, by rw [g3]; exact ha⟩⟩
  | .pa id n off len, v, r => by
    simp only [V.ren]
    cases hj : ρ id with
    | none => simp only [RelV]
    | some j =>
      simp only [RelV] at r ⊢
      obtain ⟨blk, a, h1, h2, hv, h3⟩ := r
      obtain ⟨blk', g1, g2, g3, g4, g5⟩ := h.blk id j hj blk h1
      exact ⟨blk', a, g1, by omega, hv, fun e => by obtain ⟨B, hB, ha⟩ := h3 (by omega); exact ⟨B, (g5 B hB).1, by rw [g3]; exact ha⟩⟩
  | .fn f a b, v, r => by
    simp only [V.ren, RelV] at r ⊢
    obtain ⟨a', b', e, h1, h2⟩ := r
    exact ⟨a', b', e, RelVs.ren h a a' h1, RelVs.ren h b b' h2⟩
  | .yl id, v, r => by
    simp only [V.ren]
    cases hj : ρ id with
    | none => simp only [RelV]
    | some j =>
      simp only [RelV] at r ⊢
      obtain ⟨blk, h1, h2, B, hB, hv⟩ := r
      obtain ⟨blk', g1, g2, g3, g4, g5⟩ := h.blk id j hj blk h1
      exact ⟨blk', g1, by rw [g4]; exact h2, B, (g5 B hB).1, hv⟩
  | .ifc t x, v, r => by
    simp only [V.ren, RelV] at r ⊢
    obtain ⟨u, e, h1⟩ := r
    exact ⟨u, e, RelV.ren h x u h1⟩
  | .agg cs, v, r => by
    simp only [V.ren, RelV] at r ⊢
    obtain ⟨a, e, h1, h2⟩ := r
    exact ⟨a, e, RelVs.ren h cs a h1, h2⟩
  | .tup vs, v, r => by
    simp only [V.ren, RelV] at r ⊢
    obtain ⟨a, e, h1⟩ := r
    exact ⟨a, e, RelVs.ren h vs a h1⟩
theorem RelVs.ren {ρ : Nat → Option Nat} {c c' : Cx} (h : Ren ρ c c') : ∀ (l : List V) (l' : List Value), RelVs c l l' → RelVs c' (V.rens ρ l) l'
  | [], l', r => by simp only [V.rens, RelVs] at r ⊢; exact r
  | v :: l, l', r => by
    simp only [V.rens, RelVs] at r ⊢
    obtain ⟨u, us, e, h1, h2⟩ := r
    exact ⟨u, us, e, RelV.ren h v u h1, RelVs.ren h l us h2⟩
end
mutual
theorem RelV.noI {c : Cx} (I : Imm) : ∀ (x : V) (v : Value), x.noRs = true → RelV c x v → RelV { c with I := I } x v
  | .d x, v, hn, r => by
    cases x <;> simp [V.noRs, D.noRs] at hn <;> simp only [RelV, RelD] at r ⊢ <;> exact r
  | .un, _, _, _ => by simp only [RelV]
  | .ptr id n row off, v, _, r => by simp only [RelV] at r ⊢; exact r
  | .sl id n off len, v, _, r => by simp only [RelV] at r ⊢; exact r
  | .so true id n, v, _, r => by simp only [RelV] at r ⊢; exact r
  | .so false id n, v, _, r => by simp only [RelV] at r ⊢; exact r
  | .sa id n row off s len, v, _, r => by simp only [RelV] at r ⊢; exact r
  | .pa id n off len, v, _, r => by simp only [RelV] at r ⊢; exact r
  | .fn f a b, v, hn, r => by
    simp only [V.noRs, Bool.and_eq_true] at hn
    simp only [RelV] at r ⊢
    obtain ⟨a', b', e, h1, h2⟩ := r
    exact ⟨a', b', e, RelVs.noI I a a' hn.1 h1, RelVs.noI I b b' hn.2 h2⟩
  | .yl id, v, _, r => by simp only [RelV] at r ⊢; exact r
  | .ifc t x, v, hn, r => by
    simp only [V.noRs] at hn
    simp only [RelV] at r ⊢
    obtain ⟨u, e, h1⟩ := r
    exact ⟨u, e, RelV.noI I x u hn h1⟩
  | .agg cs, v, hn, r => by
    simp only [V.noRs] at hn
    simp only [RelV] at r ⊢
    obtain ⟨a, e, h1, h2⟩ := r
    exact ⟨a, e, RelVs.noI I cs a hn h1, h2⟩
  | .tup vs, v, hn, r => by
    simp only [V.noRs] at hn
    simp only [RelV] at r ⊢
    obtain ⟨a, e, h1⟩ := r
    exact ⟨a, e, RelVs.noI I vs a hn h1⟩
theorem RelVs.noI {c : Cx} (I : Imm) : ∀ (l : List V) (l' : List Value), V.noRss l = true → RelVs c l l' → RelVs { c with I := I } l l'
  | [], l', _, r => by simp only [RelVs] at r ⊢; exact r
  | v :: l, l', hn, r => by
    simp only [V.noRss, Bool.and_eq_true] at hn
    simp only [RelVs] at r ⊢
    obtain ⟨u, us, e, h1, h2⟩ := r
    exact ⟨u, us, e, RelV.noI I v u hn.1 h1, RelVs.noI I l us hn.2 h2⟩
end
theorem RelVs.noI_flat {c : Cx} (I : Imm) : ∀ {rows : List (List V)} {us : List Value}, rows.all V.noRss = true → RelVs c rows.flatten us → RelVs { c with I := I } rows.flatten us
  | [], us, _, r => by simpa [RelVs] using r
  | row :: rows, us, hn, r => by
    simp only [List.all_cons, Bool.and_eq_true] at hn
    have : ∀ {a b : List V} {us : List Value}, RelVs c (a ++ b) us → RelVs c a (us.take a.length) ∧ RelVs c b (us.drop a.length) := by
      intro a b us h
      exact ⟨by simpa using h.take a.length, by simpa using h.drop a.length⟩
    simp only [List.flatten_cons] at r ⊢
    obtain ⟨h1, h2⟩ := this r
    have e : us = us.take row.length ++ us.drop row.length := (List.take_append_drop _ _).symm
    rw [e]
    exact (RelVs.noI I _ _ hn.1 h1).append (RelVs.noI_flat I hn.2 h2)
theorem ren_len (ρ : Nat → Option Nat) (b : Blk) : (b.ren ρ).len = b.len ∧ (b.ren ρ).size = b.size ∧ (b.ren ρ).isLoop = b.isLoop ∧ (b.ren ρ).prot = b.prot ∧ (b.ren ρ).elem = b.elem := by
  cases b <;> simp [Blk.ren, Blk.len, Blk.size, Blk.isLoop, Blk.prot, Blk.elem]
theorem rens_map (ρ : Nat → Option Nat) : ∀ l : List V, V.rens ρ l = l.map (V.ren ρ)
  | [] => rfl
  | v :: l => by simp [V.rens, rens_map ρ l]
theorem rens_d (ρ : Nat → Option Nat) (l : List D) : V.rens ρ (l.map V.d) = l.map V.d := by
  rw [rens_map, List.map_map]; apply List.map_congr_left; intro x _; simp [V.ren]
theorem ren_vrows (ρ : Nat → Option Nat) (b : Blk) : (b.ren ρ).vrows = b.vrows.map (V.rens ρ) := by
  cases b with
  | flat e s rows p =>
    simp only [Blk.ren, Blk.vrows, List.map_map]
    apply List.map_congr_left
    intro r _
    simp [rens_d]
  | gen e s rows p => simp [Blk.ren, Blk.vrows]
  | loop => simp [Blk.ren, Blk.vrows]
theorem rens_flatten (ρ : Nat → Option Nat) (l : List (List V)) : (l.map (V.rens ρ)).flatten = V.rens ρ l.flatten := by
  simp only [rens_map]
  induction l with
  | nil => rfl
  | cons x l ih => simp [ih, rens_map]
theorem flat_map_d : ∀ l : List (List D), (l.map (List.map V.d)).flatten = l.flatten.map V.d
  | [] => rfl
  | x :: l => by simp only [List.map_cons, List.flatten_cons, List.map_append]; rw [flat_map_d l]
theorem BlkOK.ren {c c' : Cx} {ρ : Nat → Option Nat} (h : Ren ρ c c') {B : Nat} {b : Blk} (hI : ∀ o, ¬ c'.I B o) (hh : ∀ x, c.w.heap[B]? = some x → c'.w.heap[B]? = some x) (k : BlkOK P c B b) : BlkOK P c' B (b.ren ρ) := by
  have cells : b.isLoop = false → CellsOK c B b → CellsOK c' B (b.ren ρ) := by
    intro hl k
    obtain ⟨arr, fr, cap, us, rest, h1, h2, h3, h4, h5, h6⟩ := k.ex
    obtain ⟨r1, r2, r3, r4, r5⟩ := ren_len ρ b
    refine ⟨by rw [r2]; exact k.pos, ⟨arr, fr, cap, us, rest, by rw [r5]; exact hh _ h1, h2, by rw [r2]; exact h3, h4, by rw [ren_vrows, rens_flatten]; exact RelVs.ren h _ _ h5, h6⟩, fun r hr => ?_, hI, ?_⟩
    · rw [ren_vrows] at hr
      obtain ⟨r0, h0, rfl⟩ := List.mem_map.1 hr
      rw [rens_map, List.length_map, r2]; exact k.rows r0 h0
    · cases b with
      | flat => exact k.plain
      | gen => trivial
      | loop => trivial
  cases b with
  | flat e s rows p => exact cells rfl k
  | gen e s rows p => exact cells rfl k
  | loop st pe ts ps a b p =>
    obtain ⟨L, h1, h2, h3, h4, h5, h6, h7⟩ := k.ex
    have e : (V.rens ρ ts).length = ts.length := by rw [rens_map]; simp
    exact ⟨⟨L, hh _ h1, h2, RelVs.ren h _ _ h3, h4, by rw [e]; exact h5, by rw [e]; exact h6, by rw [e]; exact h7⟩, hI⟩
theorem BlkOK.noI {c : Cx} (I : Imm) {B : Nat} {b : Blk} (hb : b.noRs = true) (hI : ∀ o, ¬ I B o) (k : BlkOK P c B b) : BlkOK P { c with I := I } B b := by
  cases b with
  | flat e s rows p =>
    obtain ⟨arr, fr, cap, us, rest, h1, h2, h3, h4, h5, h6⟩ := CellsOK.ex k
    have hr : ((Blk.flat e s rows p).vrows).all V.noRss = true := by
      rw [List.all_eq_true]
      intro r hr
      simp only [Blk.vrows] at hr
      obtain ⟨r0, h0, rfl⟩ := List.mem_map.1 hr
      have hsc := CellsOK.plain k r0 h0
      clear hr h0
      induction r0 with
      | nil => rfl
      | cons x r0 ih =>
        simp only [List.map_cons, V.noRss, Bool.and_eq_true]
        exact ⟨by have := hsc x (by simp); cases x <;> simp_all [D.scalar, V.noRs, D.noRs], ih fun y hy => hsc y (by simp [hy])⟩
    exact ⟨CellsOK.pos k, ⟨arr, fr, cap, us, rest, h1, h2, h3, h4, RelVs.noI_flat I hr h5, h6⟩, CellsOK.rows k, hI, CellsOK.plain k⟩
  | gen e s rows p =>
    obtain ⟨arr, fr, cap, us, rest, h1, h2, h3, h4, h5, h6⟩ := CellsOK.ex k
    exact ⟨CellsOK.pos k, ⟨arr, fr, cap, us, rest, h1, h2, h3, h4, RelVs.noI_flat I (by simpa [Blk.noRs, Blk.vrows] using hb) h5, h6⟩, CellsOK.rows k, hI, CellsOK.plain k⟩
  | loop st pe ts ps a b p =>
    obtain ⟨L, h1, h2, h3, h4, h5, h6, h7⟩ := LoopOK.ex k
    exact ⟨⟨L, h1, h2, RelVs.noI I _ _ (by simpa [Blk.noRs] using hb) h3, h4, h5, h6, h7⟩, hI⟩
def immOf (c : Cx) (bv : List Nat) : Imm := fun b o => c.I b o ∨ ∃ id, id ∈ bv ∧ ∃ blk : Blk, c.m[id]? = some blk ∧ c.φ id = some b ∧ o < blk.len * blk.size
theorem toDs_eq : ∀ {l : List V} {ds : List D}, toDs l = some ds → l = ds.map V.d
  | [], ds, h => by simp [toDs] at h; subst h; rfl
  | .d x :: r, ds, h => by
    simp only [toDs] at h
    obtain ⟨l, hl, rfl⟩ := Option.map_eq_some_iff.1 h
    rw [toDs_eq hl]; rfl
  | .un :: r, ds, h => by simp [toDs] at h
  | .ptr .. :: r, ds, h => by simp [toDs] at h
  | .sl .. :: r, ds, h => by simp [toDs] at h
  | .so .. :: r, ds, h => by simp [toDs] at h
  | .sa .. :: r, ds, h => by simp [toDs] at h
  | .pa .. :: r, ds, h => by simp [toDs] at h
  | .fn .. :: r, ds, h => by simp [toDs] at h
  | .yl .. :: r, ds, h => by simp [toDs] at h
  | .ifc .. :: r, ds, h => by simp [toDs] at h
  | .agg .. :: r, ds, h => by simp [toDs] at h
  | .tup .. :: r, ds, h => by simp [toDs] at h
theorem mapM_toDs : ∀ {l : List (List V)} {rs : List (List D)}, l.mapM toDs = some rs → l = rs.map (List.map V.d)
  | [], rs, h => by simp at h; subst h; rfl
  | r :: l, rs, h => by
    simp only [List.mapM_cons, Option.bind_eq_bind, Option.pure_def] at h
    obtain ⟨a, ha, h⟩ := Option.bind_eq_some_iff.1 h
    obtain ⟨b, hb, h⟩ := Option.bind_eq_some_iff.1 h
    cases h
    rw [toDs_eq ha, mapM_toDs hb]; rfl
theorem Seen.held {c : Cx} {I : Imm} {b : Nat} (hk : KeepI c.I I c.w c.w) : ∀ {l : List D} {o : Nat} {us : List Value}, Seen c b o (l.map V.d) us → (∀ j, j < l.length → I b (o + j)) → Held I c.w b o l
  | [], o, us, _, _ => by simp [Held]
  | x :: l, o, us, h, hi => by
    have hr := h.rel
    simp only [List.map_cons, RelVs, RelV] at hr
    obtain ⟨u, us', rfl, h1, h2⟩ := hr
    simp only [Held]
    refine ⟨⟨u, by simpa using h.at_ 0 u (by simp), by simpa using hi 0 (by simp), h.one u (by simp), RelD.keep hk x u h1⟩, ?_⟩
    refine Seen.held hk (us := us') ⟨fun j v hv => ?_, h2, fun v hv => h.one v (by simp [hv])⟩ fun j hj => ?_
    · have := h.at_ (j + 1) v (by simpa using hv)
      rw [show o + 1 + j = o + (j + 1) by omega]; exact this
    · have := hi (j + 1) (by simpa using hj)
      rw [show o + 1 + j = o + (j + 1) by omega]; exact this
theorem heldR_of {I : Imm} {w : World} {b s : Nat} : ∀ {rows : List (List D)} {o : Nat}, (∀ r, r ∈ rows → r.length = s) → Held I w b o rows.flatten → HeldR I w s b o rows
  | [], o, _, _ => by simp [HeldR]
  | r :: rows, o, hl, h => by
    simp only [List.flatten_cons] at h
    simp only [HeldR]
    have hr := hl r (by simp)
    refine ⟨by simpa using h.take r.length, heldR_of (fun x hx => hl x (List.mem_cons_of_mem _ hx)) ?_⟩
    have := h.drop r.length
    rw [hr] at this
    simpa [← hr] using this
theorem byvalS_ok {c : Cx} (hs : PSim P c) {bv : List Nat} (v : V) (u : Value) (hsl : (∃ id n off len, v = .sl id n off len) ∨ ∃ id n row off s len, v = .sa id n row off s len) (hb : ∀ i, i ∈ v.slids → i ∈ bv) (h : RelV c v u) : RelV { c with I := immOf c bv } (byvalS c.m v) u := by
  have hkeep : KeepI c.I (immOf c bv) c.w c.w := fun b o h => ⟨.inl h, fun _ h => h⟩
  rcases hsl with ⟨id, n, off, len, rfl⟩ | ⟨id, n, row, off, s, len, rfl⟩
  · have hid : id ∈ bv := hb id (by simp [V.slids])
    have hx := h
    simp only [RelV] at h
    obtain ⟨blk, ad, cap, hbk, hn, rfl, hcap, h⟩ := h
    simp only [byvalS, hbk]
    have main : ∀ (fl : Bool) (rows' : List (List D)), n = blk.len → off + len ≤ n → blk.isLoop = false → (blk.vrows.drop off).take len = rows'.map (List.map V.d) → (fl = true → ∀ r, r ∈ rows' → ∀ y, y ∈ r → D.scalar y = true) →
        RelV { c with I := immOf c bv } (.d (.rs fl blk.size rows' false)) (.slice (some ad) len cap) := by
      intro fl rows' h1 h2 h3 h4 h5
      obtain ⟨B, e, hφ, rfl, hsh⟩ := h h1
      have hk := hs.cellsOK hbk hφ h3
      have hvl : blk.vrows.length = n := by cases blk <;> simp_all [Blk.vrows, Blk.len, Blk.isLoop]
      have hrl : rows'.length = len := by
        have := congrArg List.length h4
        simp at this; omega
      have hrows : ∀ r, r ∈ rows' → r.length = blk.size := fun r hr => by
        have : r.map V.d ∈ (blk.vrows.drop off).take len := by rw [h4]; exact List.mem_map.2 ⟨r, hr, rfl⟩
        have := hk.rows _ (List.mem_of_mem_drop (List.mem_of_mem_take this))
        simpa using this
      have hrs : rowsOf c.m (.sl id n off len) = some (rows'.map (List.map V.d)) := by
        cases blk with
        | flat e s rws p => simp only [rowsOf, hbk, Option.bind_some]; rw [if_pos ⟨h1, h2⟩, ← h4]; simp [Blk.vrows]
        | gen e s rws p => simp only [rowsOf, hbk, Option.bind_some]; rw [if_pos ⟨h1, h2⟩, ← h4]; simp [Blk.vrows]
        | loop => cases h3
      rcases rows_seen hs hx hrs (size := blk.size) (by simp [sizeOk, hbk]) with ⟨e, _⟩ | ⟨b', o', sp', cap', us, e, hat, hc', hu, hl⟩
      · cases e
      · cases e
        simp only [RelV, RelD]
        refine ⟨hk.pos, h5, hrows, B, off * blk.size, none, cap, by rw [hrl], .inr rfl, by omega, (fun h => by cases h), ?_⟩
        refine heldR_of hrows ?_
        rw [flat_map_d] at hu
        refine Seen.held hkeep hu fun j hj => .inr ⟨id, hid, blk, hbk, hφ, ?_⟩
        rw [flatten_len hrows] at hj
        have : off * blk.size + rows'.length * blk.size ≤ blk.len * blk.size := by rw [← Nat.add_mul]; exact Nat.mul_le_mul_right _ (by simp at h2; omega)
        omega
    cases blk with
    | flat e s rows p =>
      simp only
      split
      · rename_i hc
        obtain ⟨h1, h2⟩ := hc
        refine main true _ h1 h2 rfl (by simp [Blk.vrows]) fun _ r hr y hy => ?_
        obtain ⟨B, e', hφ, _⟩ := h h1
        exact (hs.cellsOK hbk hφ rfl).plain r (List.mem_of_mem_drop (List.mem_of_mem_take hr)) y hy
      · simp only [RelV]
    | gen e s rows p =>
      simp only
      split
      · rename_i hc
        obtain ⟨h1, h2⟩ := hc
        split
        · rename_i r hr
          exact main false r h1 h2 rfl (by rw [← mapM_toDs hr]; simp [Blk.vrows]) (fun h => by cases h)
        · simp only [RelV]
      · simp only [RelV]
    | loop => simp only [RelV]
  · have hid : id ∈ bv := hb id (by simp [V.slids])
    simp only [RelV] at h
    obtain ⟨blk, ad, cap, hbk, hn, rfl, hcap, h⟩ := h
    simp only [byvalS, hbk, Option.bind_some]
    split
    · rename_i cs hcs
      split
      · rename_i hle
        split
        · rename_i ds hds
          obtain ⟨hn', hrow, hl⟩ := row_vrows hcs
          obtain ⟨B, hφ, rfl⟩ := h hn'
          have hk := hs.cellsOK hbk hφ hl
          obtain ⟨us, hu⟩ := hk.seenRow hrow
          have hcs' := toDs_eq hds
          have hcl : cs.length = blk.size := hk.rows cs (List.mem_of_getElem? hrow)
          rw [hcs'] at hu
          have hrl : row < blk.len := by
            have : row < blk.vrows.length := (List.getElem?_eq_some_iff.1 hrow).1
            have hvl : blk.vrows.length = blk.len := by cases blk <;> simp_all [Blk.vrows, Blk.len, Blk.isLoop]
            omega
          have hdl : ds.length = blk.size := by rw [← hcl, hcs']; simp
          have hlen : off + len * s ≤ ds.length := by rw [hdl, ← hcl]; exact hle.2
          have hheld : Held (immOf c bv) c.w B (row * blk.size) ds := Seen.held hkeep hu fun j hj => .inr ⟨id, hid, blk, hbk, hφ, by
            have := Nat.mul_le_mul_right blk.size (show row + 1 ≤ blk.len by omega)
            rw [Nat.add_mul] at this; omega⟩
          simp only [RelV, RelD]
          · refine ⟨hle.1, fun hf r hr y hy => ?_, fun r hr => ?_, B, row * blk.size + off, none, cap, by simp, .inr rfl, by simpa using hcap, (fun h => by cases h), ?_⟩
            · obtain ⟨i, _, rfl⟩ := List.mem_map.1 hr
              exact List.all_eq_true.1 hf y (List.mem_of_mem_drop (List.mem_of_mem_take hy))
            · obtain ⟨i, hi, rfl⟩ := List.mem_map.1 hr
              have := List.mem_range.1 hi
              have h3 := Nat.mul_le_mul_right s (show i + 1 ≤ len by omega)
              rw [Nat.add_mul] at h3
              simp; omega
            · have := Held.rows (s := s) len _ _ (hheld.drop off) (by simp; omega)
              refine (congrArg (HeldR _ _ _ _ _) ?_).mp this
              apply List.map_congr_left
              intro i _
              rw [List.drop_drop]
        · simp only [RelV]
      · simp only [RelV]
    · simp only [RelV]
theorem ofRows_false (fl : Bool) (s : Nat) (rows : List (List D)) : D.ofRows false fl s rows = .rs fl s rows false := by cases rows <;> rfl
theorem byvalS_so_false (m : Mem) (id n : Nat) : byvalS m (.so false id n) = byvalS m (.sl id n 0 n) := by
  simp only [byvalS]
  cases m[id]? with
  | none => rfl
  | some b =>
    cases b with
    | flat e s rows p =>
      simp only
      by_cases h : n = rows.length
      · subst h; simp [ofRows_false]
      · simp [h]
    | gen e s rows p =>
      simp only
      by_cases h : n = rows.length
      · subst h; simp [ofRows_false]
      · simp [h]
    | loop => rfl
theorem byvalSo_ok {c : Cx} (hs : PSim P c) {bv : List Nat} {b : Bool} {id n : Nat} (u : Value) (hb : ∀ i, i ∈ (V.so b id n).slids → i ∈ bv) (h : RelV c (.so b id n) u) : RelV { c with I := immOf c bv } (byvalS c.m (.so b id n)) u := by
  cases b with
  | false =>
    rw [byvalS_so_false]
    exact byvalS_ok hs _ u (.inl ⟨id, n, 0, n, rfl⟩) (fun i hi => hb i hi) (so_false h)
  | true =>
    simp only [RelV] at h
    obtain ⟨rfl, rfl, blk, hbk⟩ := h
    simp only [byvalS, hbk]
    cases blk with
    | flat e s rows p =>
      simp only
      split
      · rename_i hc
        have : rows = [] := List.length_eq_zero_iff.1 hc.symm
        subst this; simp only [D.ofRows, RelV, RelD]
      · simp only [RelV]
    | gen e s rows p =>
      simp only
      split
      · rename_i hc
        have : rows = [] := List.length_eq_zero_iff.1 hc.symm
        subst this; simp [D.ofRows, RelV, RelD]
      · simp only [RelV]
    | loop => simp only [RelV]
end Go.Proofs.YtlenjioebdmooaaDoor.Den

namespace Go.Proofs.YtlenjioebdmooaaDoor.Den
open Go
def Enterable (P : Program) (f : FuncId) : Prop := ∃ fn, P.funcs[f]? = some fn ∧ (fn.name == "runtime.NumGoroutine") = false ∧ fn.body.isSome = true
def DelOK (P : Program) (f : FuncId) : Prop :=
  Enterable P f ∧ ∀ (blk cap i j : Nat) (d : Array Int) (w : World), Sort.Holds (Value.int .i64) w blk 0 d → d.size ≤ cap → d.size ≤ 9223372036854775807 → i ≤ j → j ≤ d.size →
    Calls P f #[.slice (some ⟨blk, 0, none⟩) d.size cap, .int .i64 i, .int .i64 j] w fun e w' => e = .returned (.slice (some ⟨blk, 0, none⟩) (d.size - (j - i)) cap) ∧
      ∃ q, w' = Sort.putRow (Value.int .i64) (Sort.ahead w q) blk 0 (d.toList.take i ++ d.toList.drop j ++ List.replicate (j - i) 0).toArray
end Go.Proofs.YtlenjioebdmooaaDoor.Den

namespace Go.Proofs.YtlenjioebdmooaaDoor.Den
open Go
set_option linter.unusedVariables false
set_option linter.unusedSimpArgs false
variable {P : Program}
mutual
theorem byval_ok {c : Cx} (hs : PSim P c) {bv : List Nat} : ∀ (v : V) (u : Value), (∀ i, i ∈ v.slids → i ∈ bv) → RelV c v u → RelV { c with I := immOf c bv } (v.byval c.m) u
  | .d x, u, _, h => by simp only [V.byval]; simp only [RelV] at h ⊢; exact RelD.keep (fun b o h => ⟨.inl h, fun _ h => h⟩) x u h
  | .un, u, _, h => by simp only [V.byval, RelV]
  | .ptr id n row off, u, _, h => by simp only [V.byval]; simp only [RelV] at h ⊢; exact h
  | .sl id n off len, u, hb, h => by simp only [V.byval]; exact byvalS_ok hs _ u (.inl ⟨id, n, off, len, rfl⟩) hb h
  | .so b id n, u, hb, h => by simp only [V.byval]; exact byvalSo_ok hs u hb h
  | .sa id n row off s len, u, hb, h => by simp only [V.byval]; exact byvalS_ok hs _ u (.inr ⟨id, n, row, off, s, len, rfl⟩) hb h
  | .pa id n off len, u, _, h => by simp only [V.byval]; simp only [RelV] at h ⊢; exact h
  | .fn f a b, u, _, h => by
    simp only [V.byval]
    exact RelV.mono (c' := { c with I := immOf c bv }) ⟨fun b o h => ⟨.inl h, fun _ h => h⟩, (St.refl c).blk⟩ _ _ h
  | .yl id, u, _, h => by simp only [V.byval]; simp only [RelV] at h ⊢; exact h
  | .ifc t x, u, _, h => by
    simp only [V.byval]
    exact RelV.mono (c' := { c with I := immOf c bv }) ⟨fun b o h => ⟨.inl h, fun _ h => h⟩, (St.refl c).blk⟩ _ _ h
  | .agg cs, u, hb, h => by
    simp only [V.byval]
    simp only [RelV] at h ⊢
    obtain ⟨a, e, h1, h2⟩ := h
    exact ⟨a, e, byvals_ok hs cs a (fun i hi => hb i (by simpa [V.slids] using hi)) h1, h2⟩
  | .tup vs, u, _, h => by
    simp only [V.byval]
    exact RelV.mono (c' := { c with I := immOf c bv }) ⟨fun b o h => ⟨.inl h, fun _ h => h⟩, (St.refl c).blk⟩ _ _ h
theorem byvals_ok {c : Cx} (hs : PSim P c) {bv : List Nat} : ∀ (l : List V) (us : List Value), (∀ i, i ∈ V.slidss l → i ∈ bv) → RelVs c l us → RelVs { c with I := immOf c bv } (V.byvals c.m l) us
  | [], us, _, h => by simp only [V.byvals, RelVs] at h ⊢; exact h
  | v :: l, us, hb, h => by
    simp only [V.byvals, RelVs] at h ⊢
    obtain ⟨u, us', e, h1, h2⟩ := h
    exact ⟨u, us', e, byval_ok hs v u (fun i hi => hb i (by simp [V.slidss, hi])) h1, byvals_ok hs l us' (fun i hi => hb i (by simp [V.slidss, hi])) h2⟩
end
theorem idxFrom_some : ∀ {l : List Nat} {k i j : Nat}, idxFrom k l i = some j → ∃ t, j = k + t ∧ l[t]? = some i
  | [], k, i, j, h => by simp [idxFrom] at h
  | x :: l, k, i, j, h => by
    simp only [idxFrom] at h
    split at h
    · rename_i e; cases h; exact ⟨0, by simp, by simp [e]⟩
    · obtain ⟨t, h1, h2⟩ := idxFrom_some h
      exact ⟨t + 1, by omega, by simpa using h2⟩
theorem idxOf_some {l : List Nat} {i j : Nat} (h : idxOf l i = some j) : l[j]? = some i := by
  obtain ⟨t, h1, h2⟩ := idxFrom_some h
  rw [show j = t by omega]; exact h2
theorem distinct_cons {x : Nat} {l : List Nat} (h : distinct (x :: l) = true) : x ∉ l ∧ distinct l = true := by
  simp [distinct] at h; exact h
theorem idxFrom_of : ∀ {l : List Nat} {k t i : Nat}, distinct l = true → l[t]? = some i → idxFrom k l i = some (k + t)
  | [], k, t, i, _, h => by simp at h
  | x :: l, k, t, i, hd, h => by
    obtain ⟨h1, h2⟩ := distinct_cons hd
    simp only [idxFrom]
    cases t with
    | zero => simp at h; simp [h]
    | succ t =>
      have hm : l[t]? = some i := by simpa using h
      have hne : x ≠ i := fun e => h1 (e ▸ List.mem_of_getElem? hm)
      rw [if_neg hne, idxFrom_of h2 hm]; congr 1; omega
theorem idxOf_of {l : List Nat} {t i : Nat} (hd : distinct l = true) (h : l[t]? = some i) : idxOf l i = some t := by
  have := idxFrom_of (k := 0) hd h; simpa [idxOf] using this
theorem pickBlks_spec {m : Mem} {ρ : Nat → Option Nat} : ∀ {ids : List Nat} {mc : Mem}, pickBlks m ρ ids = some mc → mc.length = ids.length ∧ ∀ t i : Nat, ids[t]? = some i → ∃ b, m[i]? = some b ∧ mc[t]? = some (b.ren ρ)
  | [], mc, h => by simp [pickBlks] at h; subst h; simp
  | x :: ids, mc, h => by
    simp only [pickBlks] at h
    cases h1 : m[x]? with
    | none => simp [h1] at h
    | some b =>
      cases h2 : pickBlks m ρ ids with
      | none => simp [h1, h2] at h
      | some l =>
        simp [h1, h2] at h; subst h
        obtain ⟨g1, g2⟩ := pickBlks_spec h2
        refine ⟨by simp [g1], fun t i ht => ?_⟩
        cases t with
        | zero => simp at ht; subst ht; exact ⟨b, h1, by simp⟩
        | succ t => simpa using g2 t i (by simpa using ht)
theorem layBack_spec {mc : Mem} {ρ : Nat → Option Nat} : ∀ {ids : List Nat} {j : Nat} {m m1 : Mem}, layBack mc ρ j ids m = some m1 → distinct ids = true →
    m1.length = m.length ∧ (∀ i, i ∉ ids → m1[i]? = m[i]?) ∧ ∀ t i : Nat, ids[t]? = some i → i < m.length → ∃ b, mc[j + t]? = some b ∧ m1[i]? = some (b.ren ρ)
  | [], j, m, m1, h, _ => by simp [layBack] at h; subst h; simp
  | x :: ids, j, m, m1, h, hd => by
    obtain ⟨d1, d2⟩ := distinct_cons hd
    simp only [layBack] at h
    cases hb : mc[j]? with
    | none => simp [hb] at h
    | some b =>
      simp only [hb] at h
      obtain ⟨g1, g2, g3⟩ := layBack_spec h d2
      refine ⟨by simpa using g1, fun i hi => ?_, fun t i ht hlt => ?_⟩
      · rw [g2 i (fun h => hi (by simp [h]))]
        have : x ≠ i := fun e => hi (by simp [e])
        simp [List.getElem?_set, this]
      · cases t with
        | zero =>
          simp at ht; subst ht
          refine ⟨b, by simpa using hb, ?_⟩
          rw [g2 x d1]; simp [List.getElem?_set, hlt]
        | succ t =>
          obtain ⟨b', q1, q2⟩ := g3 t i (by simpa using ht) (by simpa using hlt)
          exact ⟨b', by rw [show j + (t + 1) = j + 1 + t by omega]; exact q1, q2⟩
def packR : List Value → Value
  | [v] => v
  | vs => .tuple ⟨vs⟩
theorem pack_rel {c : Cx} {r : List V} {rv : List Value} (h : RelVs c r rv) : RelV c (packV r) (packR rv) := by
  match r, rv, h with
  | [], rv, h => simp only [RelVs] at h; subst h; simp only [packV, packR, RelV]; exact ⟨[], rfl, by simp [RelVs]⟩
  | [v], rv, h =>
    simp only [RelVs] at h
    obtain ⟨u, us, rfl, h1, rfl⟩ := h
    exact h1
  | v :: v' :: r, rv, h =>
    have h0 := h
    simp only [RelVs] at h
    obtain ⟨u, us, rfl, h1, u', us', rfl, h2, h3⟩ := h
    simp only [packV, packR, RelV]
    exact ⟨_, rfl, h0⟩
def Left (P : Program) (c : Cx) (r : List V) (m' : Mem) (e : Ending) (w' : World) : Prop :=
  ∃ rv c', e = .returned (packR rv) ∧ c'.w = w' ∧ c'.m = m' ∧ Post P c c' ∧ RelVs c' r rv
def Rounds (P : Program) (w : World) (vals : List Value) (R : Ending → World → Prop) : Prop :=
  ∃ B as1 g tmps a b, vals = .func (.yield B) #[] #[] :: as1 ∧ (Instr.yield B ⟨as1⟩).run P w = .ok (.round B g tmps a b) w ∧ RoundIn { fn := fun _ => True, depth := none, alive := false } 0 P B g tmps a b w R
def Done (P : Program) (f : FuncId) (w : World) (vals : List Value) (R : Ending → World → Prop) : Prop :=
  (f ≠ yfn → Enterable P f ∧ Calls P f ⟨vals⟩ w R) ∧ (f = yfn → Rounds P w vals R)
theorem Done.mono {f : FuncId} {w : World} {vals : List Value} {R R' : Ending → World → Prop} (h : Done P f w vals R) (hr : ∀ e w', R e w' → R' e w') : Done P f w vals R' :=
  ⟨fun hf => ⟨(h.1 hf).1, Calls.mono (h.1 hf).2 hr⟩, fun hf => let ⟨B, as1, g, tmps, a, b, h1, h2, h3⟩ := h.2 hf; ⟨B, as1, g, tmps, a, b, h1, h2, h3.mono hr⟩⟩
def CallOK (P : Program) (E : Env) (call : CallT) : Prop :=
  (∀ f args m r m', call f args m = some (r, m') → ∀ (c : Cx) (vals : List Value), PSim P c → c.m = m → GlOK E c → RelVs c args vals →
    Done P f c.w vals (Left P c r m')) ∧ ∀ f, E.del f = true → DelOK P f
def cxIn (c : Cx) (ids bv : List Nat) (mc : Mem) : Cx := ⟨fun k => (ids[k]?).bind c.φ, mc, immOf c bv, c.w⟩
def cxOut (c c2 : Cx) (ids : List Nat) (m' : Mem) : Cx :=
  ⟨fun i => if i < c.m.length then (match idxOf ids i with | some j => c2.φ j | none => c.φ i) else c2.φ (i - c.m.length + ids.length), m', c.I, c2.w⟩
theorem immOf_nil (c : Cx) : immOf c [] = c.I := by funext b o; simp [immOf]
theorem callV_ok {E : Env} {call : CallT} (hcall : CallOK P E call) {c : Cx} (hs : PSim P c) (hg : GlOK E c) {f : FuncId} {args : List V} {vals : List Value} (ha : RelVs c args vals) {r : List V} {m' : Mem} {br : Bool} (h : callV br call f args c.m = some (r, m')) :
    Done P f c.w vals (Left P c r m') := by
  simp only [callV] at h
  have hav : RelVs { c with I := immOf c (byIds br args) } (byArgs br c.m args) vals := by
    cases br with
    | false => exact byvals_ok hs args vals (fun i h => h) ha
    | true => simp only [byIds, byArgs, immOf_nil]; exact ha
  generalize hbv : byIds br args = bv at h hav
  generalize hids : reach c.m 1000 (V.idss (byArgs br c.m args)) [] = ids at h
  split at h
  case isFalse => cases h
  rename_i hcond
  simp only [Bool.and_eq_true] at hcond
  obtain ⟨hdist, hdisj⟩ := hcond
  obtain ⟨mc, hmc, h⟩ := Option.bind_eq_some_iff.1 h
  obtain ⟨⟨r2, mc2⟩, hr2, h⟩ := Option.bind_eq_some_iff.1 h
  simp only at h
  split at h
  case isFalse => cases h
  rename_i hpure
  obtain ⟨m1, hm1, h⟩ := Option.map_eq_some_iff.1 h
  cases h
  obtain ⟨p1, p2⟩ := pickBlks_spec hmc
  obtain ⟨l1, l2, l3⟩ := layBack_spec hm1 hdist
  have hin : ∀ t i : Nat, ids[t]? = some i → i < c.m.length := fun t i ht => by
    obtain ⟨b, hb, _⟩ := p2 t i ht; exact (List.getElem?_eq_some_iff.1 hb).1
  have hbvids : ∀ i, i ∈ bv → i ∉ ids := fun i hi hm => by
    have := List.all_eq_true.1 hdisj i hi
    simp at this; exact this hm
  let cc := cxIn c ids bv mc
  have cφ : ∀ k B, cc.φ k = some B → ∃ i, ids[k]? = some i ∧ c.φ i = some B := fun k B hk => by
    simp only [cc, cxIn] at hk
    obtain ⟨i, h1, h2⟩ := Option.bind_eq_some_iff.1 hk
    exact ⟨i, h1, h2⟩
  have hren : Ren (idxOf ids) { c with I := immOf c bv } cc := by
    refine ⟨fun b o h => ⟨h, fun _ h => h⟩, fun i j hij blk hb => ?_⟩
    have ht := idxOf_some hij
    obtain ⟨b, q1, q2⟩ := p2 j i ht
    rw [hb] at q1; cases q1
    obtain ⟨r1, r2, r3, _, _⟩ := ren_len (idxOf ids) blk
    exact ⟨_, q2, r1, r2, r3, fun B hB => ⟨by simp only [cc, cxIn, ht, Option.bind_some]; exact hB, fun _ _ h => h⟩⟩
  have noIc : ∀ k B, cc.φ k = some B → ∀ o, ¬ cc.I B o := fun k B hk o hI => by
    obtain ⟨i, hi, hφ⟩ := cφ k B hk
    rcases hI with hI | ⟨id, hid, blk, hb, hφ', _⟩
    · exact hs.noI hφ o hI
    · have e := hs.inj i id B hφ hφ'
      subst e
      exact hbvids i hid (List.mem_of_getElem? hi)
  have hsI : ∀ (i : Nat) (blk : Blk) (B : Nat), c.m[i]? = some blk → c.φ i = some B → i ∈ ids → BlkOK P cc B (blk.ren (idxOf ids)) := fun i blk B hb hφ hi => by
    have hk := hs.blk i blk B hb hφ
    obtain ⟨t, ht, e⟩ := List.getElem_of_mem hi
    have htt : ids[t]? = some i := by rw [List.getElem?_eq_getElem ht, e]
    have hkc : cc.φ t = some B := by simp only [cc, cxIn, htt, Option.bind_some]; exact hφ
    have hren0 : Ren (idxOf ids) c cc := ⟨fun b o h => ⟨.inl h, fun _ h => h⟩, hren.blk⟩
    exact hk.ren hren0 (noIc t B hkc) (fun x hx => hx)
  have hcc : PSim P cc := by
    refine ⟨fun k blk B hk hφ => ?_, fun i j B hi hj => ?_, fun i B hi => ?_, fun b o hI => ?_⟩
    · obtain ⟨i, hi, hφ'⟩ := cφ k B hφ
      obtain ⟨b, q1, q2⟩ := p2 k i hi
      have : blk = b.ren (idxOf ids) := by simp only [cc, cxIn] at hk; rw [hk] at q2; exact Option.some.inj q2
      subst this
      exact hsI i b B q1 hφ' (List.mem_of_getElem? hi)
    · obtain ⟨i', h1, h2⟩ := cφ i B hi
      obtain ⟨j', h3, h4⟩ := cφ j B hj
      have e := hs.inj i' j' B h2 h4
      subst e
      have e1 := idxOf_of hdist h1
      have e2 := idxOf_of hdist h3
      rw [e1] at e2; exact Option.some.inj e2
    · obtain ⟨i', h1, _⟩ := cφ i B hi
      simp only [cc, cxIn, p1]
      exact (List.getElem?_eq_some_iff.1 h1).1
    · rcases hI with hI | ⟨id, hid, blk, hb, hφ', _⟩
      · exact hs.imm b o hI
      · exact hs.lt hφ'
  have hgc : GlOK E cc := GlOK.keep (c := c) (c' := cc) (fun b o h => ⟨.inl h, fun _ h => h⟩) (fun _ _ _ _ _ h => h) (fun id B hB => let ⟨i, _, h⟩ := cφ id B hB; .inl ⟨i, h⟩) hg
  have hargs : RelVs cc (V.rens (idxOf ids) (byArgs br c.m args)) vals := RelVs.ren hren _ _ hav
  refine Done.mono (hcall.1 f _ mc r2 mc2 hr2 cc vals hcc rfl hgc hargs) ?_
  rintro e w' ⟨rv, c2, rfl, rfl, hm2, hpost, hrv⟩
  have hk2 : ids.length ≤ mc2.length := by
    rcases Nat.eq_zero_or_pos ids.length with h0 | h0
    · omega
    · obtain ⟨i, hi⟩ : ∃ i, ids[ids.length - 1]? = some i := ⟨_, List.getElem?_eq_getElem (by omega)⟩
      obtain ⟨b, hb, _⟩ := l3 _ i hi (hin _ i hi)
      have := (List.getElem?_eq_some_iff.1 hb).1
      omega
  let c2' : Cx := { c2 with I := c.I }
  have noI2 : ∀ k B, c2.φ k = some B → ∀ o, ¬ c.I B o := fun k B hk o hI => by
    have : c2.I B o := by rw [hpost.imm]; exact .inl hI
    exact hpost.sim.noI hk o this
  have hblk2 : ∀ (k : Nat) (blk : Blk) (B : Nat), c2.m[k]? = some blk → c2.φ k = some B → BlkOK P c2' B blk := fun k blk B hb hφ => by
    have hk := hpost.sim.blk k blk B hb hφ
    simp only [Bool.or_eq_true, Bool.and_eq_true] at hpure
    rcases hpure with h0 | ⟨_, hall⟩
    · have : bv = [] := by simpa using h0
      have e : c2' = c2 := by
        simp only [c2']; rw [show c.I = c2.I by rw [hpost.imm]; simp only [cc, cxIn]; rw [this, immOf_nil]]
      rw [e]; exact hk
    · rw [hm2] at hb
      exact hk.noI c.I (List.all_eq_true.1 hall blk (List.mem_of_getElem? hb)) (noI2 k B hφ)
  have hrv2 : RelVs c2' r2 rv := by
    simp only [Bool.or_eq_true, Bool.and_eq_true] at hpure
    rcases hpure with h0 | ⟨hno, _⟩
    · have : bv = [] := by simpa using h0
      have e : c2' = c2 := by
        simp only [c2']; rw [show c.I = c2.I by rw [hpost.imm]; simp only [cc, cxIn]; rw [this, immOf_nil]]
      rw [e]; exact hrv
    · exact RelVs.noI c.I _ _ hno hrv
  let M' : Mem := m1 ++ restBlks mc2 (backRen ids c.m.length) ids.length
  let c' : Cx := cxOut c c2 ids M'
  have hM1 : ∀ i, i < c.m.length → M'[i]? = m1[i]? := fun i hi => by simp only [M']; rw [List.getElem?_append_left (by omega)]
  have hM2 : ∀ k, M'[c.m.length + k]? = (mc2[ids.length + k]?).map (Blk.ren (backRen ids c.m.length)) := fun k => by
    simp only [M', restBlks]
    rw [List.getElem?_append_right (by omega)]
    simp [l1]
  have wr : ∀ b, Wr cc b → Wr c b := fun b ⟨k, blk, h1, h2, h3⟩ => by
    obtain ⟨i, hi, hφ⟩ := cφ k b h3
    obtain ⟨b0, q1, q2⟩ := p2 k i hi
    have : blk = b0.ren (idxOf ids) := by simp only [cc, cxIn] at h1; rw [h1] at q2; exact Option.some.inj q2
    subst this
    exact ⟨i, b0, q1, by rw [← (ren_len (idxOf ids) b0).2.2.2.1]; exact h2, hφ⟩
  have kept : ∀ i B, c.φ i = some B → i ∉ ids → ∀ x, c.w.heap[B]? = some x → c2.w.heap[B]? = some x := fun i B hφ hi x hx => by
    refine hpost.keeps.heap B x hx fun hw => ?_
    obtain ⟨k, blk, h1, h2, h3⟩ := hw
    obtain ⟨i', hi', hφ'⟩ := cφ k B h3
    have e := hs.inj i i' B hφ hφ'
    subst e
    exact hi (List.mem_of_getElem? hi')
  have φin : ∀ i t, i < c.m.length → ids[t]? = some i → c'.φ i = c2.φ t := fun i t hi ht => by
    simp only [c', cxOut, hi, if_true, idxOf_of hdist ht]
  have φout : ∀ i, i < c.m.length → i ∉ ids → c'.φ i = c.φ i := fun i hi hn => by
    simp only [c', cxOut, hi, if_true]
    cases hx : idxOf ids i with
    | none => rfl
    | some j => exact absurd (List.mem_of_getElem? (idxOf_some hx)) hn
  have φnew : ∀ k, c'.φ (c.m.length + k) = c2.φ (ids.length + k) := fun k => by
    simp only [c', cxOut]
    rw [if_neg (by omega)]
    congr 1; omega
  have hkeepI : KeepI c.I c.I c.w c2.w := fun b o hI => ⟨hI, fun u hu => by
    have hb := hs.imm b o hI
    refine cell?_of_heap (fun x hx => hpost.keeps.heap b x hx fun hw => ?_) hu
    obtain ⟨k, blk, h1, h2, h3⟩ := hw
    exact noIc k b h3 o (.inl hI)⟩
  have hst : St c c' := by
    refine ⟨hkeepI, fun i blk hb => ?_⟩
    have hi : i < c.m.length := (List.getElem?_eq_some_iff.1 hb).1
    by_cases hm : i ∈ ids
    · obtain ⟨t, ht, e⟩ := List.getElem_of_mem hm
      have htt : ids[t]? = some i := by rw [List.getElem?_eq_getElem ht, e]
      obtain ⟨b0, q1, q2⟩ := p2 t i htt
      rw [hb] at q1; cases q1
      obtain ⟨b2, g1, g2, g3, g4⟩ := hpost.st.blk t (blk.ren (idxOf ids)) q2
      obtain ⟨b3, s1, s2⟩ := l3 t i htt hi
      rw [Nat.zero_add] at s1
      rw [hm2] at g1
      rw [s1] at g1; cases g1
      obtain ⟨r1, r2', r3, _, _⟩ := ren_len (idxOf ids) blk
      obtain ⟨o1, o2, o3, _, _⟩ := ren_len (backRen ids c.m.length) b2
      refine ⟨_, by show M'[i]? = _; rw [hM1 i hi]; exact s2, by rw [o1]; omega, fun hl => ?_, fun he => ?_⟩
      · have := g3 (by rw [r3]; exact hl)
        exact ⟨by rw [o3]; exact this.1, by rw [o1]; omega⟩
      · have := g4 (by omega)
        refine ⟨by rw [o2, this.1, r2'], fun B hB => ?_⟩
        have hB' : cc.φ t = some B := by simp only [cc, cxIn, htt, Option.bind_some]; exact hB
        obtain ⟨k1, k2⟩ := this.2 B hB'
        exact ⟨by rw [φin i t hi htt]; exact k1, k2⟩
    · refine ⟨blk, by show M'[i]? = _; rw [hM1 i hi, l2 i hm]; exact hb, Nat.le_refl _, fun hl => ⟨hl, rfl⟩, fun _ => ⟨rfl, fun B hB => ⟨by rw [φout i hi hm]; exact hB, fun e n hsh => ?_⟩⟩⟩
      exact shape?_of_heap (kept i B hB hm) hsh
  have hren2 : Ren (backRen ids c.m.length) c2' c' := by
    refine ⟨fun b o h => ⟨h, fun _ h => h⟩, fun i j hij blk hb => ?_⟩
    have hb' : mc2[i]? = some blk := by rw [← hm2]; exact hb
    simp only [backRen] at hij
    obtain ⟨o1, o2, o3, _, _⟩ := ren_len (backRen ids c.m.length) blk
    split at hij
    · rename_i hlt
      have hj := hin i j hij
      obtain ⟨b3, s1, s2⟩ := l3 i j hij hj
      rw [Nat.zero_add, hb'] at s1; cases s1
      exact ⟨_, by show M'[j]? = _; rw [hM1 j hj]; exact s2, o1, o2, o3, fun B hB => ⟨by rw [φin j i hj hij]; exact hB, fun _ _ h => h⟩⟩
    · rename_i hge
      cases hij
      refine ⟨blk.ren (backRen ids c.m.length), ?_, o1, o2, o3, fun B hB => ⟨?_, fun _ _ h => h⟩⟩
      · show M'[_]? = _
        rw [hM2, show ids.length + (i - ids.length) = i by omega, hb']; rfl
      · rw [φnew, show ids.length + (i - ids.length) = i by omega]; exact hB
  have hφ' : ∀ i B, c'.φ i = some B → (∃ t, i < c.m.length ∧ ids[t]? = some i ∧ c2.φ t = some B) ∨ (i < c.m.length ∧ i ∉ ids ∧ c.φ i = some B) ∨ (∃ k, i = c.m.length + k ∧ c2.φ (ids.length + k) = some B) := fun i B hi => by
    by_cases hlt : i < c.m.length
    · by_cases hm : i ∈ ids
      · obtain ⟨t, ht, e⟩ := List.getElem_of_mem hm
        have htt : ids[t]? = some i := by rw [List.getElem?_eq_getElem ht, e]
        rw [φin i t hlt htt] at hi
        exact .inl ⟨t, hlt, htt, hi⟩
      · rw [φout i hlt hm] at hi
        exact .inr (.inl ⟨hlt, hm, hi⟩)
    · obtain ⟨k, rfl⟩ : ∃ k, i = c.m.length + k := ⟨i - c.m.length, by omega⟩
      rw [φnew] at hi
      exact .inr (.inr ⟨k, rfl, hi⟩)
  have apart : ∀ k i B, c2.φ k = some B → c.φ i = some B → i ∉ ids → False := fun k i B hk hi hm => by
    rcases hpost.keeps.fresh k B hk with h1 | h1
    · obtain ⟨i', hi', hφ''⟩ := cφ k B h1
      have e := hs.inj i i' B hi hφ''
      subst e
      exact hm (List.mem_of_getElem? hi')
    · have := hs.lt hi
      have e : cc.w = c.w := rfl
      rw [e] at h1; omega
  refine ⟨rv, c', rfl, rfl, rfl, ⟨hst, ⟨fun i blk B hb hφ => ?_, fun i j B hi hj => ?_, fun i B hi => ?_, fun b o hI => ?_⟩, ⟨hpost.keeps.size, hpost.keeps.os, hpost.keeps.tape, hpost.keeps.output, fun b o hx hw => ?_, fun i B hi => ?_, fun i blk hb => ?_, fun i blk hb hpr => ?_, fun i B blk hi hb hpr => ?_⟩, rfl⟩, RelVs.ren hren2 _ _ hrv2⟩
  · have hb' : M'[i]? = some blk := hb
    rcases hφ' i B hφ with ⟨t, hlt, ht, h2⟩ | ⟨hlt, hm, h2⟩ | ⟨k, rfl, h2⟩
    · obtain ⟨b3, s1, s2⟩ := l3 t i ht hlt
      rw [hM1 i hlt, s2] at hb'; cases hb'
      rw [Nat.zero_add] at s1
      exact (hblk2 t b3 B (by rw [hm2]; exact s1) h2).ren hren2 (noI2 t B h2) (fun x hx => hx)
    · rw [hM1 i hlt, l2 i hm] at hb'
      exact BlkOK.mono hst rfl (kept i B h2 hm) (hs.blk i blk B hb' h2)
    · rw [hM2] at hb'
      obtain ⟨b3, s1, rfl⟩ := Option.map_eq_some_iff.1 hb'
      exact (hblk2 _ b3 B (by rw [hm2]; exact s1) h2).ren hren2 (noI2 _ B h2) (fun x hx => hx)
  · rcases hφ' i B hi with ⟨t, hlt, ht, h2⟩ | ⟨hlt, hm, h2⟩ | ⟨k, rfl, h2⟩ <;> rcases hφ' j B hj with ⟨t', hlt', ht', h2'⟩ | ⟨hlt', hm', h2'⟩ | ⟨k', rfl, h2'⟩
    · have e := hpost.sim.inj t t' B h2 h2'
      subst e; rw [ht] at ht'; exact Option.some.inj ht'
    · exact (apart t j B h2 h2' hm').elim
    · have e := hpost.sim.inj t _ B h2 h2'
      have := (List.getElem?_eq_some_iff.1 ht).1
      omega
    · exact (apart t' i B h2' h2 hm).elim
    · exact hs.inj i j B h2 h2'
    · exact (apart _ i B h2' h2 hm).elim
    · have e := hpost.sim.inj _ t' B h2 h2'
      have := (List.getElem?_eq_some_iff.1 ht').1
      omega
    · exact (apart _ j B h2 h2' hm').elim
    · have e := hpost.sim.inj _ _ B h2 h2'
      omega
  · show i < M'.length
    have hMl : M'.length = c.m.length + (mc2.length - ids.length) := by simp [M', restBlks, l1]
    rcases hφ' i B hi with ⟨t, hlt, _⟩ | ⟨hlt, _⟩ | ⟨k, rfl, h2⟩
    · omega
    · omega
    · have := hpost.sim.dom _ B h2
      rw [hm2] at this
      omega
  · exact Nat.lt_of_lt_of_le (hs.imm b o hI) hpost.keeps.size
  · exact hpost.keeps.heap b o hx fun hw' => hw (wr b hw')
  · rcases hφ' i B hi with ⟨t, hlt, ht, h2⟩ | ⟨hlt, hm, h2⟩ | ⟨k, rfl, h2⟩
    · rcases hpost.keeps.fresh t B h2 with h1 | h1
      · obtain ⟨i', hi', hφ''⟩ := cφ t B h1
        rw [ht] at hi'; cases hi'
        exact .inl hφ''
      · exact .inr h1
    · exact .inl h2
    · rcases hpost.keeps.fresh _ B h2 with h1 | h1
      · obtain ⟨i', hi', hφ''⟩ := cφ _ B h1
        have := (List.getElem?_eq_some_iff.1 hi').1
        omega
      · exact .inr h1
  · have hi : i < c.m.length := (List.getElem?_eq_some_iff.1 hb).1
    by_cases hm : i ∈ ids
    · obtain ⟨t, ht, e⟩ := List.getElem_of_mem hm
      have htt : ids[t]? = some i := by rw [List.getElem?_eq_getElem ht, e]
      obtain ⟨b0, q1, q2⟩ := p2 t i htt
      rw [hb] at q1; cases q1
      obtain ⟨b2, g1, g2⟩ := hpost.keeps.prot t (blk.ren (idxOf ids)) q2
      obtain ⟨b3, s1, s2⟩ := l3 t i htt hi
      rw [Nat.zero_add] at s1
      rw [hm2, s1] at g1; cases g1
      exact ⟨_, by show M'[i]? = _; rw [hM1 i hi]; exact s2, by rw [(ren_len _ b2).2.2.2.1, g2, (ren_len _ blk).2.2.2.1]⟩
    · exact ⟨blk, by show M'[i]? = _; rw [hM1 i hi, l2 i hm]; exact hb, rfl⟩
  · have hi : i < c.m.length := (List.getElem?_eq_some_iff.1 hb).1
    by_cases hm : i ∈ ids
    · obtain ⟨t, ht, e⟩ := List.getElem_of_mem hm
      have htt : ids[t]? = some i := by rw [List.getElem?_eq_getElem ht, e]
      obtain ⟨b0, q1, q2⟩ := p2 t i htt
      rw [hb] at q1; cases q1
      obtain ⟨n1, n2, n3, n4, _⟩ := ren_len (idxOf ids) blk
      obtain ⟨b2, g1, g2, g3, g4⟩ := hpost.keeps.same t (blk.ren (idxOf ids)) q2 (by rw [n4]; exact hpr)
      obtain ⟨b3, s1, s2⟩ := l3 t i htt hi
      rw [Nat.zero_add] at s1
      rw [hm2, s1] at g1
      have e := Option.some.inj g1
      subst e
      obtain ⟨o1, o2, o3, _, _⟩ := ren_len (backRen ids c.m.length) b3
      exact ⟨_, by show M'[i]? = _; rw [hM1 i hi]; exact s2, by rw [o1, g2, n1], by rw [o2, g3, n2], by rw [o3, g4, n3]⟩
    · exact ⟨blk, by show M'[i]? = _; rw [hM1 i hi, l2 i hm]; exact hb, rfl, rfl, rfl⟩
  · rcases hφ' i B hi with ⟨t, _, ht, h2⟩ | ⟨_, hm, h2⟩ | ⟨k, e, h2⟩
    · obtain ⟨b0, q1, q2⟩ := p2 t i ht
      rw [hb] at q1; cases q1
      obtain ⟨B0, hB0⟩ := hpost.keeps.old t B _ h2 q2 (by rw [(ren_len (idxOf ids) blk).2.2.2.1]; exact hpr)
      obtain ⟨i', hi', hφ''⟩ := cφ t B0 hB0
      rw [ht] at hi'; cases hi'
      exact ⟨B0, hφ''⟩
    · exact ⟨B, h2⟩
    · have : i < c.m.length := (List.getElem?_eq_some_iff.1 hb).1
      omega
end Go.Proofs.YtlenjioebdmooaaDoor.Den

namespace Go.Proofs.YtlenjioebdmooaaDoor.Den
open Go
set_option linter.unusedVariables false
set_option linter.unusedSimpArgs false
def eqVal : Kd → Value → Value → Option Bool
  | .b, .bool a, .bool b => some (a == b)
  | .i q, .int k a, .int k' b => if k = q ∧ k' = q then some (a == b) else none
  | .s, .string a, .string b => some (a == b)
  | _, _, _ => none
def eqVals : List Kd → List Value → List Value → Option Bool
  | [], [], [] => some true
  | k :: ks, u :: us, v :: vs => match eqVal k u v, eqVals ks us vs with | some x, some y => some (x && y) | _, _ => none
  | _, _, _ => none
theorem eqVal_b {x y : Value} {r : Bool} (h : eqVal .b x y = some r) : ∃ a b, x = .bool a ∧ y = .bool b ∧ r = (a == b) := by
  unfold eqVal at h
  split at h <;> simp_all
theorem eqVal_s {x y : Value} {r : Bool} (h : eqVal .s x y = some r) : ∃ a b, x = .string a ∧ y = .string b ∧ r = (a == b) := by
  unfold eqVal at h
  split at h <;> simp_all
theorem eqVal_i {q : IntKind} {x y : Value} {r : Bool} (h : eqVal (.i q) x y = some r) : ∃ a b, x = .int q a ∧ y = .int q b ∧ r = (a == b) := by
  unfold eqVal at h
  split at h
  · simp_all
  · rename_i e
    cases e
    split at h
    · rename_i hq; obtain ⟨rfl, rfl⟩ := hq; cases h; exact ⟨_, _, rfl, rfl, rfl⟩
    · cases h
  · simp_all
  · cases h
theorem eqD_val {c : Cx} {k : Kd} {a b : D} {u v : Value} {r : Bool} (ha : RelD c.I c.w a u) (hb : RelD c.I c.w b v) (h : eqD k a b = some r) : eqVal k u v = some r := by
  unfold eqD at h
  split at h <;> simp_all [RelD, eqVal]
theorem eqDs_vals {c : Cx} : ∀ {ks : List Kd} {cs ds : List V} {us vs : List Value} {r : Bool}, RelVs c cs us → RelVs c ds vs → eqDs ks cs ds = some r → eqVals ks us vs = some r
  | [], [], [], us, vs, r, h1, h2, h => by
    simp only [RelVs] at h1 h2; subst h1; subst h2
    simpa [eqDs, eqVals] using h
  | k :: ks, .d a :: cs, .d b :: ds, us, vs, r, h1, h2, h => by
    simp only [RelVs] at h1 h2
    obtain ⟨u, us, rfl, g1, g2⟩ := h1
    obtain ⟨v, vs, rfl, k1, k2⟩ := h2
    simp only [eqDs] at h
    cases e1 : eqD k a b with
    | none => simp [e1] at h
    | some x =>
      cases e2 : eqDs ks cs ds with
      | none => simp [e1, e2] at h
      | some y =>
        simp [e1, e2] at h
        simp only [RelV] at g1 k1
        simp only [eqVals, eqD_val g1 k1 e1, eqDs_vals g2 k2 e2, h]
  | [], _ :: _, _, _, _, _, _, _, h => by simp [eqDs] at h
  | [], [], _ :: _, _, _, _, _, _, h => by simp [eqDs] at h
  | _ :: _, [], _, _, _, _, _, _, h => by simp [eqDs] at h
  | _ :: _, .un :: _, _, _, _, _, _, _, h => by simp [eqDs] at h
  | _ :: _, .ptr .. :: _, _, _, _, _, _, _, h => by simp [eqDs] at h
  | _ :: _, .sl .. :: _, _, _, _, _, _, _, h => by simp [eqDs] at h
  | _ :: _, .so .. :: _, _, _, _, _, _, _, h => by simp [eqDs] at h
  | _ :: _, .sa .. :: _, _, _, _, _, _, _, h => by simp [eqDs] at h
  | _ :: _, .pa .. :: _, _, _, _, _, _, _, h => by simp [eqDs] at h
  | _ :: _, .fn .. :: _, _, _, _, _, _, _, h => by simp [eqDs] at h
  | _ :: _, .yl .. :: _, _, _, _, _, _, _, h => by simp [eqDs] at h
  | _ :: _, .ifc .. :: _, _, _, _, _, _, _, h => by simp [eqDs] at h
  | _ :: _, .agg .. :: _, _, _, _, _, _, _, h => by simp [eqDs] at h
  | _ :: _, .tup .. :: _, _, _, _, _, _, _, h => by simp [eqDs] at h
  | _ :: _, .d _ :: _, [], _, _, _, _, _, h => by simp [eqDs] at h
  | _ :: _, .d _ :: _, .un :: _, _, _, _, _, _, h => by simp [eqDs] at h
  | _ :: _, .d _ :: _, .ptr .. :: _, _, _, _, _, _, h => by simp [eqDs] at h
  | _ :: _, .d _ :: _, .sl .. :: _, _, _, _, _, _, h => by simp [eqDs] at h
  | _ :: _, .d _ :: _, .so .. :: _, _, _, _, _, _, h => by simp [eqDs] at h
  | _ :: _, .d _ :: _, .sa .. :: _, _, _, _, _, _, h => by simp [eqDs] at h
  | _ :: _, .d _ :: _, .pa .. :: _, _, _, _, _, _, h => by simp [eqDs] at h
  | _ :: _, .d _ :: _, .fn .. :: _, _, _, _, _, _, h => by simp [eqDs] at h
  | _ :: _, .d _ :: _, .yl .. :: _, _, _, _, _, _, h => by simp [eqDs] at h
  | _ :: _, .d _ :: _, .ifc .. :: _, _, _, _, _, _, h => by simp [eqDs] at h
  | _ :: _, .d _ :: _, .agg .. :: _, _, _, _, _, _, h => by simp [eqDs] at h
  | _ :: _, .d _ :: _, .tup .. :: _, _, _, _, _, _, h => by simp [eqDs] at h
theorem eqVals_len : ∀ {ks : List Kd} {us vs : List Value} {r : Bool}, eqVals ks us vs = some r → us.length = ks.length ∧ vs.length = ks.length
  | [], [], [], _, _ => ⟨rfl, rfl⟩
  | k :: ks, u :: us, v :: vs, r, h => by
    simp only [eqVals] at h
    cases e1 : eqVal k u v with
    | none => simp [e1] at h
    | some x =>
      cases e2 : eqVals ks us vs with
      | none => simp [e1, e2] at h
      | some y => obtain ⟨h1, h2⟩ := eqVals_len e2; simp [h1, h2]
  | [], _ :: _, _, _, h => by simp [eqVals] at h
  | [], [], _ :: _, _, h => by simp [eqVals] at h
  | _ :: _, [], _, _, h => by simp [eqVals] at h
  | _ :: _, _ :: _, [], _, h => by simp [eqVals] at h
theorem eqVals_app : ∀ {ks ls : List Kd} {us vs : List Value} {r : Bool}, eqVals (ks ++ ls) us vs = some r →
    ∃ x y, eqVals ks (us.take ks.length) (vs.take ks.length) = some x ∧ eqVals ls (us.drop ks.length) (vs.drop ks.length) = some y ∧ r = (x && y)
  | [], ls, us, vs, r, h => ⟨true, r, by simp [eqVals], by simpa using h, by simp⟩
  | k :: ks, ls, u :: us, v :: vs, r, h => by
    simp only [List.cons_append, eqVals] at h
    cases e1 : eqVal k u v with
    | none => simp [e1] at h
    | some x =>
      cases e2 : eqVals (ks ++ ls) us vs with
      | none => simp [e1, e2] at h
      | some y =>
        simp [e1, e2] at h
        obtain ⟨p, q, g1, g2, rfl⟩ := eqVals_app e2
        refine ⟨x && p, q, ?_, by simpa using g2, by rw [← h]; simp [Bool.and_assoc]⟩
        simp only [List.length_cons, List.take_succ_cons, eqVals, e1, g1]
  | _ :: _, _, [], _, _, h => by simp [eqVals] at h
  | _ :: _, _, _ :: _, [], _, h => by simp [eqVals] at h
variable {P : Program}
theorem eqKs_len {m : Nat} {t : TypeId} {ks : List Kd} (h : eqKs P m t = some ks) : ks.length = P.cellsOf t := by
  cases m with
  | zero => simp [eqKs] at h
  | succ m =>
    simp only [eqKs] at h
    cases hu : P.underlying t with
    | none => simp [hu] at h
    | some u =>
      rw [hu] at h
      cases u with
      | bool => simp only at h; split at h <;> cases h; rename_i e; simp [e]
      | int k => simp only at h; split at h <;> cases h; rename_i e; simp [e]
      | string => simp only at h; split at h <;> cases h; rename_i e; simp [e]
      | struct fs =>
        simp only at h
        split at h
        · split at h
          · split at h
            · cases h; assumption
            · cases h
          · cases h
        · cases h
      | array n e =>
        simp only at h
        split at h
        · split at h
          · cases h
            rename_i l _ hc
            rw [← hc.1, ← hc.2]
            induction n with
            | zero => simp
            | succ n ih => simp [List.replicate_succ, Nat.add_mul]; omega
          · cases h
        · cases h
      | _ => simp at h
theorem partE_ok (w : World) {m : Nat} {e : TypeId} {ks : List Kd} (hk : eqKs P m e = some ks) {xs : Array Value} {off : Nat} (hl : ((xs.toList.drop off).take (P.cellsOf e)).length = P.cellsOf e) (hd : ∀ v, v ∈ xs.toList → ∀ cs, v ≠ .agg cs ∧ v ≠ .tuple cs) :
    ∃ a : Value, (Go.part e xs off).run P w = .ok a w ∧ a.formed P e = true ∧ a.cells.toList = (xs.toList.drop off).take (P.cellsOf e) := by
  cases m with
  | zero => simp [eqKs] at hk
  | succ m =>
    simp only [eqKs] at hk
    cases hu : P.underlying e with
    | none => simp [hu] at hk
    | some kd =>
      have agg : (∃ n e', kd = .array n e') ∨ (∃ fs, kd = .struct fs) → ∃ a : Value, (Go.part e xs off).run P w = .ok a w ∧ a.formed P e = true ∧ a.cells.toList = (xs.toList.drop off).take (P.cellsOf e) := by
        intro hk
        obtain ⟨i, hi⟩ := info_of_underlying hu
        have hl' : (xs.extract off (off + P.cellsOf e)).toList = (xs.toList.drop off).take (P.cellsOf e) := by
          rw [Array.toList_extract]
          simp [List.extract]
        refine ⟨.agg (xs.extract off (off + P.cellsOf e)), ?_, ?_, hl'⟩
        · rcases hk with ⟨n, e', rfl⟩ | ⟨fs, rfl⟩ <;> simp [Go.part, isAgg, run_underlying hu, run_sizeOf w hi]
        · have hs : (xs.extract off (off + P.cellsOf e)).size = P.cellsOf e := by rw [← Array.length_toList, hl', hl]
          rcases hk with ⟨n, e', rfl⟩ | ⟨fs, rfl⟩ <;> simp [Value.formed, hu, hs]
      have plain : P.plainKey e = true → P.cellsOf e = 1 → ∃ a : Value, (Go.part e xs off).run P w = .ok a w ∧ a.formed P e = true ∧ a.cells.toList = (xs.toList.drop off).take (P.cellsOf e) := by
        intro hp h1
        rw [h1] at hl ⊢
        obtain ⟨a, ea⟩ := List.length_eq_one_iff.1 hl
        have hm : a ∈ xs.toList := List.mem_of_mem_drop (List.mem_of_mem_take (by rw [ea]; simp))
        have hna := hd a hm
        refine ⟨a, run_part_plain w hp (getElem?_of_chunk ea), ?_, ?_⟩
        · cases a <;> first | exact absurd rfl (hna _).1 | exact absurd rfl (hna _).2 | (simp only [Value.formed, hu]; cases kd <;> simp_all [Program.plainKey])
        · rw [ea]; cases a <;> first | exact absurd rfl (hna _).1 | rfl
      rw [hu] at hk
      cases kd with
      | bool => simp only at hk; split at hk <;> cases hk; rename_i h1; exact plain (by simp [Program.plainKey, hu]) h1
      | int q => simp only at hk; split at hk <;> cases hk; rename_i h1; exact plain (by simp [Program.plainKey, hu]) h1
      | string => simp only at hk; split at hk <;> cases hk; rename_i h1; exact plain (by simp [Program.plainKey, hu]) h1
      | array n e' => exact agg (Or.inl ⟨n, e', rfl⟩)
      | struct fs => exact agg (Or.inr ⟨fs, rfl⟩)
      | _ => simp at hk
def EqOK (P : Program) (d : Nat) (t : TypeId) (ks : List Kd) : Prop := ∀ (w : World) (x y : Value) (b : Bool), x.formed P t = true → y.formed P t = true → eqVals ks x.cells.toList y.cells.toList = some b → (Op.equalIn d t x y).run P w = .ok b w
theorem noAgg {ks : List Kd} : ∀ {us vs : List Value} {r : Bool}, eqVals ks us vs = some r → (∀ v, v ∈ us → ∀ cs, v ≠ .agg cs ∧ v ≠ .tuple cs) ∧ (∀ v, v ∈ vs → ∀ cs, v ≠ .agg cs ∧ v ≠ .tuple cs) := by
  induction ks with
  | nil =>
    intro us vs r h
    obtain ⟨h1, h2⟩ := eqVals_len h
    cases us <;> cases vs <;> simp_all
  | cons k ks ih =>
    intro us vs r h
    cases us with
    | nil => simp [eqVals] at h
    | cons u us =>
      cases vs with
      | nil => simp [eqVals] at h
      | cons v vs =>
        simp only [eqVals] at h
        cases e1 : eqVal k u v with
        | none => simp [e1] at h
        | some x =>
          cases e2 : eqVals ks us vs with
          | none => simp [e1, e2] at h
          | some y =>
            obtain ⟨h1, h2⟩ := ih e2
            have hu : (∀ cs, u ≠ .agg cs ∧ u ≠ .tuple cs) ∧ (∀ cs, v ≠ .agg cs ∧ v ≠ .tuple cs) := by
              unfold eqVal at e1
              split at e1 <;> simp_all
            refine ⟨fun z hz => ?_, fun z hz => ?_⟩
            · rcases List.mem_cons.1 hz with rfl | hz
              · exact hu.1
              · exact h1 z hz
            · rcases List.mem_cons.1 hz with rfl | hz
              · exact hu.2
              · exact h2 z hz
theorem fields_ok {d m : Nat} {xs ys : Array Value} (nx : ∀ v, v ∈ xs.toList → ∀ cs, v ≠ .agg cs ∧ v ≠ .tuple cs) (ny : ∀ v, v ∈ ys.toList → ∀ cs, v ≠ .agg cs ∧ v ≠ .tuple cs) :
    ∀ (fs : List Field) (l : List (List Kd)) (o total : Nat) (w : World) (b : Bool), (∀ f, f ∈ fs → ∀ ks, eqKs P m f.type = some ks → EqOK P d f.type ks) → fs.mapM (fun f => eqKs P m f.type) = some l → fs.all (fun f => f.name != "_") = true → contigE P fs o total = true →
      eqVals l.flatten (xs.toList.drop o) (ys.toList.drop o) = some b → (Op.eqFields d xs ys fs).run P w = .ok b w
  | [], l, o, total, w, b, _, hl, _, _, h => by
    simp at hl; subst hl
    have h2 := eqVals_len h
    simp only [List.flatten_nil, List.length_nil, List.length_eq_zero_iff] at h2
    rw [h2.1, h2.2] at h
    simp [eqVals] at h
    subst h
    simp [Op.eqFields]
  | f :: fs, l, o, total, w, b, IH, hl, hn, hc, h => by
    rw [List.mapM_cons] at hl
    simp only [Option.bind_eq_bind, Option.bind_eq_some_iff, Option.pure_def, Option.some.injEq] at hl
    obtain ⟨k, hk, l', hl', rfl⟩ := hl
    simp only [List.all_cons, Bool.and_eq_true, bne_iff_ne, ne_eq] at hn
    simp only [contigE, Bool.and_eq_true, beq_iff_eq] at hc
    simp only [List.flatten_cons] at h
    obtain ⟨x, y, h1, h2, rfl⟩ := eqVals_app h
    have kl := eqKs_len hk
    have l1 := eqVals_len h1
    rw [kl] at h1 h2 l1
    have e1 : f.offset = o := hc.1
    obtain ⟨a, pa, fa, ca⟩ := partE_ok w hk (xs := xs) (off := o) (by exact l1.1) nx
    obtain ⟨b', pb, fb, cb⟩ := partE_ok w hk (xs := ys) (off := o) (by exact l1.2) ny
    have hr := IH f (by simp) k hk w a b' x fa fb (by rw [ca, cb]; exact h1)
    have rest := fields_ok nx ny fs l' (o + P.cellsOf f.type) total w y (fun g hg => IH g (by simp [hg])) hl' hn.2 hc.2 (by simpa [List.drop_drop] using h2)
    simp only [Op.eqFields, hn.1, ne_eq, not_false_eq_true, if_true, Sem.run_bind, e1, pa, pb, hr, Result.andThen_ok]
    cases x
    · simp
    · simpa using rest
theorem items_ok {d m n : Nat} {e : TypeId} {k : List Kd} (hk : eqKs P m e = some k) (IH : EqOK P d e k) {xs ys : Array Value} (nx : ∀ v, v ∈ xs.toList → ∀ cs, v ≠ .agg cs ∧ v ≠ .tuple cs) (ny : ∀ v, v ∈ ys.toList → ∀ cs, v ≠ .agg cs ∧ v ≠ .tuple cs) :
    ∀ (n s : Nat) (w : World) (b : Bool), eqVals (List.replicate n k).flatten (xs.toList.drop (s * P.cellsOf e)) (ys.toList.drop (s * P.cellsOf e)) = some b → (Op.eqItems d e (P.cellsOf e) xs ys (List.range' s n)).run P w = .ok b w
  | 0, s, w, b, h => by
    have h2 := eqVals_len h
    simp only [List.replicate_zero, List.flatten_nil, List.length_nil, List.length_eq_zero_iff] at h2
    rw [h2.1, h2.2] at h
    simp [eqVals] at h
    subst h
    simp [Op.eqItems]
  | n + 1, s, w, b, h => by
    simp only [List.replicate_succ, List.flatten_cons] at h
    obtain ⟨x, y, h1, h2, rfl⟩ := eqVals_app h
    have kl := eqKs_len hk
    have l1 := eqVals_len h1
    rw [kl] at h1 h2 l1
    obtain ⟨a, pa, fa, ca⟩ := partE_ok w hk (xs := xs) (off := s * P.cellsOf e) (by exact l1.1) nx
    obtain ⟨b', pb, fb, cb⟩ := partE_ok w hk (xs := ys) (off := s * P.cellsOf e) (by exact l1.2) ny
    have hr := IH w a b' x fa fb (by rw [ca, cb]; exact h1)
    have rest := items_ok (n := n) hk IH nx ny n (s + 1) w y (by
      have e : (s + 1) * P.cellsOf e = s * P.cellsOf e + P.cellsOf e := by rw [Nat.add_mul, Nat.one_mul]
      rw [e]; simpa [List.drop_drop] using h2)
    simp only [List.range'_succ, Op.eqItems, Sem.run_bind, pa, pb, hr, Result.andThen_ok]
    cases x
    · simp
    · simpa using rest
theorem eq_ok (d : Nat) : ∀ (m : Nat) (t : TypeId) (ks : List Kd), eqKs P m t = some ks → EqOK P (d + m) t ks
  | 0, _, _, h => by simp [eqKs] at h
  | m + 1, t, ks, hk => by
    intro w x y b fx fy h
    have hna := noAgg h
    simp only [eqKs] at hk
    cases hu : P.underlying t with
    | none => simp [hu] at hk
    | some kd =>
      rw [hu] at hk
      have one : P.plainKey t = true → (∃ k, ks = [k]) → ∃ k, ks = [k] ∧ eqVal k x y = some b := by
        intro hp ⟨k, e⟩
        subst e
        have cx : x.cells.toList = [x] := by
          cases x <;> first | rfl | (simp [Value.formed, hu] at fx; simp [Program.plainKey, hu] at hp; cases kd <;> simp_all)
        have cy : y.cells.toList = [y] := by
          cases y <;> first | rfl | (simp [Value.formed, hu] at fy; simp [Program.plainKey, hu] at hp; cases kd <;> simp_all)
        rw [cx, cy] at h
        simp only [eqVals] at h
        refine ⟨k, rfl, ?_⟩
        cases e1 : eqVal k x y with
        | none => simp [e1] at h
        | some z => simp [e1] at h; rw [h]
      have el : d + (m + 1) = (d + m) + 1 := rfl
      cases kd with
      | bool =>
        simp only at hk; split at hk <;> cases hk
        obtain ⟨k, e, h⟩ := one (by simp [Program.plainKey, hu]) ⟨_, rfl⟩
        cases e
        obtain ⟨a, b', rfl, rfl, rfl⟩ := eqVal_b h
        rw [el]; exact run_equalIn_bool w (d + m) t _ _ hu
      | int q =>
        simp only at hk; split at hk <;> cases hk
        obtain ⟨k, e, h⟩ := one (by simp [Program.plainKey, hu]) ⟨_, rfl⟩
        cases e
        obtain ⟨a, b', rfl, rfl, rfl⟩ := eqVal_i h
        rw [el]; exact run_equalIn_int w (d + m) t _ _ _ _ hu
      | string =>
        simp only at hk; split at hk <;> cases hk
        obtain ⟨k, e, h⟩ := one (by simp [Program.plainKey, hu]) ⟨_, rfl⟩
        cases e
        obtain ⟨a, b', rfl, rfl, rfl⟩ := eqVal_s h
        rw [el, run_equalIn_string w (d + m) t _ _ hu, beq_toListBytes]
      | struct fs =>
        simp only at hk
        split at hk
        case isFalse => cases hk
        rename_i hc
        cases x <;> simp only [Value.formed, hu, Bool.false_eq_true] at fx
        cases y <;> simp only [Value.formed, hu, Bool.false_eq_true] at fy
        rename_i xs ys
        split at hk
        case h_2 => cases hk
        rename_i l hl
        split at hk <;> cases hk
        have hfs : P.fieldsOf t = fs := by simp [Program.fieldsOf, hu]
        rw [el, run_equalIn_struct w (d + m) t xs ys (by rw [hfs]; exact hu) hc.1, hfs]
        exact fields_ok hna.1 hna.2 fs.toList l 0 (P.cellsOf t) w b (fun f hf ks hks => eq_ok d m f.type ks hks) hl hc.2.1 hc.2.2 (by simpa using h)
      | array n e =>
        simp only at hk
        cases x <;> simp only [Value.formed, hu, Bool.false_eq_true] at fx
        cases y <;> simp only [Value.formed, hu, Bool.false_eq_true] at fy
        rename_i xs ys
        split at hk
        case h_2 => cases hk
        rename_i l hl
        split at hk <;> cases hk
        rename_i hc
        have hpe : ∃ i, P.info? e = some i := by
          cases m with
          | zero => simp [eqKs] at hl
          | succ m' =>
            simp only [eqKs] at hl
            cases hue : P.underlying e with
            | none => simp [hue] at hl
            | some _ => exact info_of_underlying hue
        obtain ⟨i, hi⟩ := hpe
        rw [el, run_equalIn_array w (d + m) xs ys hu hi, List.range_eq_range']
        exact items_ok (n := n) hl (eq_ok d m e l hl) hna.1 hna.2 n 0 w b (by simpa using h)
      | _ => simp at hk
theorem eq_cells {c : Cx} {x y : V} {xv yv : Value} (hx : RelV c x xv) (hy : RelV c y yv) {ks : List Kd} {b : Bool} (h : eqV (.cells ks) x y = some b) {t : TypeId} (hk : eqKs P 20 t = some ks) (hw : (∃ fs, P.underlying t = some (.struct fs)) ∨ ∃ n e, P.underlying t = some (.array n e)) :
    (∃ p q, xv = .agg p ∧ yv = .agg q) ∧ (Op.equal t xv yv).run P c.w = .ok b c.w := by
  unfold eqV at h
  simp only at h
  split at h
  · rename_i cs ds
    simp only [RelV] at hx hy
    obtain ⟨a, rfl, h1, _⟩ := hx
    obtain ⟨a', rfl, h2, _⟩ := hy
    refine ⟨⟨_, _, rfl, rfl⟩, ?_⟩
    have hv := eqDs_vals h1 h2 h
    have hl := eqVals_len hv
    have kl := eqKs_len hk
    have f : ∀ z : List Value, z.length = P.cellsOf t → Value.formed P t (.agg ⟨z⟩) = true := by
      intro z hz
      rcases hw with ⟨fs, hu⟩ | ⟨n, e, hu⟩ <;> simp [Value.formed, hu, hz]
    exact eq_ok 9980 20 t ks hk c.w (.agg ⟨a⟩) (.agg ⟨a'⟩) b (f a (by omega)) (f a' (by omega)) hv
  · cases h
theorem beq_run_agg {xo yo : Operand} {t : TypeId} {x y : Value} {b : Bool} {w : World} (hs : ∃ p q, x = .agg p ∧ y = .agg q) (hm : P.eqGuardType P.depth t = false)
    (h : (Op.equal t x y).run P w = .ok b w) :
    (do eqGuard .eql t xo yo x y; binOp .eql t x y).run P w = .ok (.bool (false != b)) w ∧ (do eqGuard .neq t xo yo x y; binOp .neq t x y).run P w = .ok (.bool (true != b)) w := by
  obtain ⟨p, q, rfl, rfl⟩ := hs
  constructor <;> simp [Sem.run_bind, run_eqGuard_agg w _ _ _ _ _ _ hm, binOp, h]
end Go.Proofs.YtlenjioebdmooaaDoor.Den

namespace Go.Proofs.YtlenjioebdmooaaDoor.Den
open Go
set_option linter.unusedVariables false
set_option linter.unusedSimpArgs false
variable {P : Program}
def i64Of : List D → Int
  | [.int .i64 n] => n
  | _ => 0
theorem isI64_eq {r : List D} (h : isI64 r = true) : r = [.int .i64 (i64Of r)] := by
  unfold isI64 at h
  split at h
  · rfl
  · cases h
theorem rows_ints {rows : List (List D)} (h : rows.all isI64 = true) : rows = (rows.map i64Of).map fun n => [.int .i64 n] := by
  induction rows with
  | nil => rfl
  | cons r l ih =>
    simp only [List.all_cons, Bool.and_eq_true] at h
    simp only [List.map_cons]
    rw [← isI64_eq h.1, ← ih h.2]
theorem flat_ints (zs : List Int) : ((zs.map fun n => [D.int .i64 n]).map (List.map V.d)).flatten = zs.map fun n => V.d (.int .i64 n) := by
  induction zs with
  | nil => rfl
  | cons z l ih => simp only [List.map_cons, List.flatten_cons, List.map_nil]; rw [ih]; rfl
theorem rel_ints {c : Cx} : ∀ {zs : List Int} {us : List Value}, RelVs c (zs.map fun n => V.d (.int .i64 n)) us → us = zs.map (Value.int .i64)
  | [], us, h => by simpa only [List.map_nil, RelVs] using h
  | z :: l, us, h => by
    simp only [List.map_cons, RelVs] at h
    obtain ⟨u, us', rfl, h1, h2⟩ := h
    simp only [RelV, RelD] at h1
    rw [h1, rel_ints h2]; rfl
theorem ints_rel {c : Cx} : ∀ (zs : List Int), RelVs c (zs.map fun n => V.d (.int .i64 n)) (zs.map (Value.int .i64))
  | [] => by simp only [List.map_nil, RelVs]
  | z :: l => by
    simp only [List.map_cons, RelVs]
    exact ⟨_, _, rfl, by simp only [RelV, RelD], ints_rel l⟩
theorem good_del {c : Cx} (hs : PSim P c) {f : FuncId} (hd : DelOK P f) {x i j : V} {vals : Array Value} (hv : RelVs c [x, i, j] vals.toList) {v : V} {m' : Mem} (h : delV c.m x i j = some (v, m')) :
    Good P c m' v (do let d ← Deferred.ofValue (.func (.func f) #[] #[]) vals; invoke d.target d.args) := by
  unfold delV at h
  split at h
  case h_2 => cases h
  rename_i id n a b
  split at h
  case h_2 => cases h
  rename_i e z rows hb
  split at h
  case isFalse => cases h
  rename_i hc
  obtain ⟨hn, rfl, ha0, hab, hbn, hbig, hall⟩ := hc
  cases h
  obtain ⟨⟨fn, e1, e2, e3⟩, hcall⟩ := hd
  have hbn' : fn.body.isNone = false := by cases hb : fn.body <;> simp_all
  simp only [RelVs] at hv
  obtain ⟨u1, us1, e5, r1, u2, us2, rfl, r2, u3, us3, rfl, r3, rfl⟩ := hv
  have r1' := r1
  simp only [RelV] at r1
  obtain ⟨blk, ad, cap, hb', hn', rfl, hcap, r1⟩ := r1
  rw [hb] at hb'; cases hb'
  obtain ⟨B, e', hφ, rfl, hsh⟩ := r1 hn
  simp only [RelV, RelD] at r2 r3
  subst r2
  subst r3
  have hk : CellsOK c B (.flat e 1 rows false) := hs.cellsOK hb hφ rfl
  obtain ⟨arr, fr, cp, us, rest, g1, g2, g3, g4, g5, g6⟩ := hk.ex
  obtain ⟨zs, hzs⟩ : ∃ zs, zs = rows.map i64Of := ⟨_, rfl⟩
  have hrows : rows = zs.map fun n => [.int .i64 n] := by rw [hzs]; exact rows_ints hall
  have hvr : (Blk.flat e 1 rows false).vrows.flatten = zs.map fun n => V.d (.int .i64 n) := by
    simp only [Blk.vrows]; rw [hrows]; exact flat_ints zs
  rw [hvr] at g5
  have hus := rel_ints g5
  subst hus
  have hzl : zs.length = n := by rw [hn, hrows]; simp
  have hA : a.toNat ≤ b.toNat := by omega
  have hB : b.toNat ≤ zs.length := by omega
  have hcell : ∀ k, k < zs.length → arr[k]? = (zs.map (Value.int .i64))[k]? := fun k hk => by
    rw [← Array.getElem?_toList, g4, List.getElem?_append_left (by simpa using hk)]
  have hH : Sort.Holds (Value.int .i64) c.w B 0 zs.toArray := by
    intro k hk'
    have hk' : k < zs.length := by simpa using hk'
    have harr : k < arr.size := by
      have h1 := hcell k hk'
      rw [List.getElem?_eq_getElem (by simpa using hk')] at h1
      exact (Array.getElem?_eq_some_iff.1 h1).1
    refine ⟨?_, ?_⟩
    · simp only [World.cell?, g1, Nat.zero_add]
      simp only [Option.isSome_none, Bool.false_eq_true, if_false]
      rw [hcell k hk', List.getElem?_map, List.getElem?_eq_getElem hk']
      simp [hk']
    · simp only [World.frozen?, g1, Nat.zero_add]
      obtain ⟨lo, hi⟩ := fr
      simp only at g2 ⊢
      rw [Bool.and_eq_false_iff]
      simp only [decide_eq_false_iff_not]
      omega
  have hcl := hcall B cap a.toNat b.toNat zs.toArray c.w hH (by simp; omega) (by simp; omega) hA (by simpa using hB)
  obtain ⟨vl⟩ := vals
  simp only at e5
  subst e5
  refine .inr (.inl ⟨f, _, ?_, Calls.mono hcl ?_⟩)
  · simp only [Deferred.ofValue, Sem.run_bind, Sem.run_pure, Result.andThen_ok, invoke, callFunc, run_program, e1]
    simp only [e2, Bool.false_eq_true, if_false, hbn', Sem.run_pure]
    have ea : ((a.toNat : Nat) : Int) = a := Int.toNat_of_nonneg ha0
    have eb : ((b.toNat : Nat) : Int) = b := Int.toNat_of_nonneg (by omega)
    congr 2
    apply Array.ext'
    simp [ea, eb, hzl, Blk.size]
  · rintro r w' ⟨rfl, q, rfl⟩
    obtain ⟨nz, hnz⟩ : ∃ nz, nz = zs.take a.toNat ++ zs.drop b.toNat ++ List.replicate (b.toNat - a.toNat) (0 : Int) := ⟨_, rfl⟩
    have hnl : nz.length = zs.length := by rw [hnz]; simp; omega
    have hnrows : rows.take a.toNat ++ rows.drop b.toNat ++ List.replicate (b.toNat - a.toNat) [D.int .i64 0] = nz.map fun n => [.int .i64 n] := by
      rw [hnz, hrows]; simp
    have hw : ∀ d : List Int, (Sort.putRow (Value.int .i64) (Sort.ahead c.w q) B 0 d.toArray).heap[B]? = some (.cells (Sort.putCells (Value.int .i64) 0 d.toArray arr) e fr) := fun d => by
      simp only [Sort.putRow, Sort.mapBlock, Sort.ahead, Array.getElem?_modify, if_true, g1, Option.map_some, Sort.onCells, Blk.elem]
    have hoth : ∀ (d : List Int) (k : Nat) (o : Obj), k ≠ B → c.w.heap[k]? = some o → (Sort.putRow (Value.int .i64) (Sort.ahead c.w q) B 0 d.toArray).heap[k]? = some o := fun d k o hk ho => by
      simp only [Sort.putRow, Sort.mapBlock, Sort.ahead, Array.getElem?_modify]
      rw [if_neg (Ne.symm hk)]; exact ho
    simp only [List.toList_toArray] at *
    rw [← hnz]
    rw [hnrows]
    have hid : id < c.m.length := hs.dom id B hφ
    have hT : Turn P c id (.flat e 1 rows false) (.flat e 1 (nz.map fun n => [.int .i64 n]) false) B B (Sort.putRow (Value.int .i64) (Sort.ahead c.w q) B 0 nz.toArray) :=
      ⟨hs, hb, hφ, rfl, rfl, nlF rfl, rfl, by simp only [Blk.len, List.length_map]; omega, fun _ => ⟨rfl, fun e n h => by simp only [World.shape?, g1] at h; simp only [World.shape?, hw]; simpa [Blk.elem, Sort.putCells] using h⟩, .inl rfl, hoth nz,
        by simp, rfl, rfl, rfl⟩
    have hsz : (Sort.putCells (Value.int .i64) 0 nz.toArray arr).toList = nz.map (Value.int .i64) ++ rest := by
      apply List.ext_getElem?
      intro k
      rw [Array.getElem?_toList]
      simp only [Sort.putCells, Array.getElem?_mapIdx, Nat.zero_le, true_and, Nat.zero_add, List.size_toArray, Nat.sub_zero]
      have hak : arr[k]? = (zs.map (Value.int .i64) ++ rest)[k]? := by rw [← g4, Array.getElem?_toList]
      rw [hak]
      by_cases hlt : k < nz.length
      · rw [List.getElem?_append_left (by simp; omega), List.getElem?_append_left (by simpa using hlt), List.getElem?_map, List.getElem?_map, List.getElem?_eq_getElem (by omega), List.getElem?_eq_getElem hlt]
        simp [hlt]
      · rw [List.getElem?_append_right (by simp; omega), List.getElem?_append_right (by simpa using hlt)]
        simp only [List.length_map, hnl]
        cases rest[k - zs.length]? with
        | none => rfl
        | some o =>
          simp only [Option.map_some]
          rw [if_neg (by omega)]
    have hP := hT.post (P := P) (show BlkOK P _ B _ from (⟨by show 0 < 1; decide, ⟨Sort.putCells (Value.int .i64) 0 nz.toArray arr, fr, cp, nz.map (Value.int .i64), rest, hw nz, by
        simpa [Sort.putCells] using g2, by show (Sort.putCells (Value.int .i64) 0 nz.toArray arr).size = cp * 1; have g3' : arr.size = cp * 1 := g3; simpa [Sort.putCells] using g3', hsz, by
        simp only [Blk.vrows]; rw [flat_ints nz]; exact ints_rel nz, by
        intro u hu
        obtain ⟨n, _, rfl⟩ := List.mem_map.1 hu
        trivial⟩, by
        intro r hr
        simp only [Blk.vrows, List.mem_map] at hr
        obtain ⟨r0, ⟨n, _, e0⟩, rfl⟩ := hr
        subst e0
        rfl, hk.noI, by
        intro r hr y hy
        obtain ⟨n, _, rfl⟩ := List.mem_map.1 hr
        simp at hy; subst hy; rfl⟩ : CellsOK (cxSet c id (.flat e 1 (nz.map fun n => [.int .i64 n]) false) B (Sort.putRow (Value.int .i64) (Sort.ahead c.w q) B 0 nz.toArray)) B (.flat e 1 (nz.map fun n => [.int .i64 n]) false)))
    refine ⟨_, cxSet c id (.flat e 1 (nz.map fun n => [.int .i64 n]) false) B (Sort.putRow (Value.int .i64) (Sort.ahead c.w q) B 0 nz.toArray), rfl, rfl, rfl, hP, ?_⟩
    simp only [RelV]
    refine ⟨.flat e 1 (nz.map fun n => [.int .i64 n]) false, ⟨B, 0, none⟩, cap, by simp [cxSet, List.getElem?_set, hid], by simp only [Blk.len, List.length_map]; omega, by rw [List.size_toArray, hzl], by omega, fun _ => ⟨B, e', by simp [cxSet, updφ], by simp, ?_⟩⟩
    have := (hT.eq (by simp only [Blk.len, List.length_map]; omega)).2 e' _ hsh
    simpa [cxSet, Blk.size] using this
end Go.Proofs.YtlenjioebdmooaaDoor.Den

namespace Go.Proofs.YtlenjioebdmooaaDoor.Den
open Go
set_option linter.unusedVariables false
set_option linter.unusedSimpArgs false
variable {P : Program}
theorem good_call {E : Env} {call : CallT} (hcall : CallOK P E call) {c : Cx} (hs : PSim P c) (hg : GlOK E c) {f : V} {fv : Value} {args : List V} {vals : Array Value} (hf : RelV c f fv) (ha : RelVs c args vals.toList) {v : V} {m' : Mem} {rf : FuncId → Bool} (h : callOf rf call f args c.m = some (v, m')) :
    Good P c m' v (do let d ← Deferred.ofValue fv vals; invoke d.target d.args) := by
  cases f with
  | fn g first captured =>
    cases g with
    | func f =>
      simp only [callOf] at h
      split at h
      · cases h
      rename_i hny
      obtain ⟨⟨r, m1⟩, hr, h⟩ := Option.map_eq_some_iff.1 h
      cases h
      simp only [RelV] at hf
      obtain ⟨fi, ca, rfl, h1, h2⟩ := hf
      obtain ⟨⟨fn, e1, e2, e3⟩, hc⟩ := (callV_ok hcall hs hg (vals := fi ++ vals.toList ++ ca) ((h1.append ha).append h2) hr).1 hny
      have hbn : fn.body.isNone = false := by cases hb : fn.body <;> simp_all
      refine .inr (.inl ⟨f, ⟨fi ++ vals.toList ++ ca⟩, ?_, Calls.mono hc ?_⟩)
      · simp only [Deferred.ofValue, Sem.run_bind, Sem.run_pure, Result.andThen_ok, invoke, callFunc, run_program, e1]
        simp only [e2, Bool.false_eq_true, if_false, hbn, Sem.run_pure]
        congr 2
        apply Array.ext'
        simp
      · rintro e w' ⟨rv, c', rfl, rfl, rfl, g1, g2⟩
        exact ⟨_, c', rfl, rfl, rfl, g1, pack_rel g2⟩
    | _ => simp [callOf] at h
  | yl id =>
    simp only [callOf] at h
    obtain ⟨⟨r, m1⟩, hr, h⟩ := Option.map_eq_some_iff.1 h
    cases h
    have hf' := hf
    simp only [RelV] at hf'
    obtain ⟨blk, _, _, B, hB, rfl⟩ := hf'
    obtain ⟨B', as1, g, tmps, a, b, e1, e2, e3⟩ := (callV_ok hcall hs hg (args := .yl id :: args) (vals := .func (.yield B) #[] #[] :: vals.toList) (by simp only [RelVs]; exact ⟨_, _, rfl, hf, ha⟩) hr).2 rfl
    cases e1
    refine .inr (.inr ⟨B, g, tmps, a, b, ?_, e3.mono ?_⟩)
    · have e2' : (Instr.yield B vals).run P c.w = .ok (.round B g tmps a b) c.w := e2
      simpa [Deferred.ofValue, Sem.run_bind, invoke] using e2'
    · rintro e w' ⟨rv, c', rfl, rfl, rfl, g1, g2⟩
      exact ⟨_, c', rfl, rfl, rfl, g1, pack_rel g2⟩
  | _ => simp [callOf] at h
theorem deSo_rel {c : Cx} {x : V} {v : Value} (h : RelV c x v) : RelV c (deSo x) v := by
  unfold deSo
  split
  · exact so_false h
  · simp only [RelV] at h ⊢
    simp only [RelD]
    exact h.1
  · exact h
theorem good_run {c : Cx} {m' : Mem} {v : V} {s s' : Sem Next} (h : Good P c m' v s) (e : s.run P c.w = s'.run P c.w) : Good P c m' v s' := by
  unfold Good at h ⊢
  rw [← e]; exact h
theorem lookM_methT {name : String} {t : TypeId} {g : FuncId} (h : lookM (methT P name) t = some g) : methOf P name t = some g := by
  have : ∀ l : List Nat, lookM (l.filterMap fun t => (methOf P name t).map fun f => (t, f)) t = some g → methOf P name t = some g := by
    intro l
    induction l with
    | nil => intro h; simp [lookM] at h
    | cons i l ih =>
      intro h
      cases hi : methOf P name i with
      | none => simp [hi] at h; exact ih h
      | some f =>
        simp [hi, lookM] at h
        split at h
        · rename_i hb; cases h; rw [Nat.eq_of_beq_eq_true hb]; exact hi
        · exact ih h
  exact this _ h
theorem invoke_meth {name : String} {t : TypeId} {g : FuncId} (h : methOf P name t = some g) (u : Value) (vals : Array Value) (w : World) :
    (invoke (.fn (.method name) #[]) (#[.iface t u] ++ vals)).run P w = (do let d ← Deferred.ofValue (.func (.func g) #[u] #[]) vals; invoke d.target d.args : Sem Next).run P w := by
  unfold methOf at h
  split at h
  case h_1 => cases h
  rename_i i hi
  split at h
  case h_1 => cases h
  rename_i m hm
  split at h
  case isFalse => cases h
  rename_i hp
  have hpl : m.path.toList = [] := by simpa using hp
  have key : ∀ pr, m.func = some (g, pr) → (receiverAt t (.val u) pr (if m.path.isEmpty then some ((name.splitOn ".").getLastD name) else none)).run P w = .ok u w → (invoke (.fn (.method name) #[]) (#[.iface t u] ++ vals)).run P w = (callFunc g (#[u] ++ vals)).run P w := by
    intro pr hf hr
    have e1 : (#[Value.iface t u] ++ vals)[0]? = some (.iface t u) := by rw [Array.getElem?_append_left (Nat.zero_lt_one)]; rfl
    have e2 : (#[Value.iface t u] ++ vals).extract 1 (#[Value.iface t u] ++ vals).size = vals := by
      apply Array.ext'; rw [Array.toList_extract]; simp [List.extract]; exact List.take_of_length_le (Nat.le_of_eq Array.length_toList)
    simp only [invoke, e1, callMethod, Sem.run_bind, run_program, Result.andThen_ok, e2]
    have : (method (P.types.size + Made.depth) t u name).run P w = .ok (g, u) w := by
      have hd : ∃ k, P.types.size + Made.depth = k + 1 := ⟨P.types.size + Made.depth - 1, by unfold Made.depth; omega⟩
      obtain ⟨k, hk⟩ := hd
      rw [hk]
      simp only [method, Sem.run_bind, typeInfo, run_program, Result.andThen_ok, hi, Sem.run_pure, hm, hpl, follow, hf, hr]
    simp only [this, Result.andThen_ok]
  have rhs : (do let d ← Deferred.ofValue (.func (.func g) #[u] #[]) vals; invoke d.target d.args : Sem Next).run P w = (callFunc g (#[u] ++ vals)).run P w := by
    simp [Deferred.ofValue, Sem.run_bind, Sem.run_pure, Result.andThen_ok, invoke]
  rw [rhs]
  split at h
  · rename_i f _ hf hu; cases h
    exact key _ hf (by simp [receiverAt, Sem.run_bind, run_underlying hu, Place.get])
  · rename_i f _ hf hu; cases h
    exact key _ hf (by simp [receiverAt, Sem.run_bind, run_underlying hu, Place.get])
  · rename_i f hf hu; cases h
    exact key _ hf (by simp [receiverAt, Sem.run_bind, run_underlying hu, Place.get])
  · rename_i f hf hu; cases h
    exact key _ hf (by simp [receiverAt, Sem.run_bind, run_underlying hu, Place.get])
  · rename_i f _ hf hu; cases h
    exact key _ hf (by simp [receiverAt, Sem.run_bind, run_underlying hu, Place.get])
  · cases h
theorem nilS_eval {x : Operand} (h : nilS x = true) (a : Act) : a.eval x = .slice none 0 0 := by
  unfold nilS at h
  split at h
  · rfl
  · cases h
theorem good_mov {E : Env} {call : CallT} {c : Cx} (hs : PSim P c) (hg : GlOK E c) {t : Nat → V} {a : Act} (ht : TRel c t a) {x : Operand} {ty : TypeId} {i : I} (h : cMov P x ty = some i) {v : V} {m' : Mem} (hd : doI E call i t c.m = some (v, m')) {s : Sem Next} (hr : s.run P c.w = .ok (.value (a.eval x)) c.w) :
    Good P c m' v s := by
  unfold cMov at h
  split at h
  · rename_i e hn hu
    split at h
    · rename_i sz hsz
      split at h
      · cases h
        simp only [doI] at hd
        obtain ⟨b, hb, hd⟩ := Option.map_eq_some_iff.1 hd
        cases hd
        rw [nilS_eval hn] at hr
        refine Good.new (c' := cxPad c b) hr rfl (pad_post hs b) ?_
        simp only [RelV]
        exact ⟨trivial, trivial, b, by simp [cxPad]⟩
      · cases h
    · cases h
  · obtain ⟨y, hy, rfl⟩ := Option.map_eq_some_iff.1 h
    simp only [doI] at hd; cases hd
    exact Good.val hs hr (ev_rel ht hg hy)
theorem doI_good {E : Env} {call : CallT} (hcall : CallOK P E call) {c : Cx} (hs : PSim P c) (hg : GlOK E c) {t : Nat → V} {a : Act} (ht : TRel c t a) {o : Oper} {i : I} (h : cOp P o = some i) {v : V} {m' : Mem} (hd : doI E call i t c.m = some (v, m')) :
    Good P c m' v (execOp a.eval o) := by
  obtain ⟨dst, op, ty, pos, after, gd⟩ := o
  cases op with
  | move x => simp only [cOp] at h; exact good_mov hs hg ht h hd rfl
  | assign x => simp only [cOp] at h; exact good_mov hs hg ht h hd rfl
  | panic x =>
    simp only [cOp] at h
    cases h
    simp [stopI, doI, ev, farV, V.rid] at hd
  | pick c0 x y =>
    simp only [cOp] at h
    cases h1 : cO c0 <;> cases h2 : cO x <;> cases h3 : cO y <;> simp [h1, h2, h3] at h
    subst h
    have r1 := ev_rel ht hg h1
    have r2 := ev_rel ht hg h2
    have r3 := ev_rel ht hg h3
    simp only [doI] at hd
    split at hd
    · rename_i e; cases hd
      rw [e] at r1; simp only [RelV, RelD] at r1
      exact Good.val hs (by simp [execOp, r1, asBool]) r2
    · rename_i e; cases hd
      rw [e] at r1; simp only [RelV, RelD] at r1
      exact Good.val hs (by simp [execOp, r1, asBool]) r3
    · cases hd
  | alloc e =>
    simp only [cOp] at h
    obtain ⟨z, hz, h⟩ := Option.bind_eq_some_iff.1 h
    split at h
    · split at h
      · split at h
        · cases h
          simp only [doI] at hd
          obtain ⟨b1, hb1, hd⟩ := Option.bind_eq_some_iff.1 hd
          obtain ⟨b2, hb2, hd⟩ := Option.map_eq_some_iff.1 hd
          cases hd
          exact good_allocn hs hz hb2
        · cases h
      · cases h
    · split at h
      case isFalse => cases h
      rename_i hpos
      cases h
      simp only [doI] at hd
      obtain ⟨b, hb, hd⟩ := Option.map_eq_some_iff.1 hd
      cases hd
      exact good_alloc hs hz hpos hb
  | box e x =>
    simp only [cOp] at h
    cases h1 : cO x <;> cases h2 : sizeOfT P e <;> simp [h1, h2] at h
    obtain ⟨hpos, rfl⟩ := h
    simp only [doI] at hd
    split at hd
    case isFalse => cases hd
    rename_i hc
    obtain ⟨b, hb, hd⟩ := Option.map_eq_some_iff.1 hd
    cases hd
    exact good_box hs (ev_rel ht hg h1) hc.2 hc.1 hpos hb
  | build t parts =>
    obtain ⟨cs, rfl, rfl, hi⟩ : ∃ cs, v = .agg cs ∧ m' = c.m ∧ ∃ z qs, i = .build z qs ∧ fillV E _ qs (z.map V.d) = some cs := by
      have h' := h
      simp only [cOp] at h'
      split at h'
      · split at h'
        · obtain ⟨l, hl, rfl⟩ := Option.map_eq_some_iff.1 h'
          simp only [doI] at hd
          obtain ⟨cs, hcs, hd⟩ := Option.map_eq_some_iff.1 hd
          cases hd
          exact ⟨cs, rfl, rfl, _, _, rfl, hcs⟩
        · cases h'
      · obtain ⟨s, hs', h'⟩ := Option.bind_eq_some_iff.1 h'
        obtain ⟨l, hl, rfl⟩ := Option.map_eq_some_iff.1 h'
        simp only [doI] at hd
        obtain ⟨cs, hcs, hd⟩ := Option.map_eq_some_iff.1 hd
        cases hd
        exact ⟨cs, rfl, rfl, _, _, rfl, hcs⟩
      · cases h'
    obtain ⟨u, h1, h2⟩ := build_ok ht hg (i := i) (by simpa only [cOp] using h) hi
    exact Good.val hs (run_v h1) h2
  | buildSlice ty len parts =>
    simp only [cOp] at h
    split at h
    case h_2 => cases h
    rename_i e hu
    split at h
    case h_2 => cases h
    rename_i s z l hsz hz hl
    split at h
    case isFalse => cases h
    rename_i hc
    cases h
    simp only [Bool.and_eq_true, decide_eq_true_eq, beq_iff_eq] at hc
    simp only [doI] at hd
    obtain ⟨rows, hrows, hd⟩ := Option.bind_eq_some_iff.1 hd
    obtain ⟨b, hb, hd⟩ := Option.map_eq_some_iff.1 hd
    cases hd
    exact (good_bslice hs ht hg hu hsz hz hc.2 hl hc.1.1 hc.1.2 hrows hb).mapv fun c' u h => of_so_false h
  | load ty x =>
    simp only [cOp] at h
    cases h1 : aggOf P ty <;> cases h2 : sizeOfT P ty <;> cases h3 : cO x <;> simp [h1, h2, h3] at h
    subst h
    simp only [doI] at hd
    obtain ⟨v', hv, hd⟩ := Option.map_eq_some_iff.1 hd
    cases hd
    obtain ⟨u, g1, g2⟩ := load_ok hs h1 h2 (ev_rel ht hg h3) hv
    exact Good.val hs (run_v g1) g2
  | store ty x y =>
    simp only [cOp] at h
    cases h1 : sizeOfT P ty <;> cases h2 : cO x <;> cases h3 : cO y <;> simp [h1, h2, h3] at h
    subst h
    simp only [doI] at hd
    obtain ⟨m1, hm, hd⟩ := Option.map_eq_some_iff.1 hd
    cases hd
    exact good_store hs h1 (ev_rel ht hg h2) (ev_rel ht hg h3) hm
  | nilCheck x =>
    simp only [cOp] at h
    obtain ⟨y, hy, rfl⟩ := Option.map_eq_some_iff.1 h
    have r := ev_rel ht hg hy
    simp only [doI] at hd
    obtain ⟨v', hv, hd⟩ := Option.map_eq_some_iff.1 hd
    cases hd
    have e : v = ev E t y := by
      unfold nilckV at hv; split at hv <;> simp_all
    rw [e]
    refine Good.val hs (u := a.eval x) ?_ r
    simp only [execOp]
    generalize ev E t y = z at *
    unfold nilckV at hv
    split at hv
    · simp only [RelV] at r; obtain ⟨_, ad, _, _, q, _⟩ := r; rw [q]; rfl
    · simp only [RelV, RelD] at r; obtain ⟨b, o, q, _⟩ := r; rw [q]; rfl
    · simp only [RelV] at r; obtain ⟨_, _, q, _⟩ := r; rw [q]; rfl
    · simp only [RelV] at r; obtain ⟨_, _, _, _, _, q⟩ := r; rw [q]; rfl
    · simp only [RelV] at r; obtain ⟨_, q, _⟩ := r; rw [q]; rfl
    · cases hv
  | binOp op ty x y ty2 =>
    simp only [cOp] at h
    cases h1 : cO x <;> cases h2 : cO y <;> simp [h1, h2] at h
    rename_i xo yo
    have r1 := ev_rel ht hg h1
    have r2 := ev_rel ht hg h2
    unfold cBin at h
    have bin : i = .bin op xo yo → Good P c m' v (execOp a.eval ⟨dst, .binOp op ty x y ty2, ‹TypeId›, pos, after, gd⟩) := by
      rintro rfl
      simp only [doI] at hd
      obtain ⟨v', hv, hd⟩ := Option.map_eq_some_iff.1 hd
      cases hd
      obtain ⟨u, g1, g2⟩ := bin_ok (P := P) r1 r2 hv ty x y
      exact Good.val hs (run_v g1) g2
    have beq : ∀ k neg, (op = .eql ∧ neg = false ∨ op = .neq ∧ neg = true) → i = .beq k neg xo yo →
        (∀ b, eqV k (ev E t xo) (ev E t yo) = some b → ((∃ p q, a.eval x = .pointer p ∧ a.eval y = .pointer q) ∨ (∃ p n k q l j, a.eval x = .slice p n k ∧ a.eval y = .slice q l j) ∨ (∃ p q, a.eval x = .bool p ∧ a.eval y = .bool q)) ∧ (Op.equal ty (a.eval x) (a.eval y)).run P c.w = .ok b c.w) →
        Good P c m' v (execOp a.eval ⟨dst, .binOp op ty x y ty2, ‹TypeId›, pos, after, gd⟩) := by
      rintro k neg hop rfl hk
      simp only [doI] at hd
      obtain ⟨b, hb, hd⟩ := Option.map_eq_some_iff.1 hd
      cases hd
      obtain ⟨s1, s2⟩ := hk b hb
      obtain ⟨q1, q2⟩ := beq_run (P := P) (xo := x) (yo := y) s1 s2
      rcases hop with ⟨rfl, rfl⟩ | ⟨rfl, rfl⟩
      · exact Good.val hs (u := .bool (false != b)) (run_v q1) (by simp only [RelV, RelD])
      · exact Good.val hs (u := .bool (true != b)) (run_v q2) (by simp only [RelV, RelD])
    have beqA : ∀ ks neg, (op = .eql ∧ neg = false ∨ op = .neq ∧ neg = true) → i = .beq (.cells ks) neg xo yo → P.eqGuardType P.depth ty = false →
        (∀ b, eqV (.cells ks) (ev E t xo) (ev E t yo) = some b → (∃ p q, a.eval x = .agg p ∧ a.eval y = .agg q) ∧ (Op.equal ty (a.eval x) (a.eval y)).run P c.w = .ok b c.w) →
        Good P c m' v (execOp a.eval ⟨dst, .binOp op ty x y ty2, ‹TypeId›, pos, after, gd⟩) := by
      rintro k neg hop rfl hm hk
      simp only [doI] at hd
      obtain ⟨b, hb, hd⟩ := Option.map_eq_some_iff.1 hd
      cases hd
      obtain ⟨s1, s2⟩ := hk b hb
      obtain ⟨q1, q2⟩ := beq_run_agg (P := P) (xo := x) (yo := y) s1 hm s2
      rcases hop with ⟨rfl, rfl⟩ | ⟨rfl, rfl⟩
      · exact Good.val hs (u := .bool (false != b)) (run_v q1) (by simp only [RelV, RelD])
      · exact Good.val hs (u := .bool (true != b)) (run_v q2) (by simp only [RelV, RelD])
    split at h
    · cases h; exact bin rfl
    · cases h; exact bin rfl
    · rename_i hu
      split at h <;> cases h
      · exact beq _ _ (.inl ⟨rfl, rfl⟩) rfl fun b hb => by obtain ⟨q1, q2⟩ := eq_bool r1 r2 hb hu; exact ⟨.inr (.inr q1), q2⟩
      · exact beq _ _ (.inr ⟨rfl, rfl⟩) rfl fun b hb => by obtain ⟨q1, q2⟩ := eq_bool r1 r2 hb hu; exact ⟨.inr (.inr q1), q2⟩
    · rename_i hu
      split at h <;> cases h
      · exact beq _ _ (.inl ⟨rfl, rfl⟩) rfl fun b hb => by obtain ⟨q1, q2⟩ := eq_ptr r1 r2 hb hu; exact ⟨.inl q1, q2⟩
      · exact beq _ _ (.inr ⟨rfl, rfl⟩) rfl fun b hb => by obtain ⟨q1, q2⟩ := eq_ptr r1 r2 hb hu; exact ⟨.inl q1, q2⟩
    · rename_i hu
      split at h <;> cases h
      · exact beq _ _ (.inl ⟨rfl, rfl⟩) rfl fun b hb => by obtain ⟨q1, q2⟩ := eq_slc r1 r2 hb hu; exact ⟨.inr (.inl q1), q2⟩
      · exact beq _ _ (.inr ⟨rfl, rfl⟩) rfl fun b hb => by obtain ⟨q1, q2⟩ := eq_slc r1 r2 hb hu; exact ⟨.inr (.inl q1), q2⟩
    · rename_i hu
      split at h
      case isFalse => cases h
      rename_i hn
      have hcst : (∃ v, x = .const v) ∨ (∃ v, y = .const v) := by
        rw [Bool.or_eq_true] at hn
        rcases hn with hn | hn
        · exact .inl (nili_const h1 hn)
        · exact .inr (nili_const h2 hn)
      split at h <;> cases h
      · simp only [doI] at hd
        obtain ⟨b, hb, hd⟩ := Option.map_eq_some_iff.1 hd
        cases hd
        obtain ⟨s1, s2⟩ := eq_ifc r1 r2 hb hu
        exact Good.val hs (u := .bool (false != b)) (run_v (beq_run_ifc (P := P) (xo := x) (yo := y) s1 hcst s2).1) (by simp only [RelV, RelD])
      · simp only [doI] at hd
        obtain ⟨b, hb, hd⟩ := Option.map_eq_some_iff.1 hd
        cases hd
        obtain ⟨s1, s2⟩ := eq_ifc r1 r2 hb hu
        exact Good.val hs (u := .bool (true != b)) (run_v (beq_run_ifc (P := P) (xo := x) (yo := y) s1 hcst s2).2) (by simp only [RelV, RelD])
    · rename_i hu
      split at h
      case isFalse => cases h
      rename_i hm
      split at h
      · rename_i hk; cases h; exact beqA _ _ (.inl ⟨rfl, rfl⟩) rfl hm fun b hb => eq_cells r1 r2 hb hk (.inl ⟨_, hu⟩)
      · rename_i hk; cases h; exact beqA _ _ (.inr ⟨rfl, rfl⟩) rfl hm fun b hb => eq_cells r1 r2 hb hk (.inl ⟨_, hu⟩)
      · cases h
    · rename_i hu
      split at h
      case isFalse => cases h
      rename_i hm
      split at h
      · rename_i hk; cases h; exact beqA _ _ (.inl ⟨rfl, rfl⟩) rfl hm fun b hb => eq_cells r1 r2 hb hk (.inr ⟨_, _, hu⟩)
      · rename_i hk; cases h; exact beqA _ _ (.inr ⟨rfl, rfl⟩) rfl hm fun b hb => eq_cells r1 r2 hb hk (.inr ⟨_, _, hu⟩)
      · cases h
    · cases h
  | unOp op ty x =>
    simp only [cOp] at h
    obtain ⟨y, hy, rfl⟩ := Option.map_eq_some_iff.1 h
    simp only [doI] at hd
    obtain ⟨v', hv, hd⟩ := Option.map_eq_some_iff.1 hd
    cases hd
    obtain ⟨u, g1, g2⟩ := un_ok (P := P) (ev_rel ht hg hy) hv
    exact Good.val hs (run_v g1) g2
  | convert s d x =>
    simp only [cOp] at h
    split at h
    · rename_i k0 k y h1 h2 hy
      cases h
      have r := ev_rel ht hg hy
      simp only [doI] at hd
      split at hd
      case h_2 => cases hd
      rename_i j n e
      cases hd
      rw [e] at r; simp only [RelV, RelD] at r
      exact Good.val hs (run_v (by rw [r]; exact conv_int h1 h2 c.w)) (by simp only [RelV, RelD])
    · rename_i y h1 h2 hy
      cases h
      have r := ev_rel ht hg hy
      simp only [doI] at hd
      split at hd
      case h_2 => cases hd
      rename_i x e
      cases hd
      rw [e] at r; simp only [RelV, RelD] at r
      exact Good.val hs (run_v (by rw [r]; exact conv_same h1 h2 c.w)) (by simp only [RelV, RelD])
    · rename_i e y h1 h2 hy
      split at h
      case h_2 => cases h
      rename_i h3 h4
      cases h
      have r := ev_rel ht hg hy
      simp only [doI] at hd
      split at hd
      case h_2 => cases hd
      rename_i x ee
      split at hd
      case isFalse => cases hd
      rename_i hx
      cases hd
      rw [ee] at r; simp only [RelV, RelD] at r
      simp only [execOp, r]
      exact good_ofStr hs h1 h2 h3 hx
    · rename_i e y h1 h2 hy
      split at h
      case h_2 => cases h
      rename_i h3 h4
      cases h
      have r := ev_rel ht hg hy
      simp only [doI] at hd
      split at hd
      case isFalse => cases hd
      rename_i hok
      obtain ⟨rows, hrows, hd⟩ := Option.bind_eq_some_iff.1 hd
      obtain ⟨l, hl, hd⟩ := Option.map_eq_some_iff.1 hd
      cases hd
      exact Good.val hs (run_v (toStr_ok hs h1 h2 h3 r hrows hok hl)) (by simp only [RelV, RelD])
    · rename_i e0 e y h1 h2 hy
      split at h
      case isFalse => cases h
      rename_i hsd
      split at h
      case h_2 => cases h
      rename_i h3
      cases h
      subst hsd
      have r := deSo_rel (ev_rel (E := E) ht hg hy)
      simp only [doI] at hd
      split at hd
      case h_2 => cases hd
      rename_i id n off len ee
      split at hd
      case h_2 => cases hd
      rename_i el z rows hb
      split at hd
      case isFalse => cases hd
      rename_i hn
      cases hd
      rw [ee] at r
      exact good_mark hs h2 h3 r hb hn
    · cases h
  | sliceToArrayPointer ty x =>
    simp only [cOp] at h
    split at h
    case h_2 => cases h
    rename_i n e y hu hy
    obtain ⟨s, hsz, rfl⟩ := Option.map_eq_some_iff.1 h
    simp only [doI] at hd
    split at hd
    case isFalse => cases hd
    rename_i hok
    obtain ⟨v', hd2, hd⟩ := Option.map_eq_some_iff.1 hd
    cases hd
    obtain ⟨u, g1, g2⟩ := arrP_ok hu hsz (deSo_rel (ev_rel ht hg hy)) hok hd2
    exact Good.val hs (run_v g1) g2
  | makeInterface ty x =>
    simp only [cOp] at h
    split at h
    · cases h
    · rename_i d hne hu
      obtain ⟨y, hy, rfl⟩ := Option.map_eq_some_iff.1 h
      simp only [doI] at hd; cases hd
      refine Good.val hs (u := .iface ty (a.eval x)) (run_v ?_) (by simp only [RelV]; exact ⟨_, rfl, ev_rel ht hg hy⟩)
      simp only [Instr.makeInterface, Sem.run_bind, run_underlying hu, Result.andThen_ok]
      rfl
    · cases h
  | makeFunc f fi ca =>
    simp only [cOp] at h
    cases h1 : cOs fi.toList <;> cases h2 : cOs ca.toList <;> simp [h1, h2] at h
    subst h
    simp only [doI] at hd; cases hd
    refine Good.val hs (u := .func f (fi.map a.eval) (ca.map a.eval)) rfl ?_
    simp only [RelV]
    refine ⟨fi.toList.map a.eval, ca.toList.map a.eval, ?_, evs_rel ht hg h1, evs_rel ht hg h2⟩
    congr 1 <;> (apply Array.ext'; simp)
  | makeSlice ty l cp =>
    simp only [cOp] at h
    split at h
    case h_2 => cases h
    rename_i e l' c' hu hl hc
    split at h
    case h_2 => cases h
    rename_i inf z hi hz
    split at h
    case isFalse => cases h
    rename_i hc2
    cases h
    simp only [Bool.and_eq_true, decide_eq_true_eq, beq_iff_eq] at hc2
    simp only [doI] at hd
    split at hd
    case h_2 => cases hd
    rename_i n k hn hk
    split at hd
    case isFalse => cases hd
    rename_i hcc
    obtain ⟨b, hb, hd⟩ := Option.map_eq_some_iff.1 hd
    cases hd
    obtain ⟨k1, e1⟩ := asNat_int (ev_rel ht hg hl) hn
    obtain ⟨k2, e2⟩ := asNat_int (ev_rel ht hg hc) hk
    have h63 : k ≤ 9223372036854775807 := by
      have := Nat.le_mul_of_pos_right k hc2.1.2
      omega
    exact (good_mksl hs hu hi hz hc2.2 hc2.1.1 e1 e2 hcc.1 hcc.2 h63 hb).mapv fun c' u h => of_so_false h
  | slice ty x lo hi mx =>
    simp only [cOp] at h
    split at h
    · rename_i e y lo' hi' mx' hu hy hlo hhi hmx
      obtain ⟨s, hsz, h⟩ := Option.bind_eq_some_iff.1 h
      split at h
      case isFalse => cases h
      rename_i hpos0
      obtain ⟨hpos, hmh⟩ := hpos0
      cases h
      have r := deSo_rel (ev_rel (E := E) ht hg hy)
      simp only [doI] at hd
      split at hd
      case isFalse => cases hd
      rename_i hok
      obtain ⟨n, hn, hd⟩ := Option.bind_eq_some_iff.1 hd
      obtain ⟨l, hl, hd⟩ := Option.bind_eq_some_iff.1 hd
      obtain ⟨hh, hh', hd⟩ := Option.bind_eq_some_iff.1 hd
      have L := opt_int ht hg hlo hl
      have H := opt_int ht hg hhi hh'
      have hL : (lo.map a.eval = none ∧ l = 0) ∨ ∃ k, lo.map a.eval = some (.int k (l : Int)) := by
        rcases L with ⟨rfl, _, rfl⟩ | ⟨z, k, rfl, e⟩
        · exact .inl ⟨rfl, rfl⟩
        · exact .inr ⟨k, by simp [e]⟩
      have hHH : (hi.map a.eval = none ∧ hh = n) ∨ ∃ k, hi.map a.eval = some (.int k (hh : Int)) := by
        rcases H with ⟨rfl, _, rfl⟩ | ⟨z, k, rfl, e⟩
        · exact .inl ⟨rfl, rfl⟩
        · exact .inr ⟨k, by simp [e]⟩
      cases mx' with
      | none =>
        have hm0 : mx = none := by cases mx <;> simp [cOpt] at hmx; rfl
        subst hm0
        obtain ⟨rfl, u, g1, g2⟩ := slice_ok hs hu hsz hpos r hok hn (lo := lo.map a.eval) (hi := hi.map a.eval) (mx := none) (mo := none) hL
          (by rcases hHH with ⟨q1, q2⟩ | q; exact .inl ⟨q1, q2, rfl⟩; exact .inr q) (.inl ⟨rfl, rfl⟩) hd
        exact Good.val hs (run_v g1) g2
      | some k0 =>
        obtain ⟨k, hk, hd⟩ := Option.bind_eq_some_iff.1 hd
        cases mx with
        | none => simp [cOpt] at hmx
        | some mo =>
          simp [cOpt] at hmx
          obtain ⟨kk, e⟩ := asNat_int (ev_rel ht hg hmx) hk
          have hi0 : hi ≠ none ∨ True := .inr trivial
          have hH2 : (hi.map a.eval = none ∧ hh = n ∧ (some mo : Option Operand).map a.eval = none) ∨ ∃ k, hi.map a.eval = some (.int k (hh : Int)) := by
            rcases hHH with ⟨q1, q2⟩ | q
            · have h0 : hi = none := by cases hi <;> simp at q1; rfl
              subst h0
              simp [cOpt] at hhi
              subst hhi
              simp at hmh
            · exact .inr q
          obtain ⟨rfl, u, g1, g2⟩ := slice_ok hs hu hsz hpos r hok hn (lo := lo.map a.eval) (hi := hi.map a.eval) (mx := (some mo : Option Operand).map a.eval) (mo := some k) hL hH2 (.inr ⟨kk, k, by simp [e], rfl⟩) hd
          exact Good.val hs (run_v g1) g2
    · rename_i y lo' hi' hu hy hlo hhi hmx
      cases h
      have r := ev_rel ht hg hy
      have hm0 : mx = none := by cases mx <;> simp [cOpt] at hmx; rfl
      subst hm0
      simp only [doI] at hd
      split at hd
      case h_2 => cases hd
      rename_i s e
      obtain ⟨l, hl, hd⟩ := Option.bind_eq_some_iff.1 hd
      obtain ⟨hh, hh', hd⟩ := Option.bind_eq_some_iff.1 hd
      split at hd
      case isFalse => cases hd
      rename_i hle
      cases hd
      rw [e] at r; simp only [RelV, RelD] at r
      have L := opt_int ht hg hlo hl
      have H := opt_int ht hg hhi hh'
      have hb := bounds_run (P := P) (isSlice := false) (len := s.size) (cap := s.size) (l := l) (h := hh) (m := s.size) (lo := lo.map a.eval) (hi := hi.map a.eval) (mx := none) (.inl ⟨rfl, rfl⟩) (Nat.le_refl _)
        (by rcases H with ⟨rfl, _, rfl⟩ | ⟨z, k, rfl, e⟩; exact .inl ⟨rfl, rfl, rfl⟩; exact .inr ⟨k, by simp [e]⟩) hle.2
        (by rcases L with ⟨rfl, _, rfl⟩ | ⟨z, k, rfl, e⟩; exact .inl ⟨rfl, rfl⟩; exact .inr ⟨k, by simp [e]⟩) hle.1 c.w
      refine Good.val hs (u := .string (s.extract l hh)) (run_v ?_) (by simp only [RelV, RelD])
      simp [Instr.sliceAt, run_underlying hu, Instr.slice, r, hb]
    · rename_i n e y lo' hi' mx' hu hy hlo hhi hmx
      split at h
      case h_2 => cases h
      rename_i s hsz
      split at h
      case isFalse => cases h
      rename_i hpos
      cases h
      have r := ev_rel ht hg hy
      simp only [doI] at hd
      cases mx' with
      | some k => cases hd
      | none =>
        have hm0 : mx = none := by cases mx <;> simp [cOpt] at hmx; rfl
        subst hm0
        obtain ⟨l, hl, hd⟩ := Option.bind_eq_some_iff.1 hd
        obtain ⟨hh, hh', hd⟩ := Option.bind_eq_some_iff.1 hd
        split at hd
        case isFalse => cases hd
        rename_i hle
        obtain ⟨v', hd2, hd⟩ := Option.map_eq_some_iff.1 hd
        cases hd
        have L := opt_int ht hg hlo hl
        have H := opt_int ht hg hhi hh'
        obtain ⟨u, g1, g2⟩ := slarr_ok hu hsz hpos r (lo := lo.map a.eval) (hi := hi.map a.eval)
          (by rcases L with ⟨rfl, _, rfl⟩ | ⟨z, k, rfl, e⟩; exact .inl ⟨rfl, rfl⟩; exact .inr ⟨k, by simp [e]⟩)
          (by rcases H with ⟨rfl, _, rfl⟩ | ⟨z, k, rfl, e⟩; exact .inl ⟨rfl, rfl⟩; exact .inr ⟨k, by simp [e]⟩) hle.1 hle.2 hd2
        exact Good.val hs (run_v g1) g2
    · cases h
  | fieldAddr st x f =>
    simp only [cOp] at h
    split at h
    case h_2 => cases h
    rename_i fs y hu hy
    split at h
    case h_2 => cases h
    rename_i fl hf
    split at h
    case h_2 => cases h
    rename_i s hsz
    split at h
    case isFalse => cases h
    rename_i hpos
    cases h
    simp only [doI] at hd
    obtain ⟨v', hd2, hd⟩ := Option.map_eq_some_iff.1 hd
    cases hd
    obtain ⟨u, g1, g2⟩ := fieldA_ok (ev_rel ht hg hy) hu hf hsz hpos hd2
    exact Good.val hs (run_v g1) g2
  | field ty x f =>
    simp only [cOp] at h
    split at h
    case h_2 => cases h
    rename_i fs y hu hy
    split at h
    case h_2 => cases h
    rename_i fl hf
    split at h
    case h_2 => cases h
    rename_i g s hgg hsz
    cases h
    simp only [doI] at hd
    obtain ⟨v', hd2, hd⟩ := Option.map_eq_some_iff.1 hd
    cases hd
    obtain ⟨u, g1, g2⟩ := field_ok (ev_rel ht hg hy) hu hf hgg hsz hd2
    exact Good.val hs (run_v g1) g2
  | indexAddr ty x ix =>
    simp only [cOp] at h
    split at h
    · rename_i e y z hu hy hz
      obtain ⟨s, hsz, rfl⟩ := Option.map_eq_some_iff.1 h
      simp only [doI] at hd
      split at hd
      case isFalse => cases hd
      rename_i hok
      obtain ⟨j, hj, hd⟩ := Option.bind_eq_some_iff.1 hd
      obtain ⟨v', hd2, hd⟩ := Option.map_eq_some_iff.1 hd
      cases hd
      obtain ⟨u, g1, g2⟩ := idxA_slice hs (ev_rel ht hg hy) (ev_rel ht hg hz) hu hsz hj hok hd2
      exact Good.val hs (run_v g1) g2
    · rename_i n e y z hu hy hz
      obtain ⟨s, hsz, rfl⟩ := Option.map_eq_some_iff.1 h
      simp only [doI] at hd
      obtain ⟨j, hj, hd⟩ := Option.bind_eq_some_iff.1 hd
      split at hd
      case isFalse => cases hd
      rename_i hlt
      obtain ⟨v', hd2, hd⟩ := Option.map_eq_some_iff.1 hd
      cases hd
      obtain ⟨u, g1, g2⟩ := idxA_array (ev_rel ht hg hy) (ev_rel ht hg hz) hu hsz hj hlt hd2
      exact Good.val hs (run_v g1) g2
    · cases h
  | index ty x ix =>
    simp only [cOp] at h
    split at h
    · rename_i n e y z hu hy hz
      split at h
      case h_2 => cases h
      rename_i g s hgg hsz
      cases h
      simp only [doI] at hd
      obtain ⟨j, hj, hd⟩ := Option.bind_eq_some_iff.1 hd
      split at hd
      case isFalse => cases hd
      rename_i hlt
      obtain ⟨v', hd2, hd⟩ := Option.map_eq_some_iff.1 hd
      cases hd
      obtain ⟨u, g1, g2⟩ := idx_ok (ev_rel ht hg hy) (ev_rel ht hg hz) hu hgg hsz hj hlt hd2
      exact Good.val hs (run_v g1) g2
    · rename_i y z hu hy hz
      cases h
      simp only [doI] at hd
      obtain ⟨j, hj, hd⟩ := Option.bind_eq_some_iff.1 hd
      obtain ⟨v', hd2, hd⟩ := Option.map_eq_some_iff.1 hd
      cases hd
      have r := ev_rel ht hg hy
      generalize ev E t y = q at *
      unfold strIdx at hd2
      split at hd2
      case h_2 => cases hd2
      rename_i s h9
      obtain ⟨b, hb, rfl⟩ := Option.map_eq_some_iff.1 hd2
      simp only [RelV, RelD] at r
      have := idxs_ok (P := P) (s := s) (ev_rel ht hg hz) hu hj hb
      exact Good.val hs (run_v (by rw [r]; exact this)) (by simp only [RelV, RelD])
    · cases h
  | extract x k =>
    simp only [cOp] at h
    obtain ⟨y, hy, rfl⟩ := Option.map_eq_some_iff.1 h
    have r := ev_rel ht hg hy
    simp only [doI] at hd
    split at hd
    case h_2 => cases hd
    rename_i vs e
    obtain ⟨v', hv, hd⟩ := Option.map_eq_some_iff.1 hd
    cases hd
    rw [e] at r
    simp only [RelV] at r
    obtain ⟨l, q, r⟩ := r
    obtain ⟨u, hu, hr⟩ := r.at k v hv
    exact Good.val hs (u := u) (run_v (by simp [Instr.extract, q, hu])) hr
  | call cl =>
    obtain ⟨callee, args, argTypes⟩ := cl
    simp only [cOp, cCall] at h
    cases callee with
    | value f =>
      simp only at h
      split at h
      · rename_i g hg'
        split at h
        · rename_i x i j h2
          cases h
          simp only [doI] at hd
          split at hd
          · rename_i hdel
            have hfo : f = .func g := by
              unfold isDel at hg'
              split at hg'
              · split at hg'
                · split at hg'
                  · cases hg'; rfl
                  · cases hg'
                · cases hg'
              · cases hg'
            have hvals : RelVs c (evs E t [x, i, j]) (args.map a.eval).toList := by
              rw [Array.toList_map]; exact evs_rel ht hg h2
            subst hfo
            exact good_del hs (hcall.2 g hdel) hvals hd
          · cases hd
        · cases h
      cases h1 : cO f <;> cases h2 : cOs args.toList <;> simp [h1, h2] at h
      rename_i fo l
      subst h
      simp only [doI] at hd
      have hvals : RelVs c (evs E t l) (args.map a.eval).toList := by
        rw [Array.toList_map]; exact evs_rel ht hg h2
      exact good_call hcall hs hg (ev_rel ht hg h1) hvals hd
    | invoke x name =>
      simp only at h
      cases h1 : cO x <;> cases h2 : cOs args.toList <;> simp [h1, h2] at h
      rename_i xo l
      subst h
      simp only [doI] at hd
      have hvals : RelVs c (evs E t l) (args.map a.eval).toList := by
        rw [Array.toList_map]; exact evs_rel ht hg h2
      have r := ev_rel (E := E) ht hg h1
      split at hd
      case h_2 => cases hd
      rename_i ty v0 e
      split at hd
      case h_2 => cases hd
      rename_i g hlk
      rw [e] at r
      simp only [RelV] at r
      obtain ⟨u, hu, hr⟩ := r
      have hm := lookM_methT hlk
      refine good_run (good_call hcall hs hg (f := .fn (.func g) [v0] []) (fv := .func (.func g) #[u] #[]) ?_ hvals hd) ?_
      · simp only [RelV]; exact ⟨[u], [], rfl, by simp only [RelVs]; exact ⟨_, _, rfl, hr, rfl⟩, by simp only [RelVs]⟩
      · simp only [execOp, resolve, hu]
        exact (invoke_meth hm u _ c.w).symm
    | builtin b =>
      simp only at h
      cases hl : cOs args.toList with
      | none => simp [hl] at h
      | some l =>
        simp only [hl] at h
        have hr := evs_rel (E := E) ht hg hl
        obtain ⟨consts, run⟩ : ∃ consts, execOp a.eval ⟨dst, .call ⟨.builtin b, args, argTypes⟩, ty, pos, after, gd⟩ = builtin b argTypes ty consts (args.map a.eval) :=
          ⟨_, by simp only [execOp, resolve, pure_bind, invoke]; rfl⟩
        rw [run]
        have ha : args.map a.eval = (args.toList.map a.eval).toArray := by apply Array.ext'; simp
        rw [ha]
        generalize args.toList.map a.eval = us at hr
        split at h
        ·
          rename_i x t0 hat
          have hat' : argTypes = #[t0] := by apply Array.ext'; simpa using hat
          subst hat'
          simp only [evs, List.map_cons, List.map_nil, RelVs] at hr
          obtain ⟨u, us', rfl, r, rfl⟩ := hr
          split at h
          · rename_i hu
            cases h
            simp only [doI] at hd
            split at hd
            case h_2 => cases hd
            rename_i s e
            cases hd
            rw [e] at r; simp only [RelV, RelD] at r
            subst r
            exact Good.val hs (u := .int .i64 s.size) (run_v (by simp [Builtin.len_, run_underlying hu, goInt])) (by simp only [RelV, RelD])
          · rename_i e hu
            cases h
            simp only [doI] at hd
            obtain ⟨n, hn, hd⟩ := Option.map_eq_some_iff.1 hd
            cases hd
            obtain ⟨ad, cap, rfl, _⟩ := len_int r hn
            exact Good.val hs (u := .int .i64 n) (run_v (by simp [Builtin.len_, run_underlying hu, goInt])) (by simp only [RelV, RelD])
          · rename_i n e hu
            cases h
            simp only [doI] at hd
            cases hd
            exact Good.val hs (u := .int .i64 n) (run_v (by simp [Builtin.len_, run_underlying hu, goInt])) (by simp only [RelV, RelD])
          · cases h
        ·
          rename_i x y t0 t1 hat
          have hat' : argTypes = #[t0, t1] := by apply Array.ext'; simpa using hat
          subst hat'
          simp only [evs, List.map_cons, List.map_nil, RelVs] at hr
          obtain ⟨u, us', rfl, r, u2, us2, rfl, r2, rfl⟩ := hr
          split at h
          case h_3 => cases h
          case h_2 =>
            rename_i e kn hu hu'
            split at h
            case h_2 => cases h
            rename_i inf z hi hz
            split at h
            case isFalse => cases h
            rename_i hc
            cases h
            simp only [Bool.and_eq_true, decide_eq_true_eq, beq_iff_eq] at hc
            simp only [doI] at hd
            split at hd
            case h_2 => cases hd
            rename_i kq k hk
            split at hd
            case isFalse => cases hd
            rename_i h0
            rw [hk] at r2
            simp only [RelV, RelD] at r2
            subst r2
            have ek : k = ((k.toNat : Nat) : Int) := (Int.toNat_of_nonneg h0).symm
            rw [ek]
            exact good_appz hs hu hu' hi hz hc.2 hc.1.1 hc.1.2 r hd
          rename_i e e' hu hu'
          split at h
          case isFalse => cases h
          rename_i he
          subst he
          split at h
          case h_2 => cases h
          rename_i inf hi
          split at h
          case h_2 => cases h
          rename_i z hz
          split at h
          case isFalse => cases h
          rename_i hc
          cases h
          simp only [Bool.and_eq_true, decide_eq_true_eq, beq_iff_eq] at hc
          simp only [doI] at hd
          exact good_append hs hu hu' hi hz hc.2 hc.1.1 r r2 (fun k hk => by
            have := Nat.le_mul_of_pos_right k hc.1.2
            omega) hd
        ·
          rename_i x y t0 t1 hat
          have hat' : argTypes = #[t0, t1] := by apply Array.ext'; simpa using hat
          subst hat'
          simp only [evs, List.map_cons, List.map_nil, RelVs] at hr
          obtain ⟨u, us', rfl, r, u2, us2, rfl, r2, rfl⟩ := hr
          split at h
          case h_2 => cases h
          rename_i e e' hu hu'
          split at h
          case isFalse => cases h
          rename_i he
          subst he
          split at h
          case h_2 => cases h
          rename_i inf hi
          split at h
          case isFalse => cases h
          rename_i hc
          cases h
          simp only [doI] at hd
          exact good_copy hs hu (by simp [sizeOfT, hi]) (deSo_rel r) r2 hd
        ·
          cases h
          simp only [doI] at hd
          obtain ⟨v', hv, hd⟩ := Option.map_eq_some_iff.1 hd
          cases hd
          obtain ⟨w, g1, g2⟩ := max_ok (P := P) (us := us.toArray) (by simpa using hr) hv argTypes ty
          exact Good.val hs (run_v g1) g2
        ·
          cases h
          simp only [doI] at hd
          obtain ⟨v', hv, hd⟩ := Option.map_eq_some_iff.1 hd
          cases hd
          obtain ⟨w, g1, g2⟩ := min_ok (P := P) (us := us.toArray) (by simpa using hr) hv argTypes ty
          exact Good.val hs (run_v g1) g2
        · cases h
  | _ => simp [cOp] at h
end Go.Proofs.YtlenjioebdmooaaDoor.Den

namespace Go.Proofs.YtlenjioebdmooaaDoor.Den
open Go
set_option linter.unusedVariables false
set_option linter.unusedSimpArgs false
variable {P : Program}
structure Mk (c : Cx) (D : Nat) : Prop where
  heap : c.w.heap[D]? = some (.deferred (some []))
  φ : ∀ id, c.φ id ≠ some D
theorem Mk.mono {c c' : Cx} (h : Post P c c') {D : Nat} (k : Mk c D) : Mk c' D := by
  have hlt := heap_lt k.heap
  refine ⟨h.keeps.heap D _ k.heap fun ⟨id, _, _, _, hφ⟩ => k.φ id hφ, fun id hφ => ?_⟩
  rcases h.keeps.fresh id D hφ with h1 | h1
  · exact k.φ id h1
  · omega
def RoOK (ro : Option Nat) (c : Cx) : Prop := ∀ l, ro = some l → ∃ id blk, c.m[id]? = some blk ∧ blk.isLoop = true ∧ c.φ id = some l
theorem RoOK.mono {ro : Option Nat} {c c' : Cx} (h : Post P c c') (k : RoOK ro c) : RoOK ro c' := fun l hl => by
  obtain ⟨id, blk, h1, h2, h3⟩ := k l hl
  obtain ⟨blk', g1, _, g3, g4⟩ := h.st.blk id blk h1
  exact ⟨id, blk', g1, (g3 h2).1, ((g4 (g3 h2).2).2 l h3).1⟩
theorem loop_at {c : Cx} (hs : PSim P c) {id B : Nat} {blk : Blk} (h1 : c.m[id]? = some blk) (h2 : blk.isLoop = true) (h3 : c.φ id = some B) : ∃ L, c.w.heap[B]? = some (.loop L) := by
  have hk := hs.blk id blk B h1 h3
  cases blk with
  | flat => cases h2
  | gen => cases h2
  | loop st pe ts ps a b p =>
    have hk : LoopOK P c B st pe ts ps a b := hk
    obtain ⟨L, h, _⟩ := hk.ex; exact ⟨L, h⟩
structure Mks (lo : Nat) (ro : Option Nat) (c : Cx) (ds : List Deferred) : Prop where
  mks : ∀ d, d ∈ ds → ∃ D, d.target = .collected D ∧ Mk c D ∧ lo ≤ D
  ro : RoOK ro c
  pw : ds.Pairwise fun d d' => d.target ≠ d'.target
  lo : lo ≤ c.w.heap.size
theorem Mks.mono {lo : Nat} {ro : Option Nat} {c c' : Cx} (h : Post P c c') {ds : List Deferred} (k : Mks lo ro c ds) : Mks lo ro c' ds :=
  ⟨fun d hd => let ⟨D, h1, h2, h3⟩ := k.mks d hd; ⟨D, h1, h2.mono h, h3⟩, k.ro.mono h, k.pw, Nat.le_trans k.lo h.keeps.size⟩
theorem post_world {c : Cx} (hs : PSim P c) {w' : World} (hother : ∀ (k : Nat) (o : Obj), c.w.heap[k]? = some o → w'.heap[k]? = some o) (hsz : c.w.heap.size ≤ w'.heap.size) (h1 : w'.os = c.w.os) (h2 : w'.tape = c.w.tape) (h3 : w'.output = c.w.output) :
    Post P c ⟨c.φ, c.m, c.I, w'⟩ := by
  have hst : St c ⟨c.φ, c.m, c.I, w'⟩ := ⟨fun x o hI => ⟨hI, fun u hu => cell?_of_heap (hother x) hu⟩, fun i blk hi => ⟨blk, hi, Nat.le_refl _, fun hl => ⟨hl, rfl⟩, fun _ => ⟨rfl, fun C hC => ⟨hC, fun e n hs => shape?_of_heap (hother C) hs⟩⟩⟩⟩
  refine ⟨hst, ⟨fun i blk C hi hC => BlkOK.mono hst rfl (hother C) (hs.blk i blk C hi hC), hs.inj, hs.dom, fun b o hI => Nat.lt_of_lt_of_le (hs.imm b o hI) hsz⟩, ⟨hsz, h1, h2, h3, fun b o hb _ => hother b o hb, fun id B h => .inl h, fun id blk h => ⟨blk, h, rfl⟩, fun id blk h _ => ⟨blk, h, rfl, rfl, rfl⟩, fun id B _ h _ _ => ⟨B, h⟩⟩, rfl⟩
theorem post_shut {c c2 : Cx} (hp : Post P c c2) {D : Nat} (hm : Mk c2 D) (hD : c.w.heap.size ≤ D) (o : Obj) :
    Post P c ⟨c2.φ, c2.m, c2.I, c2.w.putObj D o⟩ ∧ St c2 ⟨c2.φ, c2.m, c2.I, c2.w.putObj D o⟩ := by
  have hoth : ∀ (k : Nat), k ≠ D → (c2.w.putObj D o).heap[k]? = c2.w.heap[k]? := fun k hk => World.putObj_heap_other hk
  have hst : St c2 ⟨c2.φ, c2.m, c2.I, c2.w.putObj D o⟩ := by
    refine ⟨fun x p hI => ⟨hI, fun u hu => ?_⟩, fun i blk hi => ⟨blk, hi, Nat.le_refl _, fun hl => ⟨hl, rfl⟩, fun _ => ⟨rfl, fun C hC => ⟨hC, fun e n hs => ?_⟩⟩⟩⟩
    · by_cases e : x = D
      · subst e; simp [World.cell?, hm.heap] at hu
      · exact cell?_of_heap (fun y hy => by rw [hoth x e]; exact hy) hu
    · have : C ≠ D := fun e => hm.φ i (e ▸ hC)
      exact shape?_of_heap (fun y hy => by show (c2.w.putObj D o).heap[C]? = _; rw [hoth C this]; exact hy) hs
  refine ⟨⟨hp.st.trans hst, ⟨fun i blk C hi hC => ?_, hp.sim.inj, hp.sim.dom, fun b p hI => by show b < (c2.w.putObj D o).heap.size; rw [World.putObj_size]; exact hp.sim.imm b p hI⟩, ⟨?_, hp.keeps.os, hp.keeps.tape, hp.keeps.output, fun b p hb hw => ?_, hp.keeps.fresh, hp.keeps.prot, hp.keeps.same, hp.keeps.old⟩, hp.imm⟩, hst⟩
  · have : C ≠ D := fun e => hm.φ i (e ▸ hC)
    exact BlkOK.mono hst rfl (fun y hy => by show (c2.w.putObj D o).heap[C]? = _; rw [hoth C this]; exact hy) (hp.sim.blk i blk C hi hC)
  · show c.w.heap.size ≤ (c2.w.putObj D o).heap.size
    rw [World.putObj_size]; exact hp.keeps.size
  · have : b ≠ D := by have := heap_lt hb; omega
    show (c2.w.putObj D o).heap[b]? = _
    rw [hoth b this]; exact hp.keeps.heap b p hb hw
theorem loop_set {c : Cx} (hs : PSim P c) {id B : Nat} {st st' : LoopState} {pe pe' : Option C} {ts : List V} {ps : List Nat} {a b : C} (hb : c.m[id]? = some (.loop st pe ts ps a b false)) (hφ : c.φ id = some B) {L L' : Loop}
    (hL : c.w.heap[B]? = some (.loop L)) (h1 : L'.state = st') (h2 : L'.tmps = L.tmps) (h3 : L'.params = L.params) (h4 : L'.assign = L.assign) (h5 : L'.body = L.body)
    (h6 : match pe', L'.pending with | none, none => True | some x, some y => cCode P ts.length y = some x.er | _, _ => False) :
    Post P c ⟨c.φ, c.m.set id (.loop st' pe' ts ps a b false), c.I, c.w.putObj B (.loop L')⟩ := by
  have hlt := heap_lt hL
  have hk : LoopOK P c B st pe ts ps a b := hs.blk id _ B hb hφ
  obtain ⟨L0, g1, g2, g3, g4, g5, g6, g7⟩ := hk.ex
  rw [hL] at g1; cases g1
  have hT : Turn P c id (.loop st pe ts ps a b false) (.loop st' pe' ts ps a b false) B B (c.w.putObj B (.loop L')) :=
    ⟨hs, hb, hφ, rfl, rfl, fun _ => ⟨rfl, rfl⟩, rfl, Nat.le_refl _, fun _ => ⟨rfl, fun e n h => by simp [World.shape?, hL] at h⟩, .inl rfl, fun k o hk ho => by rw [World.putObj_heap_other hk]; exact ho, by simp, rfl, rfl, rfl⟩
  have hP := hT.post (P := P) (show LoopOK P _ B st' pe' ts ps a b from ⟨⟨L', World.putObj_heap_same hlt, h1, by rw [h2]; exact RelVs.mono hT.st _ _ g3, by rw [h3]; exact g4, by rw [h4]; exact g5, by rw [h5]; exact g6, h6⟩, hk.noI⟩)
  have e : cxSet c id (.loop st' pe' ts ps a b false) B (c.w.putObj B (.loop L')) = ⟨c.φ, c.m.set id (.loop st' pe' ts ps a b false), c.I, c.w.putObj B (.loop L')⟩ := by
    unfold cxSet
    congr 1
    funext j
    unfold updφ
    split
    · rename_i e; rw [e, hφ]
    · rfl
  rw [e] at hP; exact hP
theorem loop_new {c : Cx} (hs : PSim P c) {ts : List V} {ps : List Nat} {a b : C} {L : Loop} (h1 : L.state = .ready) (h2 : RelVs c ts L.tmps.toList) (h3 : L.params.toList = ps) (h4 : cCode P ts.length L.assign = some a.er) (h5 : cCode P ts.length L.body = some b.er) (h6 : L.pending = none) :
    Post P c (cxNew c (.loop .ready none ts ps a b false) (c.w.alloc (.loop L))) := by
  have hN : New P c (.loop .ready none ts ps a b false) (c.w.alloc (.loop L)) := new_alloc hs _ _
  refine hN.post (show LoopOK P _ _ .ready none ts ps a b from ⟨⟨L, heap_alloc_self _ _, h1, RelVs.mono hN.st _ _ h2, h3, h4, h5, by rw [h6]; trivial⟩, fun o hI => by have := hs.imm _ _ hI; omega⟩)
theorem new_yl {c : Cx} {b : Blk} {w' : World} (hb : b.isLoop = true) : RelV (cxNew c b w') (.yl c.m.length) (.func (.yield c.w.heap.size) #[] #[]) := by
  simp only [RelV]
  exact ⟨b, by simp [cxNew], hb, _, by simp [cxNew, updφ], rfl⟩
end Go.Proofs.YtlenjioebdmooaaDoor.Den
