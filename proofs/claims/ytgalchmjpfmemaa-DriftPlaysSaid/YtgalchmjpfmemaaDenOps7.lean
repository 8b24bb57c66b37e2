/- Each instruction of the evaluator is what the model's operation does: append whole, copy, numbers, comparisons, conversions. -/
import Derived.Test.YtgalchmjpfmemaaDenOps6
namespace Go.Proofs.Ytgalchmjpfmemaa.Den
open Go
set_option linter.unusedVariables false
set_option linter.unusedSimpArgs false

variable {P : Program}

theorem good_append_new {c : Cx} (hs : PSim P c) {t u e ty : TypeId} (ht : P.underlying t = some (.slice e)) (hu : P.underlying u = some (.slice e)) {i : TypeInfo} {z : Value} (hi : P.info? e = some i) (hz : i.zero = some z) (hzs : z.cells.size = i.size) (hpos : 0 < i.size)
    {base : Option Addr} {sv x : V} {xv : Value} {b : Blk} {rows : List (List V)} (hsv : RelV c sv (.slice base 0 0)) (hx : RelV c x xv)
    (hrows : rowsOf c.m x = some rows) (hxs : sizeOk c.m i.size x = true) (hbytes : rows.length * i.bytes ≤ 140737488355328) (h63 : rows.length ≤ 9223372036854775807) {v : V} {m' : Mem}
    (hb : b.isLoop = false ∧ b.elem = e ∧ b.size = i.size ∧ b.vrows = rows ∧ b.len = rows.length ∧ b.plain)
    (h : (if rows.length = 0 then some (sv, c.m) else some (V.sl c.m.length rows.length 0 rows.length, c.m ++ [b])) = some (v, m')) :
    Good P c m' v (do pure (.value (← Builtin.append_ #[t, u] ty #[.slice base 0 0, xv]))) := by
  obtain ⟨news, hsrc, hrel, h1, hl⟩ := src_of hs hx hrows hxs hu
  obtain ⟨b1, b2, b3, b4, b5, b6⟩ := hb
  split at h
  · rename_i h0
    cases h
    refine Good.val hs (run_v (u := .slice base 0 0) ?_) hsv
    have hn : news = [] := List.length_eq_zero_iff.1 (by rw [hsrc.newsLen, h0]; simp)
    rw [h0, hn] at hsrc
    exact run_append_nothing c.w t u ty e i ht hi base 0 0 (by simp) xv hsrc
  · rename_i h0
    cases h
    have hold : (Builtin.firstCells i.size 0 (.slice base 0 0)).run P c.w.drew = .ok ([] : List Value).toArray c.w.drew := by
      cases base with
      | none => exact run_firstCells_none c.w.drew i.size 0 0 0
      | some ad => exact run_firstCells_some c.w.drew i.size 0 ad 0 0 [] (by simp) (by simp)
    have hrun := run_append_grow_src (P := P) c.w t u ty e i z ht hi hz base 0 0 [] hold xv rows.length news hsrc (by omega) (by omega) (growslice_fits (by omega) (by simpa using hbytes))
    simp only [Nat.zero_add, List.nil_append] at hrun
    have hcapl := grownCap_le c.w rows.length 0 e
    have hzl : (Builtin.zeroCells z.cells (grownCap c.w rows.length 0 e - rows.length)).toList.length = (grownCap c.w rows.length 0 e - rows.length) * b.size := by
      rw [Array.length_toList, zeroCells_size, hzs, b3]
    have hobj : news.toArray ++ Builtin.zeroCells z.cells (grownCap c.w rows.length 0 e - rows.length) = ⟨news ++ (Builtin.zeroCells z.cells (grownCap c.w rows.length 0 e - rows.length)).toList⟩ := by
      apply Array.ext'; simp
    have hN : New P c b (c.w.drew.alloc (.cells (news.toArray ++ Builtin.zeroCells z.cells (grownCap c.w rows.length 0 e - rows.length)) e)) :=
      ⟨hs, fun k o hk => by rw [alloc_heap_lt c.w.drew _ k (by simpa using heap_lt hk)]; exact hk, by simp, rfl, rfl, rfl⟩
    have hheap : (c.w.drew.alloc (.cells (news.toArray ++ Builtin.zeroCells z.cells (grownCap c.w rows.length 0 e - rows.length)) e)).heap[c.w.heap.size]? = some (.cells ⟨news ++ (Builtin.zeroCells z.cells (grownCap c.w rows.length 0 e - rows.length)).toList⟩ b.elem (0, 0)) := by
      have := heap_alloc_self c.w.drew (.cells (news.toArray ++ Builtin.zeroCells z.cells (grownCap c.w rows.length 0 e - rows.length)) e)
      rw [World.size_drew] at this
      rw [this, hobj, b2]
    have hsize : news.length + (Builtin.zeroCells z.cells (grownCap c.w rows.length 0 e - rows.length)).toList.length = grownCap c.w rows.length 0 e * b.size := by
      rw [hzl, hsrc.newsLen, ← b3, ← Nat.add_mul]; congr 1; omega
    have hP := hN.cells b1 hheap (.inl rfl) (by rw [b3]; exact hpos) hsize (by rw [b4]; exact hrel) h1 (by rw [b4, b3]; exact hl) b6
    refine Good.new (c' := cxNew c b _) (run_v (u := .slice (some ⟨c.w.heap.size, 0, none⟩) rows.length (grownCap c.w rows.length 0 e)) ?_) rfl hP ?_
    · rw [hrun]; simp [cxNew]
    · have := new_sl (c := c) (b := b) (w' := c.w.drew.alloc (.cells (news.toArray ++ Builtin.zeroCells z.cells (grownCap c.w rows.length 0 e - rows.length)) e)) (cap := grownCap c.w rows.length 0 e) (e := b.elem) (by omega)
        (by simp only [World.shape?, hheap]; simp only [← hsize]; simp)
      rw [b5] at this; exact this

theorem good_append {c : Cx} (hs : PSim P c) {t u e ty : TypeId} (ht : P.underlying t = some (.slice e)) (hu : P.underlying u = some (.slice e)) {i : TypeInfo} {z : Value} (hi : P.info? e = some i) (hz : i.zero = some z) (hzs : z.cells.size = i.size) (hpos : 0 < i.size)
    {fl : Bool} {s x : V} {sv xv : Value} (hsv : RelV c s sv) (hx : RelV c x xv) (h63 : ∀ k : Nat, k * i.bytes ≤ 140737488355328 → k ≤ 9223372036854775807) {v : V} {m' : Mem} (h : appendV e fl i.size i.bytes c.m s x = some (v, m')) :
    Good P c m' v (do pure (.value (← Builtin.append_ #[t, u] ty #[sv, xv]))) := by
  cases s with
  | sl id n off len =>
    simp only [appendV] at h
    split at h
    case isFalse => cases h
    rename_i hc
    obtain ⟨hxs, rfl, rfl⟩ := hc
    obtain ⟨b, hb, h⟩ := Option.bind_eq_some_iff.1 h
    have hsv0 := hsv
    simp only [RelV] at hsv
    obtain ⟨blk, ad, cap, hb', hn', rfl, hcap, hsv⟩ := hsv
    rw [hb] at hb'; cases hb'
    cases b with
    | flat e' z' rows p =>
      cases p with
      | true => simp at h
      | false =>
        simp only at h
        split at h
        case isFalse => cases h
        rename_i hc
        obtain ⟨rfl, rfl, he⟩ := hc
        obtain ⟨ys, hy, h2⟩ := Option.bind_eq_some_iff.1 h
        clear h
        subst he
        have h := h2
        clear h2
        split at h
        case isFalse => cases h
        rename_i hbytes
        have hrows := flatRows_rows hy
        split at h
        · rename_i h0
          cases h
          obtain ⟨news, hsrc, hrel, h1, hl⟩ := src_of hs hx hrows hxs hu
          have hn : news = [] := List.length_eq_zero_iff.1 (by rw [hsrc.newsLen]; simp [h0])
          have h0' : (ys.map (List.map V.d)).length = 0 := by simpa using h0
          rw [h0', hn] at hsrc
          refine Good.val hs (run_v (run_append_nothing c.w t u ty _ i ht hi _ _ _ hcap xv hsrc)) ?_
          simp only [RelV]
          exact ⟨_, _, _, hb, hn', rfl, hcap, hsv⟩
        · rename_i h0
          cases h
          have hsc := flatRows_scalar hs hx hy
          have := good_grow (ty := ty) hs ht hu hi hz hzs (sv := .un) (x := x) (b' := .flat e' i.size (rows ++ ys) false) hsv0 hx hb rfl rfl hrows hxs
            ⟨rfl, rfl, rfl, rfl, rfl, rfl, by simp [Blk.vrows], by simp [Blk.len], by simp [Blk.vrows, Blk.len], fun hp r hr y hy' => by
              rcases List.mem_append.1 hr with hr | hr
              · exact hp r hr y hy'
              · exact hsc r hr y hy'⟩ (by simpa [Blk.len] using hbytes) (by have := h63 _ hbytes; simpa using this) (by simpa using h0) rfl
          simpa using this
    | gen e' z' rows p =>
      cases p with
      | true => simp at h
      | false =>
        simp only at h
        split at h
        case isFalse => cases h
        rename_i hc
        obtain ⟨rfl, rfl, he⟩ := hc
        obtain ⟨ys, hy, h2⟩ := Option.bind_eq_some_iff.1 h
        clear h
        subst he
        have h := h2
        clear h2
        split at h
        case isFalse => cases h
        rename_i hbytes
        split at h
        · rename_i h0
          cases h
          obtain ⟨news, hsrc, hrel, h1, hl⟩ := src_of hs hx hy hxs hu
          have hn : news = [] := List.length_eq_zero_iff.1 (by rw [hsrc.newsLen]; simp [h0])
          rw [h0, hn] at hsrc
          refine Good.val hs (run_v (run_append_nothing c.w t u ty _ i ht hi _ _ _ hcap xv hsrc)) ?_
          simp only [RelV]
          exact ⟨_, _, _, hb, hn', rfl, hcap, hsv⟩
        · rename_i h0
          cases h
          exact good_grow (ty := ty) hs ht hu hi hz hzs (sv := .un) (x := x) (b' := .gen e' i.size (rows ++ ys) false) hsv0 hx hb rfl rfl hy hxs
            ⟨rfl, rfl, rfl, rfl, rfl, rfl, by simp [Blk.vrows], by simp [Blk.len], by simp [Blk.vrows, Blk.len], fun hp => trivial⟩ (by simpa [Blk.len] using hbytes) (h63 _ hbytes) h0 rfl
    | loop => simp at h
  | d s =>
    cases s with
    | nils =>
      have hsv' := hsv
      simp only [RelV, RelD] at hsv'
      subst hsv'
      simp only [appendV] at h
      split at h
      case isFalse => cases h
      rename_i hxs
      split at h
      · obtain ⟨ys, hy, h⟩ := Option.bind_eq_some_iff.1 h
        split at h
        case isFalse => cases h
        rename_i hbytes
        have hsc := flatRows_scalar hs hx hy
        exact good_append_new hs ht hu hi hz hzs hpos hsv hx (flatRows_rows hy) hxs (by simpa using hbytes) (by have := h63 _ hbytes; simpa using this) (b := .flat e i.size ys false) ⟨rfl, rfl, rfl, rfl, by simp [Blk.len], hsc⟩ (by simpa using h)
      · obtain ⟨ys, hy, h⟩ := Option.bind_eq_some_iff.1 h
        split at h
        case isFalse => cases h
        rename_i hbytes
        exact good_append_new hs ht hu hi hz hzs hpos hsv hx hy hxs hbytes (h63 _ hbytes) (b := .gen e i.size ys false) ⟨rfl, rfl, rfl, rfl, by simp [Blk.len], trivial⟩ h
    | rs fl' z' rows tight =>
      cases tight with
      | false => simp [appendV] at h
      | true =>
        have hsv' := hsv
        simp only [RelV, RelD] at hsv'
        obtain ⟨_, _, _, b0, o0, sp0, cap, rfl, _, hcap, htt, _⟩ := hsv'
        simp only [appendV] at h
        split at h
        case isFalse => cases h
        rename_i hc
        obtain ⟨hxs, rfl, h0⟩ := hc
        have hcap0 : cap = 0 := by have := htt trivial; omega
        subst hcap0
        rw [h0] at hsv ⊢
        split at h
        · obtain ⟨ys, hy, h⟩ := Option.bind_eq_some_iff.1 h
          split at h
          case isFalse => cases h
          rename_i hbytes
          have hsc := flatRows_scalar hs hx hy
          exact good_append_new hs ht hu hi hz hzs hpos hsv hx (flatRows_rows hy) hxs (by simpa using hbytes) (by have := h63 _ hbytes; simpa using this) (b := .flat e i.size ys false) ⟨rfl, rfl, rfl, rfl, by simp [Blk.len], hsc⟩ (by simpa using h)
        · obtain ⟨ys, hy, h⟩ := Option.bind_eq_some_iff.1 h
          split at h
          case isFalse => cases h
          rename_i hbytes
          exact good_append_new hs ht hu hi hz hzs hpos hsv hx hy hxs hbytes (h63 _ hbytes) (b := .gen e i.size ys false) ⟨rfl, rfl, rfl, rfl, by simp [Blk.len], trivial⟩ h
    | _ => simp [appendV] at h
  | _ => simp [appendV] at h

/-! ### numbers -/

theorem intBits_ok {op : BinOp} {k : IntKind} {a b r : Int} (h : intBits op k a b = some r) (w : World) : (Op.intBits op k a b).run P w = .ok (.int k r) w := by
  unfold intBits at h
  cases op <;> simp at h <;> subst h <;> simp [Op.intBits]

theorem binInt_ok {op : BinOp} {k : IntKind} {a b : Int} {r : D} (h : binInt op k a b = some r) (t : TypeId) (w : World) (c : Cx) : ∃ u, (binOp op t (.int k a) (.int k b)).run P w = .ok u w ∧ RelD c.I c.w r u := by
  cases op <;> simp only [binInt] at h
  case add => cases h; exact ⟨_, by simp [binOp, Op.intArith], rfl⟩
  case sub => cases h; exact ⟨_, by simp [binOp, Op.intArith], rfl⟩
  case mul => cases h; exact ⟨_, by simp [binOp, Op.intArith], rfl⟩
  case quo =>
    split at h
    · cases h
    · rename_i h0; cases h; exact ⟨_, by simp [binOp, Op.intDiv, h0], rfl⟩
  case rem =>
    split at h
    · cases h
    · rename_i h0; cases h; exact ⟨_, by simp [binOp, Op.intDiv, h0], rfl⟩
  case eql => cases h; exact ⟨_, by simp [binOp, Op.intCmp], rfl⟩
  case neq => cases h; exact ⟨_, by simp [binOp, Op.intCmp], rfl⟩
  case lss => cases h; exact ⟨_, by simp [binOp, Op.intCmp], rfl⟩
  case leq => cases h; exact ⟨_, by simp [binOp, Op.intCmp], rfl⟩
  case gtr => cases h; exact ⟨.bool (decide (a > b)), by simp [binOp, Op.intCmp], rfl⟩
  case geq => cases h; exact ⟨.bool (decide (a ≥ b)), by simp [binOp, Op.intCmp], rfl⟩
  case shl => cases h
  case shr => cases h
  case and => obtain ⟨x, hx, rfl⟩ := Option.map_eq_some_iff.1 h; exact ⟨.int k x, by simpa [binOp] using intBits_ok (P := P) hx w, rfl⟩
  case or => obtain ⟨x, hx, rfl⟩ := Option.map_eq_some_iff.1 h; exact ⟨.int k x, by simpa [binOp] using intBits_ok (P := P) hx w, rfl⟩
  case xor => obtain ⟨x, hx, rfl⟩ := Option.map_eq_some_iff.1 h; exact ⟨.int k x, by simpa [binOp] using intBits_ok (P := P) hx w, rfl⟩
  case andNot => obtain ⟨x, hx, rfl⟩ := Option.map_eq_some_iff.1 h; exact ⟨.int k x, by simpa [binOp] using intBits_ok (P := P) hx w, rfl⟩

theorem binStr_ok {op : BinOp} {a b : ByteArray} {r : D} (h : binStr op a b = some r) (t : TypeId) (w : World) (c : Cx) : ∃ u, (binOp op t (.string a) (.string b)).run P w = .ok u w ∧ RelD c.I c.w r u := by
  cases op <;> simp only [binStr] at h
  case add =>
    split at h
    · rename_i hl; cases h
      have hn : ¬ ((9223372036854775807 : Int) < (a.size : Int) + (b.size : Int)) := by omega
      exact ⟨.string (a ++ b), by simp [binOp, Op.stringOp, IntKind.max, IntKind.signed, IntKind.bits, hn], rfl⟩
    · cases h
  case eql => cases h; exact ⟨_, by simp [binOp, Op.stringOp], rfl⟩
  case neq => cases h; exact ⟨_, by simp [binOp, Op.stringOp], rfl⟩
  case lss => cases h; exact ⟨_, by simp [binOp, Op.stringOp], rfl⟩
  case leq => cases h; exact ⟨_, by simp [binOp, Op.stringOp], rfl⟩
  case gtr => cases h; exact ⟨.bool !(Op.bytesLess a.toList b.toList || a.toList == b.toList), by simp [binOp, Op.stringOp], rfl⟩
  case geq => cases h; exact ⟨_, by simp [binOp, Op.stringOp], rfl⟩
  all_goals cases h

theorem shift_ok {op : BinOp} {k yk : IntKind} {a b : Int} {r : D} (hop : op = .shl ∨ op = .shr) (h : shiftInt op k a b = some r) (t : TypeId) (w : World) (c : Cx) : ∃ u, (binOp op t (.int k a) (.int yk b)).run P w = .ok u w ∧ RelD c.I c.w r u := by
  unfold shiftInt at h
  split at h
  · cases h
  · rename_i hb
    rcases hop with rfl | rfl <;> cases h
    · exact ⟨_, by simp [binOp, Op.shift, hb], rfl⟩
    · exact ⟨_, by simp [binOp, Op.shift, hb], rfl⟩

theorem bin_ok {c : Cx} {op : BinOp} {x y v : V} {xv yv : Value} (hx : RelV c x xv) (hy : RelV c y yv) (h : binV op x y = some v) (t : TypeId) (xo yo : Operand) :
    ∃ u, (do eqGuard op t xo yo xv yv; binOp op t xv yv).run P c.w = .ok u c.w ∧ RelV c v u := by
  cases x with
  | d x =>
    cases y with
    | d y =>
      cases x <;> cases y <;> try (simp [binV] at h; done)
      case int.int k a k' b =>
        simp only [RelV, RelD] at hx hy
        subst hx; subst hy
        have key : ∃ u, (binOp op t (.int k a) (.int k' b)).run P c.w = .ok u c.w ∧ RelV c v u := by
          simp only [binV] at h
          split at h
          · obtain ⟨r, hr, rfl⟩ := Option.map_eq_some_iff.1 h; simpa only [RelV] using shift_ok (P := P) (.inl rfl) hr t c.w c
          · obtain ⟨r, hr, rfl⟩ := Option.map_eq_some_iff.1 h; simpa only [RelV] using shift_ok (P := P) (.inr rfl) hr t c.w c
          · split at h
            · rename_i hk; subst hk
              obtain ⟨r, hr, rfl⟩ := Option.map_eq_some_iff.1 h; simpa only [RelV] using binInt_ok (P := P) hr t c.w c
            · cases h
        obtain ⟨u, h1, h2⟩ := key
        exact ⟨u, by cases op <;> simp [eqGuard, h1], h2⟩
      case str.str a b =>
        simp only [RelV, RelD] at hx hy
        subst hx; subst hy
        simp only [binV] at h
        obtain ⟨r, hr, rfl⟩ := Option.map_eq_some_iff.1 h
        obtain ⟨u, h1, h2⟩ := binStr_ok (P := P) hr t c.w c
        exact ⟨u, by cases op <;> simp [eqGuard, h1], by simpa only [RelV] using h2⟩
    | _ => cases x <;> simp [binV] at h
  | _ => simp [binV] at h

theorem un_ok {c : Cx} {op : UnOp} {x v : V} {xv : Value} (hx : RelV c x xv) (h : unV op x = some v) : ∃ u, (Op.unary op xv).run P c.w = .ok u c.w ∧ RelV c v u := by
  cases x with
  | d x =>
    cases x <;> cases op <;> simp [unV] at h
    case bool.not b => subst h; simp only [RelV, RelD] at hx; subst hx; exact ⟨.bool !b, by simp [Op.unary], by simp only [RelV, RelD]⟩
    case int.neg k n => subst h; simp only [RelV, RelD] at hx; subst hx; exact ⟨.int k (k.wrap (0 - n)), by simp [Op.unary, Op.intArith], by simp [RelV, RelD]⟩
    case int.xor k n =>
      obtain ⟨r, hr, rfl⟩ := h
      simp only [RelV, RelD] at hx; subst hx
      exact ⟨.int k r, by simpa [Op.unary] using intBits_ok (P := P) hr c.w, by simp [RelV, RelD]⟩
  | _ => cases op <;> simp [unV] at h

end Go.Proofs.Ytgalchmjpfmemaa.Den
