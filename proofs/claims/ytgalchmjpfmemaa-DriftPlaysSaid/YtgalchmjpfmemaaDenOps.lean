/- Each instruction of the evaluator is what the model's operation does: operands, loads, stores, numbers. -/
import Derived.Test.YtgalchmjpfmemaaDenMem
import Derived.Deep.AppendSrc
import Derived.Deep.Upon
namespace Go.Proofs.Ytgalchmjpfmemaa.Den
open Go
set_option linter.unusedVariables false
set_option linter.unusedSimpArgs false

/-! ### types -/
section
variable {P : Program}

theorem sizeOf_run {t : TypeId} {s : Nat} (h : sizeOfT P t = some s) (w : World) : (sizeOf t).run P w = .ok s w := by
  unfold sizeOfT at h
  cases hi : P.info? t with
  | none => simp [hi] at h
  | some i => simp [hi] at h; simp [sizeOf, typeInfo, hi, h]

theorem isAgg_run {t : TypeId} {g : Bool} (h : aggOf P t = some g) (w : World) : (isAgg t).run P w = .ok g w := by
  unfold aggOf at h
  cases hu : P.underlying t with
  | none => simp [hu] at h
  | some d => rw [hu] at h; cases d <;> simp at h <;> subst h <;> simp [isAgg, run_underlying hu]

theorem addr_add (b o j : Nat) : (⟨b, o, none⟩ : Addr).add j = ⟨b, o + j, none⟩ := by unfold Addr.add; split <;> simp_all

/-! ### constants -/

theorem D.ofConst_rel {v : Value} {x : D} (h : D.ofConst v = some x) (I : Imm) (w : World) : RelD I w x v ∧ OneC v := by
  unfold D.ofConst at h
  split at h <;> simp at h <;> subst h <;> simp [RelD, OneC]

theorem constCells_rel {c : Cx} : ∀ {l : List Value} {ds : List D}, constCells l = some ds → RelVs c (ds.map V.d) l ∧ ∀ u, u ∈ l → OneC u
  | [], ds, h => by simp [constCells] at h; subst h; simp [RelVs]
  | v :: r, ds, h => by
    simp only [constCells] at h
    cases h1 : D.ofConst v with
    | none => simp [h1] at h
    | some d =>
      cases h2 : constCells r with
      | none => simp [h1, h2] at h
      | some l =>
        simp [h1, h2] at h; subst h
        have r1 := D.ofConst_rel h1 c.I c.w
        have r2 := constCells_rel (c := c) h2
        simp only [List.map_cons, RelVs, RelV]
        refine ⟨⟨v, r, rfl, r1.1, r2.1⟩, fun u hu => ?_⟩
        rcases List.mem_cons.1 hu with rfl | hu
        · exact r1.2
        · exact r2.2 u hu

theorem V.ofConst_rel {v : Value} {x : V} (h : V.ofConst v = some x) (c : Cx) : RelV c x v := by
  unfold V.ofConst at h
  split at h
  · rename_i cs
    cases h1 : constCells cs.toList with
    | none => simp [h1] at h
    | some l =>
      simp [h1] at h; subst h
      have := constCells_rel (c := c) h1
      simp only [RelV]
      exact ⟨cs.toList, by simp, this.1, this.2⟩
  · rename_i vs
    split at h
    · simp at h; subst h
      rename_i hs
      simp only [RelV]
      exact ⟨[], by congr 1; apply Array.ext'; simpa using hs, by simp [RelVs]⟩
    · cases h
  · cases h1 : D.ofConst v with
    | none => simp [h1] at h
    | some d => simp [h1] at h; subst h; simp only [RelV]; exact (D.ofConst_rel h1 c.I c.w).1

theorem zeroOf_run {t : TypeId} {z : List D} (h : zeroOf P t = some z) (w : World) : ∃ zv, (zeroValue t).run P w = .ok zv w ∧ constCells zv.cells.toList = some z := by
  unfold zeroOf at h
  cases hi : P.info? t with
  | none => simp [hi] at h
  | some i =>
    cases hz : i.zero with
    | none => simp [hi, hz] at h
    | some zv => simp [hi, hz] at h; exact ⟨zv, by simp [zeroValue, typeInfo, hi, hz], h⟩

/-! ### operands -/

def TRel (c : Cx) (t : Nat → V) (a : Act) : Prop := ∀ j, RelV c (t j) (a.tmps.getD j undef)

def GlOK (E : Env) (c : Cx) : Prop := ∀ g cs, E.gl g = some cs → RelD c.I c.w (.rp cs) (.pointer (some ⟨g, 0, none⟩))

theorem undef_rel (c : Cx) : RelV c (.tup []) undef := by simp only [RelV]; exact ⟨[], rfl, by simp [RelVs]⟩

theorem TRel.mono {c c' : Cx} (h : St c c') {t a} (r : TRel c t a) : TRel c' t a := fun j => RelV.mono h _ _ (r j)

theorem GlOK.mono {E : Env} {c c' : Cx} (h : St c c') (r : GlOK E c) : GlOK E c' := fun g cs hg => RelD.keep h.keep _ _ (r g cs hg)

theorem ev_rel {E : Env} {c : Cx} {t : Nat → V} {a : Act} (ht : TRel c t a) (hg : GlOK E c) {x : Operand} {o : O} (h : cO x = some o) : RelV c (ev E t o) (a.eval x) := by
  cases x with
  | tmp i => simp [cO] at h; subst h; exact ht i
  | const v =>
    simp [cO] at h
    obtain ⟨y, hy, rfl⟩ := h
    exact V.ofConst_rel hy c
  | global g =>
    simp [cO] at h; subst h
    simp only [ev, Act.eval]
    cases hgl : E.gl g with
    | none => simp only [RelV]
    | some cs => simpa only [RelV] using hg g cs hgl
  | func f =>
    simp [cO] at h; subst h
    simp only [ev, Act.eval, RelV]
    exact ⟨[], [], rfl, by simp [RelVs], by simp [RelVs]⟩

theorem evs_rel {E : Env} {c : Cx} {t : Nat → V} {a : Act} (ht : TRel c t a) (hg : GlOK E c) : ∀ {xs : List Operand} {os : List O}, cOs xs = some os → RelVs c (evs E t os) (xs.map a.eval)
  | [], os, h => by simp [cOs] at h; subst h; simp [evs, RelVs]
  | x :: r, os, h => by
    simp only [cOs] at h
    cases h1 : cO x with
    | none => simp [h1] at h
    | some o =>
      cases h2 : cOs r with
      | none => simp [h1, h2] at h
      | some l =>
        simp [h1, h2] at h; subst h
        simp only [evs, List.map_cons, RelVs]
        exact ⟨_, _, rfl, ev_rel ht hg h1, evs_rel ht hg h2⟩

/-! ### cells that can be read -/

/-- From '⟨b, o⟩' on lie cells 'us', which stand for 'cells'. -/
structure Seen (c : Cx) (b o : Nat) (cells : List V) (us : List Value) : Prop where
  at_ : ∀ j u, us[j]? = some u → c.w.cell? ⟨b, o + j, none⟩ = some u
  rel : RelVs c cells us
  one : ∀ u, u ∈ us → OneC u

theorem Held.seen {c : Cx} {b : Nat} : ∀ {l : List D} {o : Nat}, Held c.I c.w b o l → ∃ us, Seen c b o (l.map V.d) us
  | [], o, _ => ⟨[], by simp, by simp [RelVs], by simp⟩
  | x :: r, o, h => by
    simp only [Held] at h
    obtain ⟨⟨u, h1, h2, h3, h4⟩, h5⟩ := h
    obtain ⟨us, g⟩ := Held.seen h5
    refine ⟨u :: us, fun j y hy => ?_, by simp only [List.map_cons, RelVs, RelV]; exact ⟨u, us, rfl, h4, g.rel⟩, fun y hy => ?_⟩
    · cases j with
      | zero => simp at hy; subst hy; simpa using h1
      | succ j => have := g.at_ j y (by simpa using hy); rw [show o + (j + 1) = o + 1 + j by omega]; exact this
    · rcases List.mem_cons.1 hy with rfl | hy
      · exact h3
      · exact g.one y hy

theorem Seen.drop {c : Cx} {b o : Nat} {cells us} (h : Seen c b o cells us) (k : Nat) : Seen c b (o + k) (cells.drop k) (us.drop k) := by
  refine ⟨fun j u hu => ?_, RelVs.drop k h.rel, fun u hu => h.one u (List.mem_of_mem_drop hu)⟩
  have := h.at_ (k + j) u (by simpa using hu)
  rw [show o + k + j = o + (k + j) by omega]; exact this

theorem Seen.take {c : Cx} {b o : Nat} {cells us} (h : Seen c b o cells us) (k : Nat) : Seen c b o (cells.take k) (us.take k) := by
  refine ⟨fun j u hu => ?_, RelVs.take k h.rel, fun u hu => h.one u (List.mem_of_mem_take hu)⟩
  rw [List.getElem?_take] at hu
  split at hu
  · exact h.at_ j u hu
  · cases hu

theorem CellsOK.seen {c : Cx} {B : Nat} {b : Blk} (h : CellsOK c B b) : ∃ us, Seen c B 0 b.vrows.flatten us := by
  obtain ⟨arr, fr, cap, us, rest, h1, h2, h3, h4, h5, h6⟩ := h.ex
  refine ⟨us, fun j u hu => ?_, h5, h6⟩
  have hk : j < us.length := (List.getElem?_eq_some_iff.1 hu).1
  have ha : arr[j]? = some u := by
    have : arr.toList[j]? = some u := by rw [h4, List.getElem?_append_left hk, hu]
    simpa using this
  simp [World.cell?, h1, ha]

theorem CellsOK.seenRow {c : Cx} {B : Nat} {b : Blk} (h : CellsOK c B b) {r : Nat} {cs : List V} (hr : b.vrows[r]? = some cs) : ∃ us, Seen c B (r * b.size) cs us := by
  obtain ⟨us, hs⟩ := h.seen
  have hd := (hs.drop (r * b.size)).take b.size
  rw [Nat.zero_add] at hd
  have e : (b.vrows.flatten.drop (r * b.size)).take b.size = cs := by
    have hl := h.rows
    have hcs : cs.length = b.size := hl cs (List.mem_of_getElem? hr)
    apply List.ext_getElem?
    intro j
    rw [List.getElem?_take]
    split
    · rename_i hj
      rw [List.getElem?_drop]
      have hj' : j < cs.length := by omega
      rw [flatten_at hl r j cs cs[j] hr (List.getElem?_eq_getElem hj'), List.getElem?_eq_getElem hj']
    · rename_i hj
      exact (List.getElem?_eq_none (by omega)).symm
  rw [e] at hd
  exact ⟨_, hd⟩

theorem loadVar_agg {c : Cx} {t : TypeId} {b o : Nat} {cells us} (hg : aggOf P t = some true) (hz : sizeOfT P t = some cells.length) (h : Seen c b o cells us) :
    (loadVar t ⟨b, o, none⟩).run P c.w = .ok (.agg ⟨us⟩) c.w := by
  have hl := run_loadCells_list (P := P) c.w ⟨b, o, none⟩ us (fun j v hv => by rw [addr_add]; exact h.at_ j v hv)
  rw [h.rel.len] at hl
  simp [loadVar, isAgg_run hg, sizeOf_run hz, hl]

theorem loadVar_one {c : Cx} {t : TypeId} {b o : Nat} {u : Value} (hg : aggOf P t = some false) (h : c.w.cell? ⟨b, o, none⟩ = some u) :
    (loadVar t ⟨b, o, none⟩).run P c.w = .ok u c.w := by
  simp [loadVar, isAgg_run hg, h]

/-- A variable within cells that can be read. -/
theorem part_load {c : Cx} {t : TypeId} {b o : Nat} {cells us} {g : Bool} {size off : Nat} {v : V} (hg : aggOf P t = some g) (hz : sizeOfT P t = some size) (h : Seen c b o cells us)
    (hp : part g cells off size = some v) : ∃ u, (loadVar t ⟨b, o + off, none⟩).run P c.w = .ok u c.w ∧ RelV c v u := by
  cases g with
  | true =>
    simp only [part, if_true, seg] at hp
    split at hp
    · rename_i hle
      simp at hp; subst hp
      have hd := (h.drop off).take size
      have hlen : ((cells.drop off).take size).length = size := by simp; omega
      exact ⟨_, loadVar_agg hg (by rw [hlen]; exact hz) hd, by simp only [RelV]; exact ⟨_, rfl, hd.rel, hd.one⟩⟩
    · simp at hp
  | false =>
    simp only [part] at hp
    obtain ⟨u, hu, hr⟩ := h.rel.at off v (by simpa using hp)
    exact ⟨u, loadVar_one hg (h.at_ off u hu), hr⟩

/-- The rows of a slice can be read. -/
theorem rows_seen {c : Cx} (hs : PSim P c) {x : V} {xv : Value} (hr : RelV c x xv) {rows : List (List V)} (h : rowsOf c.m x = some rows) {size : Nat} (hz : sizeOk c.m size x = true) :
    (xv = .slice none 0 0 ∧ rows = []) ∨ ∃ b o sp cap us, xv = .slice (some ⟨b, o, sp⟩) rows.length cap ∧ (∀ j v, us[j]? = some v → c.w.cell? ((⟨b, o, sp⟩ : Addr).add j) = some v) ∧ rows.length ≤ cap ∧ Seen c b o rows.flatten us ∧ (∀ r, r ∈ rows → r.length = size) := by
  cases x with
  | d x =>
    cases x with
    | nils => simp [rowsOf] at h; subst h; simp only [RelV, RelD] at hr; exact .inl ⟨hr, rfl⟩
    | rs fl s rs tight =>
      simp [rowsOf] at h; subst h
      simp only [RelV, RelD] at hr
      obtain ⟨hpos, hsc, hl, b, o, sp, cap, rfl, hsp, hc, htt, hh⟩ := hr
      obtain ⟨us, hu⟩ := Held.seen (HeldR.flat hl hh)
      simp [sizeOk] at hz; subst hz
      refine .inr ⟨b, o, sp, cap, us, by simp, fun j v hv => ?_, by simpa using hc, ?_, ?_⟩
      · rcases hsp with rfl | rfl
        · have := hu.rel.len; simp at this; rw [this] at hv; simp at hv
        · rw [addr_add]; exact hu.at_ j v hv
      · have e : (rs.map (List.map V.d)).flatten = rs.flatten.map V.d := by induction rs <;> simp_all
        rw [e]; exact hu
      · intro r hr'; obtain ⟨r0, h0, rfl⟩ := List.mem_map.1 hr'; simpa using hl r0 h0
    | _ => simp [rowsOf] at h
  | sl id n off len =>
    simp only [RelV] at hr
    obtain ⟨blk, ad, cap, hb, hn, rfl, hc, hr⟩ := hr
    have key : n = blk.len ∧ off + len ≤ n ∧ rows = (blk.vrows.drop off).take len ∧ blk.isLoop = false := by
      cases blk with
      | flat e s rws p =>
        simp [rowsOf, hb] at h
        obtain ⟨⟨h1, h2⟩, h3⟩ := h
        exact ⟨h1, h2, by rw [← h3]; simp [Blk.vrows], rfl⟩
      | gen e s rws p =>
        simp [rowsOf, hb] at h
        obtain ⟨⟨h1, h2⟩, h3⟩ := h
        exact ⟨h1, h2, by rw [← h3]; simp [Blk.vrows], rfl⟩
      | loop => simp [rowsOf, hb] at h
    obtain ⟨hn', ho, rfl, hl⟩ := key
    obtain ⟨B, e, hφ, rfl, hsh⟩ := hr hn'
    have hk := hs.cellsOK hb hφ hl
    have hvl : blk.vrows.length = n := by cases blk <;> simp_all [Blk.vrows, Blk.len, Blk.isLoop]
    obtain ⟨us, hu⟩ := hk.seen
    have hd := (hu.drop (off * blk.size)).take (len * blk.size)
    rw [Nat.zero_add] at hd
    have hbz : blk.size = size := by simpa [sizeOk, hb] using hz
    have e1 : ((blk.vrows.drop off).take len).flatten = (blk.vrows.flatten.drop (off * blk.size)).take (len * blk.size) := by
      have hrows := hk.rows
      have e2 : ∀ (l : List (List V)) (k : Nat), (∀ r, r ∈ l → r.length = blk.size) → (l.drop k).flatten = l.flatten.drop (k * blk.size) := by
        intro l
        induction l with
        | nil => intro k _; simp
        | cons x l ih =>
          intro k hx
          cases k with
          | zero => simp
          | succ k =>
            simp only [List.drop_succ_cons, List.flatten_cons]
            rw [ih k (fun r hr => hx r (List.mem_cons_of_mem _ hr)), Nat.add_mul, Nat.one_mul]
            have := hx x (by simp)
            rw [Nat.add_comm, ← List.drop_drop, ← this, List.drop_left]
      have e3 : ∀ (l : List (List V)) (k : Nat), (∀ r, r ∈ l → r.length = blk.size) → (l.take k).flatten = l.flatten.take (k * blk.size) := by
        intro l
        induction l with
        | nil => intro k _; simp
        | cons x l ih =>
          intro k hx
          cases k with
          | zero => simp
          | succ k =>
            simp only [List.take_succ_cons, List.flatten_cons]
            rw [ih k (fun r hr => hx r (List.mem_cons_of_mem _ hr)), Nat.add_mul, Nat.one_mul]
            have := hx x (by simp)
            rw [Nat.add_comm, ← this, List.take_length_add_append]
      rw [e3 _ _ (fun r hr => hrows r (List.mem_of_mem_drop hr)), e2 _ _ hrows]
    refine .inr ⟨B, off * blk.size, none, cap, _, ?_, fun j v hv => by rw [addr_add]; exact hd.at_ j v hv, ?_, by rw [e1]; exact hd, ?_⟩
    · have : ((blk.vrows.drop off).take len).length = len := by simp; omega
      rw [this]
    · have : ((blk.vrows.drop off).take len).length = len := by simp; omega
      rw [this]; exact hc
    · intro r hr'; rw [← hbz]; exact hk.rows r (List.mem_of_mem_drop (List.mem_of_mem_take hr'))
  | _ => simp [rowsOf] at h

theorem load_ok {c : Cx} (hs : PSim P c) {t : TypeId} {g : Bool} {size : Nat} (hg : aggOf P t = some g) (hz : sizeOfT P t = some size) {x v : V} {xv : Value} (hr : RelV c x xv)
    (h : loadV c.m g size x = some v) : ∃ u, (Instr.loadAt t xv).run P c.w = .ok u c.w ∧ RelV c v u := by
  cases x with
  | d x =>
    cases x with
    | rp cells =>
      simp only [RelV, RelD] at hr
      obtain ⟨b, o, rfl, hh⟩ := hr
      obtain ⟨us, hu⟩ := Held.seen hh
      obtain ⟨u, h1, h2⟩ := part_load hg hz hu (show part g (cells.map V.d) 0 size = some v from h)
      exact ⟨u, by simpa [Instr.loadAt, Instr.sureAddr] using h1, h2⟩
    | _ => simp [loadV] at h
  | ptr id n row off =>
    simp only [RelV] at hr
    obtain ⟨blk, ad, hb, hn, rfl, hr⟩ := hr
    simp only [loadV, hb, Option.bind_some] at h
    obtain ⟨cs, hcs, hp⟩ := Option.bind_eq_some_iff.1 h
    obtain ⟨hn', hrow, hl⟩ := row_vrows hcs
    obtain ⟨B, hφ, rfl⟩ := hr hn'
    have hk := hs.cellsOK hb hφ hl
    obtain ⟨us, hu⟩ := hk.seenRow hrow
    obtain ⟨u, h1, h2⟩ := part_load hg hz hu hp
    exact ⟨u, by simpa [Instr.loadAt, Instr.sureAddr] using h1, h2⟩
  | pa id n off len =>
    cases g with
    | false => simp [loadV] at h
    | true =>
      simp only [loadV, if_true] at h
      obtain ⟨rows, hrows, h⟩ := Option.bind_eq_some_iff.1 h
      split at h
      case isFalse => cases h
      rename_i hlen
      obtain rfl := Option.some.inj h
      simp only [RelV] at hr
      obtain ⟨blk, ad, hb, hn, rfl, hr⟩ := hr
      have key : n = blk.len ∧ blk.isLoop = false := by
        cases blk with
        | flat e s rws p => simp [rowsOf, hb] at hrows; exact ⟨hrows.1.1, rfl⟩
        | gen e s rws p => simp [rowsOf, hb] at hrows; exact ⟨hrows.1.1, rfl⟩
        | loop => simp [rowsOf, hb] at hrows
      obtain ⟨B, hφ, rfl⟩ := hr key.1
      have hk := hs.cellsOK hb hφ key.2
      obtain ⟨arr, fr, cap, us, rest, h1, h2, h3, h4, h5, h6⟩ := hk.ex
      -- the slice that the pointer came from stands for the same rows
      have hol : off + len ≤ n := by
        cases blk with
        | flat e s rws p => simp [rowsOf, hb] at hrows; exact hrows.1.2
        | gen e s rws p => simp [rowsOf, hb] at hrows; exact hrows.1.2
        | loop => simp [rowsOf, hb] at hrows
      have hvl : blk.vrows.length = n := by have := key.1; have := key.2; cases blk <;> simp_all [Blk.vrows, Blk.len, Blk.isLoop]
      have hcap : n ≤ cap := by
        have e : us.length = n * blk.size := by rw [h5.len, flatten_len hk.rows, hvl]
        have e2 : us.length + rest.length = arr.size := by rw [← Array.length_toList, h4]; simp
        have : n * blk.size ≤ cap * blk.size := by omega
        exact Nat.le_of_mul_le_mul_right this hk.pos
      have hsl : RelV c (.sl id n off len) (.slice (some ⟨B, off * blk.size, none⟩) len (cap - off)) := by
        simp only [RelV]
        refine ⟨blk, _, _, hb, hn, rfl, by omega, fun _ => ⟨B, blk.elem, hφ, rfl, ?_⟩⟩
        simp only [World.shape?, h1, h3]
        congr 3; omega
      rcases rows_seen hs hsl hrows (size := blk.size) (by simp [sizeOk, hb]) with ⟨e, _⟩ | ⟨b, o, sp, cap', us', e, hat, hc', hu, hl⟩
      · cases e
      · cases e
        obtain ⟨u, g1, g2⟩ := part_load hg hz hu (off := 0) (v := .agg rows.flatten) (by subst hlen; simp only [part, seg, if_true, Nat.zero_add, Nat.le_refl, List.drop_zero, List.take_length, Option.map_some])
        exact ⟨u, by simpa [Instr.loadAt, Instr.sureAddr] using g1, g2⟩
  | _ => simp [loadV] at h

end
end Go.Proofs.Ytgalchmjpfmemaa.Den
