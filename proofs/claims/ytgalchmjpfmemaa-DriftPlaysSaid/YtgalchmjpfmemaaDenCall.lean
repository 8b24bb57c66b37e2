/- A call: what the callee is handed, and what comes back. -/
import Derived.Test.YtgalchmjpfmemaaDenOps11
namespace Go.Proofs.Ytgalchmjpfmemaa.Den
open Go
set_option linter.unusedVariables false
set_option linter.unusedSimpArgs false

variable {P : Program}

structure Ren (ρ : Nat → Option Nat) (c c' : Cx) : Prop where
  keep : KeepI c.I c'.I c.w c'.w
  blk : ∀ i j, ρ i = some j → ∀ blk, c.m[i]? = some blk → ∃ blk', c'.m[j]? = some blk' ∧ blk'.len = blk.len ∧ blk'.size = blk.size ∧ blk'.isLoop = blk.isLoop ∧
    ∀ B, c.φ i = some B → c'.φ j = some B ∧ ∀ e n, c.w.shape? B = some (e, n) → c'.w.shape? B = some (e, n)

mutual
theorem RelV.ren {ρ : Nat → Option Nat} {c c' : Cx} (h : Ren ρ c c') : ∀ (x : V) (v : Value), RelV c x v → RelV c' (x.ren ρ) v
  | .d x, v, r => by simp only [V.ren, RelV] at r ⊢; exact RelD.keep h.keep x v r
  | .un, _, _ => by simp only [V.ren, RelV]
  | .ptr id n row off, v, r => by
    simp only [V.ren]
    cases hj : ρ id with
    | none => simp only [RelV]
    | some j =>
      simp only [RelV] at r ⊢
      obtain ⟨blk, a, h1, h2, hv, h3⟩ := r
      obtain ⟨blk', g1, g2, g3, g4, g5⟩ := h.blk id j hj blk h1
      exact ⟨blk', a, g1, by omega, hv, fun e => by obtain ⟨B, hB, ha⟩ := h3 (by omega); exact ⟨B, (g5 B hB).1, by rw [g3]; exact ha⟩⟩
  | .sl id n off len, v, r => by
    simp only [V.ren]
    cases hj : ρ id with
    | none => simp only [RelV]
    | some j =>
      simp only [RelV] at r ⊢
      obtain ⟨blk, a, cap, h1, h2, hv, hc, h3⟩ := r
      obtain ⟨blk', g1, g2, g3, g4, g5⟩ := h.blk id j hj blk h1
      exact ⟨blk', a, cap, g1, by omega, hv, hc, fun e => by obtain ⟨B, e0, hB, ha, hs⟩ := h3 (by omega); exact ⟨B, e0, (g5 B hB).1, by rw [g3]; exact ha, by rw [g3]; exact (g5 B hB).2 _ _ hs⟩⟩
  | .sa id n row off s len, v, r => by
    simp only [V.ren]
    cases hj : ρ id with
    | none => simp only [RelV]
    | some j =>
      simp only [RelV] at r ⊢
      obtain ⟨blk, a, cap, h1, h2, hv, hc, h3⟩ := r
      obtain ⟨blk', g1, g2, g3, g4, g5⟩ := h.blk id j hj blk h1
      exact ⟨blk', a, cap, g1, by omega, hv, hc, fun e => by obtain ⟨B, hB, ha⟩ := h3 (by omega); exact ⟨B, (g5 B hB).1, by rw [g3]; exact ha⟩⟩
  | .pa id n off len, v, r => by
    simp only [V.ren]
    cases hj : ρ id with
    | none => simp only [RelV]
    | some j =>
      simp only [RelV] at r ⊢
      obtain ⟨blk, a, h1, h2, hv, h3⟩ := r
      obtain ⟨blk', g1, g2, g3, g4, g5⟩ := h.blk id j hj blk h1
      exact ⟨blk', a, g1, by omega, hv, fun e => by obtain ⟨B, hB, ha⟩ := h3 (by omega); exact ⟨B, (g5 B hB).1, by rw [g3]; exact ha⟩⟩
  | .fn f a b, v, r => by
    simp only [V.ren, RelV] at r ⊢
    obtain ⟨a', b', e, h1, h2⟩ := r
    exact ⟨a', b', e, RelVs.ren h a a' h1, RelVs.ren h b b' h2⟩
  | .yl id, v, r => by
    simp only [V.ren]
    cases hj : ρ id with
    | none => simp only [RelV]
    | some j =>
      simp only [RelV] at r ⊢
      obtain ⟨blk, h1, h2, B, hB, hv⟩ := r
      obtain ⟨blk', g1, g2, g3, g4, g5⟩ := h.blk id j hj blk h1
      exact ⟨blk', g1, by rw [g4]; exact h2, B, (g5 B hB).1, hv⟩
  | .ifc t x, v, r => by
    simp only [V.ren, RelV] at r ⊢
    obtain ⟨u, e, h1⟩ := r
    exact ⟨u, e, RelV.ren h x u h1⟩
  | .agg cs, v, r => by
    simp only [V.ren, RelV] at r ⊢
    obtain ⟨a, e, h1, h2⟩ := r
    exact ⟨a, e, RelVs.ren h cs a h1, h2⟩
  | .tup vs, v, r => by
    simp only [V.ren, RelV] at r ⊢
    obtain ⟨a, e, h1⟩ := r
    exact ⟨a, e, RelVs.ren h vs a h1⟩
theorem RelVs.ren {ρ : Nat → Option Nat} {c c' : Cx} (h : Ren ρ c c') : ∀ (l : List V) (l' : List Value), RelVs c l l' → RelVs c' (V.rens ρ l) l'
  | [], l', r => by simp only [V.rens, RelVs] at r ⊢; exact r
  | v :: l, l', r => by
    simp only [V.rens, RelVs] at r ⊢
    obtain ⟨u, us, e, h1, h2⟩ := r
    exact ⟨u, us, e, RelV.ren h v u h1, RelVs.ren h l us h2⟩
end

/-! ### what holds no row by value doesn't ask what is unchanging -/

mutual
theorem RelV.noI {c : Cx} (I : Imm) : ∀ (x : V) (v : Value), x.noRs = true → RelV c x v → RelV { c with I := I } x v
  | .d x, v, hn, r => by
    cases x <;> simp [V.noRs, D.noRs] at hn <;> simp only [RelV, RelD] at r ⊢ <;> exact r
  | .un, _, _, _ => by simp only [RelV]
  | .ptr id n row off, v, _, r => by simp only [RelV] at r ⊢; exact r
  | .sl id n off len, v, _, r => by simp only [RelV] at r ⊢; exact r
  | .sa id n row off s len, v, _, r => by simp only [RelV] at r ⊢; exact r
  | .pa id n off len, v, _, r => by simp only [RelV] at r ⊢; exact r
  | .fn f a b, v, hn, r => by
    simp only [V.noRs, Bool.and_eq_true] at hn
    simp only [RelV] at r ⊢
    obtain ⟨a', b', e, h1, h2⟩ := r
    exact ⟨a', b', e, RelVs.noI I a a' hn.1 h1, RelVs.noI I b b' hn.2 h2⟩
  | .yl id, v, _, r => by simp only [RelV] at r ⊢; exact r
  | .ifc t x, v, hn, r => by
    simp only [V.noRs] at hn
    simp only [RelV] at r ⊢
    obtain ⟨u, e, h1⟩ := r
    exact ⟨u, e, RelV.noI I x u hn h1⟩
  | .agg cs, v, hn, r => by
    simp only [V.noRs] at hn
    simp only [RelV] at r ⊢
    obtain ⟨a, e, h1, h2⟩ := r
    exact ⟨a, e, RelVs.noI I cs a hn h1, h2⟩
  | .tup vs, v, hn, r => by
    simp only [V.noRs] at hn
    simp only [RelV] at r ⊢
    obtain ⟨a, e, h1⟩ := r
    exact ⟨a, e, RelVs.noI I vs a hn h1⟩
theorem RelVs.noI {c : Cx} (I : Imm) : ∀ (l : List V) (l' : List Value), V.noRss l = true → RelVs c l l' → RelVs { c with I := I } l l'
  | [], l', _, r => by simp only [RelVs] at r ⊢; exact r
  | v :: l, l', hn, r => by
    simp only [V.noRss, Bool.and_eq_true] at hn
    simp only [RelVs] at r ⊢
    obtain ⟨u, us, e, h1, h2⟩ := r
    exact ⟨u, us, e, RelV.noI I v u hn.1 h1, RelVs.noI I l us hn.2 h2⟩
end

theorem RelVs.noI_flat {c : Cx} (I : Imm) : ∀ {rows : List (List V)} {us : List Value}, rows.all V.noRss = true → RelVs c rows.flatten us → RelVs { c with I := I } rows.flatten us
  | [], us, _, r => by simpa [RelVs] using r
  | row :: rows, us, hn, r => by
    simp only [List.all_cons, Bool.and_eq_true] at hn
    have : ∀ {a b : List V} {us : List Value}, RelVs c (a ++ b) us → RelVs c a (us.take a.length) ∧ RelVs c b (us.drop a.length) := by
      intro a b us h
      exact ⟨by simpa using h.take a.length, by simpa using h.drop a.length⟩
    simp only [List.flatten_cons] at r ⊢
    obtain ⟨h1, h2⟩ := this r
    have e : us = us.take row.length ++ us.drop row.length := (List.take_append_drop _ _).symm
    rw [e]
    exact (RelVs.noI I _ _ hn.1 h1).append (RelVs.noI_flat I hn.2 h2)

/-! ### renamed blocks -/

theorem ren_len (ρ : Nat → Option Nat) (b : Blk) : (b.ren ρ).len = b.len ∧ (b.ren ρ).size = b.size ∧ (b.ren ρ).isLoop = b.isLoop ∧ (b.ren ρ).prot = b.prot ∧ (b.ren ρ).elem = b.elem := by
  cases b <;> simp [Blk.ren, Blk.len, Blk.size, Blk.isLoop, Blk.prot, Blk.elem]

theorem rens_map (ρ : Nat → Option Nat) : ∀ l : List V, V.rens ρ l = l.map (V.ren ρ)
  | [] => rfl
  | v :: l => by simp [V.rens, rens_map ρ l]

theorem rens_d (ρ : Nat → Option Nat) (l : List D) : V.rens ρ (l.map V.d) = l.map V.d := by
  rw [rens_map, List.map_map]; apply List.map_congr_left; intro x _; simp [V.ren]

theorem ren_vrows (ρ : Nat → Option Nat) (b : Blk) : (b.ren ρ).vrows = b.vrows.map (V.rens ρ) := by
  cases b with
  | flat e s rows p =>
    simp only [Blk.ren, Blk.vrows, List.map_map]
    apply List.map_congr_left
    intro r _
    simp [rens_d]
  | gen e s rows p => simp [Blk.ren, Blk.vrows]
  | loop => simp [Blk.ren, Blk.vrows]

theorem rens_flatten (ρ : Nat → Option Nat) (l : List (List V)) : (l.map (V.rens ρ)).flatten = V.rens ρ l.flatten := by
  simp only [rens_map]
  induction l with
  | nil => rfl
  | cons x l ih => simp [ih, rens_map]

theorem flat_map_d : ∀ l : List (List D), (l.map (List.map V.d)).flatten = l.flatten.map V.d
  | [] => rfl
  | x :: l => by simp only [List.map_cons, List.flatten_cons, List.map_append]; rw [flat_map_d l]

/-- A block, told in another context by other names. -/
theorem BlkOK.ren {c c' : Cx} {ρ : Nat → Option Nat} (h : Ren ρ c c') {B : Nat} {b : Blk} (hI : ∀ o, ¬ c'.I B o) (hh : ∀ x, c.w.heap[B]? = some x → c'.w.heap[B]? = some x) (k : BlkOK P c B b) : BlkOK P c' B (b.ren ρ) := by
  have cells : b.isLoop = false → CellsOK c B b → CellsOK c' B (b.ren ρ) := by
    intro hl k
    obtain ⟨arr, fr, cap, us, rest, h1, h2, h3, h4, h5, h6⟩ := k.ex
    obtain ⟨r1, r2, r3, r4, r5⟩ := ren_len ρ b
    refine ⟨by rw [r2]; exact k.pos, ⟨arr, fr, cap, us, rest, by rw [r5]; exact hh _ h1, h2, by rw [r2]; exact h3, h4, by rw [ren_vrows, rens_flatten]; exact RelVs.ren h _ _ h5, h6⟩, fun r hr => ?_, hI, ?_⟩
    · rw [ren_vrows] at hr
      obtain ⟨r0, h0, rfl⟩ := List.mem_map.1 hr
      rw [rens_map, List.length_map, r2]; exact k.rows r0 h0
    · cases b with
      | flat => exact k.plain
      | gen => trivial
      | loop => trivial
  cases b with
  | flat e s rows p => exact cells rfl k
  | gen e s rows p => exact cells rfl k
  | loop st pe ts ps a b p =>
    obtain ⟨L, h1, h2, h3, h4, h5, h6, h7⟩ := k.ex
    have e : (V.rens ρ ts).length = ts.length := by rw [rens_map]; simp
    exact ⟨⟨L, hh _ h1, h2, RelVs.ren h _ _ h3, h4, by rw [e]; exact h5, by rw [e]; exact h6, by rw [e]; exact h7⟩, hI⟩

/-- A block that holds no row by value, under another set of what is unchanging. -/
theorem BlkOK.noI {c : Cx} (I : Imm) {B : Nat} {b : Blk} (hb : b.noRs = true) (hI : ∀ o, ¬ I B o) (k : BlkOK P c B b) : BlkOK P { c with I := I } B b := by
  cases b with
  | flat e s rows p =>
    obtain ⟨arr, fr, cap, us, rest, h1, h2, h3, h4, h5, h6⟩ := CellsOK.ex k
    have hr : ((Blk.flat e s rows p).vrows).all V.noRss = true := by
      rw [List.all_eq_true]
      intro r hr
      simp only [Blk.vrows] at hr
      obtain ⟨r0, h0, rfl⟩ := List.mem_map.1 hr
      have hsc := CellsOK.plain k r0 h0
      clear hr h0
      induction r0 with
      | nil => rfl
      | cons x r0 ih =>
        simp only [List.map_cons, V.noRss, Bool.and_eq_true]
        exact ⟨by have := hsc x (by simp); cases x <;> simp_all [D.scalar, V.noRs, D.noRs], ih fun y hy => hsc y (by simp [hy])⟩
    exact ⟨CellsOK.pos k, ⟨arr, fr, cap, us, rest, h1, h2, h3, h4, RelVs.noI_flat I hr h5, h6⟩, CellsOK.rows k, hI, CellsOK.plain k⟩
  | gen e s rows p =>
    obtain ⟨arr, fr, cap, us, rest, h1, h2, h3, h4, h5, h6⟩ := CellsOK.ex k
    exact ⟨CellsOK.pos k, ⟨arr, fr, cap, us, rest, h1, h2, h3, h4, RelVs.noI_flat I (by simpa [Blk.noRs, Blk.vrows] using hb) h5, h6⟩, CellsOK.rows k, hI, CellsOK.plain k⟩
  | loop st pe ts ps a b p =>
    obtain ⟨L, h1, h2, h3, h4, h5, h6, h7⟩ := LoopOK.ex k
    exact ⟨⟨L, h1, h2, RelVs.noI I _ _ (by simpa [Blk.noRs] using hb) h3, h4, h5, h6, h7⟩, hI⟩

/-! ### by value -/

/-- What is unchanging while a callee runs that was handed blocks 'bv' by value. -/
def immOf (c : Cx) (bv : List Nat) : Imm := fun b o => c.I b o ∨ ∃ id, id ∈ bv ∧ ∃ blk : Blk, c.m[id]? = some blk ∧ c.φ id = some b ∧ o < blk.len * blk.size

theorem toDs_eq : ∀ {l : List V} {ds : List D}, toDs l = some ds → l = ds.map V.d
  | [], ds, h => by simp [toDs] at h; subst h; rfl
  | .d x :: r, ds, h => by
    simp only [toDs] at h
    obtain ⟨l, hl, rfl⟩ := Option.map_eq_some_iff.1 h
    rw [toDs_eq hl]; rfl
  | .un :: r, ds, h => by simp [toDs] at h
  | .ptr .. :: r, ds, h => by simp [toDs] at h
  | .sl .. :: r, ds, h => by simp [toDs] at h
  | .sa .. :: r, ds, h => by simp [toDs] at h
  | .pa .. :: r, ds, h => by simp [toDs] at h
  | .fn .. :: r, ds, h => by simp [toDs] at h
  | .yl .. :: r, ds, h => by simp [toDs] at h
  | .ifc .. :: r, ds, h => by simp [toDs] at h
  | .agg .. :: r, ds, h => by simp [toDs] at h
  | .tup .. :: r, ds, h => by simp [toDs] at h

theorem mapM_toDs : ∀ {l : List (List V)} {rs : List (List D)}, l.mapM toDs = some rs → l = rs.map (List.map V.d)
  | [], rs, h => by simp at h; subst h; rfl
  | r :: l, rs, h => by
    simp only [List.mapM_cons, Option.bind_eq_bind, Option.pure_def] at h
    obtain ⟨a, ha, h⟩ := Option.bind_eq_some_iff.1 h
    obtain ⟨b, hb, h⟩ := Option.bind_eq_some_iff.1 h
    cases h
    rw [toDs_eq ha, mapM_toDs hb]; rfl

/-- Cells that can be read and are unchanging. -/
theorem Seen.held {c : Cx} {I : Imm} {b : Nat} (hk : KeepI c.I I c.w c.w) : ∀ {l : List D} {o : Nat} {us : List Value}, Seen c b o (l.map V.d) us → (∀ j, j < l.length → I b (o + j)) → Held I c.w b o l
  | [], o, us, _, _ => by simp [Held]
  | x :: l, o, us, h, hi => by
    have hr := h.rel
    simp only [List.map_cons, RelVs, RelV] at hr
    obtain ⟨u, us', rfl, h1, h2⟩ := hr
    simp only [Held]
    refine ⟨⟨u, by simpa using h.at_ 0 u (by simp), by simpa using hi 0 (by simp), h.one u (by simp), RelD.keep hk x u h1⟩, ?_⟩
    refine Seen.held hk (us := us') ⟨fun j v hv => ?_, h2, fun v hv => h.one v (by simp [hv])⟩ fun j hj => ?_
    · have := h.at_ (j + 1) v (by simpa using hv)
      rw [show o + 1 + j = o + (j + 1) by omega]; exact this
    · have := hi (j + 1) (by simpa using hj)
      rw [show o + 1 + j = o + (j + 1) by omega]; exact this

theorem heldR_of {I : Imm} {w : World} {b s : Nat} : ∀ {rows : List (List D)} {o : Nat}, (∀ r, r ∈ rows → r.length = s) → Held I w b o rows.flatten → HeldR I w s b o rows
  | [], o, _, _ => by simp [HeldR]
  | r :: rows, o, hl, h => by
    simp only [List.flatten_cons] at h
    simp only [HeldR]
    have hr := hl r (by simp)
    refine ⟨by simpa using h.take r.length, heldR_of (fun x hx => hl x (List.mem_cons_of_mem _ hx)) ?_⟩
    have := h.drop r.length
    rw [hr] at this
    simpa [← hr] using this

theorem byvalS_ok {c : Cx} (hs : PSim P c) {bv : List Nat} (v : V) (u : Value) (hsl : (∃ id n off len, v = .sl id n off len) ∨ ∃ id n row off s len, v = .sa id n row off s len) (hb : ∀ i, i ∈ v.slids → i ∈ bv) (h : RelV c v u) : RelV { c with I := immOf c bv } (byvalS c.m v) u := by
  have hkeep : KeepI c.I (immOf c bv) c.w c.w := fun b o h => ⟨.inl h, fun _ h => h⟩
  rcases hsl with ⟨id, n, off, len, rfl⟩ | ⟨id, n, row, off, s, len, rfl⟩
  · have hid : id ∈ bv := hb id (by simp [V.slids])
    have hx := h
    simp only [RelV] at h
    obtain ⟨blk, ad, cap, hbk, hn, rfl, hcap, h⟩ := h
    simp only [byvalS, hbk]
    -- the common part
    have main : ∀ (fl : Bool) (rows' : List (List D)), n = blk.len → off + len ≤ n → blk.isLoop = false → (blk.vrows.drop off).take len = rows'.map (List.map V.d) → (fl = true → ∀ r, r ∈ rows' → ∀ y, y ∈ r → D.scalar y = true) →
        RelV { c with I := immOf c bv } (.d (.rs fl blk.size rows' false)) (.slice (some ad) len cap) := by
      intro fl rows' h1 h2 h3 h4 h5
      obtain ⟨B, e, hφ, rfl, hsh⟩ := h h1
      have hk := hs.cellsOK hbk hφ h3
      have hvl : blk.vrows.length = n := by cases blk <;> simp_all [Blk.vrows, Blk.len, Blk.isLoop]
      have hrl : rows'.length = len := by
        have := congrArg List.length h4
        simp at this; omega
      have hrows : ∀ r, r ∈ rows' → r.length = blk.size := fun r hr => by
        have : r.map V.d ∈ (blk.vrows.drop off).take len := by rw [h4]; exact List.mem_map.2 ⟨r, hr, rfl⟩
        have := hk.rows _ (List.mem_of_mem_drop (List.mem_of_mem_take this))
        simpa using this
      have hrs : rowsOf c.m (.sl id n off len) = some (rows'.map (List.map V.d)) := by
        cases blk with
        | flat e s rws p => simp only [rowsOf, hbk, Option.bind_some]; rw [if_pos ⟨h1, h2⟩, ← h4]; simp [Blk.vrows]
        | gen e s rws p => simp only [rowsOf, hbk, Option.bind_some]; rw [if_pos ⟨h1, h2⟩, ← h4]; simp [Blk.vrows]
        | loop => cases h3
      rcases rows_seen hs hx hrs (size := blk.size) (by simp [sizeOk, hbk]) with ⟨e, _⟩ | ⟨b', o', sp', cap', us, e, hat, hc', hu, hl⟩
      · cases e
      · cases e
        simp only [RelV, RelD]
        refine ⟨hk.pos, h5, hrows, B, off * blk.size, none, cap, by rw [hrl], .inr rfl, by omega, (fun h => by cases h), ?_⟩
        refine heldR_of hrows ?_
        rw [flat_map_d] at hu
        refine Seen.held hkeep hu fun j hj => .inr ⟨id, hid, blk, hbk, hφ, ?_⟩
        rw [flatten_len hrows] at hj
        have : off * blk.size + rows'.length * blk.size ≤ blk.len * blk.size := by rw [← Nat.add_mul]; exact Nat.mul_le_mul_right _ (by simp at h2; omega)
        omega
    cases blk with
    | flat e s rows p =>
      simp only
      split
      · rename_i hc
        obtain ⟨h1, h2⟩ := hc
        refine main true _ h1 h2 rfl (by simp [Blk.vrows]) fun _ r hr y hy => ?_
        obtain ⟨B, e', hφ, _⟩ := h h1
        exact (hs.cellsOK hbk hφ rfl).plain r (List.mem_of_mem_drop (List.mem_of_mem_take hr)) y hy
      · simp only [RelV]
    | gen e s rows p =>
      simp only
      split
      · rename_i hc
        obtain ⟨h1, h2⟩ := hc
        split
        · rename_i r hr
          exact main false r h1 h2 rfl (by rw [← mapM_toDs hr]; simp [Blk.vrows]) (fun h => by cases h)
        · simp only [RelV]
      · simp only [RelV]
    | loop => simp only [RelV]
  · have hid : id ∈ bv := hb id (by simp [V.slids])
    simp only [RelV] at h
    obtain ⟨blk, ad, cap, hbk, hn, rfl, hcap, h⟩ := h
    simp only [byvalS, hbk, Option.bind_some]
    split
    · rename_i cs hcs
      split
      · rename_i hle
        split
        · rename_i ds hds
          obtain ⟨hn', hrow, hl⟩ := row_vrows hcs
          obtain ⟨B, hφ, rfl⟩ := h hn'
          have hk := hs.cellsOK hbk hφ hl
          obtain ⟨us, hu⟩ := hk.seenRow hrow
          have hcs' := toDs_eq hds
          have hcl : cs.length = blk.size := hk.rows cs (List.mem_of_getElem? hrow)
          rw [hcs'] at hu
          have hrl : row < blk.len := by
            have : row < blk.vrows.length := (List.getElem?_eq_some_iff.1 hrow).1
            have hvl : blk.vrows.length = blk.len := by cases blk <;> simp_all [Blk.vrows, Blk.len, Blk.isLoop]
            omega
          have hdl : ds.length = blk.size := by rw [← hcl, hcs']; simp
          have hlen : off + len * s ≤ ds.length := by rw [hdl, ← hcl]; exact hle.2
          have hheld : Held (immOf c bv) c.w B (row * blk.size) ds := Seen.held hkeep hu fun j hj => .inr ⟨id, hid, blk, hbk, hφ, by
            have := Nat.mul_le_mul_right blk.size (show row + 1 ≤ blk.len by omega)
            rw [Nat.add_mul] at this; omega⟩
          simp only [RelV, RelD]
          · refine ⟨hle.1, fun hf r hr y hy => ?_, fun r hr => ?_, B, row * blk.size + off, none, cap, by simp, .inr rfl, by simpa using hcap, (fun h => by cases h), ?_⟩
            · obtain ⟨i, _, rfl⟩ := List.mem_map.1 hr
              exact List.all_eq_true.1 hf y (List.mem_of_mem_drop (List.mem_of_mem_take hy))
            · obtain ⟨i, hi, rfl⟩ := List.mem_map.1 hr
              have := List.mem_range.1 hi
              have h3 := Nat.mul_le_mul_right s (show i + 1 ≤ len by omega)
              rw [Nat.add_mul] at h3
              simp; omega
            · have := Held.rows (s := s) len _ _ (hheld.drop off) (by simp; omega)
              refine (congrArg (HeldR _ _ _ _ _) ?_).mp this
              apply List.map_congr_left
              intro i _
              rw [List.drop_drop]
        · simp only [RelV]
      · simp only [RelV]
    · simp only [RelV]

end Go.Proofs.Ytgalchmjpfmemaa.Den
