/- How the evaluator's values and memory stand to the model's; what keeps that. -/
import Derived.Test.YtgalchmjpfmemaaDenComp
import Derived.Below
namespace Go.Proofs.Ytgalchmjpfmemaa.Den
open Go
set_option linter.unusedVariables false

def OneC : Value → Prop
  | .agg _ => False
  | .tuple _ => False
  | _ => True

abbrev Imm := Nat → Nat → Prop

mutual
def RelD (I : Imm) (w : World) : D → Value → Prop
  | .bool b, v => v = .bool b
  | .int k n, v => v = .int k n
  | .str s, v => v = .string s
  | .nilp, v => v = .pointer none
  | .nils, v => v = .slice none 0 0
  | .nilf, v => v = .nilFunc
  | .nili, v => v = .nilIface
  | .rs fl s rows tight, v => 0 < s ∧ (fl = true → ∀ r, r ∈ rows → ∀ x, x ∈ r → D.scalar x = true) ∧ (∀ r, r ∈ rows → r.length = s) ∧
      ∃ b o sp cap, v = .slice (some ⟨b, o, sp⟩) rows.length cap ∧ (rows = [] ∨ sp = none) ∧ rows.length ≤ cap ∧ (tight = true → cap = rows.length) ∧ HeldR I w s b o rows
  | .rp cells, v => ∃ b o, v = .pointer (some ⟨b, o, none⟩) ∧ Held I w b o cells
def Held (I : Imm) (w : World) (b : Nat) : Nat → List D → Prop
  | _, [] => True
  | o, c :: r => (∃ u, w.cell? ⟨b, o, none⟩ = some u ∧ I b o ∧ OneC u ∧ RelD I w c u) ∧ Held I w b (o + 1) r
def HeldR (I : Imm) (w : World) (s b : Nat) : Nat → List (List D) → Prop
  | _, [] => True
  | o, row :: r => Held I w b o row ∧ HeldR I w s b (o + s) r
end

def Blk.isLoop : Blk → Bool
  | .loop .. => true
  | _ => false

structure Cx where
  φ : Nat → Option Nat
  m : Mem
  I : Imm
  w : World

mutual
def RelV (c : Cx) : V → Value → Prop
  | .d x, v => RelD c.I c.w x v
  | .un, _ => True
  | .ptr id n row off, v => ∃ blk a, c.m[id]? = some blk ∧ n ≤ blk.len ∧ v = .pointer (some a) ∧ (n = blk.len → ∃ B, c.φ id = some B ∧ a = ⟨B, row * blk.size + off, none⟩)
  | .sl id n off len, v => ∃ blk a cap, c.m[id]? = some blk ∧ n ≤ blk.len ∧ v = .slice (some a) len cap ∧ len ≤ cap ∧ (n = blk.len → ∃ B e, c.φ id = some B ∧ a = ⟨B, off * blk.size, none⟩ ∧ c.w.shape? B = some (e, (off + cap) * blk.size))
  | .sa id n row off s len, v => ∃ blk a cap, c.m[id]? = some blk ∧ n ≤ blk.len ∧ v = .slice (some a) len cap ∧ len ≤ cap ∧ (n = blk.len → ∃ B, c.φ id = some B ∧ a = ⟨B, row * blk.size + off, none⟩)
  | .pa id n off len, v => ∃ blk a, c.m[id]? = some blk ∧ n ≤ blk.len ∧ v = .pointer (some a) ∧ (n = blk.len → ∃ B, c.φ id = some B ∧ a = ⟨B, off * blk.size, none⟩)
  | .fn f a b, v => ∃ a' b', v = .func f ⟨a'⟩ ⟨b'⟩ ∧ RelVs c a a' ∧ RelVs c b b'
  | .yl id, v => ∃ blk, c.m[id]? = some blk ∧ blk.isLoop = true ∧ ∃ B, c.φ id = some B ∧ v = .func (.yield B) #[] #[]
  | .ifc t x, v => ∃ u, v = .iface t u ∧ RelV c x u
  | .agg cs, v => ∃ a, v = .agg ⟨a⟩ ∧ RelVs c cs a ∧ ∀ u, u ∈ a → OneC u
  | .tup vs, v => ∃ a, v = .tuple ⟨a⟩ ∧ RelVs c vs a
def RelVs (c : Cx) : List V → List Value → Prop
  | [], l => l = []
  | v :: r, l => ∃ u us, l = u :: us ∧ RelV c v u ∧ RelVs c r us
end

/-! ### data keep their relation where their cells keep -/

/-- The cells of 'I' hold in 'w'' what they hold in 'w'. -/
def KeepI (I I' : Imm) (w w' : World) : Prop := ∀ b o, I b o → I' b o ∧ ∀ u, w.cell? ⟨b, o, none⟩ = some u → w'.cell? ⟨b, o, none⟩ = some u

theorem KeepI.refl (I : Imm) (w : World) : KeepI I I w w := fun _ _ h => ⟨h, fun _ h => h⟩

mutual
theorem RelD.keep {I I' : Imm} {w w' : World} (h : KeepI I I' w w') : ∀ (x : D) (v : Value), RelD I w x v → RelD I' w' x v
  | .bool _, _, r => r
  | .int _ _, _, r => r
  | .str _, _, r => r
  | .nilp, _, r => r
  | .nils, _, r => r
  | .nilf, _, r => r
  | .nili, _, r => r
  | .rs _ s rows _, _, r => by
    simp only [RelD] at r ⊢
    obtain ⟨hs, hf, hl, b, o, sp, cap, e, hsp, h1, h2, h3⟩ := r
    exact ⟨hs, hf, hl, b, o, sp, cap, e, hsp, h1, h2, HeldR.keep h s b o rows h3⟩
  | .rp cells, _, r => by
    simp only [RelD] at r ⊢
    obtain ⟨b, o, e, h1⟩ := r
    exact ⟨b, o, e, Held.keep h b o cells h1⟩
theorem Held.keep {I I' : Imm} {w w' : World} (h : KeepI I I' w w') (b : Nat) : ∀ (o : Nat) (l : List D), Held I w b o l → Held I' w' b o l
  | _, [], _ => by simp only [Held]
  | o, c :: r, q => by
    simp only [Held] at q ⊢
    obtain ⟨⟨u, h1, h2, h3, h4⟩, h5⟩ := q
    exact ⟨⟨u, (h b o h2).2 u h1, (h b o h2).1, h3, RelD.keep h c u h4⟩, Held.keep h b (o + 1) r h5⟩
theorem HeldR.keep {I I' : Imm} {w w' : World} (h : KeepI I I' w w') (s b : Nat) : ∀ (o : Nat) (l : List (List D)), HeldR I w s b o l → HeldR I' w' s b o l
  | _, [], _ => by simp only [HeldR]
  | o, row :: r, q => by
    simp only [HeldR] at q ⊢
    exact ⟨Held.keep h b o row q.1, HeldR.keep h s b (o + s) r q.2⟩
end

/-- What holds of a block's rows, told cell by cell. -/
theorem Held.at {I : Imm} {w : World} {b : Nat} : ∀ {l : List D} {o : Nat}, Held I w b o l → ∀ j x, l[j]? = some x → ∃ u, w.cell? ⟨b, o + j, none⟩ = some u ∧ I b (o + j) ∧ OneC u ∧ RelD I w x u
  | [], _, _, j, x, hx => by simp at hx
  | c :: r, o, h, j, x, hx => by
    simp only [Held] at h
    cases j with
    | zero => simp at hx; subst hx; simpa using h.1
    | succ j =>
      have := Held.at h.2 j x (by simpa using hx)
      rw [show o + (j + 1) = o + 1 + j by omega]; exact this

theorem Held.drop {I : Imm} {w : World} {b : Nat} : ∀ {l : List D} {o : Nat} (k : Nat), Held I w b o l → Held I w b (o + k) (l.drop k)
  | _, _, 0, h => by simpa using h
  | [], _, k + 1, _ => by simp [Held]
  | c :: r, o, k + 1, h => by
    simp only [Held] at h
    have := Held.drop k h.2
    rw [show o + (k + 1) = o + 1 + k by omega]; simpa using this

theorem Held.take {I : Imm} {w : World} {b : Nat} : ∀ {l : List D} {o : Nat} (k : Nat), Held I w b o l → Held I w b o (l.take k)
  | _, _, 0, _ => by simp [Held]
  | [], _, k + 1, _ => by simp [Held]
  | c :: r, o, k + 1, h => by
    simp only [Held, List.take_succ_cons] at h ⊢
    exact ⟨h.1, Held.take k h.2⟩

theorem Held.append {I : Imm} {w : World} {b : Nat} : ∀ {l l' : List D} {o : Nat}, Held I w b o l → Held I w b (o + l.length) l' → Held I w b o (l ++ l')
  | [], _, _, _, h' => by simpa using h'
  | c :: r, l', o, h, h' => by
    simp only [Held, List.cons_append] at h ⊢
    refine ⟨h.1, Held.append h.2 ?_⟩
    rw [show o + 1 + r.length = o + (c :: r).length by simp; omega]; exact h'

theorem HeldR.drop {I : Imm} {w : World} {s b : Nat} : ∀ {l : List (List D)} {o : Nat} (k : Nat), HeldR I w s b o l → HeldR I w s b (o + k * s) (l.drop k)
  | _, _, 0, h => by simpa using h
  | [], _, k + 1, _ => by simp [HeldR]
  | c :: r, o, k + 1, h => by
    simp only [HeldR] at h
    have := HeldR.drop k h.2
    rw [show o + (k + 1) * s = o + s + k * s by rw [Nat.add_mul]; omega]; simpa using this

theorem HeldR.take {I : Imm} {w : World} {s b : Nat} : ∀ {l : List (List D)} {o : Nat} (k : Nat), HeldR I w s b o l → HeldR I w s b o (l.take k)
  | _, _, 0, _ => by simp [HeldR]
  | [], _, k + 1, _ => by simp [HeldR]
  | c :: r, o, k + 1, h => by
    simp only [HeldR, List.take_succ_cons] at h ⊢
    exact ⟨h.1, HeldR.take k h.2⟩

theorem HeldR.at {I : Imm} {w : World} {s b : Nat} {l : List (List D)} {o : Nat} (h : HeldR I w s b o l) (j : Nat) (x : List D) (hx : l[j]? = some x) : Held I w b (o + j * s) x := by
  have h' := h.drop j
  obtain ⟨hj, rfl⟩ := List.getElem?_eq_some_iff.1 hx
  rw [List.drop_eq_getElem_cons hj] at h'
  simp only [HeldR] at h'
  exact h'.1

theorem HeldR.flat {I : Imm} {w : World} {s b : Nat} : ∀ {l : List (List D)} {o : Nat}, (∀ r, r ∈ l → r.length = s) → HeldR I w s b o l → Held I w b o l.flatten
  | [], _, _, _ => by simp [Held]
  | c :: r, o, hl, h => by
    simp only [HeldR, List.flatten_cons] at h ⊢
    refine Held.append h.1 ?_
    rw [hl c (by simp)]
    exact HeldR.flat (fun x hx => hl x (by simp [hx])) h.2

/-! ### values -/

/-- What of a context's values stays true in another one. -/
structure St (c c' : Cx) : Prop where
  keep : KeepI c.I c'.I c.w c'.w
  blk : ∀ id blk, c.m[id]? = some blk → ∃ blk', c'.m[id]? = some blk' ∧ blk.len ≤ blk'.len ∧ (blk.isLoop = true → blk'.isLoop = true ∧ blk'.len = blk.len) ∧
    (blk'.len = blk.len → blk'.size = blk.size ∧ ∀ B, c.φ id = some B → c'.φ id = some B ∧ ∀ e n, c.w.shape? B = some (e, n) → c'.w.shape? B = some (e, n))

mutual
theorem RelV.mono {c c' : Cx} (h : St c c') : ∀ (x : V) (v : Value), RelV c x v → RelV c' x v
  | .d x, v, r => by simp only [RelV] at r ⊢; exact RelD.keep h.keep x v r
  | .un, _, _ => by simp only [RelV]
  | .ptr id n row off, v, r => by
    simp only [RelV] at r ⊢
    obtain ⟨blk, a, h1, h2, hv, h3⟩ := r
    obtain ⟨blk', g1, g2, gl, g3⟩ := h.blk id blk h1
    refine ⟨blk', a, g1, Nat.le_trans h2 g2, hv, fun e => ?_⟩
    have e' : blk'.len = blk.len := by omega
    obtain ⟨gs, gB⟩ := g3 e'
    obtain ⟨B, hB, ha⟩ := h3 (by omega)
    exact ⟨B, (gB B hB).1, by rw [gs]; exact ha⟩
  | .sl id n off len, v, r => by
    simp only [RelV] at r ⊢
    obtain ⟨blk, a, cap, h1, h2, hv, hc, h3⟩ := r
    obtain ⟨blk', g1, g2, gl, g3⟩ := h.blk id blk h1
    refine ⟨blk', a, cap, g1, Nat.le_trans h2 g2, hv, hc, fun e => ?_⟩
    have e' : blk'.len = blk.len := by omega
    obtain ⟨gs, gB⟩ := g3 e'
    obtain ⟨B, e0, hB, ha, hsh⟩ := h3 (by omega)
    exact ⟨B, e0, (gB B hB).1, by rw [gs]; exact ha, by rw [gs]; exact (gB B hB).2 _ _ hsh⟩
  | .sa id n row off s len, v, r => by
    simp only [RelV] at r ⊢
    obtain ⟨blk, a, cap, h1, h2, hv, hc, h3⟩ := r
    obtain ⟨blk', g1, g2, gl, g3⟩ := h.blk id blk h1
    refine ⟨blk', a, cap, g1, Nat.le_trans h2 g2, hv, hc, fun e => ?_⟩
    have e' : blk'.len = blk.len := by omega
    obtain ⟨gs, gB⟩ := g3 e'
    obtain ⟨B, hB, ha⟩ := h3 (by omega)
    exact ⟨B, (gB B hB).1, by rw [gs]; exact ha⟩
  | .pa id n off len, v, r => by
    simp only [RelV] at r ⊢
    obtain ⟨blk, a, h1, h2, hv, h3⟩ := r
    obtain ⟨blk', g1, g2, gl, g3⟩ := h.blk id blk h1
    refine ⟨blk', a, g1, Nat.le_trans h2 g2, hv, fun e => ?_⟩
    have e' : blk'.len = blk.len := by omega
    obtain ⟨gs, gB⟩ := g3 e'
    obtain ⟨B, hB, ha⟩ := h3 (by omega)
    exact ⟨B, (gB B hB).1, by rw [gs]; exact ha⟩
  | .fn f a b, v, r => by
    simp only [RelV] at r ⊢
    obtain ⟨a', b', e, h1, h2⟩ := r
    exact ⟨a', b', e, RelVs.mono h a a' h1, RelVs.mono h b b' h2⟩
  | .yl id, v, r => by
    simp only [RelV] at r ⊢
    obtain ⟨blk, h1, hl, B, hB, hv⟩ := r
    obtain ⟨blk', g1, g2, gl, g3⟩ := h.blk id blk h1
    exact ⟨blk', g1, (gl hl).1, B, ((g3 (gl hl).2).2 B hB).1, hv⟩
  | .ifc t x, v, r => by
    simp only [RelV] at r ⊢
    obtain ⟨u, e, h1⟩ := r
    exact ⟨u, e, RelV.mono h x u h1⟩
  | .agg cs, v, r => by
    simp only [RelV] at r ⊢
    obtain ⟨a, e, h1, h2⟩ := r
    exact ⟨a, e, RelVs.mono h cs a h1, h2⟩
  | .tup vs, v, r => by
    simp only [RelV] at r ⊢
    obtain ⟨a, e, h1⟩ := r
    exact ⟨a, e, RelVs.mono h vs a h1⟩
theorem RelVs.mono {c c' : Cx} (h : St c c') : ∀ (l : List V) (l' : List Value), RelVs c l l' → RelVs c' l l'
  | [], l', r => by simp only [RelVs] at r ⊢; exact r
  | v :: l, l', r => by
    simp only [RelVs] at r ⊢
    obtain ⟨u, us, e, h1, h2⟩ := r
    exact ⟨u, us, e, RelV.mono h v u h1, RelVs.mono h l us h2⟩
end

theorem St.refl (c : Cx) : St c c := ⟨KeepI.refl _ _, fun _ blk h => ⟨blk, h, Nat.le_refl _, fun h => ⟨h, rfl⟩, fun _ => ⟨rfl, fun _ hB => ⟨hB, fun _ _ h => h⟩⟩⟩⟩

theorem St.trans {a b c : Cx} (h : St a b) (k : St b c) : St a c := by
  refine ⟨fun x o hI => ⟨(k.keep x o (h.keep x o hI).1).1, fun u hu => (k.keep x o (h.keep x o hI).1).2 u ((h.keep x o hI).2 u hu)⟩, fun id blk hb => ?_⟩
  obtain ⟨b1, h1, l1, i1, e1⟩ := h.blk id blk hb
  obtain ⟨b2, h2, l2, i2, e2⟩ := k.blk id b1 h1
  refine ⟨b2, h2, Nat.le_trans l1 l2, fun hl => ⟨(i2 (i1 hl).1).1, (i2 (i1 hl).1).2.trans (i1 hl).2⟩, fun e => ?_⟩
  have ea : b1.len = blk.len := by omega
  have eb : b2.len = b1.len := by omega
  refine ⟨(e2 eb).1.trans (e1 ea).1, fun B hB => ?_⟩
  have p1 := (e1 ea).2 B hB
  have p2 := (e2 eb).2 B p1.1
  exact ⟨p2.1, fun e n hs => p2.2 e n (p1.2 e n hs)⟩

/-! ### lists of values -/

theorem RelVs.len {c : Cx} : ∀ {l : List V} {l' : List Value}, RelVs c l l' → l'.length = l.length
  | [], _, h => by simp only [RelVs] at h; simp [h]
  | v :: r, _, h => by
    simp only [RelVs] at h
    obtain ⟨u, us, rfl, _, h2⟩ := h
    simp [RelVs.len h2]

theorem RelVs.at {c : Cx} : ∀ {l : List V} {l' : List Value}, RelVs c l l' → ∀ (j : Nat) (x : V), l[j]? = some x → ∃ u, l'[j]? = some u ∧ RelV c x u
  | [], _, _, j, x, hx => by simp at hx
  | v :: r, _, h, j, x, hx => by
    simp only [RelVs] at h
    obtain ⟨u, us, rfl, h1, h2⟩ := h
    cases j with
    | zero => simp at hx; subst hx; exact ⟨u, by simp, h1⟩
    | succ j => simpa using RelVs.at h2 j x (by simpa using hx)

theorem RelVs.append {c : Cx} : ∀ {l : List V} {l' : List Value} {k : List V} {k' : List Value}, RelVs c l l' → RelVs c k k' → RelVs c (l ++ k) (l' ++ k')
  | [], _, _, _, h, hk => by simp only [RelVs] at h; subst h; simpa using hk
  | v :: r, _, _, _, h, hk => by
    simp only [RelVs] at h
    obtain ⟨u, us, rfl, h1, h2⟩ := h
    simp only [List.cons_append, RelVs]
    exact ⟨u, _, rfl, h1, RelVs.append h2 hk⟩

theorem RelVs.take {c : Cx} : ∀ {l : List V} {l' : List Value} (k : Nat), RelVs c l l' → RelVs c (l.take k) (l'.take k)
  | _, _, 0, _ => by simp [RelVs]
  | [], _, k + 1, h => by simp only [RelVs] at h; subst h; simp [RelVs]
  | v :: r, _, k + 1, h => by
    simp only [RelVs] at h
    obtain ⟨u, us, rfl, h1, h2⟩ := h
    simp only [List.take_succ_cons, RelVs]
    exact ⟨u, _, rfl, h1, RelVs.take k h2⟩

theorem RelVs.drop {c : Cx} : ∀ {l : List V} {l' : List Value} (k : Nat), RelVs c l l' → RelVs c (l.drop k) (l'.drop k)
  | _, _, 0, h => by simpa using h
  | [], _, k + 1, h => by simp only [RelVs] at h; subst h; simp [RelVs]
  | v :: r, _, k + 1, h => by
    simp only [RelVs] at h
    obtain ⟨u, us, rfl, h1, h2⟩ := h
    simpa using RelVs.drop k h2

theorem RelVs.of_all {c : Cx} : ∀ {l : List V} {l' : List Value}, l'.length = l.length → (∀ (j : Nat) (x : V) (u : Value), l[j]? = some x → l'[j]? = some u → RelV c x u) → RelVs c l l'
  | [], l', hl, _ => by simp only [RelVs]; exact List.length_eq_zero_iff.1 (by simpa using hl)
  | v :: r, [], hl, _ => by simp at hl
  | v :: r, u :: us, hl, h => by
    simp only [RelVs]
    exact ⟨u, us, rfl, h 0 v u (by simp) (by simp), RelVs.of_all (by simpa using hl) fun j x y hx hy => h (j + 1) x y (by simpa using hx) (by simpa using hy)⟩

/-! ### the memory -/

def Blk.vrows : Blk → List (List V)
  | .flat _ _ rows _ => rows.map (List.map V.d)
  | .gen _ _ rows _ => rows
  | .loop .. => []

def Blk.elem : Blk → TypeId
  | .flat e _ _ _ => e
  | .gen e _ _ _ => e
  | .loop .. => 0

def Blk.plain : Blk → Prop
  | .flat _ _ rows _ => ∀ r, r ∈ rows → ∀ x, x ∈ r → D.scalar x = true
  | _ => True

structure CellsOK (c : Cx) (B : Nat) (b : Blk) : Prop where
  pos : 0 < b.size
  ex : ∃ arr fr cap us rest, c.w.heap[B]? = some (.cells arr b.elem fr) ∧ (fr.1 = fr.2 ∨ arr.size ≤ fr.1) ∧ arr.size = cap * b.size ∧ arr.toList = us ++ rest ∧
    RelVs c b.vrows.flatten us ∧ ∀ u, u ∈ us → OneC u
  rows : ∀ r, r ∈ b.vrows → r.length = b.size
  noI : ∀ o, ¬ c.I B o
  plain : b.plain

section
variable (P : Program)

structure LoopOK (c : Cx) (B : Nat) (st : LoopState) (pe : Option C) (ts : List V) (ps : List Nat) (a b : C) : Prop where
  ex : ∃ L : Loop, c.w.heap[B]? = some (.loop L) ∧ L.state = st ∧ RelVs c ts L.tmps.toList ∧ L.params.toList = ps ∧
    cCode P ts.length L.assign = some a ∧ cCode P ts.length L.body = some b ∧
    (match pe, L.pending with | none, none => True | some x, some y => cCode P ts.length y = some x | _, _ => False)
  noI : ∀ o, ¬ c.I B o

def BlkOK (c : Cx) (B : Nat) : Blk → Prop
  | .loop st pe ts ps a b _ => LoopOK P c B st pe ts ps a b
  | b => CellsOK c B b

structure PSim (c : Cx) : Prop where
  blk : ∀ id blk B, c.m[id]? = some blk → c.φ id = some B → BlkOK P c B blk
  inj : ∀ i j B, c.φ i = some B → c.φ j = some B → i = j
  dom : ∀ i B, c.φ i = some B → i < c.m.length
  imm : ∀ b o, c.I b o → b < c.w.heap.size
end

/-- May the block be written? -/
def Wr (c : Cx) (b : Nat) : Prop := ∃ (id : Nat) (blk : Blk), c.m[id]? = some blk ∧ blk.prot = false ∧ c.φ id = some b

structure Keeps (c c' : Cx) : Prop where
  size : c.w.heap.size ≤ c'.w.heap.size
  os : c'.w.os = c.w.os
  tape : c'.w.tape = c.w.tape
  output : c'.w.output = c.w.output
  heap : ∀ b o, c.w.heap[b]? = some o → ¬ Wr c b → c'.w.heap[b]? = some o
  fresh : ∀ id B, c'.φ id = some B → c.φ id = some B ∨ c.w.heap.size ≤ B
  prot : ∀ (id : Nat) (blk : Blk), c.m[id]? = some blk → ∃ blk' : Blk, c'.m[id]? = some blk' ∧ blk'.prot = blk.prot
  same : ∀ (id : Nat) (blk : Blk), c.m[id]? = some blk → blk.prot = true → ∃ blk' : Blk, c'.m[id]? = some blk' ∧ blk'.len = blk.len ∧ blk'.size = blk.size ∧ blk'.isLoop = blk.isLoop
  old : ∀ id B, c'.φ id = some B → id < c.m.length → ∃ B0, c.φ id = some B0

theorem Keeps.refl (c : Cx) : Keeps c c := ⟨Nat.le_refl _, rfl, rfl, rfl, fun _ _ h _ => h, fun _ _ h => .inl h, fun _ blk h => ⟨blk, h, rfl⟩, fun _ blk h _ => ⟨blk, h, rfl, rfl, rfl⟩, fun _ B h _ => ⟨B, h⟩⟩

structure Post (P : Program) (c c' : Cx) : Prop where
  st : St c c'
  sim : PSim P c'
  keeps : Keeps c c'
  imm : c'.I = c.I

theorem heap_lt {w : World} {b : Nat} {o : Obj} (h : w.heap[b]? = some o) : b < w.heap.size := (Array.getElem?_eq_some_iff.1 h).1

theorem Wr.back {P : Program} {a b : Cx} (ha : PSim P a) (h : Keeps a b) {k : Nat} (hk : k < a.w.heap.size) (hw : Wr b k) : Wr a k := by
  obtain ⟨id, blk, h1, h2, h3⟩ := hw
  rcases h.fresh id k h3 with h4 | h4
  · have hd := ha.dom id k h4
    obtain ⟨blk0, hb0⟩ : ∃ x, a.m[id]? = some x := ⟨_, List.getElem?_eq_getElem hd⟩
    obtain ⟨blk', g1, g2⟩ := h.prot id blk0 hb0
    rw [h1] at g1; cases g1
    exact ⟨id, blk0, hb0, by rw [← g2]; exact h2, h4⟩
  · omega

theorem Keeps.trans {P : Program} {a b c : Cx} (ha : PSim P a) (h : Keeps a b) (k : Keeps b c) : Keeps a c := by
  refine ⟨Nat.le_trans h.size k.size, k.os.trans h.os, k.tape.trans h.tape, k.output.trans h.output, fun x o hx hw => ?_, fun id B hB => ?_, fun id blk hb => ?_, fun id blk hb hp => ?_, fun id B hB hid => ?_⟩
  · exact k.heap x o (h.heap x o hx hw) fun hw' => hw (hw'.back ha h (heap_lt hx))
  · rcases k.fresh id B hB with h1 | h1
    · exact h.fresh id B h1
    · exact .inr (Nat.le_trans h.size h1)
  · obtain ⟨b1, h1, e1⟩ := h.prot id blk hb
    obtain ⟨b2, h2, e2⟩ := k.prot id b1 h1
    exact ⟨b2, h2, e2.trans e1⟩
  · obtain ⟨b1, h1, e1⟩ := h.prot id blk hb
    obtain ⟨b1', h1', p1, p2, p3⟩ := h.same id blk hb hp
    rw [h1] at h1'; cases h1'
    obtain ⟨b2, h2, q1, q2, q3⟩ := k.same id b1 h1 (by rw [e1]; exact hp)
    exact ⟨b2, h2, q1.trans p1, q2.trans p2, q3.trans p3⟩
  · obtain ⟨b1, h1, _⟩ := h.prot id _ (List.getElem?_eq_getElem hid)
    obtain ⟨B1, hB1⟩ := k.old id B hB (List.getElem?_eq_some_iff.1 h1).1
    exact h.old id B1 hB1 hid

theorem Post.refl {P : Program} {c : Cx} (h : PSim P c) : Post P c c := ⟨St.refl c, h, Keeps.refl c, rfl⟩

theorem Post.trans {P : Program} {a b c : Cx} (ha : PSim P a) (h : Post P a b) (k : Post P b c) : Post P a c :=
  ⟨h.st.trans k.st, k.sim, h.keeps.trans ha k.keeps, k.imm.trans h.imm⟩

end Go.Proofs.Ytgalchmjpfmemaa.Den
