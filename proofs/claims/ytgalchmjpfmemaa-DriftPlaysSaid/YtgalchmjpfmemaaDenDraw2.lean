/- Regions that draw their order: what holds in the midst of the operations that leave all as it was. -/
import Derived.Test.YtgalchmjpfmemaaDenDraw
namespace Go.Proofs.Ytgalchmjpfmemaa.Den
open Go
set_option linter.unusedVariables false
set_option linter.unusedSimpArgs false

variable {P : Program}

def QStep (E : Env) (call : CallT) (oc : OpC) (s s1 : S) (v : V) (r : Mem) : Prop :=
  s1.t = putT s.t oc.dst v ∧ s1.m = s.m ++ r.drop s.m.length ∧
  ((wantedC oc.guard s.t = some true ∧ doI E call oc.ins s.t (s.m.map (Blk.setProt true)) = some (v, r)) ∨
   (wantedC oc.guard s.t = some false ∧ v = .tup [] ∧ r = s.m.map (Blk.setProt true)))

theorem opsQ_trace {E : Env} {call : CallT} : ∀ (l : List OpC) (s s2 : S), opsC (doQ E call) l s = some s2 →
    ∃ (f : Nat → S) (v : Nat → V) (r : Nat → Mem), f 0 = s ∧ f l.length = s2 ∧ ∀ j oc, l[j]? = some oc → QStep E call oc (f j) (f (j + 1)) (v j) (r j)
  | [], s, s2, h => ⟨fun _ => s, fun _ => .un, fun _ => [], rfl, by simp [opsC] at h; exact h, by simp⟩
  | o :: l, s, s2, h => by
    obtain ⟨s1, h1, h2⟩ := opsC_cons h
    obtain ⟨f, v, r, f0, f1, f2⟩ := opsQ_trace l s1 s2 h2
    have : ∃ v0 r0, QStep E call o s s1 v0 r0 := by
      rcases h1 with ⟨v0, m', hw, hd, rfl⟩ | ⟨hw, rfl⟩
      · simp only [doQ] at hd
        obtain ⟨⟨v1, r1⟩, hd', e⟩ := Option.map_eq_some_iff.1 hd
        cases e
        exact ⟨v1, r1, rfl, rfl, .inl ⟨hw, hd'⟩⟩
      · exact ⟨.tup [], s.m.map (Blk.setProt true), rfl, by simp, .inr ⟨hw, rfl, rfl⟩⟩
    obtain ⟨v0, r0, hq⟩ := this
    refine ⟨fun n => match n with | 0 => s | n + 1 => f n, fun n => match n with | 0 => v0 | n + 1 => v n, fun n => match n with | 0 => r0 | n + 1 => r n, rfl, by simpa using f1, fun j oc hj => ?_⟩
    cases j with
    | zero => simp at hj; subst hj; simpa [f0] using hq
    | succ j => simpa using f2 j oc (by simpa using hj)

/-! ### who wrote a temporary last -/

def dstAt (l : List OpC) (i : Nat) : Option Nat := (l[i]?).bind (·.dst)

def WL (l : List OpC) (L : Nat → Bool) : Nat → Nat → Option Nat
  | 0, _ => none
  | n + 1, d => if L n && (dstAt l n == some d) then some n else WL l L n d

theorem WL_spec (l : List OpC) (L : Nat → Bool) (d : Nat) : ∀ n, match WL l L n d with
    | some i => i < n ∧ L i = true ∧ dstAt l i = some d ∧ ∀ j, i < j → j < n → L j = true → dstAt l j ≠ some d
    | none => ∀ j, j < n → L j = true → dstAt l j ≠ some d
  | 0 => by simp [WL]
  | n + 1 => by
    have ih := WL_spec l L d n
    simp only [WL]
    by_cases h : (L n && (dstAt l n == some d)) = true
    · rw [if_pos h]
      simp only [Bool.and_eq_true, beq_iff_eq] at h
      exact ⟨Nat.lt_succ_self n, h.1, h.2, fun j h1 h2 => by omega⟩
    · rw [if_neg h]
      simp only [Bool.and_eq_true, beq_iff_eq, not_and] at h
      cases hw : WL l L n d with
      | none =>
        rw [hw] at ih
        intro j hj hL
        by_cases e : j = n
        · subst e; exact h hL
        · exact ih j (by omega) hL
      | some i =>
        rw [hw] at ih
        obtain ⟨h1, h2, h3, h4⟩ := ih
        refine ⟨by omega, h2, h3, fun j hi hj hL => ?_⟩
        by_cases e : j = n
        · subst e; exact h hL
        · exact h4 j hi (by omega) hL

theorem WL_some {l : List OpC} {L : Nat → Bool} {d n i : Nat} (h1 : i < n) (h2 : L i = true) (h3 : dstAt l i = some d) (h4 : ∀ j, i < j → j < n → L j = true → dstAt l j ≠ some d) : WL l L n d = some i := by
  have := WL_spec l L d n
  cases hw : WL l L n d with
  | none => rw [hw] at this; exact (this i h1 h2 h3).elim
  | some k =>
    rw [hw] at this
    obtain ⟨g1, g2, g3, g4⟩ := this
    congr 1
    rcases Nat.lt_trichotomy i k with h | h | h
    · exact (h4 k h g1 g2 g3).elim
    · exact h.symm
    · exact (g4 i h h1 h2 h3).elim

theorem WL_none {l : List OpC} {L : Nat → Bool} {d n : Nat} (h : ∀ j, j < n → L j = true → dstAt l j ≠ some d) : WL l L n d = none := by
  have := WL_spec l L d n
  cases hw : WL l L n d with
  | none => rfl
  | some k =>
    rw [hw] at this
    exact (h k this.1 this.2.1 this.2.2.1).elim

theorem WL_congr {l : List OpC} {L L' : Nat → Bool} {d : Nat} : ∀ {n : Nat}, (∀ j, j < n → dstAt l j = some d → L j = L' j) → WL l L n d = WL l L' n d
  | 0, _ => rfl
  | n + 1, h => by
    simp only [WL]
    have ih : WL l L n d = WL l L' n d := WL_congr fun j hj => h j (by omega)
    by_cases e : dstAt l n = some d
    · rw [h n (by omega) e, ih]
    · have : (dstAt l n == some d) = false := by simpa using e
      rw [this, ih]
      simp

def tOf (t : Nat → V) (v : Nat → V) (d : Nat) : Option Nat → V
  | none => t d
  | some i => v i

def kOf (k : Nat → Nat) : Option Nat → Nat
  | none => k 0
  | some i => k (i + 1)

/-! ### contexts in the midst -/

def cxK (c : Cx) (N : Mem) (φ : Nat → Option Nat) (w : World) (k : Nat) : Cx := ⟨fun id => if id < k then φ id else none, N.take k, c.I, w⟩

theorem keepI_heap {I : Imm} {w w' : World} (hw : ∀ (b : Nat) (x : Obj), w.heap[b]? = some x → w'.heap[b]? = some x) : KeepI I I w w' :=
  fun b o hI => ⟨hI, fun u hu => cell?_of_heap (hw b) hu⟩

theorem setProt_len (p : Bool) (b : Blk) : (b.setProt p).len = b.len ∧ (b.setProt p).size = b.size ∧ (b.setProt p).isLoop = b.isLoop ∧ (b.setProt p).prot = p ∧ (b.setProt p).vrows = b.vrows ∧ (b.setProt p).elem = b.elem := by
  cases b <;> exact ⟨rfl, rfl, rfl, rfl, rfl, rfl⟩

theorem CellsOK.like {c : Cx} {B : Nat} {b b' : Blk} (h : CellsOK c B b) (h1 : b'.size = b.size) (h2 : b'.vrows = b.vrows) (h3 : b'.elem = b.elem) (h4 : b.plain → b'.plain) : CellsOK c B b' :=
  ⟨by rw [h1]; exact h.pos, by rw [h1, h2, h3]; exact h.ex, by rw [h1, h2]; exact h.rows, h.noI, h4 h.plain⟩

theorem BlkOK.setProt {c : Cx} {B : Nat} {b : Blk} (p : Bool) (h : BlkOK P c B b) : BlkOK P c B (b.setProt p) := by
  cases b with
  | flat e s rows q =>
    have h' : CellsOK c B (.flat e s rows q) := h
    have : CellsOK c B (.flat e s rows p) := h'.like rfl rfl rfl fun x => x
    exact this
  | gen e s rows q =>
    have h' : CellsOK c B (.gen e s rows q) := h
    have : CellsOK c B (.gen e s rows p) := h'.like rfl rfl rfl fun x => x
    exact this
  | loop st pe ts ps x y q => exact h

theorem BlkOK.unProt {c : Cx} {B : Nat} {b : Blk} {p : Bool} (h : BlkOK P c B (b.setProt p)) : BlkOK P c B b := by
  cases b with
  | flat e s rows q =>
    have h' : CellsOK c B (.flat e s rows p) := h
    have : CellsOK c B (.flat e s rows q) := h'.like rfl rfl rfl fun x => x
    exact this
  | gen e s rows q =>
    have h' : CellsOK c B (.gen e s rows p) := h
    have : CellsOK c B (.gen e s rows q) := h'.like rfl rfl rfl fun x => x
    exact this
  | loop st pe ts ps x y q => exact h

theorem cxK_st {c : Cx} {N : Mem} {φ φ' : Nat → Option Nat} {w w' : World} {k k' : Nat} (hk : k ≤ k') (hφ : ∀ id B, φ id = some B → φ' id = some B) (hw : ∀ (b : Nat) (x : Obj), w.heap[b]? = some x → w'.heap[b]? = some x) :
    St (cxK c N φ w k) (cxK c N φ' w' k') := by
  refine ⟨keepI_heap hw, fun id blk hb => ⟨blk, ?_, Nat.le_refl _, fun h => ⟨h, rfl⟩, fun _ => ⟨rfl, fun B hB => ?_⟩⟩⟩
  · simp only [cxK, List.getElem?_take] at hb ⊢
    split at hb
    · rename_i h; rw [if_pos (by omega)]; exact hb
    · cases hb
  · simp only [cxK] at hB ⊢
    split at hB
    · rename_i h
      rw [if_pos (by omega)]
      exact ⟨hφ id B hB, fun e n hs => shape?_of_heap (hw B) hs⟩
    · cases hB

/-- What is given. -/
structure DrH (P : Program) (E : Env) (call : CallT) (nt : Nat) (ops : Array Oper) (l : List OpC) (p : Nat) (f : Nat → S) (v : Nat → V) (r : Nat → Mem) (c : Cx) : Prop where
  hcall : CallOK P E call
  comp : ∀ (i : Nat) (o : Oper), ops[i]? = some o → ∃ oc, l[i]? = some oc ∧ cOpC P nt ops o = some oc
  len : l.length = ops.size
  hp : p ≤ ops.size
  tr : ∀ (j : Nat) (oc : OpC), j < p → l[j]? = some oc → QStep E call oc (f j) (f (j + 1)) (v j) (r j)
  apart : ∀ (i j : Nat) (x y : OpC), i < j → j < p → l[i]? = some x → l[j]? = some y → ((CheckFast.beforeF ops).getD j 0).testBit i = false → apartC x y = true
  sim : PSim P c
  hm : c.m = (f 0).m
  gl : GlOK E c

section
variable {E : Env} {call : CallT} {nt : Nat} {ops : Array Oper} {l : List OpC} {p : Nat} {f : Nat → S} {v : Nat → V} {r : Nat → Mem} {c : Cx}

theorem DrH.pre (H : DrH P E call nt ops l p f v r c) : ∀ (d j : Nat), j + d ≤ p → ∃ e, (f (j + d)).m = (f j).m ++ e
  | 0, j, _ => ⟨[], by simp⟩
  | d + 1, j, hj => by
    obtain ⟨e, he⟩ := H.pre d j (by omega)
    have hlt : j + d < l.length := by have := H.len; have := H.hp; omega
    have := (H.tr (j + d) l[j + d] (by omega) (by simp [hlt])).2.1
    rw [show j + (d + 1) = j + d + 1 by omega, this, he]
    exact ⟨_, by rw [List.append_assoc]⟩

theorem DrH.mono (H : DrH P E call nt ops l p f v r c) {i j : Nat} (h : i ≤ j) (hj : j ≤ p) : (f i).m.length ≤ (f j).m.length := by
  obtain ⟨e, he⟩ := H.pre (j - i) i (by omega)
  rw [show i + (j - i) = j by omega] at he
  rw [he]; simp

theorem DrH.take (H : DrH P E call nt ops l p f v r c) {j : Nat} (hj : j ≤ p) : (f j).m = (f p).m.take (f j).m.length := by
  obtain ⟨e, he⟩ := H.pre (p - j) j (by omega)
  rw [show j + (p - j) = p by omega] at he
  rw [he]; simp

theorem DrH.at (H : DrH P E call nt ops l p f v r c) {j : Nat} (hj : j < p) {id : Nat} (h1 : (f j).m.length ≤ id) (h2 : id < (f (j + 1)).m.length) : (f p).m[id]? = (r j)[id]? := by
  obtain ⟨e, he⟩ := H.pre (p - (j + 1)) (j + 1) (by omega)
  rw [show j + 1 + (p - (j + 1)) = p by omega] at he
  have hlt : j < l.length := by have := H.len; have := H.hp; omega
  have q := (H.tr j l[j] hj (by simp [hlt])).2.1
  rw [he, List.getElem?_append_left h2, q, List.getElem?_append_right h1, List.getElem?_drop]
  congr 1; omega

/-- The temporaries of the text's order, told by who wrote last. -/
theorem DrH.tmps (H : DrH P E call nt ops l p f v r c) (d : Nat) : ∀ n, n ≤ p → (f n).t d = tOf (f 0).t v d (WL l (fun _ => true) n d)
  | 0, _ => rfl
  | n + 1, h => by
    have hlt : n < l.length := by have := H.len; have := H.hp; omega
    have q := (H.tr n l[n] (by omega) (by simp [hlt])).1
    have ih := DrH.tmps H d n (by omega)
    rw [q]
    simp only [WL, dstAt, List.getElem?_eq_getElem hlt, Option.bind_some, Bool.true_and]
    cases hd : l[n].dst with
    | none => simp [putT]; exact ih
    | some x =>
      by_cases e : d = x
      · subst e; simp [putT, upd, tOf]
      · have : ¬ (x = d) := fun h => e h.symm
        simp [putT, upd, e, this]; exact ih

/-- What holds in the midst. -/
structure DrInv (P : Program) (nt : Nat) (l : List OpC) (p : Nat) (f : Nat → S) (v : Nat → V) (c : Cx) (a0 : Act) (L : Nat → Bool) (φ : Nat → Option Nat) (a : Act) (w : World) : Prop where
  size : c.w.heap.size ≤ w.heap.size
  os : w.os = c.w.os
  tape : w.tape = c.w.tape
  output : w.output = c.w.output
  heap : ∀ (b : Nat) (x : Obj), c.w.heap[b]? = some x → w.heap[b]? = some x
  φ0 : ∀ id, id < (f 0).m.length → φ id = c.φ id
  φL : ∀ id B, φ id = some B → (f 0).m.length ≤ id → c.w.heap.size ≤ B ∧ ∃ i, i < p ∧ L i = true ∧ (f i).m.length ≤ id ∧ id < (f (i + 1)).m.length
  inj : ∀ i j B, φ i = some B → φ j = some B → i = j
  lt : ∀ id B, φ id = some B → B < w.heap.size
  noI : ∀ id B, φ id = some B → ∀ o, ¬ c.I B o
  blk : ∀ id blk B j, j ≤ p → ((f p).m.map (Blk.setProt true))[id]? = some blk → φ id = some B → id < (f j).m.length → BlkOK P (cxK c ((f p).m.map (Blk.setProt true)) φ w (f j).m.length) B blk
  tmp : ∀ d j, j ≤ p → kOf (fun i => (f i).m.length) (WL l L p d) ≤ (f j).m.length → RelV (cxK c ((f p).m.map (Blk.setProt true)) φ w (f j).m.length) (tOf (f 0).t v d (WL l L p d)) (a.tmps.getD d undef)
  nt : a.tmps.size = nt
  defers : a.defers = a0.defers

theorem cxK_id {c : Cx} {N : Mem} {φ : Nat → Option Nat} {w : World} {k id : Nat} {B : Nat} (h : (cxK c N φ w k).φ id = some B) : id < k ∧ φ id = some B := by
  simp only [cxK] at h
  split at h
  · exact ⟨‹_›, h⟩
  · cases h

theorem DrInv.psim (H : DrH P E call nt ops l p f v r c) {a0 : Act} {L : Nat → Bool} {φ : Nat → Option Nat} {a : Act} {w : World} (I : DrInv P nt l p f v c a0 L φ a w) {j : Nat} (hj : j ≤ p) :
    PSim P (cxK c ((f p).m.map (Blk.setProt true)) φ w (f j).m.length) := by
  refine ⟨fun id blk B hb hφ => ?_, fun x y B hx hy => I.inj x y B (cxK_id hx).2 (cxK_id hy).2, fun id B hi => ?_, fun b o hI => Nat.lt_of_lt_of_le (H.sim.imm b o hI) I.size⟩
  · obtain ⟨h1, h2⟩ := cxK_id hφ
    refine I.blk id blk B j hj ?_ h2 h1
    simpa [cxK, List.getElem?_take, h1] using hb
  · obtain ⟨h1, h2⟩ := cxK_id hi
    have := H.mono hj (Nat.le_refl p)
    simp only [cxK, List.length_take, List.length_map]
    omega

/-- The beginning. -/
theorem DrInv.start (H : DrH P E call nt ops l p f v r c) {a : Act} (ht : TRel c (f 0).t a) (hnt : a.tmps.size = nt) (n : Nat) :
    DrInv P nt l p f v c a (fun _ => false) c.φ a { c.w with drawn := n } := by
  have hlt : ∀ id B, c.φ id = some B → id < (f 0).m.length := fun id B h => by rw [← H.hm]; exact H.sim.dom id B h
  have hw0 : ∀ (b : Nat) (x : Obj), c.w.heap[b]? = some x → ({ c.w with drawn := n } : World).heap[b]? = some x := fun b x h => h
  have hst : ∀ j, j ≤ p → St c (cxK c ((f p).m.map (Blk.setProt true)) c.φ { c.w with drawn := n } (f j).m.length) := fun j hj => by
    have h0 := H.mono (Nat.zero_le j) hj
    refine ⟨keepI_heap hw0, fun id blk hb => ⟨blk.setProt true, ?_, by rw [(setProt_len true blk).1]; exact Nat.le_refl _, fun h => ⟨by rw [(setProt_len true blk).2.2.1]; exact h, (setProt_len true blk).1⟩, fun _ => ⟨(setProt_len true blk).2.1, fun B hB => ⟨?_, fun e n hs => hs⟩⟩⟩⟩
    · rw [H.hm] at hb
      have hlt' : id < (f 0).m.length := (List.getElem?_eq_some_iff.1 hb).1
      have e := H.take (Nat.zero_le p)
      rw [e, List.getElem?_take, if_pos hlt'] at hb
      simp only [cxK, List.getElem?_take]
      rw [if_pos (by omega), List.getElem?_map, hb]; rfl
    · have := hlt id B hB
      simp only [cxK]; rw [if_pos (by omega)]; exact hB
  refine ⟨Nat.le_refl _, rfl, rfl, rfl, hw0, fun _ _ => rfl, fun id B h h' => ?_, H.sim.inj, fun id B h => H.sim.lt h, fun id B h => H.sim.noI h, fun id blk B j hj hb hφ hid => ?_, fun d j hj hk => ?_, hnt, rfl⟩
  · have := hlt id B h; omega
  · have h1 := hlt id B hφ
    have hb' : ∃ b0, c.m[id]? = some b0 ∧ blk = b0.setProt true := by
      have e := H.take (Nat.zero_le p)
      rw [List.getElem?_map] at hb
      obtain ⟨b0, hb0, rfl⟩ := Option.map_eq_some_iff.1 hb
      refine ⟨b0, ?_, rfl⟩
      rw [H.hm, e, List.getElem?_take, if_pos h1]; exact hb0
    obtain ⟨b0, hb0, rfl⟩ := hb'
    exact (BlkOK.mono (hst j hj) rfl (hw0 B) (H.sim.blk id b0 B hb0 hφ)).setProt true
  · have : WL l (fun _ => false) p d = none := WL_none fun j _ h => by cases h
    rw [this]
    exact RelV.mono (hst j hj) _ _ (ht d)

end
end Go.Proofs.Ytgalchmjpfmemaa.Den
