/- Steps of the logical memory: a new block, a block changed or moved; what an address reads. -/
import Derived.Test.YtgalchmjpfmemaaDenRel
namespace Go.Proofs.Ytgalchmjpfmemaa.Den
open Go
set_option linter.unusedVariables false
set_option linter.unusedSimpArgs false

theorem cell?_of_heap {w w' : World} {b o : Nat} (h : ∀ x, w.heap[b]? = some x → w'.heap[b]? = some x) {u : Value} (hu : w.cell? ⟨b, o, none⟩ = some u) : w'.cell? ⟨b, o, none⟩ = some u := by
  unfold World.cell? at hu ⊢
  cases hx : w.heap[b]? with
  | none => simp [hx] at hu
  | some x => rw [hx] at hu; rw [h x hx]; exact hu

theorem shape?_of_heap {w w' : World} {b : Nat} (h : ∀ x, w.heap[b]? = some x → w'.heap[b]? = some x) {e n} (hu : w.shape? b = some (e, n)) : w'.shape? b = some (e, n) := by
  unfold World.shape? at hu ⊢
  cases hx : w.heap[b]? with
  | none => simp [hx] at hu
  | some x => rw [hx] at hu; rw [h x hx]; exact hu

theorem PSim.noI {P : Program} {c : Cx} (h : PSim P c) {id B : Nat} (hφ : c.φ id = some B) (o : Nat) : ¬ c.I B o := by
  have hd := h.dom id B hφ
  obtain ⟨blk, hb⟩ : ∃ x, c.m[id]? = some x := ⟨_, List.getElem?_eq_getElem hd⟩
  have hk := h.blk id blk B hb hφ
  cases blk with
  | flat e s r p => exact hk.noI o
  | gen e s r p => exact hk.noI o
  | loop st pe ts ps a b p => exact hk.noI o

theorem PSim.lt {P : Program} {c : Cx} (h : PSim P c) {id B : Nat} (hφ : c.φ id = some B) : B < c.w.heap.size := by
  have hd := h.dom id B hφ
  obtain ⟨blk, hb⟩ : ∃ x, c.m[id]? = some x := ⟨_, List.getElem?_eq_getElem hd⟩
  have hk := h.blk id blk B hb hφ
  cases blk with
  | flat e s r p => obtain ⟨arr, fr, cap, us, rest, h1, _⟩ := hk.ex; exact heap_lt h1
  | gen e s r p => obtain ⟨arr, fr, cap, us, rest, h1, _⟩ := hk.ex; exact heap_lt h1
  | loop st pe ts ps a b p => obtain ⟨L, h1, _⟩ := hk.ex; exact heap_lt h1

theorem CellsOK.mono {c c' : Cx} (h : St c c') (hI : c'.I = c.I) {B : Nat} {b : Blk} (hh : ∀ x, c.w.heap[B]? = some x → c'.w.heap[B]? = some x) (k : CellsOK c B b) : CellsOK c' B b := by
  obtain ⟨arr, fr, cap, us, rest, h1, h2, h3, h4, h5, h6⟩ := k.ex
  exact ⟨k.pos, ⟨arr, fr, cap, us, rest, hh _ h1, h2, h3, h4, RelVs.mono h _ _ h5, h6⟩, k.rows, by rw [hI]; exact k.noI, k.plain⟩

theorem BlkOK.mono {P : Program} {c c' : Cx} (h : St c c') (hI : c'.I = c.I) {B : Nat} {b : Blk} (hh : ∀ x, c.w.heap[B]? = some x → c'.w.heap[B]? = some x) (k : BlkOK P c B b) : BlkOK P c' B b := by
  cases b with
  | flat e s r p => exact CellsOK.mono h hI hh k
  | gen e s r p => exact CellsOK.mono h hI hh k
  | loop st pe ts ps a b p =>
    obtain ⟨L, h1, h2, h3, h4, h5, h6, h7⟩ := k.ex
    exact ⟨⟨L, hh _ h1, h2, RelVs.mono h _ _ h3, h4, h5, h6, h7⟩, by rw [hI]; exact k.noI⟩

def updφ (φ : Nat → Option Nat) (i : Nat) (B : Nat) : Nat → Option Nat := fun j => if j = i then some B else φ j

/-- A block changed in place, or moved. -/
def cxSet (c : Cx) (id : Nat) (b' : Blk) (B' : Nat) (w' : World) : Cx := ⟨updφ c.φ id B', c.m.set id b', c.I, w'⟩

structure Turn (P : Program) (c : Cx) (id : Nat) (b b' : Blk) (B B' : Nat) (w' : World) : Prop where
  sim : PSim P c
  hb : c.m[id]? = some b
  hφ : c.φ id = some B
  prot : b.prot = false
  prot' : b'.prot = false
  nl : b.isLoop = false
  size : b'.size = b.size
  len : b.len ≤ b'.len
  eq : b'.len = b.len → B' = B ∧ ∀ e n, c.w.shape? B = some (e, n) → w'.shape? B = some (e, n)
  place : B' = B ∨ c.w.heap.size ≤ B'
  other : ∀ k o, k ≠ B' → c.w.heap[k]? = some o → w'.heap[k]? = some o
  grows : c.w.heap.size ≤ w'.heap.size
  os : w'.os = c.w.os
  tape : w'.tape = c.w.tape
  output : w'.output = c.w.output

theorem Turn.st {P c id b b' B B' w'} (h : Turn P c id b b' B B' w') : St c (cxSet c id b' B' w') := by
  have hid : id < c.m.length := h.sim.dom id B h.hφ
  refine ⟨fun x o hI => ⟨hI, fun u hu => ?_⟩, fun i blk hi => ?_⟩
  · refine cell?_of_heap (fun y hy => h.other x y (fun e => ?_) hy) hu
    subst e
    rcases h.place with e | e
    · subst e; exact h.sim.noI h.hφ o hI
    · have := h.sim.imm _ _ hI; omega
  · by_cases e : i = id
    · subst e
      rw [h.hb] at hi; cases hi
      refine ⟨b', by simp [cxSet, List.getElem?_set, hid], h.len, fun hl => (by rw [h.nl] at hl; cases hl), fun he => ⟨h.size, fun C hC => ?_⟩⟩
      rw [h.hφ] at hC; cases hC
      obtain ⟨e1, e2⟩ := h.eq he
      exact ⟨by simp [cxSet, updφ, e1], e2⟩
    · refine ⟨blk, by simp [cxSet, List.getElem?_set, Ne.symm e, hi], Nat.le_refl _, fun hl => ⟨hl, rfl⟩, fun _ => ⟨rfl, fun C hC => ⟨by simp [cxSet, updφ, e, hC], fun e' n hs => ?_⟩⟩⟩
      refine shape?_of_heap (fun y hy => h.other C y (fun ec => ?_) hy) hs
      subst ec
      rcases h.place with e3 | e3
      · subst e3; exact e (h.sim.inj i id _ hC h.hφ)
      · have := h.sim.lt hC; omega

theorem Turn.post {P c id b b' B B' w'} (h : Turn P c id b b' B B' w') (hc : BlkOK P (cxSet c id b' B' w') B' b') : Post P c (cxSet c id b' B' w') := by
  have hid : id < c.m.length := h.sim.dom id B h.hφ
  have hst := h.st
  refine ⟨hst, ⟨fun i blk C hi hC => ?_, fun i j C hi hj => ?_, fun i C hi => ?_, fun x o hI => Nat.lt_of_lt_of_le (h.sim.imm x o hI) h.grows⟩, ⟨h.grows, h.os, h.tape, h.output, fun x o hx hw => ?_, fun i C hi => ?_, fun i blk hi => ?_, fun i blk hi hpr => ?_, fun i C hi _ => by
    by_cases e : i = id
    · exact ⟨B, by rw [e]; exact h.hφ⟩
    · exact ⟨C, by simpa [cxSet, updφ, e] using hi⟩⟩, rfl⟩
  · by_cases e : i = id
    · subst e
      simp [cxSet, List.getElem?_set, hid] at hi
      simp [cxSet, updφ] at hC
      subst hi; subst hC; exact hc
    · have hi' : c.m[i]? = some blk := by simpa [cxSet, List.getElem?_set, Ne.symm e] using hi
      have hC' : c.φ i = some C := by simpa [cxSet, updφ, e] using hC
      refine BlkOK.mono hst rfl (fun y hy => h.other C y (fun ec => ?_) hy) (h.sim.blk i blk C hi' hC')
      subst ec
      rcases h.place with e3 | e3
      · subst e3; exact e (h.sim.inj i id _ hC' h.hφ)
      · have := h.sim.lt hC'; omega
  · by_cases ei : i = id <;> by_cases ej : j = id
    · omega
    · simp [cxSet, updφ, ei] at hi; simp [cxSet, updφ, ej] at hj
      subst hi
      rcases h.place with e3 | e3
      · subst e3; rw [ei]; exact (h.sim.inj j id _ hj h.hφ).symm
      · have := h.sim.lt hj; omega
    · simp [cxSet, updφ, ei] at hi; simp [cxSet, updφ, ej] at hj
      subst hj
      rcases h.place with e3 | e3
      · subst e3; rw [ej]; exact h.sim.inj i id _ hi h.hφ
      · have := h.sim.lt hi; omega
    · simp [cxSet, updφ, ei] at hi; simp [cxSet, updφ, ej] at hj
      exact h.sim.inj i j C hi hj
  · by_cases e : i = id
    · subst e; simpa [cxSet] using hid
    · simp [cxSet, updφ, e] at hi; simpa [cxSet] using h.sim.dom i C hi
  · refine h.other x o (fun e => ?_) hx
    subst e
    rcases h.place with e3 | e3
    · subst e3; exact hw ⟨id, b, h.hb, h.prot, h.hφ⟩
    · have := heap_lt hx; omega
  · by_cases e : i = id
    · subst e; simp [cxSet, updφ] at hi; subst hi
      rcases h.place with e3 | e3
      · subst e3; exact .inl h.hφ
      · exact .inr e3
    · simp [cxSet, updφ, e] at hi; exact .inl hi
  · by_cases e : i = id
    · subst e; rw [h.hb] at hi; cases hi
      exact ⟨b', by simp [cxSet, List.getElem?_set, hid], by rw [h.prot, h.prot']⟩
    · exact ⟨blk, by simp [cxSet, List.getElem?_set, Ne.symm e, hi], rfl⟩
  · by_cases e : i = id
    · subst e; rw [h.hb] at hi; cases hi
      rw [h.prot] at hpr; cases hpr
    · exact ⟨blk, by simp [cxSet, List.getElem?_set, Ne.symm e, hi], rfl, rfl, rfl⟩

/-- A new block. -/
def cxNew (c : Cx) (b : Blk) (w' : World) : Cx := ⟨updφ c.φ c.m.length c.w.heap.size, c.m ++ [b], c.I, w'⟩

structure New (P : Program) (c : Cx) (b : Blk) (w' : World) : Prop where
  sim : PSim P c
  other : ∀ (k : Nat) (o : Obj), c.w.heap[k]? = some o → w'.heap[k]? = some o
  grows : c.w.heap.size < w'.heap.size
  os : w'.os = c.w.os
  tape : w'.tape = c.w.tape
  output : w'.output = c.w.output

theorem New.st {P c b w'} (h : New P c b w') : St c (cxNew c b w') := by
  refine ⟨fun x o hI => ⟨hI, fun u hu => cell?_of_heap (h.other x) hu⟩, fun i blk hi => ?_⟩
  have hlt : i < c.m.length := (List.getElem?_eq_some_iff.1 hi).1
  refine ⟨blk, by simp [cxNew, List.getElem?_append_left hlt, hi], Nat.le_refl _, fun hl => ⟨hl, rfl⟩, fun _ => ⟨rfl, fun C hC => ⟨by simp [cxNew, updφ, Nat.ne_of_lt hlt, hC], fun e' n hs => shape?_of_heap (h.other C) hs⟩⟩⟩

theorem New.post {P c b w'} (h : New P c b w') (hc : BlkOK P (cxNew c b w') c.w.heap.size b) : Post P c (cxNew c b w') := by
  have hst := h.st
  have hn : ∀ i C, c.φ i = some C → i ≠ c.m.length := fun i C hi => Nat.ne_of_lt (h.sim.dom i C hi)
  refine ⟨hst, ⟨fun i blk C hi hC => ?_, fun i j C hi hj => ?_, fun i C hi => ?_, fun x o hI => Nat.lt_trans (h.sim.imm x o hI) h.grows⟩, ⟨Nat.le_of_lt h.grows, h.os, h.tape, h.output, fun x o hx hw => h.other x o hx, fun i C hi => ?_, fun i blk hi => ?_, fun i blk hi hpr => ?_, fun i C hi hlt => ⟨C, by simpa [cxNew, updφ, Nat.ne_of_lt hlt] using hi⟩⟩, rfl⟩
  · by_cases e : i = c.m.length
    · subst e
      simp [cxNew] at hi
      simp [cxNew, updφ] at hC
      subst hi; subst hC; exact hc
    · have hC' : c.φ i = some C := by simpa [cxNew, updφ, e] using hC
      have hlt := h.sim.dom i C hC'
      have hi' : c.m[i]? = some blk := by simpa [cxNew, List.getElem?_append_left hlt] using hi
      exact BlkOK.mono hst rfl (h.other C) (h.sim.blk i blk C hi' hC')
  · by_cases ei : i = c.m.length <;> by_cases ej : j = c.m.length
    · omega
    · simp [cxNew, updφ, ei] at hi; simp [cxNew, updφ, ej] at hj
      have := h.sim.lt hj; omega
    · simp [cxNew, updφ, ei] at hi; simp [cxNew, updφ, ej] at hj
      have := h.sim.lt hi; omega
    · simp [cxNew, updφ, ei] at hi; simp [cxNew, updφ, ej] at hj
      exact h.sim.inj i j C hi hj
  · by_cases e : i = c.m.length
    · subst e; simp [cxNew]
    · simp [cxNew, updφ, e] at hi; have := h.sim.dom i C hi; simp [cxNew]; omega
  · by_cases e : i = c.m.length
    · subst e; simp [cxNew, updφ] at hi; subst hi; exact .inr (Nat.le_refl _)
    · simp [cxNew, updφ, e] at hi; exact .inl hi
  · have hlt : i < c.m.length := (List.getElem?_eq_some_iff.1 hi).1
    exact ⟨blk, by simp [cxNew, List.getElem?_append_left hlt, hi], rfl⟩
  · have hlt : i < c.m.length := (List.getElem?_eq_some_iff.1 hi).1
    exact ⟨blk, by simp [cxNew, List.getElem?_append_left hlt, hi], rfl, rfl, rfl⟩

/-- A new block of cells 'us', and what lies behind them. -/
theorem New.cells {P : Program} {c : Cx} {b : Blk} {w' : World} {us rest : List Value} {fr : Nat × Nat} {cap : Nat} (h : New P c b w')
    (hb : b.isLoop = false) (hw : w'.heap[c.w.heap.size]? = some (.cells ⟨us ++ rest⟩ b.elem fr)) (hfr : fr.1 = fr.2 ∨ us.length + rest.length ≤ fr.1)
    (hpos : 0 < b.size) (hcap : us.length + rest.length = cap * b.size) (hus : RelVs c b.vrows.flatten us) (h1 : ∀ u, u ∈ us → OneC u)
    (hrows : ∀ r, r ∈ b.vrows → r.length = b.size) (hpl : b.plain) : Post P c (cxNew c b w') := by
  refine h.post ?_
  have hk : CellsOK (cxNew c b w') c.w.heap.size b :=
    ⟨hpos, ⟨⟨us ++ rest⟩, fr, cap, us, rest, hw, by simpa using hfr, by simpa using hcap, rfl, RelVs.mono h.st _ _ hus, h1⟩, hrows, fun o hI => by have := h.sim.imm _ _ hI; omega, hpl⟩
  cases b with
  | flat e s r p => exact hk
  | gen e s r p => exact hk
  | loop => cases hb

theorem new_alloc {P : Program} {c : Cx} (h : PSim P c) (b : Blk) (o : Obj) : New P c b (c.w.alloc o) :=
  ⟨h, fun k x hk => by have := heap_lt hk; simp only [World.alloc]; rw [Array.getElem?_push_lt (by omega)]; simpa using (Array.getElem?_eq_some_iff.1 hk).2, by simp, rfl, rfl, rfl⟩

theorem heap_alloc_self (w : World) (o : Obj) : (w.alloc o).heap[w.heap.size]? = some o := by unfold World.alloc; simp

/-! ### reading -/

/-- What a row's cell is in the model's memory. -/
theorem flatten_at {α : Type} {s : Nat} : ∀ {l : List (List α)}, (∀ r, r ∈ l → r.length = s) → ∀ (i j : Nat) (r : List α) (x : α), l[i]? = some r → r[j]? = some x → l.flatten[i * s + j]? = some x
  | [], _, i, j, r, x, h, _ => by simp at h
  | c :: l, hl, i, j, r, x, h, hx => by
    have hc := hl c (by simp)
    cases i with
    | zero =>
      simp at h; subst h
      have : j < c.length := (List.getElem?_eq_some_iff.1 hx).1
      simp only [List.flatten_cons, Nat.zero_mul, Nat.zero_add]; rw [List.getElem?_append_left this, hx]
    | succ i =>
      have := flatten_at (fun r hr => hl r (List.mem_cons_of_mem _ hr)) i j r x (by simpa using h) hx
      simp only [List.flatten_cons]
      rw [List.getElem?_append_right (by rw [hc, Nat.add_mul]; omega), hc, show (i + 1) * s + j - s = i * s + j by rw [Nat.add_mul]; omega]
      exact this

theorem flatten_len {α : Type} {s : Nat} : ∀ {l : List (List α)}, (∀ r, r ∈ l → r.length = s) → l.flatten.length = l.length * s
  | [], _ => by simp
  | c :: l, hl => by
    simp only [List.flatten_cons, List.length_append, List.length_cons]
    rw [flatten_len (fun r hr => hl r (List.mem_cons_of_mem _ hr)), hl c (by simp), Nat.add_mul]; omega

theorem CellsOK.cell {c : Cx} {B : Nat} {b : Blk} (h : CellsOK c B b) (k : Nat) (x : V) (hx : b.vrows.flatten[k]? = some x) :
    ∃ u, c.w.cell? ⟨B, k, none⟩ = some u ∧ RelV c x u ∧ OneC u ∧ c.w.frozen? ⟨B, k, none⟩ = false := by
  obtain ⟨arr, fr, cap, us, rest, h1, h2, h3, h4, h5, h6⟩ := h.ex
  obtain ⟨u, hu, hr⟩ := RelVs.at h5 k x hx
  have hk : k < us.length := (List.getElem?_eq_some_iff.1 hu).1
  have ha : arr[k]? = some u := by
    have : arr.toList[k]? = some u := by rw [h4, List.getElem?_append_left hk, hu]
    simpa using this
  have hka : k < arr.size := (Array.getElem?_eq_some_iff.1 ha).1
  refine ⟨u, by simp [World.cell?, h1, ha], hr, h6 u (List.mem_of_getElem? hu), ?_⟩
  obtain ⟨lo, hi⟩ := fr
  simp only [World.frozen?, h1]
  simp only at h2
  rw [Bool.and_eq_false_iff]
  simp
  omega

theorem row_vrows {b : Blk} {n r : Nat} {cs : List V} (h : b.row? n r = some cs) : n = b.len ∧ b.vrows[r]? = some cs ∧ b.isLoop = false := by
  cases b with
  | flat e s rows p =>
    simp only [Blk.row?] at h
    split at h
    · rename_i hn; refine ⟨hn, ?_, rfl⟩; simpa [Blk.vrows] using h
    · cases h
  | gen e s rows p =>
    simp only [Blk.row?] at h
    split at h
    · rename_i hn; exact ⟨hn, h, rfl⟩
    · cases h
  | loop => simp [Blk.row?] at h

theorem PSim.cellsOK {P : Program} {c : Cx} (h : PSim P c) {id B : Nat} {b : Blk} (hb : c.m[id]? = some b) (hφ : c.φ id = some B) (hl : b.isLoop = false) : CellsOK c B b := by
  have := h.blk id b B hb hφ
  cases b with
  | flat => exact this
  | gen => exact this
  | loop => cases hl

end Go.Proofs.Ytgalchmjpfmemaa.Den
