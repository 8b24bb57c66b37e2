/- Each instruction of the evaluator is what the model's operation does: conversions, make, copy, min, max. -/
import Derived.Test.YtgalchmjpfmemaaDenOps9
import Derived.IntWalk
namespace Go.Proofs.Ytgalchmjpfmemaa.Den
open Go
set_option linter.unusedVariables false
set_option linter.unusedSimpArgs false

variable {P : Program}

/-! ### conversions -/

theorem conv_int {s d : TypeId} {k0 k : IntKind} (hs : P.underlying s = some (.int k0)) (hd : P.underlying d = some (.int k)) {j : IntKind} {n : Int} (w : World) : (convert s d (.int j n)).run P w = .ok (.int k (k.wrap n)) w := by
  simp [convert, run_underlying hs, run_underlying hd, Conv.intToInt]

theorem conv_same {s d : TypeId} (hs : P.underlying s = some .string) (hd : P.underlying d = some .string) {x : ByteArray} (w : World) : (convert s d (.string x)).run P w = .ok (.string x) w := by
  simp [convert, run_underlying hs, run_underlying hd]

theorem byteRow_flat (s : ByteArray) : ((byteRow s).map (List.map V.d)).flatten = s.data.toList.map fun b => V.d (.int .u8 b.toNat) := by
  unfold byteRow
  generalize s.data.toList = l
  induction l <;> simp_all

theorem bytes_rel {c : Cx} (l : List UInt8) : RelVs c (l.map fun b => V.d (.int .u8 b.toNat)) (l.map fun b => Value.int .u8 b.toNat) ∧ ∀ u, u ∈ (l.map fun b => Value.int .u8 b.toNat) → OneC u := by
  constructor
  · induction l with
    | nil => simp [RelVs]
    | cons b l ih => simp only [List.map_cons, RelVs]; exact ⟨_, _, rfl, by simp only [RelV, RelD], ih⟩
  · intro u hu
    obtain ⟨b, _, rfl⟩ := List.mem_map.1 hu
    simp [OneC]

/-- '[]byte(s)'. -/
theorem good_ofStr {c : Cx} (hs : PSim P c) {s d e : TypeId} (h1 : P.underlying s = some .string) (h2 : P.underlying d = some (.slice e)) (h3 : P.underlying e = some (.int .u8)) {x : ByteArray} (hx : x.size ≤ 140737488355328) :
    Good P c (c.m ++ [.flat e 1 (byteRow x) false]) (.sl c.m.length x.size 0 x.size) (do pure (.value (← convert s d (.string x)))) := by
  have hcap : x.size ≤ grownCap c.w x.size 0 e := grownCap_le _ _ _ _
  have hxs : x.data.toList.length = x.size := by simp
  let rest : List Value := List.replicate (grownCap c.w x.size 0 e - x.size) (.int .u8 0)
  let us : List Value := x.data.toList.map fun b => Value.int .u8 b.toNat
  let w1 : World := c.w.drew.alloc (.cells ⟨us ++ rest⟩ e)
  let w2 : World := w1.freeze ⟨c.w.heap.size, grownCap c.w x.size 0 e, none⟩ 1
  have hul : us.length = x.size := by simp [us]
  have hal : (us ++ rest).length = grownCap c.w x.size 0 e := by simp [us, rest]; omega
  have hw1 : w1.heap[c.w.heap.size]? = some (.cells ⟨us ++ rest⟩ e (0, 0)) := by
    have := heap_alloc_self c.w.drew (.cells ⟨us ++ rest⟩ e)
    rw [World.size_drew] at this; exact this
  have hsz1 : w1.heap.size = c.w.heap.size + 1 := by simp [w1]
  have hw2 : w2.heap[c.w.heap.size]? = some (.cells ⟨us ++ rest⟩ e (grownCap c.w x.size 0 e, grownCap c.w x.size 0 e + 1)) := by
    simp only [w2, World.freeze]
    simp [Array.getElem?_modify, hw1]
  have hoth : ∀ (k : Nat) (o : Obj), c.w.heap[k]? = some o → w2.heap[k]? = some o := by
    intro k o hk
    have hlt := heap_lt hk
    have h1 : w1.heap[k]? = some o := by
      simp only [w1]; rw [alloc_heap_lt c.w.drew _ k (by simpa using hlt)]; exact hk
    simp only [w2, World.freeze]
    simp [Array.getElem?_modify, show c.w.heap.size ≠ k by omega, h1]
  have hN : New P c (.flat e 1 (byteRow x) false) w2 := ⟨hs, hoth, by simp [w2, World.freeze, hsz1], rfl, rfl, rfl⟩
  have hP := hN.cells (us := us) (rest := rest) (cap := grownCap c.w x.size 0 e) rfl hw2 (.inr (by rw [List.length_append] at hal; simp only; omega)) (by simp [Blk.size])
    (by rw [List.length_append] at hal; simp [Blk.size, hal]) (by simp only [Blk.vrows]; rw [byteRow_flat]; exact (bytes_rel (c := c) _).1) (bytes_rel (c := c) _).2
    (fun r hr => by
      simp only [Blk.vrows, byteRow, List.mem_map] at hr
      obtain ⟨r0, ⟨b, _, rfl⟩, rfl⟩ := hr
      rfl) (fun r hr y hy => by
      simp only [byteRow, List.mem_map] at hr
      obtain ⟨b, _, rfl⟩ := hr
      simp at hy; subst hy; rfl)
  refine Good.new (c' := cxNew c (.flat e 1 (byteRow x) false) w2) (run_v (u := .slice (some ⟨c.w.heap.size, 0, none⟩) x.size (grownCap c.w x.size 0 e)) ?_) rfl hP ?_
  · have hobj : (x.data.map (fun b => Value.int .u8 b.toNat)) ++ Array.replicate (grownCap c.w x.size 0 e - x.size) (Value.int .u8 0) = ⟨us ++ rest⟩ := by
      apply Array.ext'
      simp [us, rest]
    have hshape : w1.shape? c.w.heap.size = some (e, grownCap c.w x.size 0 e) := by
      simp only [World.shape?, hw1, List.size_toArray, hal]
    simp only [convert, Sem.run_bind, run_underlying h1, run_underlying h2, run_underlying h3, Result.andThen_ok, Conv.stringToBytes]
    simp only [run_choose, Question.forced]
    simp only [Bool.false_eq_true, if_false, Result.andThen_ok, Sem.run_bind]
    have hg : (Question.appendCap x.size 0 e).cut (c.w.tape c.w.drawn (.appendCap x.size 0 e)) = grownCap c.w x.size 0 e := rfl
    rw [hg, hobj]
    simp only [newRow, Sem.run_bind, run_newObj, Result.andThen_ok, Sem.run_pure, markStringish, run_shape]
    have e1 : ({ heap := (World.drew c.w).heap.push (.cells ⟨us ++ rest⟩ e), tape := (World.drew c.w).tape, drawn := (World.drew c.w).drawn, os := (World.drew c.w).os, output := (World.drew c.w).output } : World) = w1 := rfl
    change Result.andThen ((match (w1.shape? c.w.heap.size) with | some (_, n) => freeze { block := c.w.heap.size, off := n } 1 | x => pure ()).run P w1) _ = _
    rw [hshape]
    simp [w2, cxNew]
  · have hbl : (Blk.flat e 1 (byteRow x) false).len = x.size := by simp [Blk.len, byteRow]
    have := new_sl (c := c) (b := .flat e 1 (byteRow x) false) (w' := w2) (cap := grownCap c.w x.size 0 e) (e := e) (by rw [hbl]; exact hcap) (by
      simp only [World.shape?, hw2, List.size_toArray, hal, Blk.size]; simp)
    rw [hbl] at this; exact this

theorem strOf_bytes : ∀ {rows : List (List D)} {l : List UInt8}, strOf rows = some l → ∀ {c : Cx} {us : List Value}, RelVs c (rows.map (List.map V.d)).flatten us → us.length = l.length ∧ ∃ ns : List Int, us = ns.map (Value.int .u8) ∧ l = ns.map fun n => UInt8.ofNat n.toNat
  | [], l, h, c, us, hr => by simp [strOf] at h; subst h; simp [RelVs] at hr; subst hr; exact ⟨rfl, [], rfl, rfl⟩
  | r :: rows, l, h, c, us, hr => by
    match r, h with
    | [.int .u8 n], h =>
      simp only [strOf] at h
      obtain ⟨l', hl', rfl⟩ := Option.map_eq_some_iff.1 h
      simp only [List.map_cons, List.map_nil, List.flatten_cons, List.singleton_append, RelVs, RelV, RelD] at hr
      obtain ⟨u, us', rfl, rfl, hr'⟩ := hr
      obtain ⟨h1, ns, h2, h3⟩ := strOf_bytes hl' hr'
      exact ⟨by simp [h1], n :: ns, by simp [h2], by simp [h3]⟩

theorem bytesLoop (P : Program) (f : Value → ByteArray → Sem (ForInStep ByteArray)) (hf : ∀ n s, f (.int .u8 n) s = pure (ForInStep.yield (s.push (UInt8.ofNat n.toNat)))) : ∀ (ns : List Int) (acc : ByteArray) (w : World),
    (forIn (ns.map (Value.int .u8)).toArray acc f).run P w = .ok (ns.foldl (fun a n => a.push (UInt8.ofNat n.toNat)) acc) w
  | ns, acc, w => by
    rw [← Array.forIn_toList]
    simp only
    induction ns generalizing acc with
    | nil => simp
    | cons n ns ih => simp [List.forIn_cons, ih, hf]

theorem foldl_push : ∀ (l : List UInt8) (acc : ByteArray), (l.foldl ByteArray.push acc).data.toList = acc.data.toList ++ l
  | [], acc => by simp
  | b :: l, acc => by simp [foldl_push l]

/-! ### make -/

theorem good_mksl {c : Cx} (hs : PSim P c) {ty e : TypeId} {fl : Bool} {z : List D} {i : TypeInfo} {lv cv : Value} {n cp : Nat} {k1 k2 : IntKind} {b : Blk} (hu : P.underlying ty = some (.slice e)) (hi : P.info? e = some i) (hz : zeroOf P e = some z) (hzl : z.length = i.size) (hpos : 0 < i.size)
    (hl : lv = .int k1 (n : Int)) (hc : cv = .int k2 (cp : Int)) (hnc : n = cp) (hb : cp * i.bytes ≤ 140737488355328) (h63 : cp ≤ 9223372036854775807) (h : mkBlk e fl z.length (List.replicate n (z.map V.d)) = some b) :
    Good P c (c.m ++ [b]) (.sl c.m.length n 0 n) (do pure (.value (← Instr.makeSlice ty lv cv))) := by
  subst hl; subst hc; subst hnc
  obtain ⟨zv, h1, h2⟩ := zeroOf_run hz c.w
  obtain ⟨r1, r2⟩ := constCells_rel (c := c) h2
  have hzv : zv.cells.toList.length = i.size := by rw [r1.len]; simpa using hzl
  have hrep : ∀ r, r ∈ List.replicate n (z.map V.d) → r.length = z.length := fun r hr => by rw [(List.mem_replicate.1 hr).2]; simp
  obtain ⟨q1, q2⟩ := zeros_rel r1 r2 n (by omega)
  have hp := new_block hs h (by omega) hrep q1 q2
  have hbl : b.len = n := by rw [(mkBlk_spec h).2.2.2.2.1]; simp
  have hsz : sizeOfT P e = some i.size := by simp [sizeOfT, hi]
  have hw : IntKind.i64.wrap (n : Int) = (n : Int) := by
    exact IntWalk.i64_in _ (by omega)
  have hcells : (Array.map (fun j => zv.cells.toList.toArray[j % zv.cells.toList.toArray.size]!) (Array.range (n * zv.cells.toList.length))) = ⟨(Array.map (fun j => zv.cells.toList.toArray[j % zv.cells.toList.toArray.size]!) (Array.range (n * zv.cells.toList.length))).toList⟩ := rfl
  refine Good.new (c' := cxNew c b _) (run_v (u := .slice (some ⟨c.w.heap.size, 0, none⟩) n n) ?_) rfl hp ?_
  · have ht1 : ¬ ((n : Int) < 0) := by omega
    have ht2 : ¬ ((281474976710656 : Int) < (i.bytes : Int) * (n : Int)) := by
      have : ((n * i.bytes : Nat) : Int) ≤ 140737488355328 := by omega
      rw [Int.natCast_mul] at this
      rw [Int.mul_comm]; omega
    simp only [Instr.makeSlice, Sem.run_bind, run_underlying hu, Result.andThen_ok, asInt, asIntOf, Sem.run_pure, typeInfo, run_program, hi]
    simp only [hw]
    simp [ht1, ht2, sizeOf_run hsz, newRow]
    by_cases h0 : n * i.size = 0
    · have hn0 : n = 0 := by rcases Nat.mul_eq_zero.1 h0 with h | h <;> omega
      subst hn0
      simp [cxNew]
      rw [show Array.map (fun _ => (default : Value)) (Array.range 0) = ⟨[]⟩ from by apply Array.ext'; simp]
    · have hn0 : ¬ (n = 0) := fun h => h0 (by simp [h])
      have hi0 : ¬ (i.size = 0) := by omega
      simp only [Array.toArray_toList] at *
      have hzs : zv.cells.size = i.size := by rw [← Array.length_toList]; exact hzv
      simp [hn0, hi0, h1, cxNew]
      rw [← hzs] at h0 ⊢
      rw [if_neg h0]
      congr 3
      apply Array.ext'; simp
  · have := new_sl (c := c) (b := b) (w' := c.w.alloc (.cells ⟨(Array.map (fun j => zv.cells.toList.toArray[j % zv.cells.toList.toArray.size]!) (Array.range (n * zv.cells.toList.length))).toList⟩ e)) (cap := n) (e := e) (by omega) (by
      rw [shape_alloc, (mkBlk_spec h).2.2.1, hzl]; have hzs : zv.cells.size = i.size := by rw [← Array.length_toList]; exact hzv
      simp [hzs])
    rw [hbl] at this; exact this

/-! ### min, max -/

theorem fold_max {c : Cx} : ∀ (l : List V) (us : List Value) (k : IntKind) (n : Int) (v : V), RelVs c l us → foldInt.go (fun a b => if b > a then b else a) k n l = some v → ∃ u, (us.foldlM Builtin.max2 (.int k n)).run P c.w = .ok u c.w ∧ RelV c v u
  | [], us, k, n, v, hr, h => by
    simp only [RelVs] at hr; subst hr
    simp [foldInt.go] at h; subst h
    exact ⟨.int k n, by simp, by simp only [RelV, RelD]⟩
  | x :: l, us, k, n, v, hr, h => by
    simp only [RelVs] at hr
    obtain ⟨u, us', rfl, h1, h2⟩ := hr
    match x, h, h1 with
    | .d (.int k' n'), h, h1 =>
      simp only [foldInt.go] at h
      split at h
      case isFalse => cases h
      rename_i hk; subst hk
      simp only [RelV, RelD] at h1; subst h1
      obtain ⟨u, g1, g2⟩ := fold_max l us' k _ v h2 h
      exact ⟨u, by simpa [List.foldlM_cons, Builtin.max2] using g1, g2⟩

theorem fold_min {c : Cx} : ∀ (l : List V) (us : List Value) (k : IntKind) (n : Int) (v : V), RelVs c l us → foldInt.go (fun a b => if b < a then b else a) k n l = some v → ∃ u, (us.foldlM Builtin.min2 (.int k n)).run P c.w = .ok u c.w ∧ RelV c v u
  | [], us, k, n, v, hr, h => by
    simp only [RelVs] at hr; subst hr
    simp [foldInt.go] at h; subst h
    exact ⟨.int k n, by simp, by simp only [RelV, RelD]⟩
  | x :: l, us, k, n, v, hr, h => by
    simp only [RelVs] at hr
    obtain ⟨u, us', rfl, h1, h2⟩ := hr
    match x, h, h1 with
    | .d (.int k' n'), h, h1 =>
      simp only [foldInt.go] at h
      split at h
      case isFalse => cases h
      rename_i hk; subst hk
      simp only [RelV, RelD] at h1; subst h1
      obtain ⟨u, g1, g2⟩ := fold_min l us' k _ v h2 h
      exact ⟨u, by simpa [List.foldlM_cons, Builtin.min2] using g1, g2⟩

theorem max_ok {c : Cx} {l : List V} {us : Array Value} {v : V} (hr : RelVs c l us.toList) (h : foldInt (fun a b => if b > a then b else a) l = some v) (ts : Array TypeId) (t : TypeId) : ∃ u, (Builtin.max_ ts t us).run P c.w = .ok u c.w ∧ RelV c v u := by
  match l, h, hr with
  | .d (.int k n) :: r, h, hr =>
    simp only [RelVs, RelV, RelD] at hr
    obtain ⟨u, us', e, rfl, h2⟩ := hr
    simp only [foldInt] at h
    obtain ⟨u, g1, g2⟩ := fold_max (P := P) r us' k n v h2 h
    exact ⟨u, by simpa [Builtin.max_, e] using g1, g2⟩

theorem min_ok {c : Cx} {l : List V} {us : Array Value} {v : V} (hr : RelVs c l us.toList) (h : foldInt (fun a b => if b < a then b else a) l = some v) (ts : Array TypeId) (t : TypeId) : ∃ u, (Builtin.min_ ts t us).run P c.w = .ok u c.w ∧ RelV c v u := by
  match l, h, hr with
  | .d (.int k n) :: r, h, hr =>
    simp only [RelVs, RelV, RelD] at hr
    obtain ⟨u, us', e, rfl, h2⟩ := hr
    simp only [foldInt] at h
    obtain ⟨u, g1, g2⟩ := fold_min (P := P) r us' k n v h2 h
    exact ⟨u, by simpa [Builtin.min_, e] using g1, g2⟩

end Go.Proofs.Ytgalchmjpfmemaa.Den
