/- ConfigLess: part 3 of what its proof rests on: an evaluator of the program's code, proved sound; plain functions printed from the code by a program of this session, with proofs; plain laws. No condition. -/
import Derived.Test.YtgalchmjpfmemaaDenconfigLess2

/- One path through a function, walked by the kernel: what tests, calls, loops answer is handed in with its proofs. -/
namespace Go.Proofs.Ytgalchmjpfmemaa.Den
open Go
set_option linter.unusedVariables false
set_option linter.unusedSimpArgs false

/-- What a walk is handed: how a test ends; what a call gives; what a loop comes to; what the instruction with destination 'd' gives. -/
inductive A (E : Env) : Type where
  | b {x c : Bool} (h : x = c)
  | c {f : FuncId} {args : List V} {m : Mem} {rs : List V} {m' : Mem} (h : cl E f args m = some (rs, m'))
  | l {g : List V × Mem → Option (X × (List V × Mem))} {h0 : List V × Mem} {x : X} {h' : List V × Mem} (h : loopG g bound h0 = some (x, h'))
  | y {mm : Mem} {args args1 : List V} (h : V.byvals mm args = args1)
  | o (d : Nat) {i : I} {v : V} (h : ∀ m, doI E (cl E) i (fun _ => .un) m = some (v, m))
  | m (d : Nat) {i : I} {m : Mem} {v : V} {m' : Mem} (h : doI E (cl E) i (fun _ => .un) m = some (v, m'))

/-- A test of what is known. -/
abbrev A.k {E : Env} (c : Bool) : A E := .b (x := c) (c := c) rfl

def A.prop {E : Env} : A E → Prop
  | @A.b _ x w _ => x = w
  | @A.c _ f args mm rs m' _ => cl E f args mm = some (rs, m')
  | @A.l _ g h0 x h' _ => loopG g bound h0 = some (x, h')
  | @A.y _ mm args args1 _ => V.byvals mm args = args1
  | @A.o _ _ i v _ => ∀ mm, doI E (cl E) i (fun _ => .un) mm = some (v, mm)
  | @A.m _ _ i mm v m' _ => doI E (cl E) i (fun _ => .un) mm = some (v, m')

theorem A.holds {E : Env} : ∀ (a : A E), a.prop
  | .b h => h
  | .c h => h
  | .l h => h
  | .y h => h
  | .o _ h => h
  | .m _ h => h

structure W (E : Env) where
  t : List (Nat × V × Bool)
  d : V
  m : Mem
  os : List (A E)
  qs : List Prop

def lookW (d : V) : List (Nat × V × Bool) → Nat → V × Bool
  | [], _ => (d, false)
  | (i, x) :: r, j => match Nat.beq j i with | true => x | false => lookW d r j

noncomputable section
variable {E : Env}

def W.tOf (w : W E) : Nat → V := fun j => (lookW w.d w.t j).1

def knW (w : W E) : O → Option Bool
  | .v (.d (.bool c)) => some c
  | .t i => match lookW w.d w.t i with
    | (.d (.bool c), true) => some c
    | _ => none
  | _ => none

def isK : Option Bool → Bool
  | some _ => true
  | none => false

def testW (o : O) (w : W E) : Option (Bool × W E) :=
  match knW w o with
  | some c => some (c, w)
  | none => match ev E w.tOf o with
    | .d (.bool x) => match w.os with
      | @A.b _ _ c _ :: r => some (c, ⟨(match o with | .t j => (j, .d (.bool c), true) :: w.t | _ => w.t), w.d, w.m, r, (x = c) :: w.qs⟩)
      | _ => none
    | _ => none

def callPre (args args1 : List V) (m : Mem) : Option (List Nat × Bool × List V × Mem) :=
  match distinct (reach m 1000 (V.idss args1) []) && (V.slidss args).all (fun i => !(reach m 1000 (V.idss args1) []).contains i) with
  | true => match pickBlks m (idxOf (reach m 1000 (V.idss args1) [])) (reach m 1000 (V.idss args1) []) with
    | some mc => some (reach m 1000 (V.idss args1) [], (V.slidss args).isEmpty, V.rens (idxOf (reach m 1000 (V.idss args1) [])) args1, mc)
    | none => none
  | false => none

def callPost (m : Mem) (ids : List Nat) (e : Bool) (rs : List V) (m' : Mem) : Option (List V × Mem) :=
  match e || (V.noRss rs && m'.all Blk.noRs) with
  | true => match layBack m' (backRen ids m.length) 0 ids m with
    | some m1 => some (V.rens (backRen ids m.length) rs, m1 ++ restBlks m' (backRen ids m.length) ids.length)
    | none => none
  | false => none

theorem callV_pre {call : CallT} {f : FuncId} {args : List V} {m : Mem} {ids : List Nat} {e : Bool} {a : List V} {mc : Mem} {rs : List V} {m' : Mem} {r : List V × Mem} {args1 : List V} (h0 : V.byvals m args = args1) (h1 : callPre args args1 m = some (ids, e, a, mc)) (h2 : call f a mc = some (rs, m')) (h3 : callPost m ids e rs m' = some r) :
    callV call f args m = some r := by
  subst h0
  unfold callPre at h1
  split at h1
  · rename_i hc
    split at h1
    · rename_i mc' hp
      cases h1
      simp only [callV]
      rw [if_pos hc, hp, Option.bind_some, h2, Option.bind_some]
      unfold callPost at h3
      split at h3
      · rename_i he
        rw [if_pos he]
        split at h3
        · rename_i m1 hl
          simp only [hl, Option.map_some]; exact h3
        · cases h3
      · cases h3
    · cases h1
  · cases h1

/-- An instruction's operands, turned. -/
def I.mapO (f : O → O) : I → I
  | .mov x => .mov (f x)
  | .pick c a b => .pick (f c) (f a) (f b)
  | .alloc e z fl => .alloc e z fl
  | .box e fl s x => .box e fl s (f x)
  | .build z parts => .build z (parts.map fun p => (p.1, p.2.1, f p.2.2))
  | .bslice e fl s n z parts => .bslice e fl s n z (parts.map fun p => (p.1, f p.2))
  | .load g s x => .load g s (f x)
  | .store s x v => .store s (f x) (f v)
  | .nilck x => .nilck (f x)
  | .bin op x y => .bin op (f x) (f y)
  | .beq k n x y => .beq k n (f x) (f y)
  | .unop op x => .unop op (f x)
  | .conv k x => .conv k (f x)
  | .mkfn g a b => .mkfn g (a.map f) (b.map f)
  | .mkif t x => .mkif t (f x)
  | .mksl e fl z b l c => .mksl e fl z b (f l) (f c)
  | .slice s x lo hi mz => .slice s (f x) (lo.map f) (hi.map f) (mz.map f)
  | .slstr x lo hi => .slstr (f x) (lo.map f) (hi.map f)
  | .slarr n s x lo hi mz => .slarr n s (f x) (lo.map f) (hi.map f) (mz.map f)
  | .fieldA o x => .fieldA o (f x)
  | .field g o s x => .field g o s (f x)
  | .idxA s x i => .idxA s (f x) (f i)
  | .idxAA n s x i => .idxAA n s (f x) (f i)
  | .idx g n s x i => .idx g n s (f x) (f i)
  | .idxs x i => .idxs (f x) (f i)
  | .arrP n s x => .arrP n s (f x)
  | .extract i x => .extract i (f x)
  | .call g args => .call (f g) (args.map f)
  | .len x => .len (f x)
  | .lens x => .lens (f x)
  | .lenc n => .lenc n
  | .append e fl s b x y => .append e fl s b (f x) (f y)
  | .copy s x y => .copy s (f x) (f y)
  | .mx xs => .mx (xs.map f)
  | .mn xs => .mn (xs.map f)

def subO (E : Env) (t : Nat → V) (o : O) : O := .v (ev E t o)

theorem evs_sub (t u : Nat → V) (l : List O) : evs E u (l.map (subO E t)) = evs E t l := by simp [evs, subO, ev, Function.comp_def]

theorem fillV_sub (t u : Nat → V) : ∀ (l : List (Nat × Nat × O)) (cs : List V), fillV E u (l.map fun p => (p.1, p.2.1, subO E t p.2.2)) cs = fillV E t l cs
  | [], _ => rfl
  | (a, b, x) :: r, cs => by simp only [List.map_cons, fillV, subO, ev]; rw [← fillV_sub t u r]; rfl

theorem fillRows_sub (t u : Nat → V) (s : Nat) : ∀ (l : List (Nat × O)) (cs : List (List V)), fillRows E u s (l.map fun p => (p.1, subO E t p.2)) cs = fillRows E t s l cs
  | [], _ => rfl
  | (a, x) :: r, cs => by simp only [List.map_cons, fillRows, subO, ev]; rw [← fillRows_sub t u s r]; rfl

theorem optNat_sub (t u : Nat → V) (o : Option O) (d : Nat) : optNat E u (o.map (subO E t)) d = optNat E t o d := by cases o <;> rfl

theorem doI_sub (call : CallT) (i : I) (t u : Nat → V) (m : Mem) : doI E call (i.mapO (subO E t)) u m = doI E call i t m := by
  cases i <;> simp only [I.mapO, doI, evs_sub, fillV_sub, fillRows_sub, optNat_sub] <;> try rfl
  case slice s x lo hi mx => cases mx <;> rfl
  case slarr n s x lo hi mx => cases mx <;> rfl

def mq (q : Bool) (m : Mem) : Mem := match q with | true => m.map (Blk.setProt true) | false => m
def rq (q : Bool) (m m' : Mem) : Mem := match q with | true => restore m m' | false => m'

/-- What tells an instruction in the list of facts. -/
def keyOf (dst : Option Nat) (i : I) : Option Nat :=
  match dst with
  | some d => some d
  | none => match i with
    | .store _ (.t j) _ => some (j + 100000)
    | .copy _ (.t j) _ => some (j + 200000)
    | _ => none

def stepW (q : Bool) (dst : Option Nat) (i : I) (w : W E) : Option (V × Bool × W E) :=
  match i with
  | .mov x => some (ev E w.tOf x, isK (knW w x), w)
  | .pick c a b => match testW c w with
    | some (true, w') => some (ev E w.tOf a, isK (knW w a), w')
    | some (false, w') => some (ev E w.tOf b, isK (knW w b), w')
    | none => none
  | .unop .not x => match ev E w.tOf x with
    | .d (.bool b) => some (.d (.bool !b), isK (knW w x), w)
    | _ => none
  | .call f args => match ev E w.tOf f with
    | .fn (.func g) first cap => match w.os with
      | @A.y _ _ _ args1 _ :: @A.c _ _ _ _ rs m' _ :: r => match callPre (first ++ evs E w.tOf args ++ cap) args1 (mq q w.m) with
        | some (ids, e, a, mc) => match callPost (mq q w.m) ids e rs m' with
          | some (rs', m1) => some (packV rs', false, ⟨w.t, w.d, rq q w.m m1, r, (cl E g a mc = some (rs, m')) :: (V.byvals (mq q w.m) (first ++ evs E w.tOf args ++ cap) = args1) :: w.qs⟩)
          | none => none
        | none => none
      | @A.c _ _ _ _ rs m' _ :: r => match callPre (first ++ evs E w.tOf args ++ cap) (V.byvals (mq q w.m) (first ++ evs E w.tOf args ++ cap)) (mq q w.m) with
        | some (ids, e, a, mc) => match callPost (mq q w.m) ids e rs m' with
          | some (rs', m1) => some (packV rs', false, ⟨w.t, w.d, rq q w.m m1, r, (cl E g a mc = some (rs, m')) :: w.qs⟩)
          | none => none
        | none => none
      | _ => none
    | _ => none
  | i => match (match w.os with
      | @A.o _ d _ v _ :: r => (match keyOf dst i with
        | some d' => (match Nat.beq d d' with | true => some (v, w.m, r, ∀ m, doI E (cl E) (i.mapO (subO E w.tOf)) (fun _ => .un) m = some (v, m)) | false => none)
        | none => none)
      | @A.m _ d _ _ v m' _ :: r => (match keyOf dst i with
        | some d' => (match Nat.beq d d' with | true => some (v, rq q w.m m', r, doI E (cl E) (i.mapO (subO E w.tOf)) (fun _ => .un) (mq q w.m) = some (v, m')) | false => none)
        | none => none)
      | _ => none : Option (V × Mem × List (A E) × Prop)) with
    | some (v, m', r, p) => some (v, false, ⟨w.t, w.d, m', r, p :: w.qs⟩)
    | none => match doI E (fun _ _ _ => none) i w.tOf (mq q w.m) with
      | some (v, m') => some (v, false, ⟨w.t, w.d, rq q w.m m', w.os, w.qs⟩)
      | none => none

def putW (w : W E) (d : Option Nat) (v : V) (k : Bool) : W E :=
  match d with
  | some i => ⟨(i, v, k) :: w.t, w.d, w.m, w.os, w.qs⟩
  | none => w

def guardW (g : Option (Nat × Bool)) (w : W E) : Option (Bool × W E) :=
  match g with
  | none => some (true, w)
  | some (j, want) => match w.tOf j with
    | .tup [] => some (false, w)
    | _ => match testW (.t j) w with
      | some (c, w') => some (c == want, w')
      | none => none

def opsW (q : Bool) : List OpC → W E → Option (W E)
  | [], w => some w
  | o :: r, w => match guardW o.guard w with
    | some (true, w1) => match stepW q o.dst o.ins w1 with
      | some (v, k, w2) => opsW q r (putW w2 o.dst v k)
      | none => none
    | some (false, w1) => opsW q r (putW w1 o.dst (.tup []) false)
    | none => none

def zipW : List Nat → List V → List (Nat × V × Bool)
  | i :: l, v :: r => (i, v, false) :: zipW l r
  | _, _ => []

def walkC : C → W E → Option (X × W E)
  | .skip, w => some (.normal, w)
  | .reg qs ts, w => match opsW true qs w with
    | some w1 => match opsW false ts w1 with
      | some w2 => some (.normal, w2)
      | none => none
    | none => none
  | .seq a b, w => match walkC a w with
    | some (.normal, w') => walkC b w'
    | r => r
  | .cond c a b, w => match testW c w with
    | some (true, w') => walkC a w'
    | some (false, w') => walkC b w'
    | none => none
  | .block id b, w => match walkC b w with
    | some (.exit i, w') => match Nat.beq i id with | true => some (.normal, w') | false => some (.exit i, w')
    | r => r
  | .loop lv lx b, w => match w.os with
    | @A.l _ _ _ x h' _ :: r => some (x, ⟨zipW lx h'.1, .un, h'.2, r, (loopG (roundG (runC E (cl E) b) lv lx w.m.length) bound (lv.map w.tOf, w.m) = some (x, h')) :: w.qs⟩)
    | _ => none
  | .rfun _ _ _ _, _ => none
  | .exit id, w => some (.exit id, w)
  | .scope b, w => walkC b w
  | .ret, w => some (.ret, w)

/-! ### sound -/

theorem lookW_cons {d : V} {i : Nat} {x : V × Bool} {r : List (Nat × V × Bool)} (j : Nat) : lookW d ((i, x) :: r) j = if j = i then x else lookW d r j := by
  simp only [lookW]
  by_cases h : j = i
  · subst h; simp
  · have : Nat.beq j i = false := by
      cases hb : Nat.beq j i with
      | true => exact absurd (Nat.eq_of_beq_eq_true hb) h
      | false => rfl
    simp [this, h]

theorem knW_ev {w : W E} {o : O} {c : Bool} (h : knW w o = some c) : ev E w.tOf o = .d (.bool c) := by
  unfold knW at h
  split at h
  · cases h; rfl
  · split at h
    · rename_i e; cases h; simp only [ev, W.tOf, e]
    · cases h
  · cases h

/-- What is asked has been answered. -/
def W.fine (w : W E) : Prop := ∀ p, p ∈ w.qs → p

theorem testW_sub {o : O} {w w' : W E} {c : Bool} (h : testW o w = some (c, w')) : w'.m = w.m ∧ ∀ p, p ∈ w.qs → p ∈ w'.qs := by
  unfold testW at h
  split at h
  · cases h; exact ⟨rfl, fun _ h => h⟩
  · split at h
    · split at h
      · cases h; exact ⟨rfl, fun p hp => List.mem_cons_of_mem _ hp⟩
      · cases h
    · cases h

theorem testW_ok {o : O} {w w' : W E} {c : Bool} (h : testW o w = some (c, w')) (hf : w'.fine) : ev E w.tOf o = .d (.bool c) ∧ w'.tOf = w.tOf := by
  unfold testW at h
  split at h
  · rename_i hk; cases h; exact ⟨knW_ev hk, rfl⟩
  · split at h
    · rename_i x he
      split at h
      · rename_i c0 _ r _
        cases h
        have hx : x = c := hf _ (by simp)
        subst hx
        refine ⟨he, ?_⟩
        cases o with
        | t j =>
          funext i
          simp only [W.tOf, lookW_cons]
          by_cases e : i = j
          · subst e; rw [if_pos rfl]; exact he.symm
          · rw [if_neg e]
        | v x => rfl
        | g x => rfl
      · cases h
    · cases h

theorem rq_eq (q : Bool) (m : Mem) (i : I) (t : Nat → V) (v : V) (m' : Mem) (h : doI E (cl E) i t (mq q m) = some (v, m')) : (match q with | true => doQ E (cl E) | false => doI E (cl E)) i t m = some (v, rq q m m') := by
  cases q with
  | true => simp only [doQ, mq, rq] at h ⊢; rw [h]; rfl
  | false => simpa only [mq, rq] using h

theorem none_le (c : CallT) : Le (fun _ _ _ => none) c := fun _ _ _ _ h => by cases h

abbrev stepOf (E : Env) (q : Bool) : I → (Nat → V) → Mem → Option (V × Mem) := match q with | true => doQ E (cl E) | false => doI E (cl E)

theorem stepW_sub {q : Bool} {dst : Option Nat} {i : I} {w w' : W E} {v : V} {k : Bool} (h : stepW q dst i w = some (v, k, w')) : ∀ p, p ∈ w.qs → p ∈ w'.qs := by
  unfold stepW at h
  split at h
  · cases h; exact fun _ h => h
  · split at h
    · rename_i ht; cases h; exact (testW_sub ht).2
    · rename_i ht; cases h; exact (testW_sub ht).2
    · cases h
  · split at h
    · cases h; exact fun _ h => h
    · cases h
  · split at h
    · split at h
      · split at h
        · split at h
          · cases h; exact fun p hp => List.mem_cons_of_mem _ (List.mem_cons_of_mem _ hp)
          · cases h
        · cases h
      · split at h
        · split at h
          · cases h; exact fun p hp => List.mem_cons_of_mem _ hp
          · cases h
        · cases h
      · cases h
    · cases h
  · split at h
    · cases h; exact fun p hp => List.mem_cons_of_mem _ hp
    · split at h
      · cases h; exact fun _ h => h
      · cases h

theorem pure_step {q : Bool} {i : I} {t : Nat → V} {m : Mem} {v : V} (h : ∀ m, doI E (cl E) i t m = some (v, m)) : stepOf E q i t m = some (v, m) := by
  cases q with
  | true => simp only [stepOf, doQ, h, Option.map_some, restore]; simp
  | false => simp only [stepOf, h]

theorem stepW_ok {q : Bool} {dst : Option Nat} {i : I} {w w' : W E} {v : V} {k : Bool} (h : stepW q dst i w = some (v, k, w')) (hf : w'.fine) : stepOf E q i w.tOf w.m = some (v, w'.m) ∧ w'.tOf = w.tOf := by
  unfold stepW at h
  split at h
  · cases h; exact ⟨pure_step fun m => rfl, rfl⟩
  · split at h
    · rename_i ht; cases h
      obtain ⟨h1, h2⟩ := testW_ok ht hf
      exact ⟨by rw [(testW_sub ht).1]; exact pure_step fun m => by simp only [doI, h1], h2⟩
    · rename_i ht; cases h
      obtain ⟨h1, h2⟩ := testW_ok ht hf
      exact ⟨by rw [(testW_sub ht).1]; exact pure_step fun m => by simp only [doI, h1], h2⟩
    · cases h
  · split at h
    · rename_i he; cases h; exact ⟨pure_step fun m => by simp only [doI, he, unV, Option.map_some], rfl⟩
    · cases h
  · rename_i f0 args0
    split at h
    · rename_i g first cap hfn
      split at h
      · rename_i args1 hv _ _ _ rs m' hcl r hos
        split at h
        · rename_i ids e a mc hpre
          split at h
          · rename_i rs' m1 hpost
            cases h
            have hc : cl E g a mc = some (rs, m') := hf _ (by simp)
            have hb : V.byvals (mq q w.m) (first ++ evs E w.tOf args0 ++ cap) = args1 := hf _ (by simp)
            refine ⟨?_, rfl⟩
            refine rq_eq q w.m _ _ _ _ ?_
            simp only [doI, hfn, callOf]
            rw [callV_pre hb hpre hc hpost]; rfl
          · cases h
        · cases h
      · rename_i rs m' hcl r hos
        split at h
        · rename_i ids e a mc hpre
          split at h
          · rename_i rs' m1 hpost
            cases h
            have hc : cl E g a mc = some (rs, m') := hf _ (by simp)
            refine ⟨?_, rfl⟩
            refine rq_eq q w.m _ _ _ _ ?_
            simp only [doI, hfn, callOf]
            rw [callV_pre rfl hpre hc hpost]; rfl
          · cases h
        · cases h
      · cases h
    · cases h
  · split at h
    · rename_i v' m' r pp hx
      cases h
      have hd : pp := hf _ (List.mem_cons_self ..)
      refine ⟨?_, rfl⟩
      split at hx
      · split at hx
        · split at hx
          · cases hx
            exact pure_step fun m => by have := hd m; rw [doI_sub] at this; exact this
          · cases hx
        · cases hx
      · split at hx
        · split at hx
          · cases hx
            refine rq_eq q w.m _ _ _ _ ?_
            rw [doI_sub] at hd; exact hd
          · cases hx
        · cases hx
      · cases hx
    · split at h
      · rename_i v' m' hd
        cases h
        exact ⟨rq_eq q w.m _ _ _ _ (doI_mono (none_le _) hd), rfl⟩
      · cases h

theorem putW_tOf {w : W E} {d : Option Nat} {v : V} {k : Bool} : (putW w d v k).tOf = putT w.tOf d v ∧ (putW w d v k).m = w.m ∧ (putW w d v k).qs = w.qs := by
  cases d with
  | none => exact ⟨rfl, rfl, rfl⟩
  | some i =>
    refine ⟨?_, rfl, rfl⟩
    funext j
    simp only [putW, W.tOf, putT, upd, lookW_cons]
    split <;> rfl

theorem guardW_sub {g : Option (Nat × Bool)} {w w' : W E} {b : Bool} (h : guardW g w = some (b, w')) : w'.m = w.m ∧ ∀ p, p ∈ w.qs → p ∈ w'.qs := by
  unfold guardW at h
  split at h
  · cases h; exact ⟨rfl, fun _ h => h⟩
  · split at h
    · cases h; exact ⟨rfl, fun _ h => h⟩
    · split at h
      · rename_i ht; cases h; exact testW_sub ht
      · cases h

theorem guardW_ok {g : Option (Nat × Bool)} {w w' : W E} {b : Bool} (h : guardW g w = some (b, w')) (hf : w'.fine) : wantedC g w.tOf = some b ∧ w'.tOf = w.tOf := by
  unfold guardW at h
  split at h
  · cases h; exact ⟨rfl, rfl⟩
  · rename_i j want
    split at h
    · rename_i e; cases h; exact ⟨by simp only [wantedC, e], rfl⟩
    · split at h
      · rename_i c w1 ht; cases h
        obtain ⟨h1, h2⟩ := testW_ok ht hf
        simp only [ev] at h1
        exact ⟨by simp only [wantedC, h1], h2⟩
      · cases h

theorem opsW_sub {q : Bool} : ∀ {l : List OpC} {w w' : W E}, opsW q l w = some w' → ∀ p, p ∈ w.qs → p ∈ w'.qs
  | [], w, w', h => by simp only [opsW] at h; cases h; exact fun _ h => h
  | o :: l, w, w', h => by
    simp only [opsW] at h
    split at h
    · rename_i w1 hg
      split at h
      · rename_i v k w2 hs
        intro p hp
        exact opsW_sub h p (by rw [putW_tOf.2.2]; exact stepW_sub hs p ((guardW_sub hg).2 p hp))
      · cases h
    · rename_i w1 hg
      intro p hp
      exact opsW_sub h p (by rw [putW_tOf.2.2]; exact (guardW_sub hg).2 p hp)
    · cases h

theorem opsW_ok {q : Bool} : ∀ {l : List OpC} {w w' : W E}, opsW q l w = some w' → w'.fine → opsC (stepOf E q) l ⟨w.tOf, w.m⟩ = some ⟨w'.tOf, w'.m⟩
  | [], w, w', h, _ => by simp only [opsW] at h; cases h; rfl
  | o :: l, w, w', h, hf => by
    simp only [opsW] at h
    split at h
    · rename_i w1 hg
      split at h
      · rename_i v k w2 hs
        have hsub := opsW_sub h
        have hf2 : w2.fine := fun p hp => hf p (hsub p (by rw [putW_tOf.2.2]; exact hp))
        have hf1 : w1.fine := fun p hp => hf2 p (stepW_sub hs p hp)
        obtain ⟨g1, g2⟩ := guardW_ok hg hf1
        obtain ⟨s1, s2⟩ := stepW_ok hs hf2
        have ih := opsW_ok h hf
        rw [putW_tOf.1, putW_tOf.2.1] at ih
        simp only [opsC, g1]
        rw [g2, (guardW_sub hg).1] at s1
        simp only [s1]
        rw [← g2, ← s2]; exact ih
      · cases h
    · rename_i w1 hg
      have hsub := opsW_sub h
      have hf1 : w1.fine := fun p hp => hf p (hsub p (by rw [putW_tOf.2.2]; exact hp))
      obtain ⟨g1, g2⟩ := guardW_ok hg hf1
      have ih := opsW_ok h hf
      rw [putW_tOf.1, putW_tOf.2.1, g2, (guardW_sub hg).1] at ih
      simp only [opsC, g1]
      exact ih
    · cases h

theorem zipW_look : ∀ (l : List Nat) (vs : List V) (m : Mem) (os : List (A E)) (qs : List Prop), W.tOf ⟨zipW l vs, .un, m, os, qs⟩ = look l vs
  | [], vs, _, _, _ => by funext j; simp [zipW, W.tOf, lookW, look]
  | i :: l, [], _, _, _ => by funext j; simp [zipW, W.tOf, lookW, look]
  | i :: l, v :: vs, m, os, qs => by
    have ih := zipW_look l vs m os qs
    funext j
    have := congrFun ih j
    simp only [W.tOf] at this
    simp only [zipW, W.tOf, lookW_cons, look]
    split
    · rfl
    · exact this

theorem walkC_sub : ∀ {c : C} {w w' : W E} {x : X}, walkC c w = some (x, w') → ∀ p, p ∈ w.qs → p ∈ w'.qs
  | .skip, w, w', x, h => by simp only [walkC] at h; cases h; exact fun _ h => h
  | .reg qs ts, w, w', x, h => by
    simp only [walkC] at h
    split at h
    · rename_i w1 h1
      split at h
      · rename_i w2 h2
        cases h
        exact fun p hp => opsW_sub h2 p (opsW_sub h1 p hp)
      · cases h
    · cases h
  | .seq a b, w, w', x, h => by
    simp only [walkC] at h
    cases h1 : walkC a w with
    | none => simp [h1] at h
    | some r =>
      obtain ⟨y, w1⟩ := r
      rw [h1] at h
      cases y with
      | normal => exact fun p hp => walkC_sub h p (walkC_sub h1 p hp)
      | exit i => cases h; exact walkC_sub h1
      | ret => cases h; exact walkC_sub h1
  | .cond o a b, w, w', x, h => by
    simp only [walkC] at h
    split at h
    · rename_i w1 h1; exact fun p hp => walkC_sub h p ((testW_sub h1).2 p hp)
    · rename_i w1 h1; exact fun p hp => walkC_sub h p ((testW_sub h1).2 p hp)
    · cases h
  | .block i b, w, w', x, h => by
    simp only [walkC] at h
    cases h1 : walkC b w with
    | none => simp [h1] at h
    | some r =>
      obtain ⟨y, w1⟩ := r
      rw [h1] at h
      cases y with
      | normal => cases h; exact walkC_sub h1
      | exit i => simp only at h; split at h <;> cases h <;> exact walkC_sub h1
      | ret => cases h; exact walkC_sub h1
  | .loop lv lx b, w, w', x, h => by
    simp only [walkC] at h
    split at h
    · cases h; exact fun p hp => List.mem_cons_of_mem _ hp
    · cases h
  | .rfun _ _ _ _, w, w', x, h => by simp [walkC] at h
  | .exit _, w, w', x, h => by simp only [walkC] at h; cases h; exact fun _ h => h
  | .scope b, w, w', x, h => by simp only [walkC] at h; exact walkC_sub h
  | .ret, w, w', x, h => by simp only [walkC] at h; cases h; exact fun _ h => h

theorem walkC_ok : ∀ {c : C} {w w' : W E} {x : X}, walkC c w = some (x, w') → w'.fine → runC E (cl E) c ⟨w.tOf, w.m⟩ = some (x, ⟨w'.tOf, w'.m⟩)
  | .skip, w, w', x, h, _ => by simp only [walkC] at h; cases h; rfl
  | .reg qs ts, w, w', x, h, hf => by
    simp only [walkC] at h
    split at h
    · rename_i w1 h1
      split at h
      · rename_i w2 h2
        cases h
        have e2 := opsW_ok h2 hf
        have e1 := opsW_ok h1 fun p hp => hf p (opsW_sub h2 p hp)
        simp only [stepOf] at e1 e2
        simp only [runC, e1, e2]
      · cases h
    · cases h
  | .seq a b, w, w', x, h, hf => by
    simp only [walkC] at h
    cases h1 : walkC a w with
    | none => simp [h1] at h
    | some r =>
      obtain ⟨y, w1⟩ := r
      rw [h1] at h
      cases y with
      | normal =>
        have e1 := walkC_ok h1 fun p hp => hf p (walkC_sub h p hp)
        simp only [runC, e1]
        exact walkC_ok h hf
      | exit i => cases h; simp only [runC, walkC_ok h1 hf]
      | ret => cases h; simp only [runC, walkC_ok h1 hf]
  | .cond o a b, w, w', x, h, hf => by
    simp only [walkC] at h
    split at h
    · rename_i w1 h1
      obtain ⟨g1, g2⟩ := testW_ok h1 fun p hp => hf p (walkC_sub h p hp)
      simp only [runC, g1]
      rw [← g2, ← (testW_sub h1).1]; exact walkC_ok h hf
    · rename_i w1 h1
      obtain ⟨g1, g2⟩ := testW_ok h1 fun p hp => hf p (walkC_sub h p hp)
      simp only [runC, g1]
      rw [← g2, ← (testW_sub h1).1]; exact walkC_ok h hf
    · cases h
  | .block i b, w, w', x, h, hf => by
    simp only [walkC] at h
    cases h1 : walkC b w with
    | none => simp [h1] at h
    | some r =>
      obtain ⟨y, w1⟩ := r
      rw [h1] at h
      cases y with
      | normal => cases h; simp only [runC, walkC_ok h1 hf]
      | exit k =>
        simp only at h
        split at h
        · rename_i hb
          cases h
          simp only [runC, walkC_ok h1 hf, Nat.eq_of_beq_eq_true hb, if_true]
        · rename_i hb
          cases h
          have hne : ¬ (k = i) := fun e => by rw [e, Nat.beq_refl] at hb; cases hb
          simp only [runC, walkC_ok h1 hf, hne, if_false]
      | ret => cases h; simp only [runC, walkC_ok h1 hf]
  | .loop lv lx b, w, w', x, h, hf => by
    simp only [walkC] at h
    split at h
    · rename_i y h' hl r hos
      cases h
      have hq : loopG (roundG (runC E (cl E) b) lv lx w.m.length) bound (lv.map w.tOf, w.m) = some (x, h') := hf _ (List.mem_cons_self ..)
      simp only [runC, hq, zipW_look]
    · cases h
  | .rfun _ _ _ _, w, w', x, h, _ => by simp [walkC] at h
  | .exit _, w, w', x, h, _ => by simp only [walkC] at h; cases h; rfl
  | .scope b, w, w', x, h, hf => by simp only [walkC] at h; simp only [runC]; exact walkC_ok h hf
  | .ret, w, w', x, h, _ => by simp only [walkC] at h; cases h; rfl

/-! ### functions, and rounds of loops -/

def argsW : Nat → List V → List (Nat × V × Bool)
  | _, [] => []
  | i, v :: r => (i, v, false) :: argsW (i + 1) r

theorem argsW_look (m : Mem) (os : List (A E)) (qs : List Prop) : ∀ (l : List V) (k j : Nat), W.tOf ⟨argsW k l, .tup [], m, os, qs⟩ j = if k ≤ j then l.getD (j - k) (.tup []) else .tup []
  | [], k, j => by simp [argsW, W.tOf, lookW]
  | v :: r, k, j => by
    have ih := argsW_look m os qs r (k + 1) j
    simp only [W.tOf] at ih
    simp only [argsW, W.tOf, lookW_cons]
    by_cases h : j = k
    · subst h; simp
    · rw [if_neg h, ih]
      by_cases h1 : k ≤ j
      · have h2 : k + 1 ≤ j := by omega
        rw [if_pos h2, if_pos h1]
        obtain ⟨n, rfl⟩ : ∃ n, j = k + 1 + n := ⟨j - (k + 1), by omega⟩
        have e1 : k + 1 + n - (k + 1) = n := by omega
        have e2 : k + 1 + n - k = n + 1 := by omega
        rw [e1, e2]; simp
      · have h2 : ¬ (k + 1 ≤ j) := by omega
        rw [if_neg h2, if_neg h1]

def walkF (E : Env) (F : CFunc) (args : List V) (m : Mem) (os : List (A E)) : Option ((List V × Mem) × List Prop) :=
  match Nat.ble args.length F.ntmps with
  | true => match walkC F.body (⟨argsW 0 args, .tup [], m, os, []⟩ : W E) with
    | some (.exit _, _) => none
    | some (_, w) => match resVs ⟨w.tOf, w.m⟩ F.results with
      | some vs => match tidy m.length (vs, w.m) with
        | some r => some (r, w.qs)
        | none => none
      | none => none
    | none => none
  | false => none

def want (os : List (A E)) : List Prop := (os.map A.prop).reverse

theorem want_fine {os : List (A E)} : ∀ p, p ∈ want os → p := by
  intro p hp
  simp only [want, List.mem_reverse, List.mem_map] at hp
  obtain ⟨a, _, rfl⟩ := hp
  exact a.holds

theorem runF_walk {F : CFunc} {args : List V} {m : Mem} (os : List (A E)) {r : List V × Mem} (h : walkF E F args m os = some (r, want os)) : runF E (cl E) F args m = some r := by
  unfold walkF at h
  split at h
  case h_2 => cases h
  rename_i hl
  have hl := Nat.le_of_ble_eq_true hl
  have e0 : ∀ (os : List (A E)) (qs : List Prop), W.tOf ⟨argsW 0 args, .tup [], m, os, qs⟩ = initT args := by
    intro os qs; funext j; rw [argsW_look]; simp [initT]
  have fin : ∀ (x : X) (w : W E), walkC F.body (⟨argsW 0 args, .tup [], m, os, []⟩ : W E) = some (x, w) → (match resVs ⟨w.tOf, w.m⟩ F.results with
      | some vs => (match tidy m.length (vs, w.m) with | some r => some (r, w.qs) | none => none)
      | none => none) = some (r, want os) → runC E (cl E) F.body ⟨initT args, m⟩ = some (x, ⟨w.tOf, w.m⟩) ∧ (resVs ⟨w.tOf, w.m⟩ F.results).bind (fun vs => tidy m.length (vs, w.m)) = some r := by
    intro x w hw hx
    cases h1 : resVs ⟨w.tOf, w.m⟩ F.results with
    | none => simp [h1] at hx
    | some vs =>
      simp only [h1] at hx
      cases h2 : tidy m.length (vs, w.m) with
      | none => simp [h2] at hx
      | some r0 =>
        simp only [h2] at hx
        obtain ⟨rfl, hq⟩ := Prod.mk.inj (Option.some.inj hx)
        have := walkC_ok hw (fun p hp => want_fine p (by rw [← hq]; exact hp))
        rw [e0] at this
        exact ⟨this, by simp [h2]⟩
  simp only [runF, hl, if_true]
  split at h
  · cases h
  · rename_i x w hne hw
    obtain ⟨h1, h2⟩ := fin x w hw h
    rw [h1]
    cases x with
    | normal => exact h2
    | exit i => exact (hne i rfl).elim
    | ret => exact h2
  · cases h

theorem cl_walk (hE : ∀ f a m, E.ext f a m = none) {f : FuncId} {F : CFunc} (hF : E.cf f = some F) {args : List V} {m : Mem} (os : List (A E)) {r : List V × Mem} (h : walkF E F args m os = some (r, want os)) : cl E f args m = some r :=
  cl_run hE hF (runF_walk os h)

def walkR (E : Env) (b : C) (lv lx : List Nat) (k : Nat) (g : List V × Mem) (os : List (A E)) : Option ((X × (List V × Mem)) × List Prop) :=
  match walkC b (⟨zipW lv g.1, .un, g.2, os, []⟩ : W E) with
  | some (.normal, w) => match tidy k (lv.map w.tOf, w.m) with
    | some h => some ((.normal, h), w.qs)
    | none => none
  | some (x, w) => match tidy k (lx.map w.tOf, w.m) with
    | some h => some ((x, h), w.qs)
    | none => none
  | none => none

theorem round_walk {b : C} {lv lx : List Nat} {k : Nat} {g : List V × Mem} (os : List (A E)) {r : X × (List V × Mem)} (h : walkR E b lv lx k g os = some (r, want os)) : roundG (runC E (cl E) b) lv lx k g = some r := by
  unfold walkR at h
  cases hw : walkC b (⟨zipW lv g.1, .un, g.2, os, []⟩ : W E) with
  | none => simp [hw] at h
  | some y =>
    obtain ⟨x, w⟩ := y
    have key : w.qs = want os → runC E (cl E) b ⟨look lv g.1, g.2⟩ = some (x, ⟨w.tOf, w.m⟩) := fun hq => by
      have := walkC_ok hw (fun p hp => want_fine p (by rw [← hq]; exact hp))
      rw [zipW_look] at this; exact this
    have fin : ∀ l, (match tidy k (List.map w.tOf l, w.m) with | some h => some ((x, h), w.qs) | none => none) = some (r, want os) → ∃ h', tidy k (List.map w.tOf l, w.m) = some h' ∧ r = (x, h') ∧ w.qs = want os := by
      intro l hx
      cases ht : tidy k (List.map w.tOf l, w.m) with
      | none => simp [ht] at hx
      | some h' =>
        simp only [ht] at hx
        obtain ⟨h1, h2⟩ := Prod.mk.inj (Option.some.inj hx)
        exact ⟨h', rfl, h1.symm, h2⟩
    cases x with
    | normal =>
      simp only [hw] at h
      obtain ⟨h', h1, rfl, h3⟩ := fin lv h
      simp only [roundG, key h3, h1, Option.map_some]
    | exit i =>
      simp only [hw] at h
      obtain ⟨h', h1, rfl, h3⟩ := fin lx h
      simp only [roundG, key h3, h1, Option.map_some]
    | ret =>
      simp only [hw] at h
      obtain ⟨h', h1, rfl, h3⟩ := fin lx h
      simp only [roundG, key h3, h1, Option.map_some]
end
end Go.Proofs.Ytgalchmjpfmemaa.Den
