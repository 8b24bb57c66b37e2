/- EqualWithin: part 5 of what its proof rests on: an evaluator of the program's code, proved sound; plain functions printed from the code by a program of this session, with proofs; plain laws. No condition. -/
import Derived.Test.YtgalchmjpfmemaaDenequalWithin4
import Derived.Test.YtgalchmjpfmemaaRows

/- Facts for walks: single instructions on lists and numbers that stand open; loops told by a step on plain states. -/
namespace Go.Proofs.Ytgalchmjpfmemaa.Den
open Go
set_option linter.unusedVariables false
set_option linter.unusedSimpArgs false

/-! ### words of the printed texts -/

abbrev wi (x : Int) : Int := IntKind.i64.wrap x

def encI (k : IntKind) (z : Int) : List D := [.int k z]
def encB (b : Bool) : List D := [.bool b]
def encS (s : ByteArray) : List D := [.str s]

/-- The element at a whole number. -/
def gt {α : Type} [Inhabited α] (l : List α) (i : Int) : α := l.getD i.toNat default
def st {α : Type} (l : List α) (i : Int) (x : α) : List α := l.set i.toNat x
/-- Is a whole number a place? -/
def inb (n : Nat) (i : Int) : Bool := decide (0 ≤ i) && decide (i < (n : Int))
def shrI (k : IntKind) (x y : Int) : Int := x.fdiv (2 ^ (min y.toNat k.bits))
def shlI (k : IntKind) (x y : Int) : Int := k.wrap (x * 2 ^ (min y.toNat k.bits))
def andI (k : IntKind) (x y : Int) : Int := k.wrap (BitVec.ofInt k.bits x &&& BitVec.ofInt k.bits y).toNat
def orI (k : IntKind) (x y : Int) : Int := k.wrap (BitVec.ofInt k.bits x ||| BitVec.ofInt k.bits y).toNat
def xorI (k : IntKind) (x y : Int) : Int := k.wrap (BitVec.ofInt k.bits x ^^^ BitVec.ofInt k.bits y).toNat
def andNotI (k : IntKind) (x y : Int) : Int := k.wrap (BitVec.ofInt k.bits x &&& ~~~BitVec.ofInt k.bits y).toNat
def quoI (k : IntKind) (x y : Int) : Int := k.wrap (x.tdiv y)
def remI (k : IntKind) (x y : Int) : Int := x.tmod y
def mxI (x y : Int) : Int := if y > x then y else x
def mnI (x y : Int) : Int := if y < x then y else x

/-- A slice by value, that is nil, or not. -/
def slD {α : Type} (enc : α → List D) (fl : Bool) (s : Nat) (n : Bool) (l : List α) : D :=
  match n, l with
  | true, [] => .nils
  | _, _ => .rs fl s (l.map enc) false

theorem slD_nil {α : Type} (enc : α → List D) (fl : Bool) (s : Nat) : D.nils = slD enc fl s true ([] : List α) := rfl
theorem slD_rs {α : Type} (enc : α → List D) (fl : Bool) (s : Nat) (l : List α) : D.rs fl s (l.map enc) false = slD enc fl s false l := by cases l <;> rfl

/-- A test (a word that keeps it from being taken for its like elsewhere). -/
def tb (b : Bool) : Bool := b

theorem tbE {b c : Bool} (h : tb b = c) : b = c := h

theorem notT {b : Bool} (h : b = true) : (!b) = false := by rw [h]; rfl
theorem notF {b : Bool} (h : b = false) : (!b) = true := by rw [h]; rfl
theorem tf : ¬ (true = false) := Bool.noConfusion
theorem ft : ¬ (false = true) := Bool.noConfusion

/-! ### loops on plain states -/

def itS {S : Type} (sel : S → Bool) (nx : S → S) : Nat → S → Option S
  | 0, _ => none
  | n + 1, s => match sel s with | true => itS sel nx n (nx s) | false => some s

theorem loop_it {S : Type} {g : List V × Mem → Option (X × (List V × Mem))} {enc : S → List V × Mem} {sel : S → Bool} {nx : S → S} (hn : ∀ s, sel s = true → g (enc s) = some (.normal, enc (nx s))) :
    ∀ (n : Nat) (s0 s1 : S) (x : X) (h : List V × Mem), itS sel nx n s0 = some s1 → x ≠ .normal → g (enc s1) = some (x, h) → loopG g n (enc s0) = some (x, h)
  | 0, s0, s1, x, h, hi, _, _ => by simp [itS] at hi
  | n + 1, s0, s1, x, h, hi, hx, hg => by
    simp only [itS] at hi
    simp only [loopG]
    split at hi
    · rename_i hs
      rw [hn s0 hs]
      exact loop_it hn n (nx s0) s1 x h hi hx hg
    · cases hi
      rw [hg]
      cases x with
      | normal => exact absurd rfl hx
      | exit i => rfl
      | ret => rfl

theorem itS_false {S : Type} {sel : S → Bool} {nx : S → S} : ∀ {n : Nat} {s0 s1 : S}, itS sel nx n s0 = some s1 → sel s1 = false
  | 0, _, _, h => by simp [itS] at h
  | n + 1, s0, s1, h => by
    simp only [itS] at h
    split at h
    · exact itS_false h
    · rename_i hs; cases h; exact hs

theorem itS_get {S : Type} {sel : S → Bool} {nx : S → S} {n : Nat} {s0 d : S} (h : (itS sel nx n s0).isSome = true) : itS sel nx n s0 = some ((itS sel nx n s0).getD d) := by
  cases hi : itS sel nx n s0 with
  | none => rw [hi] at h; cases h
  | some s => rfl

/-- What a loop comes to, by a measure. -/
theorem itS_eq {S : Type} {sel : S → Bool} {nx : S → S} (J : S → Prop) (μ : S → Nat) (g : S → S) (hs : ∀ s, J s → sel s = false → g s = s) (hn : ∀ s, J s → sel s = true → J (nx s) ∧ μ (nx s) < μ s ∧ g (nx s) = g s) :
    ∀ (n : Nat) (s : S), J s → μ s < n → itS sel nx n s = some (g s)
  | 0, s, _, h => by omega
  | n + 1, s, hJ, h => by
    simp only [itS]
    cases hc : sel s with
    | true =>
      obtain ⟨h1, h2, h3⟩ := hn s hJ hc
      simp only
      rw [itS_eq J μ g hs hn n (nx s) h1 (by omega), h3]
    | false => simp only; rw [hs s hJ hc]

/-- What holds where a loop ends. -/
theorem itS_inv {S : Type} {sel : S → Bool} {nx : S → S} (J : S → Prop) (μ : S → Nat) (hn : ∀ s, J s → sel s = true → J (nx s) ∧ μ (nx s) < μ s) :
    ∀ (n : Nat) (s : S), J s → μ s < n → ∃ s1, itS sel nx n s = some s1 ∧ J s1 ∧ sel s1 = false
  | 0, s, _, h => by omega
  | n + 1, s, hJ, h => by
    simp only [itS]
    cases hc : sel s with
    | true =>
      obtain ⟨h1, h2⟩ := hn s hJ hc
      exact itS_inv J μ hn n (nx s) h1 (by omega)
    | false => exact ⟨s, rfl, hJ, hc⟩

theorem itS_step {S : Type} {sel : S → Bool} {nx : S → S} {n : Nat} {s : S} (h : sel s = true) : itS sel nx (n + 1) s = itS sel nx n (nx s) := by simp only [itS, h]
theorem itS_stop {S : Type} {sel : S → Bool} {nx : S → S} {n : Nat} {s : S} (h : sel s = false) : itS sel nx (n + 1) s = some s := by simp only [itS, h]

/-! ### single instructions -/

section
variable {E : Env} {c : CallT} {t : Nat → V} {m : Mem}

theorem inb_spec {n : Nat} {i : Int} (h : inb n i = true) : 0 ≤ i ∧ i.toNat < n := by
  simp only [inb, Bool.and_eq_true, decide_eq_true_eq] at h
  omega

theorem asNat_inb {k : IntKind} {i : Int} (h : 0 ≤ i) : asNat (.d (.int k i)) = some i.toNat := by simp [asNat, h]

/-- Reading a slice by value at an open place. -/
theorem o_idx_rs {α : Type} [Inhabited α] {enc : α → List D} {l : List α} {fl tg : Bool} {s : Nat} {k : IntKind} {i : Int} (h : inb l.length i = true) :
    doI E c (.idxA s (.v (.d (.rs fl s (l.map enc) tg))) (.v (.d (.int k i)))) t m = some (.d (.rp (enc (gt l i))), m) := by
  obtain ⟨h1, h2⟩ := inb_spec h
  have hl : l[i.toNat]? = some l[i.toNat] := List.getElem?_eq_getElem h2
  simp [doI, ev, sizeOk, asNat_inb h1, idxSV, List.getElem?_map, hl, gt, List.getD]

theorem o_len_rs {α : Type} {enc : α → List D} {l : List α} {fl tg : Bool} {s : Nat} :
    doI E c (.len (.v (.d (.rs fl s (l.map enc) tg)))) t m = some (.d (.int .i64 ((l.length : Nat) : Int)), m) := by
  simp [doI, ev, lenV]

theorem o_len_os {α : Type} {enc : α → List D} {fl : Bool} {s : Nat} {n : Bool} {l : List α} :
    doI E c (.len (.v (.d (slD enc fl s n l)))) t m = some (.d (.int .i64 ((l.length : Nat) : Int)), m) := by
  cases n <;> cases l <;> simp [doI, ev, lenV, slD]

theorem o_idx_os {α : Type} [Inhabited α] {enc : α → List D} {l : List α} {fl n : Bool} {s : Nat} {k : IntKind} {i : Int} (h : inb l.length i = true) :
    doI E c (.idxA s (.v (.d (slD enc fl s n l))) (.v (.d (.int k i)))) t m = some (.d (.rp (enc (gt l i))), m) := by
  have key : slD enc fl s n l = .rs fl s (l.map enc) false := by
    cases n <;> cases l <;> first | rfl | (obtain ⟨_, h2⟩ := inb_spec h; simp at h2)
  rw [key]; exact o_idx_rs h

theorem o_nil_os {α : Type} {enc : α → List D} {l : List α} {fl n neg : Bool} {s : Nat} :
    doI E c (.beq .slc neg (.v (.d (slD enc fl s n l))) (.v (.d .nils))) t m = some (.d (.bool (neg != (n && l.isEmpty))), m) := by
  cases n <;> cases l <;> simp [doI, ev, eqV, isSlc, slD]

theorem o_shr {k k2 : IntKind} {x y : Int} (h : decide (0 ≤ y) = true) : doI E c (.bin .shr (.v (.d (.int k x))) (.v (.d (.int k2 y)))) t m = some (.d (.int k (shrI k x y)), m) := by
  have h1 : 0 ≤ y := of_decide_eq_true h
  have h2 : ¬ (y < 0) := by omega
  simp [doI, ev, binV, shiftInt, h2, shrI]

theorem o_shl {k k2 : IntKind} {x y : Int} (h : decide (0 ≤ y) = true) : doI E c (.bin .shl (.v (.d (.int k x))) (.v (.d (.int k2 y)))) t m = some (.d (.int k (shlI k x y)), m) := by
  have h1 : 0 ≤ y := of_decide_eq_true h
  have h2 : ¬ (y < 0) := by omega
  simp [doI, ev, binV, shiftInt, h2, shlI]

theorem o_quo {k : IntKind} {x y : Int} (h : ((y : Int) == 0) = false) : doI E c (.bin .quo (.v (.d (.int k x))) (.v (.d (.int k y)))) t m = some (.d (.int k (quoI k x y)), m) := by
  have h1 : ¬ (y = 0) := by simpa using h
  simp [doI, ev, binV, binInt, h1, quoI]

theorem o_rem {k : IntKind} {x y : Int} (h : ((y : Int) == 0) = false) : doI E c (.bin .rem (.v (.d (.int k x))) (.v (.d (.int k y)))) t m = some (.d (.int k (remI k x y)), m) := by
  have h1 : ¬ (y = 0) := by simpa using h
  simp [doI, ev, binV, binInt, h1, remI]
/-! ### parts of lists -/

/-- What stands for a bound that may be missing. -/
def opt (x : Option (IntKind × Int)) : Option O := x.map fun p => .v (.d (.int p.1 p.2))
def lo0 (x : Option (IntKind × Int)) : Int := match x with | some p => p.2 | none => 0
def hi0 (n : Nat) (x : Option (IntKind × Int)) : Int := match x with | some p => p.2 | none => (n : Int)
def ins (n : Nat) (lo hi : Int) : Bool := decide (0 ≤ lo) && decide (lo ≤ hi) && decide (hi ≤ (n : Int))
def sub {α : Type} (l : List α) (lo hi : Int) : List α := (l.drop lo.toNat).take (hi - lo).toNat

theorem ins_spec {n : Nat} {lo hi : Int} (h : ins n lo hi = true) : 0 ≤ lo ∧ lo ≤ hi ∧ hi ≤ n ∧ lo.toNat ≤ hi.toNat ∧ hi.toNat ≤ n ∧ hi.toNat - lo.toNat = (hi - lo).toNat := by
  simp only [ins, Bool.and_eq_true, decide_eq_true_eq] at h
  omega

theorem optNat_lo {x : Option (IntKind × Int)} (h : 0 ≤ lo0 x) : optNat E t (opt x) 0 = some (lo0 x).toNat := by
  cases x with
  | none => rfl
  | some p => simp only [lo0] at h ⊢; simp [optNat, opt, ev, asNat, h]

theorem optNat_hi {n : Nat} {x : Option (IntKind × Int)} (h : 0 ≤ hi0 n x) : optNat E t (opt x) n = some (hi0 n x).toNat := by
  cases x with
  | none => simp [optNat, opt, hi0]
  | some p => simp only [hi0] at h ⊢; simp [optNat, opt, ev, asNat, h]

theorem map_sub {α β : Type} (f : α → β) (l : List α) (lo hi : Int) : ((l.map f).drop lo.toNat).take (hi - lo).toNat = (sub l lo hi).map f := by
  unfold sub; rw [← List.map_drop, ← List.map_take]

theorem o_slice_rs {α : Type} {enc : α → List D} {l : List α} {fl tg : Bool} {s : Nat} (lo hi : Option (IntKind × Int)) (h : ins l.length (lo0 lo) (hi0 l.length hi) = true) :
    doI E c (.slice s (.v (.d (.rs fl s (l.map enc) tg))) (opt lo) (opt hi) none) t m = some (.d (.rs fl s ((sub l (lo0 lo) (hi0 l.length hi)).map enc) (tg && (hi0 l.length hi).toNat == l.length)), m) := by
  obtain ⟨h1, h2, h3, h4, h5, h6⟩ := ins_spec h
  have e1 : optNat E t (opt lo) 0 = some (lo0 lo).toNat := optNat_lo h1
  have e2 : optNat E t (opt hi) l.length = some (hi0 l.length hi).toNat := optNat_hi (by omega)
  simp [doI, ev, sizeOk, lenV, e1, e2, sliceV, h4, h5, h6, ← map_sub] <;> omega

theorem o_slice_os {α : Type} {enc : α → List D} {l : List α} {fl n : Bool} {s : Nat} (lo hi : Option (IntKind × Int)) (h : ins l.length (lo0 lo) (hi0 l.length hi) = true) :
    doI E c (.slice s (.v (.d (slD enc fl s n l))) (opt lo) (opt hi) none) t m = some (.d (slD enc fl s (n && l.isEmpty) (sub l (lo0 lo) (hi0 l.length hi))), m) := by
  have rs : ∀ (l : List α), ins l.length (lo0 lo) (hi0 l.length hi) = true → doI E c (.slice s (.v (.d (.rs fl s (l.map enc) false))) (opt lo) (opt hi) none) t m = some (.d (slD enc fl s false (sub l (lo0 lo) (hi0 l.length hi))), m) := fun l h => by
    rw [o_slice_rs lo hi h, Bool.false_and, slD_rs]
  cases n with
  | false => rw [← slD_rs]; exact rs l h
  | true =>
    cases l with
    | nil =>
      obtain ⟨h1, h2, h3, h4, h5, h6⟩ := ins_spec h
      have e1 : optNat E t (opt lo) 0 = some (lo0 lo).toNat := optNat_lo h1
      have e2 : optNat E t (opt hi) 0 = some (hi0 0 hi).toNat := optNat_hi (by simpa using (show 0 ≤ hi0 ([] : List α).length hi by omega))
      have z2 : (hi0 0 hi).toNat = 0 := by simpa using h5
      have z1 : (lo0 lo).toNat = 0 := by simp only [List.length_nil] at h4; omega
      simp [doI, ev, sizeOk, lenV, e1, e2, sliceV, z1, z2, sub, slD]
    | cons a l => exact rs (a :: l) h

theorem o_slice_mx {α : Type} {enc : α → List D} {l : List α} {fl n : Bool} {s : Nat} {kl kh kx : IntKind} {hi : Int} (h : ins l.length 0 hi = true) (hp : decide (0 < hi) = true) :
    doI E c (.slice s (.v (.d (slD enc fl s n l))) none (some (.v (.d (.int kh hi)))) (some (.v (.d (.int kx hi))))) t m = some (.d (.rs fl s ((sub l 0 hi).map enc) true), m) := by
  obtain ⟨h1, h2, h3, h4, h5, h6⟩ := ins_spec h
  have hp := of_decide_eq_true hp
  have key : slD enc fl s n l = .rs fl s (l.map enc) false := by
    cases n <;> cases l <;> first | rfl | (simp at h5; omega)
  have h7 : hi.toNat = (hi - 0).toNat := by omega
  have h8 : 0 ≤ hi := by omega
  rw [key]
  simp [doI, ev, sizeOk, lenV, optNat, asNat, h8, sliceV, h5, ← map_sub] <;> omega

theorem flatRowsOf_os {α : Type} {enc : α → List D} {l : List α} {n : Bool} {s : Nat} : flatRowsOf m (.d (slD enc true s n l)) = some (l.map enc) := by
  cases n <;> cases l <;> simp [flatRowsOf, slD]

theorem sizeOk_os {α : Type} {enc : α → List D} {l : List α} {n fl : Bool} {s : Nat} : sizeOk m s (.d (slD enc fl s n l)) = true := by
  cases n <;> cases l <;> simp [sizeOk, slD]

theorem beq_len {n k : Nat} (h : Nat.beq n k = true) : n = k := Nat.eq_of_beq_eq_true h
theorem st_len {α : Type} {l : List α} {i : Int} {x : α} {n : Nat} (h : Nat.beq n l.length = true) : Nat.beq n (st l i x).length = true := by
  rw [beq_len h]; simp [st]
theorem app_len {α : Type} {l k : List α} {n : Nat} (h : Nat.beq n l.length = true) : Nat.beq (n + k.length) (l ++ k).length = true := by
  rw [beq_len h]; simp

theorem flatRowsOf_sl {α : Type} {enc : α → List D} {l : List α} {id e s n : Nat} {p : Bool} (hn : Nat.beq n l.length = true) (hm : m[id]? = some (.flat e s (l.map enc) p)) : flatRowsOf m (.sl id n 0 n) = some (l.map enc) := by
  rw [beq_len hn]
  simp only [flatRowsOf, hm, Option.bind_some, List.length_map, Nat.zero_add, Nat.le_refl, and_self, if_true, List.drop_zero]
  rw [List.take_of_length_le (by simp)]

theorem byval_sl {α : Type} {enc : α → List D} {l : List α} {id e s n : Nat} {p : Bool} (hn : Nat.beq n l.length = true) (hm : m[id]? = some (.flat e s (l.map enc) p)) : V.byval m (.sl id n 0 n) = .d (.rs true s (l.map enc) false) := by
  rw [beq_len hn]
  simp only [V.byval, byvalS, hm, List.length_map, Nat.zero_add, Nat.le_refl, and_self, if_true, List.drop_zero]
  rw [List.take_of_length_le (by simp)]

theorem byvals_cons {v v1 : V} {l l1 : List V} (h : V.byval m v = v1) (h2 : V.byvals m l = l1) : V.byvals m (v :: l) = v1 :: l1 := by
  rw [V.byvals, h, h2]

theorem byval_agg {l l1 : List V} (h : V.byvals m l = l1) : V.byval m (.agg l) = .agg l1 := by rw [V.byval, h]

theorem set_self {α : Type} : ∀ {l : List α} {i : Nat} {x : α}, l[i]? = some x → l.set i x = l
  | [], _, _, h => by simp at h
  | a :: l, 0, x, h => by simp at h; simp [h]
  | a :: l, i + 1, x, h => by simp at h; simp [set_self h]

/-- Rows appended to a list of our own. -/
theorem o_app {α : Type} {enc : α → List D} {l0 l1 : List α} {id e s bytes n : Nat} {x : V} (hn : Nat.beq n l0.length = true) (hm : m[id]? = some (.flat e s (l0.map enc) false)) (hx : flatRowsOf m x = some (l1.map enc)) (hs : sizeOk m s x = true)
    (h : decide ((l0.length + l1.length) * bytes ≤ 140737488355328) = true) :
    doI E c (.append e true s bytes (.v (.sl id n 0 n)) (.v x)) t m = some (.sl id (n + l1.length) 0 (n + l1.length), m.set id (.flat e s ((l0 ++ l1).map enc) false)) := by
  rw [beq_len hn]
  have h := of_decide_eq_true h
  simp only [doI, ev, appendV, hs, hm, hx, Option.bind_some, List.length_map, true_and, if_true]
  rw [if_pos h]
  cases l1 with
  | nil => simp; exact (set_self hm).symm
  | cons a l1 => simp

theorem o_app0 {α : Type} {enc : α → List D} {l1 : List α} {id e s bytes : Nat} {x : V} (hm : m[id]? = some (.flat e s [] false)) (hx : flatRowsOf m x = some (l1.map enc)) (hs : sizeOk m s x = true)
    (h : decide (l1.length * bytes ≤ 140737488355328) = true) :
    doI E c (.append e true s bytes (.v (.sl id 0 0 0)) (.v x)) t m = some (.sl id l1.length 0 l1.length, m.set id (.flat e s (l1.map enc) false)) := by
  have := o_app (E := E) (c := c) (t := t) (m := m) (enc := enc) (l0 := []) (l1 := l1) (id := id) (e := e) (s := s) (bytes := bytes) (x := x) (n := 0) rfl hm hx hs (by simpa using h)
  simpa using this

theorem o_app_nil {α : Type} {enc : α → List D} {l1 : List α} {e s bytes : Nat} {x : V} (hx : flatRowsOf m x = some (l1.map enc)) (hs : sizeOk m s x = true) (he : l1.isEmpty = false)
    (h : decide (l1.length * bytes ≤ 140737488355328) = true) :
    doI E c (.append e true s bytes (.v (.d .nils)) (.v x)) t m = some (.sl m.length l1.length 0 l1.length, m ++ [.flat e s (l1.map enc) false]) := by
  have h := of_decide_eq_true h
  have he : ¬ (l1 = []) := by cases l1 <;> simp_all
  simp [doI, ev, appendV, hs, hx, h, he]

theorem o_app_none {α : Type} {enc : α → List D} {l1 : List α} {e s bytes : Nat} {x : V} (hx : flatRowsOf m x = some (l1.map enc)) (hs : sizeOk m s x = true) (he : l1.isEmpty = true) :
    doI E c (.append e true s bytes (.v (.d .nils)) (.v x)) t m = some (.d .nils, m) := by
  have he : l1 = [] := by cases l1 <;> simp_all
  subst he
  simp [doI, ev, appendV, hs, hx]

/-- Places of lists of our own. -/
theorem o_idx_sl {id n : Nat} {s : Nat} {k : IntKind} {i : Int} (hs : sizeOk m s (.sl id n 0 n) = true) (h : inb n i = true) :
    doI E c (.idxA s (.v (.sl id n 0 n)) (.v (.d (.int k i)))) t m = some (.ptr id n i.toNat 0, m) := by
  obtain ⟨h1, h2⟩ := inb_spec h
  simp [doI, ev, hs, asNat_inb h1, idxSV, h2]

theorem o_load_L {α : Type} [Inhabited α] {enc : α → List D} {l : List α} {id e s off size : Nat} {p agg : Bool} {i : Int} {v : V} {n : Nat} (hn : Nat.beq n l.length = true) (hm : m[id]? = some (.flat e s (l.map enc) p)) (h : inb n i = true)
    (hv : part agg ((enc (gt l i)).map V.d) off size = some v) : doI E c (.load agg size (.v (.ptr id n i.toNat off))) t m = some (v, m) := by
  rw [beq_len hn] at h ⊢
  obtain ⟨h1, h2⟩ := inb_spec h
  have hl : l[i.toNat]? = some l[i.toNat] := List.getElem?_eq_getElem h2
  have hg : gt l i = l[i.toNat] := by simp [gt, List.getD, hl]
  rw [hg] at hv
  simp [doI, ev, loadV, hm, Blk.row?, List.getElem?_map, hl, hv]

theorem o_store_L {α : Type} [Inhabited α] {enc : α → List D} {l : List α} {id e s size off : Nat} {i : Int} {v : V} {x : α} {ys : List D} {n : Nat} (hn : Nat.beq n l.length = true) (hm : m[id]? = some (.flat e s (l.map enc) false)) (h : inb n i = true)
    (hc : v.cells.length = size ∧ v.cellsOk = true) (hy : toSs v.cells = some ys) (hx : (if off + ys.length ≤ (enc (gt l i)).length then some ((enc (gt l i)).take off ++ ys ++ (enc (gt l i)).drop (off + ys.length)) else none) = some (enc x)) :
    doI E c (.store size (.v (.ptr id n i.toNat off)) (.v v)) t m = some (.tup [], m.set id (.flat e s ((st l i x).map enc) false)) := by
  rw [beq_len hn] at h ⊢
  obtain ⟨h1, h2⟩ := inb_spec h
  have hl : l[i.toNat]? = some l[i.toNat] := List.getElem?_eq_getElem h2
  have hg : gt l i = l[i.toNat] := by simp [gt, List.getD, hl]
  rw [hg] at hx
  have hset : ∀ ys : List D, ys.length = ys.length → True := fun _ _ => trivial
  by_cases hle : off + ys.length ≤ (enc l[i.toNat]).length
  · rw [if_pos hle] at hx
    have hx := Option.some.inj hx
    have hrow : setRow (l.map enc) i.toNat off ys = some ((st l i x).map enc) := by
      simp only [setRow, List.getElem?_map, hl, Option.map_some, hle, if_true, st, List.map_set]
      rw [← hx]
    simp [doI, ev, storeV, hc.1, hc.2, hm, Blk.put?, hy, hrow]
  · rw [if_neg hle] at hx; cases hx

theorem o_mksl {α : Type} {enc : α → List D} {z : α} {e bytes : Nat} {zero : List D} {k k2 : IntKind} {n : Int} (hz : zero = enc z) (hs : allSs [zero.map V.d] = some [zero]) (h : (decide (0 ≤ n) && decide (n * bytes ≤ 140737488355328)) = true) :
    doI E c (.mksl e true zero bytes (.v (.d (.int k n))) (.v (.d (.int k2 n)))) t m = some (.sl m.length (List.replicate n.toNat z).length 0 (List.replicate n.toNat z).length, m ++ [.flat e zero.length ((List.replicate n.toNat z).map enc) false]) := by
  subst hz
  simp only [Bool.and_eq_true, decide_eq_true_eq] at h
  have h0 : n.toNat * bytes ≤ 140737488355328 := by
    have e1 : ((n.toNat * bytes : Nat) : Int) = n * bytes := by rw [Int.natCast_mul, Int.toNat_of_nonneg h.1]
    omega
  have all : ∀ k : Nat, allSs (List.replicate k ((enc z).map V.d)) = some (List.replicate k (enc z)) := fun k => by
    induction k with
    | zero => rfl
    | succ k ih =>
      simp only [List.replicate_succ, allSs, ih]
      simp only [allSs] at hs
      cases ht : toSs (List.map V.d (enc z)) with
      | none => simp [ht] at hs
      | some y => simp [ht] at hs; simp [hs]
  simp [doI, ev, asNat, h.1, h0, mkBlk, all]
end

end Go.Proofs.Ytgalchmjpfmemaa.Den

namespace Go.Proofs.Ytgalchmjpfmemaa.Den
open Go Go.Proofs
set_option maxRecDepth 100000
set_option maxHeartbeats 4000000
set_option linter.unusedVariables false
set_option linter.unusedSimpArgs false

structure R_bool_i64 where
  c0 : Bool
  c1 : Int
  deriving Inhabited

def enc_R_bool_i64 (p : R_bool_i64) : List D := [(.bool p.c0), (.int .i64 p.c1)]

structure R_str_bool where
  c0 : ByteArray
  c1 : Bool
  deriving Inhabited

def enc_R_str_bool (p : R_str_bool) : List D := [(.str p.c0), (.bool p.c1)]

structure R_i64_i64 where
  c0 : Int
  c1 : Int
  deriving Inhabited

def enc_R_i64_i64 (p : R_i64_i64) : List D := [(.int .i64 p.c0), (.int .i64 p.c1)]

end Go.Proofs.Ytgalchmjpfmemaa.Den

namespace Go.Proofs.Ytgalchmjpfmemaa.Den
open Go Go.Proofs
set_option maxRecDepth 100000
set_option maxHeartbeats 4000000
set_option linter.unusedVariables false
set_option linter.unusedSimpArgs false

structure fix_small_o_L0_s0 where
  c3 : Int
  deriving Inhabited

def fix_small_o_L0_enc (x0 : Bool) (x1 : List Int) (x2 : Int) (x3 : Int) (s0 : fix_small_o_L0_s0) : List V × Mem := ([(V.d (slD (encI .i64) true 1 x0 x1)), (V.d (.int .i64 x2)), (V.d (.int .i64 s0.c3))], [])

def fix_small_o_L0_sel (x1 : List Int) (x2 : Int) (s0 : fix_small_o_L0_s0) : Bool := (bif tb (decide (s0.c3 < x2)) then (bif tb (inb x1.length s0.c3) then (bif tb (decide ((gt x1 s0.c3) < (-1099511627776))) then false else (bif tb (decide (1099511627776 < (gt x1 s0.c3))) then false else true)) else false) else false)

def fix_small_o_L0_nx (x1 : List Int) (x2 : Int) (s0 : fix_small_o_L0_s0) : fix_small_o_L0_s0 := ⟨(wi (s0.c3 + 1))⟩

def fix_small_o_L0_ok (x1 : List Int) (x2 : Int) (s0 : fix_small_o_L0_s0) : Bool := (itS (fix_small_o_L0_sel x1 x2) (fix_small_o_L0_nx x1 x2) bound s0).isSome
def fix_small_o_L0_end (x1 : List Int) (x2 : Int) (s0 : fix_small_o_L0_s0) : fix_small_o_L0_s0 := (itS (fix_small_o_L0_sel x1 x2) (fix_small_o_L0_nx x1 x2) bound s0).getD default

theorem fix_small_o_L0_go (x0 : Bool) (x1 : List Int) (x2 : Int) (x3 : Int) (s0 : fix_small_o_L0_s0) : fix_small_o_L0_sel x1 x2 s0 = true → (roundG (runC E0 (cl E0) L78_0) [5, 6, 7] [2] 0) (fix_small_o_L0_enc x0 x1 x2 x3 s0) = some (.normal, fix_small_o_L0_enc x0 x1 x2 x3 (fix_small_o_L0_nx x1 x2 s0)) := by
  unfold fix_small_o_L0_sel fix_small_o_L0_nx
  cases h1 : tb (decide (s0.c3 < x2))
  · intro g0
    exact absurd g0 ft
  · cases h2 : tb (inb x1.length s0.c3)
    · intro g0
      exact absurd g0 ft
    · cases h3 : tb (decide ((gt x1 s0.c3) < (-1099511627776)))
      · cases h4 : tb (decide (1099511627776 < (gt x1 s0.c3)))
        · intro _
          exact round_walk [.b (tbE h1), .o 9 (fun _ => o_idx_os (enc := (encI .i64)) (l := x1) (fl := true) (n := x0) (s := 1) (k := .i64) (tbE h2)), .b (tbE h3), .b (tbE h4)] (by kernel_rfl)
        · intro g0
          exact absurd g0 ft
      · intro g0
        exact absurd g0 ft

def fix_small_o_L0_c0 (x1 : List Int) (x2 : Int) (s0 : fix_small_o_L0_s0) : Bool := (bif tb (decide (s0.c3 < x2)) then (bif tb (inb x1.length s0.c3) then true else false) else false)

def fix_small_o_L0_c1 (x2 : Int) (s0 : fix_small_o_L0_s0) : Bool := (bif tb (decide (s0.c3 < x2)) then false else true)

theorem fix_small_o_L0_x0 (x0 : Bool) (x1 : List Int) (x2 : Int) (x3 : Int) (s0 : fix_small_o_L0_s0) : fix_small_o_L0_sel x1 x2 s0 = false → fix_small_o_L0_c0 x1 x2 s0 = true → (roundG (runC E0 (cl E0) L78_0) [5, 6, 7] [2] 0) (fix_small_o_L0_enc x0 x1 x2 x3 s0) = some (.ret, ([(V.d (.bool false))], [])) := by
  unfold fix_small_o_L0_sel fix_small_o_L0_c0
  cases h1 : tb (decide (s0.c3 < x2))
  · intro g0 g1
    exact absurd g1 ft
  · cases h2 : tb (inb x1.length s0.c3)
    · intro g0 g1
      exact absurd g1 ft
    · cases h3 : tb (decide ((gt x1 s0.c3) < (-1099511627776)))
      · cases h4 : tb (decide (1099511627776 < (gt x1 s0.c3)))
        · intro g0 g1
          exact absurd g0 tf
        · intro g0 g1
          exact round_walk [.b (tbE h1), .o 9 (fun _ => o_idx_os (enc := (encI .i64)) (l := x1) (fl := true) (n := x0) (s := 1) (k := .i64) (tbE h2)), .b (tbE h3), .b (tbE h4)] (by kernel_rfl)
      · intro g0 g1
        exact round_walk [.b (tbE h1), .o 9 (fun _ => o_idx_os (enc := (encI .i64)) (l := x1) (fl := true) (n := x0) (s := 1) (k := .i64) (tbE h2)), .b (tbE h3)] (by kernel_rfl)

theorem fix_small_o_L0_x1 (x0 : Bool) (x1 : List Int) (x2 : Int) (x3 : Int) (s0 : fix_small_o_L0_s0) : fix_small_o_L0_sel x1 x2 s0 = false → fix_small_o_L0_c0 x1 x2 s0 = false → fix_small_o_L0_c1 x2 s0 = true → (roundG (runC E0 (cl E0) L78_0) [5, 6, 7] [2] 0) (fix_small_o_L0_enc x0 x1 x2 x3 s0) = some ((.exit 0), ([V.un], [])) := by
  unfold fix_small_o_L0_sel fix_small_o_L0_c0 fix_small_o_L0_c1
  cases h1 : tb (decide (s0.c3 < x2))
  · intro g0 g1 g2
    exact round_walk [.b (tbE h1)] (by kernel_rfl)
  · cases h2 : tb (inb x1.length s0.c3)
    · intro g0 g1 g2
      exact absurd g2 ft
    · cases h3 : tb (decide ((gt x1 s0.c3) < (-1099511627776)))
      · cases h4 : tb (decide (1099511627776 < (gt x1 s0.c3)))
        · intro g0 g1 g2
          exact absurd g0 tf
        · intro g0 g1 g2
          exact absurd g1 tf
      · intro g0 g1 g2
        exact absurd g1 tf

theorem fix_small_o_L0_f0_0 (x0 : Bool) (x1 : List Int) (x2 : Int) (x3 : Int) (s : fix_small_o_L0_s0) (hok : fix_small_o_L0_ok x1 x2 s = true) (c0 : fix_small_o_L0_c0 x1 x2 (fix_small_o_L0_end x1 x2 s) = true) : loopG (roundG (runC E0 (cl E0) L78_0) [5, 6, 7] [2] 0) bound (fix_small_o_L0_enc x0 x1 x2 x3 s) = some (.ret, ([(V.d (.bool false))], [])) := by
  have e : itS (fix_small_o_L0_sel x1 x2) (fix_small_o_L0_nx x1 x2) bound s = some (fix_small_o_L0_end x1 x2 s) := itS_get hok
  have f := itS_false e
  exact loop_it (fix_small_o_L0_go x0 x1 x2 x3) bound s _ _ _ e (fun h => by cases h) (fix_small_o_L0_x0 x0 x1 x2 x3 (fix_small_o_L0_end x1 x2 s) f c0)

theorem fix_small_o_L0_f0_1 (x0 : Bool) (x1 : List Int) (x2 : Int) (x3 : Int) (s : fix_small_o_L0_s0) (hok : fix_small_o_L0_ok x1 x2 s = true) (c0 : fix_small_o_L0_c0 x1 x2 (fix_small_o_L0_end x1 x2 s) = false) (c1 : fix_small_o_L0_c1 x2 (fix_small_o_L0_end x1 x2 s) = true) : loopG (roundG (runC E0 (cl E0) L78_0) [5, 6, 7] [2] 0) bound (fix_small_o_L0_enc x0 x1 x2 x3 s) = some ((.exit 0), ([V.un], [])) := by
  have e : itS (fix_small_o_L0_sel x1 x2) (fix_small_o_L0_nx x1 x2) bound s = some (fix_small_o_L0_end x1 x2 s) := itS_get hok
  have f := itS_false e
  exact loop_it (fix_small_o_L0_go x0 x1 x2 x3) bound s _ _ _ e (fun h => by cases h) (fix_small_o_L0_x1 x0 x1 x2 x3 (fix_small_o_L0_end x1 x2 s) f c0 c1)

def fix_small_o_e0 (x1 : List Int) : fix_small_o_L0_s0 := fix_small_o_L0_end x1 ((x1.length : Nat) : Int) (⟨0⟩ : fix_small_o_L0_s0)

def fix_small_o_c0 (x1 : List Int) : Bool := (bif tb (fix_small_o_L0_ok x1 ((x1.length : Nat) : Int) (⟨0⟩ : fix_small_o_L0_s0)) then (bif tb (fix_small_o_L0_c0 x1 ((x1.length : Nat) : Int) (fix_small_o_e0 x1)) then true else (bif tb (fix_small_o_L0_c1 ((x1.length : Nat) : Int) (fix_small_o_e0 x1)) then true else false)) else false)

def fix_small_o_r0_0 (x1 : List Int) : Bool := (bif tb (fix_small_o_L0_c0 x1 ((x1.length : Nat) : Int) (fix_small_o_e0 x1)) then false else true)

theorem fix_small_o_t0 (x0 : Bool) (x1 : List Int) : fix_small_o_c0 x1 = true → cl E0 78 [(V.d (slD (encI .i64) true 1 x0 x1))] [] = some ([(V.d (.bool (fix_small_o_r0_0 x1)))], []) := by
  unfold fix_small_o_c0 fix_small_o_r0_0
  cases h1 : tb (fix_small_o_L0_ok x1 ((x1.length : Nat) : Int) (⟨0⟩ : fix_small_o_L0_s0))
  · intro g0
    exact absurd g0 ft
  · cases h2 : tb (fix_small_o_L0_c0 x1 ((x1.length : Nat) : Int) (fix_small_o_e0 x1))
    · cases h3 : tb (fix_small_o_L0_c1 ((x1.length : Nat) : Int) (fix_small_o_e0 x1))
      · intro g0
        exact absurd g0 ft
      · intro g0
        exact w78 [.o 6 (fun _ => o_len_os (enc := (encI .i64)) (l := x1) (fl := true) (n := x0) (s := 1)), .l (fix_small_o_L0_f0_1 x0 x1 ((x1.length : Nat) : Int) 0 (⟨0⟩ : fix_small_o_L0_s0) (tbE h1) (tbE h2) (tbE h3))] (by kernel_rfl)
    · intro g0
      exact w78 [.o 6 (fun _ => o_len_os (enc := (encI .i64)) (l := x1) (fl := true) (n := x0) (s := 1)), .l (fix_small_o_L0_f0_0 x0 x1 ((x1.length : Nat) : Int) 0 (⟨0⟩ : fix_small_o_L0_s0) (tbE h1) (tbE h2))] (by kernel_rfl)

def fix_Shift_ii_c0 (x0 : Int) (x1 : Int) : Bool := (bif tb (fix_small_o_c0 [x0]) then (bif tb (fix_small_o_r0_0 [x0]) then (bif tb (decide (x1 < 0)) then true else (bif tb (decide (40 < x1)) then true else (bif tb (decide (0 ≤ x1)) then true else false))) else true) else false)

def fix_Shift_ii_r0_0 (x0 : Int) (x1 : Int) : Int := (bif tb (fix_small_o_r0_0 [x0]) then (bif tb (decide (x1 < 0)) then 0 else (bif tb (decide (40 < x1)) then 0 else (shrI .i64 x0 x1))) else 0)

theorem fix_Shift_ii_t0 (x0 : Int) (x1 : Int) : fix_Shift_ii_c0 x0 x1 = true → cl E0 60 [(V.d (.int .i64 x0)), (V.d (.int .i64 x1))] [] = some ([(V.d (.int .i64 (fix_Shift_ii_r0_0 x0 x1)))], []) := by
  unfold fix_Shift_ii_c0 fix_Shift_ii_r0_0
  cases h1 : tb (fix_small_o_c0 [x0])
  · intro g0
    exact absurd g0 ft
  · cases h2 : tb (fix_small_o_r0_0 [x0])
    · intro g0
      exact w60 [.c (fix_small_o_t0 false [x0] (tbE h1)), .b (notF (tbE h2))] (by kernel_rfl)
    · cases h3 : tb (decide (x1 < 0))
      · cases h4 : tb (decide (40 < x1))
        · cases h5 : tb (decide (0 ≤ x1))
          · intro g0
            exact absurd g0 ft
          · intro g0
            exact w60 [.c (fix_small_o_t0 false [x0] (tbE h1)), .b (notT (tbE h2)), .b (tbE h3), .b (tbE h4), .o 19 (fun _ => o_shr (k := .i64) (k2 := .i64) (x := x0) (y := x1) (tbE h5))] (by kernel_rfl)
        · intro g0
          exact w60 [.c (fix_small_o_t0 false [x0] (tbE h1)), .b (notT (tbE h2)), .b (tbE h3), .b (tbE h4)] (by kernel_rfl)
      · intro g0
        exact w60 [.c (fix_small_o_t0 false [x0] (tbE h1)), .b (notT (tbE h2)), .b (tbE h3)] (by kernel_rfl)

def fix_Apart_ii_c0 (x0 : Int) (x1 : Int) : Bool := (bif tb (fix_small_o_c0 [x0, x1]) then true else false)

def fix_Apart_ii_r0_0 (x0 : Int) (x1 : Int) : Int := (bif tb (fix_small_o_r0_0 [x0, x1]) then (mxI (wi (x0 - x1)) (wi (x1 - x0))) else 0)

theorem fix_Apart_ii_t0 (x0 : Int) (x1 : Int) : fix_Apart_ii_c0 x0 x1 = true → cl E0 66 [(V.d (.int .i64 x0)), (V.d (.int .i64 x1))] [] = some ([(V.d (.int .i64 (fix_Apart_ii_r0_0 x0 x1)))], []) := by
  unfold fix_Apart_ii_c0 fix_Apart_ii_r0_0
  cases h1 : tb (fix_small_o_c0 [x0, x1])
  · intro g0
    exact absurd g0 ft
  · cases h2 : tb (fix_small_o_r0_0 [x0, x1])
    · intro g0
      exact w66 [.c (fix_small_o_t0 false [x0, x1] (tbE h1)), .b (notF (tbE h2))] (by kernel_rfl)
    · intro g0
      exact w66 [.c (fix_small_o_t0 false [x0, x1] (tbE h1)), .b (notT (tbE h2))] (by kernel_rfl)

def fix_Clamp_iii_c0 (x0 : Int) (x1 : Int) (x2 : Int) : Bool := (bif tb (fix_small_o_c0 [x0, x1, x2]) then true else false)

def fix_Clamp_iii_r0_0 (x0 : Int) (x1 : Int) (x2 : Int) : Int := (bif tb (fix_small_o_r0_0 [x0, x1, x2]) then (mxI x1 (mnI x0 x2)) else 0)

theorem fix_Clamp_iii_t0 (x0 : Int) (x1 : Int) (x2 : Int) : fix_Clamp_iii_c0 x0 x1 x2 = true → cl E0 77 [(V.d (.int .i64 x0)), (V.d (.int .i64 x1)), (V.d (.int .i64 x2))] [] = some ([(V.d (.int .i64 (fix_Clamp_iii_r0_0 x0 x1 x2)))], []) := by
  unfold fix_Clamp_iii_c0 fix_Clamp_iii_r0_0
  cases h1 : tb (fix_small_o_c0 [x0, x1, x2])
  · intro g0
    exact absurd g0 ft
  · cases h2 : tb (fix_small_o_r0_0 [x0, x1, x2])
    · intro g0
      exact w77 [.c (fix_small_o_t0 false [x0, x1, x2] (tbE h1)), .b (notF (tbE h2))] (by kernel_rfl)
    · intro g0
      exact w77 [.c (fix_small_o_t0 false [x0, x1, x2] (tbE h1)), .b (notT (tbE h2))] (by kernel_rfl)

end Go.Proofs.Ytgalchmjpfmemaa.Den

namespace Go.Proofs.Ytgalchmjpfmemaa.Den
open Go Go.Proofs
set_option maxRecDepth 100000
set_option maxHeartbeats 4000000
set_option linter.unusedVariables false
set_option linter.unusedSimpArgs false

def equal_New_ii_c0 (x0 : Int) (x1 : Int) : Bool := (bif tb (decide (x0 < 0)) then true else (bif tb (decide (2147483647 < x0)) then true else (bif tb (decide (x1 < 0)) then true else (bif tb (decide (8 < x1)) then true else false))))

theorem equal_New_ii_t0 (x0 : Int) (x1 : Int) : equal_New_ii_c0 x0 x1 = true → cl E0 53 [(V.d (.int .i64 x0)), (V.d (.int .i64 x1))] [] = some ([(V.d .nilp), (V.d (.int .i64 1))], []) := by
  unfold equal_New_ii_c0
  cases h1 : tb (decide (x0 < 0))
  · cases h2 : tb (decide (2147483647 < x0))
    · cases h3 : tb (decide (x1 < 0))
      · cases h4 : tb (decide (8 < x1))
        · intro g0
          exact absurd g0 ft
        · intro g0
          exact w53 [.b (tbE h1), .b (tbE h2), .b (tbE h3), .b (tbE h4)] (by kernel_rfl)
      · intro g0
        exact w53 [.b (tbE h1), .b (tbE h2), .b (tbE h3)] (by kernel_rfl)
    · intro g0
      exact w53 [.b (tbE h1), .b (tbE h2)] (by kernel_rfl)
  · intro g0
    exact w53 [.b (tbE h1)] (by kernel_rfl)

theorem equal_New_ii_t1 (x0 : Int) (x1 : Int) : equal_New_ii_c0 x0 x1 = false → cl E0 53 [(V.d (.int .i64 x0)), (V.d (.int .i64 x1))] [] = some ([(V.ptr 0 1 0 0), (V.d (.int .i64 0))], [(Blk.flat 107 3 [[(.int .i64 x0), (.int .i64 x1), (.int .i64 0)]] false)]) := by
  unfold equal_New_ii_c0
  cases h1 : tb (decide (x0 < 0))
  · cases h2 : tb (decide (2147483647 < x0))
    · cases h3 : tb (decide (x1 < 0))
      · cases h4 : tb (decide (8 < x1))
        · intro g0
          exact w53 [.b (tbE h1), .b (tbE h2), .b (tbE h3), .b (tbE h4)] (by kernel_rfl)
        · intro g0
          exact absurd g0 tf
      · intro g0
        exact absurd g0 tf
    · intro g0
      exact absurd g0 tf
  · intro g0
    exact absurd g0 tf

def equal_Trim_wrong_c1_i_r0_0 (x0 : Int) : Bool := (bif tb (decide (x0 < (-2147483648))) then true else (decide (2147483647 < x0)))

theorem equal_Trim_wrong_c1_i_t0 (x0 : Int) : cl E0 83 [(V.d (.int .i64 x0))] [] = some ([(V.d (.bool (equal_Trim_wrong_c1_i_r0_0 x0)))], []) := by
  unfold equal_Trim_wrong_c1_i_r0_0
  cases h1 : tb (decide (x0 < (-2147483648)))
  · exact w83 [.b (tbE h1)] (by kernel_rfl)
  · exact w83 [.b (tbE h1)] (by kernel_rfl)

structure slices_IndexFunc_int_o_equal_Trim_wrong_c1_L0_s0 where
  c3 : Int
  deriving Inhabited

def slices_IndexFunc_int_o_equal_Trim_wrong_c1_L0_enc (x0 : Bool) (x1 : List Int) (x2 : Int) (x3 : Int) (s0 : slices_IndexFunc_int_o_equal_Trim_wrong_c1_L0_s0) : List V × Mem := ([(V.d (slD (encI .i64) true 1 x0 x1)), (V.fn (.func 83) [] []), (V.d (.int .i64 x2)), (V.d (.int .i64 s0.c3))], [])

def slices_IndexFunc_int_o_equal_Trim_wrong_c1_L0_sel (x1 : List Int) (x2 : Int) (s0 : slices_IndexFunc_int_o_equal_Trim_wrong_c1_L0_s0) : Bool := (bif tb (decide (s0.c3 < x2)) then (bif tb (inb x1.length s0.c3) then (bif tb (equal_Trim_wrong_c1_i_r0_0 (gt x1 s0.c3)) then false else true) else false) else false)

def slices_IndexFunc_int_o_equal_Trim_wrong_c1_L0_nx (x1 : List Int) (x2 : Int) (s0 : slices_IndexFunc_int_o_equal_Trim_wrong_c1_L0_s0) : slices_IndexFunc_int_o_equal_Trim_wrong_c1_L0_s0 := ⟨(wi (s0.c3 + 1))⟩

def slices_IndexFunc_int_o_equal_Trim_wrong_c1_L0_ok (x1 : List Int) (x2 : Int) (s0 : slices_IndexFunc_int_o_equal_Trim_wrong_c1_L0_s0) : Bool := (itS (slices_IndexFunc_int_o_equal_Trim_wrong_c1_L0_sel x1 x2) (slices_IndexFunc_int_o_equal_Trim_wrong_c1_L0_nx x1 x2) bound s0).isSome
def slices_IndexFunc_int_o_equal_Trim_wrong_c1_L0_end (x1 : List Int) (x2 : Int) (s0 : slices_IndexFunc_int_o_equal_Trim_wrong_c1_L0_s0) : slices_IndexFunc_int_o_equal_Trim_wrong_c1_L0_s0 := (itS (slices_IndexFunc_int_o_equal_Trim_wrong_c1_L0_sel x1 x2) (slices_IndexFunc_int_o_equal_Trim_wrong_c1_L0_nx x1 x2) bound s0).getD default

theorem slices_IndexFunc_int_o_equal_Trim_wrong_c1_L0_go (x0 : Bool) (x1 : List Int) (x2 : Int) (x3 : Int) (s0 : slices_IndexFunc_int_o_equal_Trim_wrong_c1_L0_s0) : slices_IndexFunc_int_o_equal_Trim_wrong_c1_L0_sel x1 x2 s0 = true → (roundG (runC E0 (cl E0) L86_0) [0, 1, 7, 8] [4] 0) (slices_IndexFunc_int_o_equal_Trim_wrong_c1_L0_enc x0 x1 x2 x3 s0) = some (.normal, slices_IndexFunc_int_o_equal_Trim_wrong_c1_L0_enc x0 x1 x2 x3 (slices_IndexFunc_int_o_equal_Trim_wrong_c1_L0_nx x1 x2 s0)) := by
  unfold slices_IndexFunc_int_o_equal_Trim_wrong_c1_L0_sel slices_IndexFunc_int_o_equal_Trim_wrong_c1_L0_nx
  cases h1 : tb (decide (s0.c3 < x2))
  · intro g0
    exact absurd g0 ft
  · cases h2 : tb (inb x1.length s0.c3)
    · intro g0
      exact absurd g0 ft
    · cases h3 : tb (equal_Trim_wrong_c1_i_r0_0 (gt x1 s0.c3))
      · intro _
        exact round_walk [.b (tbE h1), .o 14 (fun _ => o_idx_os (enc := (encI .i64)) (l := x1) (fl := true) (n := x0) (s := 1) (k := .i64) (tbE h2)), .c (equal_Trim_wrong_c1_i_t0 (gt x1 s0.c3)), .b (tbE h3)] (by kernel_rfl)
      · intro g0
        exact absurd g0 ft

def slices_IndexFunc_int_o_equal_Trim_wrong_c1_L0_c0 (x1 : List Int) (x2 : Int) (s0 : slices_IndexFunc_int_o_equal_Trim_wrong_c1_L0_s0) : Bool := (bif tb (decide (s0.c3 < x2)) then (bif tb (inb x1.length s0.c3) then true else false) else false)

def slices_IndexFunc_int_o_equal_Trim_wrong_c1_L0_c1 (x2 : Int) (s0 : slices_IndexFunc_int_o_equal_Trim_wrong_c1_L0_s0) : Bool := (bif tb (decide (s0.c3 < x2)) then false else true)

theorem slices_IndexFunc_int_o_equal_Trim_wrong_c1_L0_x0 (x0 : Bool) (x1 : List Int) (x2 : Int) (x3 : Int) (s0 : slices_IndexFunc_int_o_equal_Trim_wrong_c1_L0_s0) : slices_IndexFunc_int_o_equal_Trim_wrong_c1_L0_sel x1 x2 s0 = false → slices_IndexFunc_int_o_equal_Trim_wrong_c1_L0_c0 x1 x2 s0 = true → (roundG (runC E0 (cl E0) L86_0) [0, 1, 7, 8] [4] 0) (slices_IndexFunc_int_o_equal_Trim_wrong_c1_L0_enc x0 x1 x2 x3 s0) = some (.ret, ([(V.d (.int .i64 s0.c3))], [])) := by
  unfold slices_IndexFunc_int_o_equal_Trim_wrong_c1_L0_sel slices_IndexFunc_int_o_equal_Trim_wrong_c1_L0_c0
  cases h1 : tb (decide (s0.c3 < x2))
  · intro g0 g1
    exact absurd g1 ft
  · cases h2 : tb (inb x1.length s0.c3)
    · intro g0 g1
      exact absurd g1 ft
    · cases h3 : tb (equal_Trim_wrong_c1_i_r0_0 (gt x1 s0.c3))
      · intro g0 g1
        exact absurd g0 tf
      · intro g0 g1
        exact round_walk [.b (tbE h1), .o 14 (fun _ => o_idx_os (enc := (encI .i64)) (l := x1) (fl := true) (n := x0) (s := 1) (k := .i64) (tbE h2)), .c (equal_Trim_wrong_c1_i_t0 (gt x1 s0.c3)), .b (tbE h3)] (by kernel_rfl)

theorem slices_IndexFunc_int_o_equal_Trim_wrong_c1_L0_x1 (x0 : Bool) (x1 : List Int) (x2 : Int) (x3 : Int) (s0 : slices_IndexFunc_int_o_equal_Trim_wrong_c1_L0_s0) : slices_IndexFunc_int_o_equal_Trim_wrong_c1_L0_sel x1 x2 s0 = false → slices_IndexFunc_int_o_equal_Trim_wrong_c1_L0_c0 x1 x2 s0 = false → slices_IndexFunc_int_o_equal_Trim_wrong_c1_L0_c1 x2 s0 = true → (roundG (runC E0 (cl E0) L86_0) [0, 1, 7, 8] [4] 0) (slices_IndexFunc_int_o_equal_Trim_wrong_c1_L0_enc x0 x1 x2 x3 s0) = some ((.exit 0), ([V.un], [])) := by
  unfold slices_IndexFunc_int_o_equal_Trim_wrong_c1_L0_sel slices_IndexFunc_int_o_equal_Trim_wrong_c1_L0_c0 slices_IndexFunc_int_o_equal_Trim_wrong_c1_L0_c1
  cases h1 : tb (decide (s0.c3 < x2))
  · intro g0 g1 g2
    exact round_walk [.b (tbE h1)] (by kernel_rfl)
  · cases h2 : tb (inb x1.length s0.c3)
    · intro g0 g1 g2
      exact absurd g2 ft
    · cases h3 : tb (equal_Trim_wrong_c1_i_r0_0 (gt x1 s0.c3))
      · intro g0 g1 g2
        exact absurd g0 tf
      · intro g0 g1 g2
        exact absurd g1 tf

theorem slices_IndexFunc_int_o_equal_Trim_wrong_c1_L0_f0_0 (x0 : Bool) (x1 : List Int) (x2 : Int) (x3 : Int) (s : slices_IndexFunc_int_o_equal_Trim_wrong_c1_L0_s0) (hok : slices_IndexFunc_int_o_equal_Trim_wrong_c1_L0_ok x1 x2 s = true) (c0 : slices_IndexFunc_int_o_equal_Trim_wrong_c1_L0_c0 x1 x2 (slices_IndexFunc_int_o_equal_Trim_wrong_c1_L0_end x1 x2 s) = true) : loopG (roundG (runC E0 (cl E0) L86_0) [0, 1, 7, 8] [4] 0) bound (slices_IndexFunc_int_o_equal_Trim_wrong_c1_L0_enc x0 x1 x2 x3 s) = some (.ret, ([(V.d (.int .i64 ((slices_IndexFunc_int_o_equal_Trim_wrong_c1_L0_end x1 x2 s).c3)))], [])) := by
  have e : itS (slices_IndexFunc_int_o_equal_Trim_wrong_c1_L0_sel x1 x2) (slices_IndexFunc_int_o_equal_Trim_wrong_c1_L0_nx x1 x2) bound s = some (slices_IndexFunc_int_o_equal_Trim_wrong_c1_L0_end x1 x2 s) := itS_get hok
  have f := itS_false e
  exact loop_it (slices_IndexFunc_int_o_equal_Trim_wrong_c1_L0_go x0 x1 x2 x3) bound s _ _ _ e (fun h => by cases h) (slices_IndexFunc_int_o_equal_Trim_wrong_c1_L0_x0 x0 x1 x2 x3 (slices_IndexFunc_int_o_equal_Trim_wrong_c1_L0_end x1 x2 s) f c0)

theorem slices_IndexFunc_int_o_equal_Trim_wrong_c1_L0_f0_1 (x0 : Bool) (x1 : List Int) (x2 : Int) (x3 : Int) (s : slices_IndexFunc_int_o_equal_Trim_wrong_c1_L0_s0) (hok : slices_IndexFunc_int_o_equal_Trim_wrong_c1_L0_ok x1 x2 s = true) (c0 : slices_IndexFunc_int_o_equal_Trim_wrong_c1_L0_c0 x1 x2 (slices_IndexFunc_int_o_equal_Trim_wrong_c1_L0_end x1 x2 s) = false) (c1 : slices_IndexFunc_int_o_equal_Trim_wrong_c1_L0_c1 x2 (slices_IndexFunc_int_o_equal_Trim_wrong_c1_L0_end x1 x2 s) = true) : loopG (roundG (runC E0 (cl E0) L86_0) [0, 1, 7, 8] [4] 0) bound (slices_IndexFunc_int_o_equal_Trim_wrong_c1_L0_enc x0 x1 x2 x3 s) = some ((.exit 0), ([V.un], [])) := by
  have e : itS (slices_IndexFunc_int_o_equal_Trim_wrong_c1_L0_sel x1 x2) (slices_IndexFunc_int_o_equal_Trim_wrong_c1_L0_nx x1 x2) bound s = some (slices_IndexFunc_int_o_equal_Trim_wrong_c1_L0_end x1 x2 s) := itS_get hok
  have f := itS_false e
  exact loop_it (slices_IndexFunc_int_o_equal_Trim_wrong_c1_L0_go x0 x1 x2 x3) bound s _ _ _ e (fun h => by cases h) (slices_IndexFunc_int_o_equal_Trim_wrong_c1_L0_x1 x0 x1 x2 x3 (slices_IndexFunc_int_o_equal_Trim_wrong_c1_L0_end x1 x2 s) f c0 c1)

def slices_IndexFunc_int_o_equal_Trim_wrong_c1_e0 (x1 : List Int) : slices_IndexFunc_int_o_equal_Trim_wrong_c1_L0_s0 := slices_IndexFunc_int_o_equal_Trim_wrong_c1_L0_end x1 ((x1.length : Nat) : Int) (⟨0⟩ : slices_IndexFunc_int_o_equal_Trim_wrong_c1_L0_s0)

def slices_IndexFunc_int_o_equal_Trim_wrong_c1_c0 (x1 : List Int) : Bool := (bif tb (slices_IndexFunc_int_o_equal_Trim_wrong_c1_L0_ok x1 ((x1.length : Nat) : Int) (⟨0⟩ : slices_IndexFunc_int_o_equal_Trim_wrong_c1_L0_s0)) then (bif tb (slices_IndexFunc_int_o_equal_Trim_wrong_c1_L0_c0 x1 ((x1.length : Nat) : Int) (slices_IndexFunc_int_o_equal_Trim_wrong_c1_e0 x1)) then true else (bif tb (slices_IndexFunc_int_o_equal_Trim_wrong_c1_L0_c1 ((x1.length : Nat) : Int) (slices_IndexFunc_int_o_equal_Trim_wrong_c1_e0 x1)) then true else false)) else false)

def slices_IndexFunc_int_o_equal_Trim_wrong_c1_r0_0 (x1 : List Int) : Int := (bif tb (slices_IndexFunc_int_o_equal_Trim_wrong_c1_L0_c0 x1 ((x1.length : Nat) : Int) (slices_IndexFunc_int_o_equal_Trim_wrong_c1_e0 x1)) then ((slices_IndexFunc_int_o_equal_Trim_wrong_c1_e0 x1).c3) else (-1))

theorem slices_IndexFunc_int_o_equal_Trim_wrong_c1_t0 (x0 : Bool) (x1 : List Int) : slices_IndexFunc_int_o_equal_Trim_wrong_c1_c0 x1 = true → cl E0 86 [(V.d (slD (encI .i64) true 1 x0 x1)), (V.fn (.func 83) [] [])] [] = some ([(V.d (.int .i64 (slices_IndexFunc_int_o_equal_Trim_wrong_c1_r0_0 x1)))], []) := by
  unfold slices_IndexFunc_int_o_equal_Trim_wrong_c1_c0 slices_IndexFunc_int_o_equal_Trim_wrong_c1_r0_0
  cases h1 : tb (slices_IndexFunc_int_o_equal_Trim_wrong_c1_L0_ok x1 ((x1.length : Nat) : Int) (⟨0⟩ : slices_IndexFunc_int_o_equal_Trim_wrong_c1_L0_s0))
  · intro g0
    exact absurd g0 ft
  · cases h2 : tb (slices_IndexFunc_int_o_equal_Trim_wrong_c1_L0_c0 x1 ((x1.length : Nat) : Int) (slices_IndexFunc_int_o_equal_Trim_wrong_c1_e0 x1))
    · cases h3 : tb (slices_IndexFunc_int_o_equal_Trim_wrong_c1_L0_c1 ((x1.length : Nat) : Int) (slices_IndexFunc_int_o_equal_Trim_wrong_c1_e0 x1))
      · intro g0
        exact absurd g0 ft
      · intro g0
        exact w86 [.o 7 (fun _ => o_len_os (enc := (encI .i64)) (l := x1) (fl := true) (n := x0) (s := 1)), .l (slices_IndexFunc_int_o_equal_Trim_wrong_c1_L0_f0_1 x0 x1 ((x1.length : Nat) : Int) 0 (⟨0⟩ : slices_IndexFunc_int_o_equal_Trim_wrong_c1_L0_s0) (tbE h1) (tbE h2) (tbE h3))] (by kernel_rfl)
    · intro g0
      exact w86 [.o 7 (fun _ => o_len_os (enc := (encI .i64)) (l := x1) (fl := true) (n := x0) (s := 1)), .l (slices_IndexFunc_int_o_equal_Trim_wrong_c1_L0_f0_0 x0 x1 ((x1.length : Nat) : Int) 0 (⟨0⟩ : slices_IndexFunc_int_o_equal_Trim_wrong_c1_L0_s0) (tbE h1) (tbE h2))] (by kernel_rfl)

def slices_ContainsFunc_int_o_equal_Trim_wrong_c1_c0 (x1 : List Int) : Bool := (bif tb (slices_IndexFunc_int_o_equal_Trim_wrong_c1_c0 x1) then true else false)

theorem slices_ContainsFunc_int_o_equal_Trim_wrong_c1_t0 (x0 : Bool) (x1 : List Int) : slices_ContainsFunc_int_o_equal_Trim_wrong_c1_c0 x1 = true → cl E0 84 [(V.d (slD (encI .i64) true 1 x0 x1)), (V.fn (.func 83) [] [])] [] = some ([(V.d (.bool (decide (0 ≤ (slices_IndexFunc_int_o_equal_Trim_wrong_c1_r0_0 x1)))))], []) := by
  unfold slices_ContainsFunc_int_o_equal_Trim_wrong_c1_c0
  cases h1 : tb (slices_IndexFunc_int_o_equal_Trim_wrong_c1_c0 x1)
  · intro g0
    exact absurd g0 ft
  · intro g0
    exact w84 [.c (slices_IndexFunc_int_o_equal_Trim_wrong_c1_t0 x0 x1 (tbE h1))] (by kernel_rfl)

def equal_Trim_wrong_po_Fi3_c0 (x5 : List Int) : Bool := (bif tb (slices_ContainsFunc_int_o_equal_Trim_wrong_c1_c0 x5) then true else false)

theorem equal_Trim_wrong_po_Fi3_t0 (x0 : Int) (x1 : Int) (x2 : Int) (x3 : Bool) (x4 : Bool) (x5 : List Int) : equal_Trim_wrong_po_Fi3_c0 x5 = true → cl E0 76 [(V.ptr 0 1 0 0), (V.d (slD (encI .i64) true 1 x4 x5))] [(Blk.flat 107 3 [[(.int .i64 x0), (.int .i64 x1), (.int .i64 x2)]] x3)] = some ([(V.d (.bool (decide (0 ≤ (slices_IndexFunc_int_o_equal_Trim_wrong_c1_r0_0 x5)))))], [(Blk.flat 107 3 [[(.int .i64 x0), (.int .i64 x1), (.int .i64 x2)]] x3)]) := by
  unfold equal_Trim_wrong_po_Fi3_c0
  cases h1 : tb (slices_ContainsFunc_int_o_equal_Trim_wrong_c1_c0 x5)
  · intro g0
    exact absurd g0 ft
  · intro g0
    exact w76 [.k false, .c (slices_ContainsFunc_int_o_equal_Trim_wrong_c1_t0 x4 x5 (tbE h1))] (by kernel_rfl)

def equal_Trim_Learn_pii_Fi3_e0 (x1 : Int) (x2 : Int) (x4 : Int) (x5 : Int) : Int := (wi (x2 + (fix_Shift_ii_r0_0 (wi ((wi (x4 - x5)) - x2)) x1)))

def equal_Trim_Learn_pii_Fi3_c0 (x0 : Int) (x1 : Int) (x2 : Int) (x4 : Int) (x5 : Int) : Bool := (bif tb (equal_Trim_wrong_po_Fi3_c0 [x4, x5]) then (bif tb (decide (0 ≤ (slices_IndexFunc_int_o_equal_Trim_wrong_c1_r0_0 [x4, x5]))) then true else (bif tb (fix_Shift_ii_c0 (wi ((wi (x4 - x5)) - x2)) x1) then (bif tb (fix_Clamp_iii_c0 (equal_Trim_Learn_pii_Fi3_e0 x1 x2 x4 x5) (wi (0 - x0)) x0) then true else false) else false)) else false)

def equal_Trim_Learn_pii_Fi3_r0_0 (x4 : Int) (x5 : Int) : Int := (bif tb (decide (0 ≤ (slices_IndexFunc_int_o_equal_Trim_wrong_c1_r0_0 [x4, x5]))) then 1 else 0)

def equal_Trim_Learn_pii_Fi3_r0_3 (x0 : Int) (x1 : Int) (x2 : Int) (x4 : Int) (x5 : Int) : Int := (bif tb (decide (0 ≤ (slices_IndexFunc_int_o_equal_Trim_wrong_c1_r0_0 [x4, x5]))) then x2 else (fix_Clamp_iii_r0_0 (equal_Trim_Learn_pii_Fi3_e0 x1 x2 x4 x5) (wi (0 - x0)) x0))

theorem equal_Trim_Learn_pii_Fi3_t0 (x0 : Int) (x1 : Int) (x2 : Int) (x4 : Int) (x5 : Int) : equal_Trim_Learn_pii_Fi3_c0 x0 x1 x2 x4 x5 = true → cl E0 55 [(V.ptr 0 1 0 0), (V.d (.int .i64 x4)), (V.d (.int .i64 x5))] [(Blk.flat 107 3 [[(.int .i64 x0), (.int .i64 x1), (.int .i64 x2)]] false)] = some ([(V.d (.int .i64 (equal_Trim_Learn_pii_Fi3_r0_0 x4 x5)))], [(Blk.flat 107 3 [[(.int .i64 x0), (.int .i64 x1), (.int .i64 (equal_Trim_Learn_pii_Fi3_r0_3 x0 x1 x2 x4 x5))]] false)]) := by
  unfold equal_Trim_Learn_pii_Fi3_c0 equal_Trim_Learn_pii_Fi3_r0_0 equal_Trim_Learn_pii_Fi3_r0_3
  cases h1 : tb (equal_Trim_wrong_po_Fi3_c0 [x4, x5])
  · intro g0
    exact absurd g0 ft
  · cases h2 : tb (decide (0 ≤ (slices_IndexFunc_int_o_equal_Trim_wrong_c1_r0_0 [x4, x5])))
    · cases h3 : tb (fix_Shift_ii_c0 (wi ((wi (x4 - x5)) - x2)) x1)
      · intro g0
        exact absurd g0 ft
      · cases h4 : tb (fix_Clamp_iii_c0 (equal_Trim_Learn_pii_Fi3_e0 x1 x2 x4 x5) (wi (0 - x0)) x0)
        · intro g0
          exact absurd g0 ft
        · intro g0
          exact w55 [.c (equal_Trim_wrong_po_Fi3_t0 x0 x1 x2 false false [x4, x5] (tbE h1)), .b (tbE h2), .c (fix_Shift_ii_t0 (wi ((wi (x4 - x5)) - x2)) x1 (tbE h3)), .c (fix_Clamp_iii_t0 (equal_Trim_Learn_pii_Fi3_e0 x1 x2 x4 x5) (wi (0 - x0)) x0 (tbE h4))] (by kernel_rfl)
    · intro g0
      exact w55 [.c (equal_Trim_wrong_po_Fi3_t0 x0 x1 x2 false false [x4, x5] (tbE h1)), .b (tbE h2)] (by kernel_rfl)

def equal_Trim_Even_pi_Fi3_c0 (x4 : Int) : Bool := (bif tb (equal_Trim_wrong_po_Fi3_c0 [x4]) then true else false)

def equal_Trim_Even_pi_Fi3_r0_0 (x2 : Int) (x4 : Int) : Int := (bif tb (decide (0 ≤ (slices_IndexFunc_int_o_equal_Trim_wrong_c1_r0_0 [x4]))) then 0 else (wi (x4 - x2)))

def equal_Trim_Even_pi_Fi3_r0_1 (x4 : Int) : Int := (bif tb (decide (0 ≤ (slices_IndexFunc_int_o_equal_Trim_wrong_c1_r0_0 [x4]))) then 1 else 0)

theorem equal_Trim_Even_pi_Fi3_t0 (x0 : Int) (x1 : Int) (x2 : Int) (x3 : Bool) (x4 : Int) : equal_Trim_Even_pi_Fi3_c0 x4 = true → cl E0 57 [(V.ptr 0 1 0 0), (V.d (.int .i64 x4))] [(Blk.flat 107 3 [[(.int .i64 x0), (.int .i64 x1), (.int .i64 x2)]] x3)] = some ([(V.d (.int .i64 (equal_Trim_Even_pi_Fi3_r0_0 x2 x4))), (V.d (.int .i64 (equal_Trim_Even_pi_Fi3_r0_1 x4)))], [(Blk.flat 107 3 [[(.int .i64 x0), (.int .i64 x1), (.int .i64 x2)]] x3)]) := by
  unfold equal_Trim_Even_pi_Fi3_c0 equal_Trim_Even_pi_Fi3_r0_0 equal_Trim_Even_pi_Fi3_r0_1
  cases h1 : tb (equal_Trim_wrong_po_Fi3_c0 [x4])
  · intro g0
    exact absurd g0 ft
  · cases h2 : tb (decide (0 ≤ (slices_IndexFunc_int_o_equal_Trim_wrong_c1_r0_0 [x4])))
    · intro g0
      exact w57 [.c (equal_Trim_wrong_po_Fi3_t0 x0 x1 x2 x3 false [x4] (tbE h1)), .b (tbE h2)] (by kernel_rfl)
    · intro g0
      exact w57 [.c (equal_Trim_wrong_po_Fi3_t0 x0 x1 x2 x3 false [x4] (tbE h1)), .b (tbE h2)] (by kernel_rfl)

theorem equal_Trim_Offset_p_Fi3_t0 (x0 : Int) (x1 : Int) (x2 : Int) (x3 : Bool) : cl E0 59 [(V.ptr 0 1 0 0)] [(Blk.flat 107 3 [[(.int .i64 x0), (.int .i64 x1), (.int .i64 x2)]] x3)] = some ([(V.d (.int .i64 x2))], [(Blk.flat 107 3 [[(.int .i64 x0), (.int .i64 x1), (.int .i64 x2)]] x3)]) := by
  exact w59 [.k false] (by kernel_rfl)

theorem equal_Trim_wrong_no_t0 (x0 : Bool) (x1 : List Int) : cl E0 76 [(V.d .nilp), (V.d (slD (encI .i64) true 1 x0 x1))] [] = some ([(V.d (.bool true))], []) := by
  exact w76 [.k true] (by kernel_rfl)

theorem equal_Trim_Even_ni_t0 (x0 : Int) : cl E0 57 [(V.d .nilp), (V.d (.int .i64 x0))] [] = some ([(V.d (.int .i64 0)), (V.d (.int .i64 1))], []) := by
  exact w57 [.c (equal_Trim_wrong_no_t0 false [x0]), .k true] (by kernel_rfl)

theorem equal_Trim_Learn_nii_t0 (x0 : Int) (x1 : Int) : cl E0 55 [(V.d .nilp), (V.d (.int .i64 x0)), (V.d (.int .i64 x1))] [] = some ([(V.d (.int .i64 1))], []) := by
  exact w55 [.c (equal_Trim_wrong_no_t0 false [x0, x1]), .k true] (by kernel_rfl)

theorem equal_Trim_Offset_n_t0  : cl E0 59 [(V.d .nilp)] [] = some ([(V.d (.int .i64 0))], []) := by
  exact w59 [.k true] (by kernel_rfl)

end Go.Proofs.Ytgalchmjpfmemaa.Den

namespace Go.Proofs.Ytgalchmjpfmemaa.Den
open Go Go.Proofs
set_option maxRecDepth 100000
set_option maxHeartbeats 4000000
set_option linter.unusedVariables false
set_option linter.unusedSimpArgs false

theorem law11_alive_t0 : cl E0 52 [] [] = some ([(V.d (.bool true))], []) := cl_of (n := 60) (by kernel_rfl)

end Go.Proofs.Ytgalchmjpfmemaa.Den

namespace Go.Proofs.Ytgalchmjpfmemaa.Den
open Go Go.Proofs
set_option maxRecDepth 100000
set_option maxHeartbeats 4000000
set_option linter.unusedVariables false
set_option linter.unusedSimpArgs false

structure law11_EqualWithin_L0_s0 where
  c4 : Int
  c7 : Int
  deriving Inhabited

def law11_EqualWithin_L0_enc (x0 : Int) (x1 : Int) (x2 : Int) (x3 : Bool) (x4 : Int) (x5 : Bool) (x6 : List R_i64_i64) (x7 : Int) (x8 : Int) (s0 : law11_EqualWithin_L0_s0) : List V × Mem := ([(V.d (.int .u8 x4)), (V.d (slD enc_R_i64_i64 true 2 x5 x6)), (V.d (.int .i64 x7)), (V.ptr 0 1 0 0), (V.d (.int .i64 s0.c4))], [(Blk.flat 107 3 [[(.int .i64 x0), (.int .i64 x1), (.int .i64 s0.c7)]] false)])

def law11_EqualWithin_L0_h0_e0 (x0 : Int) (x1 : Int) (x6 : List R_i64_i64) (s0 : law11_EqualWithin_L0_s0) : Int := (equal_Trim_Learn_pii_Fi3_r0_3 x0 x1 s0.c7 ((gt x6 s0.c4).c0) ((gt x6 s0.c4).c1))

def law11_EqualWithin_L0_h0_e1 (x0 : Int) (x1 : Int) (x6 : List R_i64_i64) (s0 : law11_EqualWithin_L0_s0) : Int := wi (((gt x6 s0.c4).c0) - (law11_EqualWithin_L0_h0_e0 x0 x1 x6 s0))

def law11_EqualWithin_L0_h0_e2 (x6 : List R_i64_i64) (x7 : Int) (s0 : law11_EqualWithin_L0_s0) : Int := mxI (wi (0 - x7)) (mnI x7 (wi (((gt x6 s0.c4).c0) - ((gt x6 s0.c4).c1))))

def law11_EqualWithin_L0_sel (x0 : Int) (x1 : Int) (x4 : Int) (x6 : List R_i64_i64) (x7 : Int) (s0 : law11_EqualWithin_L0_s0) : Bool := (bif tb (decide (s0.c4 < ((x6.length : Nat) : Int))) then (bif tb (inb x6.length s0.c4) then (bif tb (equal_Trim_Learn_pii_Fi3_c0 x0 x1 s0.c7 ((gt x6 s0.c4).c0) ((gt x6 s0.c4).c1)) then (bif tb (((equal_Trim_Learn_pii_Fi3_r0_0 ((gt x6 s0.c4).c0) ((gt x6 s0.c4).c1)) : Int) != 0) then true else (bif tb (equal_Trim_Even_pi_Fi3_c0 ((gt x6 s0.c4).c0)) then (bif tb (decide (x7 < (law11_EqualWithin_L0_h0_e0 x0 x1 x6 s0))) then false else (bif tb (decide ((law11_EqualWithin_L0_h0_e0 x0 x1 x6 s0) < (wi (0 - x7)))) then false else (bif tb (((equal_Trim_Even_pi_Fi3_r0_1 ((gt x6 s0.c4).c0)) : Int) != 0) then false else (bif tb (((equal_Trim_Even_pi_Fi3_r0_0 (law11_EqualWithin_L0_h0_e0 x0 x1 x6 s0) ((gt x6 s0.c4).c0)) : Int) != (law11_EqualWithin_L0_h0_e1 x0 x1 x6 s0)) then false else (bif tb (decide ((wi (((gt x6 s0.c4).c0) + x7)) < (equal_Trim_Even_pi_Fi3_r0_0 (law11_EqualWithin_L0_h0_e0 x0 x1 x6 s0) ((gt x6 s0.c4).c0)))) then false else (bif tb (decide ((equal_Trim_Even_pi_Fi3_r0_0 (law11_EqualWithin_L0_h0_e0 x0 x1 x6 s0) ((gt x6 s0.c4).c0)) < (wi (((gt x6 s0.c4).c0) - x7)))) then false else (bif tb (decide ((law11_EqualWithin_L0_h0_e0 x0 x1 x6 s0) < (mnI s0.c7 (wi (((gt x6 s0.c4).c0) - ((gt x6 s0.c4).c1)))))) then (bif tb (((law11_EqualWithin_L0_h0_e0 x0 x1 x6 s0) : Int) != (wi (0 - x7))) then (bif tb (((law11_EqualWithin_L0_h0_e0 x0 x1 x6 s0) : Int) != x7) then false else (bif tb (((remI .u8 x4 9) : Int) == 0) then (bif tb (((law11_EqualWithin_L0_h0_e0 x0 x1 x6 s0) : Int) != (law11_EqualWithin_L0_h0_e2 x6 x7 s0)) then false else true) else true)) else (bif tb (((remI .u8 x4 9) : Int) == 0) then (bif tb (((law11_EqualWithin_L0_h0_e0 x0 x1 x6 s0) : Int) != (law11_EqualWithin_L0_h0_e2 x6 x7 s0)) then false else true) else true)) else (bif tb (decide ((mxI s0.c7 (wi (((gt x6 s0.c4).c0) - ((gt x6 s0.c4).c1)))) < (law11_EqualWithin_L0_h0_e0 x0 x1 x6 s0))) then (bif tb (((law11_EqualWithin_L0_h0_e0 x0 x1 x6 s0) : Int) != x7) then (bif tb (((law11_EqualWithin_L0_h0_e0 x0 x1 x6 s0) : Int) != (wi (0 - x7))) then false else (bif tb (((remI .u8 x4 9) : Int) == 0) then (bif tb (((law11_EqualWithin_L0_h0_e0 x0 x1 x6 s0) : Int) != (law11_EqualWithin_L0_h0_e2 x6 x7 s0)) then false else true) else true)) else (bif tb (((remI .u8 x4 9) : Int) == 0) then (bif tb (((law11_EqualWithin_L0_h0_e0 x0 x1 x6 s0) : Int) != (law11_EqualWithin_L0_h0_e2 x6 x7 s0)) then false else true) else true)) else (bif tb (((remI .u8 x4 9) : Int) == 0) then (bif tb (((law11_EqualWithin_L0_h0_e0 x0 x1 x6 s0) : Int) != (law11_EqualWithin_L0_h0_e2 x6 x7 s0)) then false else true) else true))))))))) else false)) else false) else false) else false)

def law11_EqualWithin_L0_nx (x0 : Int) (x1 : Int) (x4 : Int) (x6 : List R_i64_i64) (x7 : Int) (s0 : law11_EqualWithin_L0_s0) : law11_EqualWithin_L0_s0 := ⟨(wi (s0.c4 + 1)), (bif tb (((equal_Trim_Learn_pii_Fi3_r0_0 ((gt x6 s0.c4).c0) ((gt x6 s0.c4).c1)) : Int) != 0) then (equal_Trim_Learn_pii_Fi3_r0_3 x0 x1 s0.c7 ((gt x6 s0.c4).c0) ((gt x6 s0.c4).c1)) else (law11_EqualWithin_L0_h0_e0 x0 x1 x6 s0))⟩

def law11_EqualWithin_L0_ok (x0 : Int) (x1 : Int) (x4 : Int) (x6 : List R_i64_i64) (x7 : Int) (s0 : law11_EqualWithin_L0_s0) : Bool := (itS (law11_EqualWithin_L0_sel x0 x1 x4 x6 x7) (law11_EqualWithin_L0_nx x0 x1 x4 x6 x7) bound s0).isSome
def law11_EqualWithin_L0_end (x0 : Int) (x1 : Int) (x4 : Int) (x6 : List R_i64_i64) (x7 : Int) (s0 : law11_EqualWithin_L0_s0) : law11_EqualWithin_L0_s0 := (itS (law11_EqualWithin_L0_sel x0 x1 x4 x6 x7) (law11_EqualWithin_L0_nx x0 x1 x4 x6 x7) bound s0).getD default

theorem law11_EqualWithin_L0_go (x0 : Int) (x1 : Int) (x2 : Int) (x3 : Bool) (x4 : Int) (x5 : Bool) (x6 : List R_i64_i64) (x7 : Int) (x8 : Int) (s0 : law11_EqualWithin_L0_s0) : law11_EqualWithin_L0_sel x0 x1 x4 x6 x7 s0 = true → (roundG (runC E0 (cl E0) L14_0) [1, 2, 7, 8, 10] [6] 1) (law11_EqualWithin_L0_enc x0 x1 x2 x3 x4 x5 x6 x7 x8 s0) = some (.normal, law11_EqualWithin_L0_enc x0 x1 x2 x3 x4 x5 x6 x7 x8 (law11_EqualWithin_L0_nx x0 x1 x4 x6 x7 s0)) := by
  unfold law11_EqualWithin_L0_sel law11_EqualWithin_L0_nx
  cases h1 : tb (decide (s0.c4 < ((x6.length : Nat) : Int)))
  · intro g0
    exact absurd g0 ft
  · cases h2 : tb (inb x6.length s0.c4)
    · intro g0
      exact absurd g0 ft
    · cases h3 : tb (equal_Trim_Learn_pii_Fi3_c0 x0 x1 s0.c7 ((gt x6 s0.c4).c0) ((gt x6 s0.c4).c1))
      · intro g0
        exact absurd g0 ft
      · cases h4 : tb (((equal_Trim_Learn_pii_Fi3_r0_0 ((gt x6 s0.c4).c0) ((gt x6 s0.c4).c1)) : Int) != 0)
        · cases h5 : tb (equal_Trim_Even_pi_Fi3_c0 ((gt x6 s0.c4).c0))
          · intro g0
            exact absurd g0 ft
          · cases h6 : tb (decide (x7 < (law11_EqualWithin_L0_h0_e0 x0 x1 x6 s0)))
            · cases h7 : tb (decide ((law11_EqualWithin_L0_h0_e0 x0 x1 x6 s0) < (wi (0 - x7))))
              · cases h8 : tb (((equal_Trim_Even_pi_Fi3_r0_1 ((gt x6 s0.c4).c0)) : Int) != 0)
                · cases h9 : tb (((equal_Trim_Even_pi_Fi3_r0_0 (law11_EqualWithin_L0_h0_e0 x0 x1 x6 s0) ((gt x6 s0.c4).c0)) : Int) != (law11_EqualWithin_L0_h0_e1 x0 x1 x6 s0))
                  · cases h10 : tb (decide ((wi (((gt x6 s0.c4).c0) + x7)) < (equal_Trim_Even_pi_Fi3_r0_0 (law11_EqualWithin_L0_h0_e0 x0 x1 x6 s0) ((gt x6 s0.c4).c0))))
                    · cases h11 : tb (decide ((equal_Trim_Even_pi_Fi3_r0_0 (law11_EqualWithin_L0_h0_e0 x0 x1 x6 s0) ((gt x6 s0.c4).c0)) < (wi (((gt x6 s0.c4).c0) - x7))))
                      · cases h12 : tb (decide ((law11_EqualWithin_L0_h0_e0 x0 x1 x6 s0) < (mnI s0.c7 (wi (((gt x6 s0.c4).c0) - ((gt x6 s0.c4).c1))))))
                        · cases h13 : tb (decide ((mxI s0.c7 (wi (((gt x6 s0.c4).c0) - ((gt x6 s0.c4).c1)))) < (law11_EqualWithin_L0_h0_e0 x0 x1 x6 s0)))
                          · cases h14 : tb (((remI .u8 x4 9) : Int) == 0)
                            · intro _
                              exact round_walk [.o 38 (fun _ => o_len_os (enc := enc_R_i64_i64) (l := x6) (fl := true) (n := x5) (s := 2)), .b (tbE h1), .c (equal_Trim_Offset_p_Fi3_t0 x0 x1 s0.c7 false), .o 47 (fun _ => o_idx_os (enc := enc_R_i64_i64) (l := x6) (fl := true) (n := x5) (s := 2) (k := .i64) (tbE h2)), .o 52 (fun _ => o_idx_os (enc := enc_R_i64_i64) (l := x6) (fl := true) (n := x5) (s := 2) (k := .i64) (tbE h2)), .c (equal_Trim_Learn_pii_Fi3_t0 x0 x1 s0.c7 ((gt x6 s0.c4).c0) ((gt x6 s0.c4).c1) (tbE h3)), .b (tbE h4), .c (equal_Trim_Offset_p_Fi3_t0 x0 x1 (law11_EqualWithin_L0_h0_e0 x0 x1 x6 s0) false), .o 63 (fun _ => o_idx_os (enc := enc_R_i64_i64) (l := x6) (fl := true) (n := x5) (s := 2) (k := .i64) (tbE h2)), .c (equal_Trim_Even_pi_Fi3_t0 x0 x1 (law11_EqualWithin_L0_h0_e0 x0 x1 x6 s0) false ((gt x6 s0.c4).c0) (tbE h5)), .b (tbE h6), .b (tbE h7), .b (tbE h8), .o 86 (fun _ => o_idx_os (enc := enc_R_i64_i64) (l := x6) (fl := true) (n := x5) (s := 2) (k := .i64) (tbE h2)), .b (tbE h9), .o 97 (fun _ => o_idx_os (enc := enc_R_i64_i64) (l := x6) (fl := true) (n := x5) (s := 2) (k := .i64) (tbE h2)), .b (tbE h10), .o 108 (fun _ => o_idx_os (enc := enc_R_i64_i64) (l := x6) (fl := true) (n := x5) (s := 2) (k := .i64) (tbE h2)), .b (tbE h11), .o 117 (fun _ => o_idx_os (enc := enc_R_i64_i64) (l := x6) (fl := true) (n := x5) (s := 2) (k := .i64) (tbE h2)), .o 122 (fun _ => o_idx_os (enc := enc_R_i64_i64) (l := x6) (fl := true) (n := x5) (s := 2) (k := .i64) (tbE h2)), .b (tbE h12), .b (tbE h13), .b (tbE h14)] (by kernel_rfl)
                            · cases h15 : tb (((law11_EqualWithin_L0_h0_e0 x0 x1 x6 s0) : Int) != (law11_EqualWithin_L0_h0_e2 x6 x7 s0))
                              · intro _
                                exact round_walk [.o 38 (fun _ => o_len_os (enc := enc_R_i64_i64) (l := x6) (fl := true) (n := x5) (s := 2)), .b (tbE h1), .c (equal_Trim_Offset_p_Fi3_t0 x0 x1 s0.c7 false), .o 47 (fun _ => o_idx_os (enc := enc_R_i64_i64) (l := x6) (fl := true) (n := x5) (s := 2) (k := .i64) (tbE h2)), .o 52 (fun _ => o_idx_os (enc := enc_R_i64_i64) (l := x6) (fl := true) (n := x5) (s := 2) (k := .i64) (tbE h2)), .c (equal_Trim_Learn_pii_Fi3_t0 x0 x1 s0.c7 ((gt x6 s0.c4).c0) ((gt x6 s0.c4).c1) (tbE h3)), .b (tbE h4), .c (equal_Trim_Offset_p_Fi3_t0 x0 x1 (law11_EqualWithin_L0_h0_e0 x0 x1 x6 s0) false), .o 63 (fun _ => o_idx_os (enc := enc_R_i64_i64) (l := x6) (fl := true) (n := x5) (s := 2) (k := .i64) (tbE h2)), .c (equal_Trim_Even_pi_Fi3_t0 x0 x1 (law11_EqualWithin_L0_h0_e0 x0 x1 x6 s0) false ((gt x6 s0.c4).c0) (tbE h5)), .b (tbE h6), .b (tbE h7), .b (tbE h8), .o 86 (fun _ => o_idx_os (enc := enc_R_i64_i64) (l := x6) (fl := true) (n := x5) (s := 2) (k := .i64) (tbE h2)), .b (tbE h9), .o 97 (fun _ => o_idx_os (enc := enc_R_i64_i64) (l := x6) (fl := true) (n := x5) (s := 2) (k := .i64) (tbE h2)), .b (tbE h10), .o 108 (fun _ => o_idx_os (enc := enc_R_i64_i64) (l := x6) (fl := true) (n := x5) (s := 2) (k := .i64) (tbE h2)), .b (tbE h11), .o 117 (fun _ => o_idx_os (enc := enc_R_i64_i64) (l := x6) (fl := true) (n := x5) (s := 2) (k := .i64) (tbE h2)), .o 122 (fun _ => o_idx_os (enc := enc_R_i64_i64) (l := x6) (fl := true) (n := x5) (s := 2) (k := .i64) (tbE h2)), .b (tbE h12), .b (tbE h13), .b (tbE h14), .b (tbE h15)] (by kernel_rfl)
                              · intro g0
                                exact absurd g0 ft
                          · cases h14 : tb (((law11_EqualWithin_L0_h0_e0 x0 x1 x6 s0) : Int) != x7)
                            · cases h15 : tb (((remI .u8 x4 9) : Int) == 0)
                              · intro _
                                exact round_walk [.o 38 (fun _ => o_len_os (enc := enc_R_i64_i64) (l := x6) (fl := true) (n := x5) (s := 2)), .b (tbE h1), .c (equal_Trim_Offset_p_Fi3_t0 x0 x1 s0.c7 false), .o 47 (fun _ => o_idx_os (enc := enc_R_i64_i64) (l := x6) (fl := true) (n := x5) (s := 2) (k := .i64) (tbE h2)), .o 52 (fun _ => o_idx_os (enc := enc_R_i64_i64) (l := x6) (fl := true) (n := x5) (s := 2) (k := .i64) (tbE h2)), .c (equal_Trim_Learn_pii_Fi3_t0 x0 x1 s0.c7 ((gt x6 s0.c4).c0) ((gt x6 s0.c4).c1) (tbE h3)), .b (tbE h4), .c (equal_Trim_Offset_p_Fi3_t0 x0 x1 (law11_EqualWithin_L0_h0_e0 x0 x1 x6 s0) false), .o 63 (fun _ => o_idx_os (enc := enc_R_i64_i64) (l := x6) (fl := true) (n := x5) (s := 2) (k := .i64) (tbE h2)), .c (equal_Trim_Even_pi_Fi3_t0 x0 x1 (law11_EqualWithin_L0_h0_e0 x0 x1 x6 s0) false ((gt x6 s0.c4).c0) (tbE h5)), .b (tbE h6), .b (tbE h7), .b (tbE h8), .o 86 (fun _ => o_idx_os (enc := enc_R_i64_i64) (l := x6) (fl := true) (n := x5) (s := 2) (k := .i64) (tbE h2)), .b (tbE h9), .o 97 (fun _ => o_idx_os (enc := enc_R_i64_i64) (l := x6) (fl := true) (n := x5) (s := 2) (k := .i64) (tbE h2)), .b (tbE h10), .o 108 (fun _ => o_idx_os (enc := enc_R_i64_i64) (l := x6) (fl := true) (n := x5) (s := 2) (k := .i64) (tbE h2)), .b (tbE h11), .o 117 (fun _ => o_idx_os (enc := enc_R_i64_i64) (l := x6) (fl := true) (n := x5) (s := 2) (k := .i64) (tbE h2)), .o 122 (fun _ => o_idx_os (enc := enc_R_i64_i64) (l := x6) (fl := true) (n := x5) (s := 2) (k := .i64) (tbE h2)), .b (tbE h12), .b (tbE h13), .b (tbE h14), .b (tbE h15)] (by kernel_rfl)
                              · cases h16 : tb (((law11_EqualWithin_L0_h0_e0 x0 x1 x6 s0) : Int) != (law11_EqualWithin_L0_h0_e2 x6 x7 s0))
                                · intro _
                                  exact round_walk [.o 38 (fun _ => o_len_os (enc := enc_R_i64_i64) (l := x6) (fl := true) (n := x5) (s := 2)), .b (tbE h1), .c (equal_Trim_Offset_p_Fi3_t0 x0 x1 s0.c7 false), .o 47 (fun _ => o_idx_os (enc := enc_R_i64_i64) (l := x6) (fl := true) (n := x5) (s := 2) (k := .i64) (tbE h2)), .o 52 (fun _ => o_idx_os (enc := enc_R_i64_i64) (l := x6) (fl := true) (n := x5) (s := 2) (k := .i64) (tbE h2)), .c (equal_Trim_Learn_pii_Fi3_t0 x0 x1 s0.c7 ((gt x6 s0.c4).c0) ((gt x6 s0.c4).c1) (tbE h3)), .b (tbE h4), .c (equal_Trim_Offset_p_Fi3_t0 x0 x1 (law11_EqualWithin_L0_h0_e0 x0 x1 x6 s0) false), .o 63 (fun _ => o_idx_os (enc := enc_R_i64_i64) (l := x6) (fl := true) (n := x5) (s := 2) (k := .i64) (tbE h2)), .c (equal_Trim_Even_pi_Fi3_t0 x0 x1 (law11_EqualWithin_L0_h0_e0 x0 x1 x6 s0) false ((gt x6 s0.c4).c0) (tbE h5)), .b (tbE h6), .b (tbE h7), .b (tbE h8), .o 86 (fun _ => o_idx_os (enc := enc_R_i64_i64) (l := x6) (fl := true) (n := x5) (s := 2) (k := .i64) (tbE h2)), .b (tbE h9), .o 97 (fun _ => o_idx_os (enc := enc_R_i64_i64) (l := x6) (fl := true) (n := x5) (s := 2) (k := .i64) (tbE h2)), .b (tbE h10), .o 108 (fun _ => o_idx_os (enc := enc_R_i64_i64) (l := x6) (fl := true) (n := x5) (s := 2) (k := .i64) (tbE h2)), .b (tbE h11), .o 117 (fun _ => o_idx_os (enc := enc_R_i64_i64) (l := x6) (fl := true) (n := x5) (s := 2) (k := .i64) (tbE h2)), .o 122 (fun _ => o_idx_os (enc := enc_R_i64_i64) (l := x6) (fl := true) (n := x5) (s := 2) (k := .i64) (tbE h2)), .b (tbE h12), .b (tbE h13), .b (tbE h14), .b (tbE h15), .b (tbE h16)] (by kernel_rfl)
                                · intro g0
                                  exact absurd g0 ft
                            · cases h15 : tb (((law11_EqualWithin_L0_h0_e0 x0 x1 x6 s0) : Int) != (wi (0 - x7)))
                              · cases h16 : tb (((remI .u8 x4 9) : Int) == 0)
                                · intro _
                                  exact round_walk [.o 38 (fun _ => o_len_os (enc := enc_R_i64_i64) (l := x6) (fl := true) (n := x5) (s := 2)), .b (tbE h1), .c (equal_Trim_Offset_p_Fi3_t0 x0 x1 s0.c7 false), .o 47 (fun _ => o_idx_os (enc := enc_R_i64_i64) (l := x6) (fl := true) (n := x5) (s := 2) (k := .i64) (tbE h2)), .o 52 (fun _ => o_idx_os (enc := enc_R_i64_i64) (l := x6) (fl := true) (n := x5) (s := 2) (k := .i64) (tbE h2)), .c (equal_Trim_Learn_pii_Fi3_t0 x0 x1 s0.c7 ((gt x6 s0.c4).c0) ((gt x6 s0.c4).c1) (tbE h3)), .b (tbE h4), .c (equal_Trim_Offset_p_Fi3_t0 x0 x1 (law11_EqualWithin_L0_h0_e0 x0 x1 x6 s0) false), .o 63 (fun _ => o_idx_os (enc := enc_R_i64_i64) (l := x6) (fl := true) (n := x5) (s := 2) (k := .i64) (tbE h2)), .c (equal_Trim_Even_pi_Fi3_t0 x0 x1 (law11_EqualWithin_L0_h0_e0 x0 x1 x6 s0) false ((gt x6 s0.c4).c0) (tbE h5)), .b (tbE h6), .b (tbE h7), .b (tbE h8), .o 86 (fun _ => o_idx_os (enc := enc_R_i64_i64) (l := x6) (fl := true) (n := x5) (s := 2) (k := .i64) (tbE h2)), .b (tbE h9), .o 97 (fun _ => o_idx_os (enc := enc_R_i64_i64) (l := x6) (fl := true) (n := x5) (s := 2) (k := .i64) (tbE h2)), .b (tbE h10), .o 108 (fun _ => o_idx_os (enc := enc_R_i64_i64) (l := x6) (fl := true) (n := x5) (s := 2) (k := .i64) (tbE h2)), .b (tbE h11), .o 117 (fun _ => o_idx_os (enc := enc_R_i64_i64) (l := x6) (fl := true) (n := x5) (s := 2) (k := .i64) (tbE h2)), .o 122 (fun _ => o_idx_os (enc := enc_R_i64_i64) (l := x6) (fl := true) (n := x5) (s := 2) (k := .i64) (tbE h2)), .b (tbE h12), .b (tbE h13), .b (tbE h14), .b (tbE h15), .b (tbE h16)] (by kernel_rfl)
                                · cases h17 : tb (((law11_EqualWithin_L0_h0_e0 x0 x1 x6 s0) : Int) != (law11_EqualWithin_L0_h0_e2 x6 x7 s0))
                                  · intro _
                                    exact round_walk [.o 38 (fun _ => o_len_os (enc := enc_R_i64_i64) (l := x6) (fl := true) (n := x5) (s := 2)), .b (tbE h1), .c (equal_Trim_Offset_p_Fi3_t0 x0 x1 s0.c7 false), .o 47 (fun _ => o_idx_os (enc := enc_R_i64_i64) (l := x6) (fl := true) (n := x5) (s := 2) (k := .i64) (tbE h2)), .o 52 (fun _ => o_idx_os (enc := enc_R_i64_i64) (l := x6) (fl := true) (n := x5) (s := 2) (k := .i64) (tbE h2)), .c (equal_Trim_Learn_pii_Fi3_t0 x0 x1 s0.c7 ((gt x6 s0.c4).c0) ((gt x6 s0.c4).c1) (tbE h3)), .b (tbE h4), .c (equal_Trim_Offset_p_Fi3_t0 x0 x1 (law11_EqualWithin_L0_h0_e0 x0 x1 x6 s0) false), .o 63 (fun _ => o_idx_os (enc := enc_R_i64_i64) (l := x6) (fl := true) (n := x5) (s := 2) (k := .i64) (tbE h2)), .c (equal_Trim_Even_pi_Fi3_t0 x0 x1 (law11_EqualWithin_L0_h0_e0 x0 x1 x6 s0) false ((gt x6 s0.c4).c0) (tbE h5)), .b (tbE h6), .b (tbE h7), .b (tbE h8), .o 86 (fun _ => o_idx_os (enc := enc_R_i64_i64) (l := x6) (fl := true) (n := x5) (s := 2) (k := .i64) (tbE h2)), .b (tbE h9), .o 97 (fun _ => o_idx_os (enc := enc_R_i64_i64) (l := x6) (fl := true) (n := x5) (s := 2) (k := .i64) (tbE h2)), .b (tbE h10), .o 108 (fun _ => o_idx_os (enc := enc_R_i64_i64) (l := x6) (fl := true) (n := x5) (s := 2) (k := .i64) (tbE h2)), .b (tbE h11), .o 117 (fun _ => o_idx_os (enc := enc_R_i64_i64) (l := x6) (fl := true) (n := x5) (s := 2) (k := .i64) (tbE h2)), .o 122 (fun _ => o_idx_os (enc := enc_R_i64_i64) (l := x6) (fl := true) (n := x5) (s := 2) (k := .i64) (tbE h2)), .b (tbE h12), .b (tbE h13), .b (tbE h14), .b (tbE h15), .b (tbE h16), .b (tbE h17)] (by kernel_rfl)
                                  · intro g0
                                    exact absurd g0 ft
                              · intro g0
                                exact absurd g0 ft
                        · cases h13 : tb (((law11_EqualWithin_L0_h0_e0 x0 x1 x6 s0) : Int) != (wi (0 - x7)))
                          · cases h14 : tb (decide ((mxI s0.c7 (wi (((gt x6 s0.c4).c0) - ((gt x6 s0.c4).c1)))) < (law11_EqualWithin_L0_h0_e0 x0 x1 x6 s0)))
                            · cases h15 : tb (((remI .u8 x4 9) : Int) == 0)
                              · intro _
                                exact round_walk [.o 38 (fun _ => o_len_os (enc := enc_R_i64_i64) (l := x6) (fl := true) (n := x5) (s := 2)), .b (tbE h1), .c (equal_Trim_Offset_p_Fi3_t0 x0 x1 s0.c7 false), .o 47 (fun _ => o_idx_os (enc := enc_R_i64_i64) (l := x6) (fl := true) (n := x5) (s := 2) (k := .i64) (tbE h2)), .o 52 (fun _ => o_idx_os (enc := enc_R_i64_i64) (l := x6) (fl := true) (n := x5) (s := 2) (k := .i64) (tbE h2)), .c (equal_Trim_Learn_pii_Fi3_t0 x0 x1 s0.c7 ((gt x6 s0.c4).c0) ((gt x6 s0.c4).c1) (tbE h3)), .b (tbE h4), .c (equal_Trim_Offset_p_Fi3_t0 x0 x1 (law11_EqualWithin_L0_h0_e0 x0 x1 x6 s0) false), .o 63 (fun _ => o_idx_os (enc := enc_R_i64_i64) (l := x6) (fl := true) (n := x5) (s := 2) (k := .i64) (tbE h2)), .c (equal_Trim_Even_pi_Fi3_t0 x0 x1 (law11_EqualWithin_L0_h0_e0 x0 x1 x6 s0) false ((gt x6 s0.c4).c0) (tbE h5)), .b (tbE h6), .b (tbE h7), .b (tbE h8), .o 86 (fun _ => o_idx_os (enc := enc_R_i64_i64) (l := x6) (fl := true) (n := x5) (s := 2) (k := .i64) (tbE h2)), .b (tbE h9), .o 97 (fun _ => o_idx_os (enc := enc_R_i64_i64) (l := x6) (fl := true) (n := x5) (s := 2) (k := .i64) (tbE h2)), .b (tbE h10), .o 108 (fun _ => o_idx_os (enc := enc_R_i64_i64) (l := x6) (fl := true) (n := x5) (s := 2) (k := .i64) (tbE h2)), .b (tbE h11), .o 117 (fun _ => o_idx_os (enc := enc_R_i64_i64) (l := x6) (fl := true) (n := x5) (s := 2) (k := .i64) (tbE h2)), .o 122 (fun _ => o_idx_os (enc := enc_R_i64_i64) (l := x6) (fl := true) (n := x5) (s := 2) (k := .i64) (tbE h2)), .b (tbE h12), .b (tbE h13), .b (tbE h14), .b (tbE h15)] (by kernel_rfl)
                              · cases h16 : tb (((law11_EqualWithin_L0_h0_e0 x0 x1 x6 s0) : Int) != (law11_EqualWithin_L0_h0_e2 x6 x7 s0))
                                · intro _
                                  exact round_walk [.o 38 (fun _ => o_len_os (enc := enc_R_i64_i64) (l := x6) (fl := true) (n := x5) (s := 2)), .b (tbE h1), .c (equal_Trim_Offset_p_Fi3_t0 x0 x1 s0.c7 false), .o 47 (fun _ => o_idx_os (enc := enc_R_i64_i64) (l := x6) (fl := true) (n := x5) (s := 2) (k := .i64) (tbE h2)), .o 52 (fun _ => o_idx_os (enc := enc_R_i64_i64) (l := x6) (fl := true) (n := x5) (s := 2) (k := .i64) (tbE h2)), .c (equal_Trim_Learn_pii_Fi3_t0 x0 x1 s0.c7 ((gt x6 s0.c4).c0) ((gt x6 s0.c4).c1) (tbE h3)), .b (tbE h4), .c (equal_Trim_Offset_p_Fi3_t0 x0 x1 (law11_EqualWithin_L0_h0_e0 x0 x1 x6 s0) false), .o 63 (fun _ => o_idx_os (enc := enc_R_i64_i64) (l := x6) (fl := true) (n := x5) (s := 2) (k := .i64) (tbE h2)), .c (equal_Trim_Even_pi_Fi3_t0 x0 x1 (law11_EqualWithin_L0_h0_e0 x0 x1 x6 s0) false ((gt x6 s0.c4).c0) (tbE h5)), .b (tbE h6), .b (tbE h7), .b (tbE h8), .o 86 (fun _ => o_idx_os (enc := enc_R_i64_i64) (l := x6) (fl := true) (n := x5) (s := 2) (k := .i64) (tbE h2)), .b (tbE h9), .o 97 (fun _ => o_idx_os (enc := enc_R_i64_i64) (l := x6) (fl := true) (n := x5) (s := 2) (k := .i64) (tbE h2)), .b (tbE h10), .o 108 (fun _ => o_idx_os (enc := enc_R_i64_i64) (l := x6) (fl := true) (n := x5) (s := 2) (k := .i64) (tbE h2)), .b (tbE h11), .o 117 (fun _ => o_idx_os (enc := enc_R_i64_i64) (l := x6) (fl := true) (n := x5) (s := 2) (k := .i64) (tbE h2)), .o 122 (fun _ => o_idx_os (enc := enc_R_i64_i64) (l := x6) (fl := true) (n := x5) (s := 2) (k := .i64) (tbE h2)), .b (tbE h12), .b (tbE h13), .b (tbE h14), .b (tbE h15), .b (tbE h16)] (by kernel_rfl)
                                · intro g0
                                  exact absurd g0 ft
                            · cases h15 : tb (((law11_EqualWithin_L0_h0_e0 x0 x1 x6 s0) : Int) != x7)
                              · cases h16 : tb (((remI .u8 x4 9) : Int) == 0)
                                · intro _
                                  exact round_walk [.o 38 (fun _ => o_len_os (enc := enc_R_i64_i64) (l := x6) (fl := true) (n := x5) (s := 2)), .b (tbE h1), .c (equal_Trim_Offset_p_Fi3_t0 x0 x1 s0.c7 false), .o 47 (fun _ => o_idx_os (enc := enc_R_i64_i64) (l := x6) (fl := true) (n := x5) (s := 2) (k := .i64) (tbE h2)), .o 52 (fun _ => o_idx_os (enc := enc_R_i64_i64) (l := x6) (fl := true) (n := x5) (s := 2) (k := .i64) (tbE h2)), .c (equal_Trim_Learn_pii_Fi3_t0 x0 x1 s0.c7 ((gt x6 s0.c4).c0) ((gt x6 s0.c4).c1) (tbE h3)), .b (tbE h4), .c (equal_Trim_Offset_p_Fi3_t0 x0 x1 (law11_EqualWithin_L0_h0_e0 x0 x1 x6 s0) false), .o 63 (fun _ => o_idx_os (enc := enc_R_i64_i64) (l := x6) (fl := true) (n := x5) (s := 2) (k := .i64) (tbE h2)), .c (equal_Trim_Even_pi_Fi3_t0 x0 x1 (law11_EqualWithin_L0_h0_e0 x0 x1 x6 s0) false ((gt x6 s0.c4).c0) (tbE h5)), .b (tbE h6), .b (tbE h7), .b (tbE h8), .o 86 (fun _ => o_idx_os (enc := enc_R_i64_i64) (l := x6) (fl := true) (n := x5) (s := 2) (k := .i64) (tbE h2)), .b (tbE h9), .o 97 (fun _ => o_idx_os (enc := enc_R_i64_i64) (l := x6) (fl := true) (n := x5) (s := 2) (k := .i64) (tbE h2)), .b (tbE h10), .o 108 (fun _ => o_idx_os (enc := enc_R_i64_i64) (l := x6) (fl := true) (n := x5) (s := 2) (k := .i64) (tbE h2)), .b (tbE h11), .o 117 (fun _ => o_idx_os (enc := enc_R_i64_i64) (l := x6) (fl := true) (n := x5) (s := 2) (k := .i64) (tbE h2)), .o 122 (fun _ => o_idx_os (enc := enc_R_i64_i64) (l := x6) (fl := true) (n := x5) (s := 2) (k := .i64) (tbE h2)), .b (tbE h12), .b (tbE h13), .b (tbE h14), .b (tbE h15), .b (tbE h16)] (by kernel_rfl)
                                · cases h17 : tb (((law11_EqualWithin_L0_h0_e0 x0 x1 x6 s0) : Int) != (law11_EqualWithin_L0_h0_e2 x6 x7 s0))
                                  · intro _
                                    exact round_walk [.o 38 (fun _ => o_len_os (enc := enc_R_i64_i64) (l := x6) (fl := true) (n := x5) (s := 2)), .b (tbE h1), .c (equal_Trim_Offset_p_Fi3_t0 x0 x1 s0.c7 false), .o 47 (fun _ => o_idx_os (enc := enc_R_i64_i64) (l := x6) (fl := true) (n := x5) (s := 2) (k := .i64) (tbE h2)), .o 52 (fun _ => o_idx_os (enc := enc_R_i64_i64) (l := x6) (fl := true) (n := x5) (s := 2) (k := .i64) (tbE h2)), .c (equal_Trim_Learn_pii_Fi3_t0 x0 x1 s0.c7 ((gt x6 s0.c4).c0) ((gt x6 s0.c4).c1) (tbE h3)), .b (tbE h4), .c (equal_Trim_Offset_p_Fi3_t0 x0 x1 (law11_EqualWithin_L0_h0_e0 x0 x1 x6 s0) false), .o 63 (fun _ => o_idx_os (enc := enc_R_i64_i64) (l := x6) (fl := true) (n := x5) (s := 2) (k := .i64) (tbE h2)), .c (equal_Trim_Even_pi_Fi3_t0 x0 x1 (law11_EqualWithin_L0_h0_e0 x0 x1 x6 s0) false ((gt x6 s0.c4).c0) (tbE h5)), .b (tbE h6), .b (tbE h7), .b (tbE h8), .o 86 (fun _ => o_idx_os (enc := enc_R_i64_i64) (l := x6) (fl := true) (n := x5) (s := 2) (k := .i64) (tbE h2)), .b (tbE h9), .o 97 (fun _ => o_idx_os (enc := enc_R_i64_i64) (l := x6) (fl := true) (n := x5) (s := 2) (k := .i64) (tbE h2)), .b (tbE h10), .o 108 (fun _ => o_idx_os (enc := enc_R_i64_i64) (l := x6) (fl := true) (n := x5) (s := 2) (k := .i64) (tbE h2)), .b (tbE h11), .o 117 (fun _ => o_idx_os (enc := enc_R_i64_i64) (l := x6) (fl := true) (n := x5) (s := 2) (k := .i64) (tbE h2)), .o 122 (fun _ => o_idx_os (enc := enc_R_i64_i64) (l := x6) (fl := true) (n := x5) (s := 2) (k := .i64) (tbE h2)), .b (tbE h12), .b (tbE h13), .b (tbE h14), .b (tbE h15), .b (tbE h16), .b (tbE h17)] (by kernel_rfl)
                                  · intro g0
                                    exact absurd g0 ft
                              · cases h16 : tb (((remI .u8 x4 9) : Int) == 0)
                                · intro _
                                  exact round_walk [.o 38 (fun _ => o_len_os (enc := enc_R_i64_i64) (l := x6) (fl := true) (n := x5) (s := 2)), .b (tbE h1), .c (equal_Trim_Offset_p_Fi3_t0 x0 x1 s0.c7 false), .o 47 (fun _ => o_idx_os (enc := enc_R_i64_i64) (l := x6) (fl := true) (n := x5) (s := 2) (k := .i64) (tbE h2)), .o 52 (fun _ => o_idx_os (enc := enc_R_i64_i64) (l := x6) (fl := true) (n := x5) (s := 2) (k := .i64) (tbE h2)), .c (equal_Trim_Learn_pii_Fi3_t0 x0 x1 s0.c7 ((gt x6 s0.c4).c0) ((gt x6 s0.c4).c1) (tbE h3)), .b (tbE h4), .c (equal_Trim_Offset_p_Fi3_t0 x0 x1 (law11_EqualWithin_L0_h0_e0 x0 x1 x6 s0) false), .o 63 (fun _ => o_idx_os (enc := enc_R_i64_i64) (l := x6) (fl := true) (n := x5) (s := 2) (k := .i64) (tbE h2)), .c (equal_Trim_Even_pi_Fi3_t0 x0 x1 (law11_EqualWithin_L0_h0_e0 x0 x1 x6 s0) false ((gt x6 s0.c4).c0) (tbE h5)), .b (tbE h6), .b (tbE h7), .b (tbE h8), .o 86 (fun _ => o_idx_os (enc := enc_R_i64_i64) (l := x6) (fl := true) (n := x5) (s := 2) (k := .i64) (tbE h2)), .b (tbE h9), .o 97 (fun _ => o_idx_os (enc := enc_R_i64_i64) (l := x6) (fl := true) (n := x5) (s := 2) (k := .i64) (tbE h2)), .b (tbE h10), .o 108 (fun _ => o_idx_os (enc := enc_R_i64_i64) (l := x6) (fl := true) (n := x5) (s := 2) (k := .i64) (tbE h2)), .b (tbE h11), .o 117 (fun _ => o_idx_os (enc := enc_R_i64_i64) (l := x6) (fl := true) (n := x5) (s := 2) (k := .i64) (tbE h2)), .o 122 (fun _ => o_idx_os (enc := enc_R_i64_i64) (l := x6) (fl := true) (n := x5) (s := 2) (k := .i64) (tbE h2)), .b (tbE h12), .b (tbE h13), .b (tbE h14), .b (tbE h15), .b (tbE h13), .b (tbE h16)] (by kernel_rfl)
                                · cases h17 : tb (((law11_EqualWithin_L0_h0_e0 x0 x1 x6 s0) : Int) != (law11_EqualWithin_L0_h0_e2 x6 x7 s0))
                                  · intro _
                                    exact round_walk [.o 38 (fun _ => o_len_os (enc := enc_R_i64_i64) (l := x6) (fl := true) (n := x5) (s := 2)), .b (tbE h1), .c (equal_Trim_Offset_p_Fi3_t0 x0 x1 s0.c7 false), .o 47 (fun _ => o_idx_os (enc := enc_R_i64_i64) (l := x6) (fl := true) (n := x5) (s := 2) (k := .i64) (tbE h2)), .o 52 (fun _ => o_idx_os (enc := enc_R_i64_i64) (l := x6) (fl := true) (n := x5) (s := 2) (k := .i64) (tbE h2)), .c (equal_Trim_Learn_pii_Fi3_t0 x0 x1 s0.c7 ((gt x6 s0.c4).c0) ((gt x6 s0.c4).c1) (tbE h3)), .b (tbE h4), .c (equal_Trim_Offset_p_Fi3_t0 x0 x1 (law11_EqualWithin_L0_h0_e0 x0 x1 x6 s0) false), .o 63 (fun _ => o_idx_os (enc := enc_R_i64_i64) (l := x6) (fl := true) (n := x5) (s := 2) (k := .i64) (tbE h2)), .c (equal_Trim_Even_pi_Fi3_t0 x0 x1 (law11_EqualWithin_L0_h0_e0 x0 x1 x6 s0) false ((gt x6 s0.c4).c0) (tbE h5)), .b (tbE h6), .b (tbE h7), .b (tbE h8), .o 86 (fun _ => o_idx_os (enc := enc_R_i64_i64) (l := x6) (fl := true) (n := x5) (s := 2) (k := .i64) (tbE h2)), .b (tbE h9), .o 97 (fun _ => o_idx_os (enc := enc_R_i64_i64) (l := x6) (fl := true) (n := x5) (s := 2) (k := .i64) (tbE h2)), .b (tbE h10), .o 108 (fun _ => o_idx_os (enc := enc_R_i64_i64) (l := x6) (fl := true) (n := x5) (s := 2) (k := .i64) (tbE h2)), .b (tbE h11), .o 117 (fun _ => o_idx_os (enc := enc_R_i64_i64) (l := x6) (fl := true) (n := x5) (s := 2) (k := .i64) (tbE h2)), .o 122 (fun _ => o_idx_os (enc := enc_R_i64_i64) (l := x6) (fl := true) (n := x5) (s := 2) (k := .i64) (tbE h2)), .b (tbE h12), .b (tbE h13), .b (tbE h14), .b (tbE h15), .b (tbE h13), .b (tbE h16), .b (tbE h17)] (by kernel_rfl)
                                  · intro g0
                                    exact absurd g0 ft
                          · cases h14 : tb (((law11_EqualWithin_L0_h0_e0 x0 x1 x6 s0) : Int) != x7)
                            · cases h15 : tb (decide ((mxI s0.c7 (wi (((gt x6 s0.c4).c0) - ((gt x6 s0.c4).c1)))) < (law11_EqualWithin_L0_h0_e0 x0 x1 x6 s0)))
                              · cases h16 : tb (((remI .u8 x4 9) : Int) == 0)
                                · intro _
                                  exact round_walk [.o 38 (fun _ => o_len_os (enc := enc_R_i64_i64) (l := x6) (fl := true) (n := x5) (s := 2)), .b (tbE h1), .c (equal_Trim_Offset_p_Fi3_t0 x0 x1 s0.c7 false), .o 47 (fun _ => o_idx_os (enc := enc_R_i64_i64) (l := x6) (fl := true) (n := x5) (s := 2) (k := .i64) (tbE h2)), .o 52 (fun _ => o_idx_os (enc := enc_R_i64_i64) (l := x6) (fl := true) (n := x5) (s := 2) (k := .i64) (tbE h2)), .c (equal_Trim_Learn_pii_Fi3_t0 x0 x1 s0.c7 ((gt x6 s0.c4).c0) ((gt x6 s0.c4).c1) (tbE h3)), .b (tbE h4), .c (equal_Trim_Offset_p_Fi3_t0 x0 x1 (law11_EqualWithin_L0_h0_e0 x0 x1 x6 s0) false), .o 63 (fun _ => o_idx_os (enc := enc_R_i64_i64) (l := x6) (fl := true) (n := x5) (s := 2) (k := .i64) (tbE h2)), .c (equal_Trim_Even_pi_Fi3_t0 x0 x1 (law11_EqualWithin_L0_h0_e0 x0 x1 x6 s0) false ((gt x6 s0.c4).c0) (tbE h5)), .b (tbE h6), .b (tbE h7), .b (tbE h8), .o 86 (fun _ => o_idx_os (enc := enc_R_i64_i64) (l := x6) (fl := true) (n := x5) (s := 2) (k := .i64) (tbE h2)), .b (tbE h9), .o 97 (fun _ => o_idx_os (enc := enc_R_i64_i64) (l := x6) (fl := true) (n := x5) (s := 2) (k := .i64) (tbE h2)), .b (tbE h10), .o 108 (fun _ => o_idx_os (enc := enc_R_i64_i64) (l := x6) (fl := true) (n := x5) (s := 2) (k := .i64) (tbE h2)), .b (tbE h11), .o 117 (fun _ => o_idx_os (enc := enc_R_i64_i64) (l := x6) (fl := true) (n := x5) (s := 2) (k := .i64) (tbE h2)), .o 122 (fun _ => o_idx_os (enc := enc_R_i64_i64) (l := x6) (fl := true) (n := x5) (s := 2) (k := .i64) (tbE h2)), .b (tbE h12), .b (tbE h13), .b (tbE h14), .b (tbE h15), .b (tbE h16)] (by kernel_rfl)
                                · cases h17 : tb (((law11_EqualWithin_L0_h0_e0 x0 x1 x6 s0) : Int) != (law11_EqualWithin_L0_h0_e2 x6 x7 s0))
                                  · intro _
                                    exact round_walk [.o 38 (fun _ => o_len_os (enc := enc_R_i64_i64) (l := x6) (fl := true) (n := x5) (s := 2)), .b (tbE h1), .c (equal_Trim_Offset_p_Fi3_t0 x0 x1 s0.c7 false), .o 47 (fun _ => o_idx_os (enc := enc_R_i64_i64) (l := x6) (fl := true) (n := x5) (s := 2) (k := .i64) (tbE h2)), .o 52 (fun _ => o_idx_os (enc := enc_R_i64_i64) (l := x6) (fl := true) (n := x5) (s := 2) (k := .i64) (tbE h2)), .c (equal_Trim_Learn_pii_Fi3_t0 x0 x1 s0.c7 ((gt x6 s0.c4).c0) ((gt x6 s0.c4).c1) (tbE h3)), .b (tbE h4), .c (equal_Trim_Offset_p_Fi3_t0 x0 x1 (law11_EqualWithin_L0_h0_e0 x0 x1 x6 s0) false), .o 63 (fun _ => o_idx_os (enc := enc_R_i64_i64) (l := x6) (fl := true) (n := x5) (s := 2) (k := .i64) (tbE h2)), .c (equal_Trim_Even_pi_Fi3_t0 x0 x1 (law11_EqualWithin_L0_h0_e0 x0 x1 x6 s0) false ((gt x6 s0.c4).c0) (tbE h5)), .b (tbE h6), .b (tbE h7), .b (tbE h8), .o 86 (fun _ => o_idx_os (enc := enc_R_i64_i64) (l := x6) (fl := true) (n := x5) (s := 2) (k := .i64) (tbE h2)), .b (tbE h9), .o 97 (fun _ => o_idx_os (enc := enc_R_i64_i64) (l := x6) (fl := true) (n := x5) (s := 2) (k := .i64) (tbE h2)), .b (tbE h10), .o 108 (fun _ => o_idx_os (enc := enc_R_i64_i64) (l := x6) (fl := true) (n := x5) (s := 2) (k := .i64) (tbE h2)), .b (tbE h11), .o 117 (fun _ => o_idx_os (enc := enc_R_i64_i64) (l := x6) (fl := true) (n := x5) (s := 2) (k := .i64) (tbE h2)), .o 122 (fun _ => o_idx_os (enc := enc_R_i64_i64) (l := x6) (fl := true) (n := x5) (s := 2) (k := .i64) (tbE h2)), .b (tbE h12), .b (tbE h13), .b (tbE h14), .b (tbE h15), .b (tbE h16), .b (tbE h17)] (by kernel_rfl)
                                  · intro g0
                                    exact absurd g0 ft
                              · cases h16 : tb (((remI .u8 x4 9) : Int) == 0)
                                · intro _
                                  exact round_walk [.o 38 (fun _ => o_len_os (enc := enc_R_i64_i64) (l := x6) (fl := true) (n := x5) (s := 2)), .b (tbE h1), .c (equal_Trim_Offset_p_Fi3_t0 x0 x1 s0.c7 false), .o 47 (fun _ => o_idx_os (enc := enc_R_i64_i64) (l := x6) (fl := true) (n := x5) (s := 2) (k := .i64) (tbE h2)), .o 52 (fun _ => o_idx_os (enc := enc_R_i64_i64) (l := x6) (fl := true) (n := x5) (s := 2) (k := .i64) (tbE h2)), .c (equal_Trim_Learn_pii_Fi3_t0 x0 x1 s0.c7 ((gt x6 s0.c4).c0) ((gt x6 s0.c4).c1) (tbE h3)), .b (tbE h4), .c (equal_Trim_Offset_p_Fi3_t0 x0 x1 (law11_EqualWithin_L0_h0_e0 x0 x1 x6 s0) false), .o 63 (fun _ => o_idx_os (enc := enc_R_i64_i64) (l := x6) (fl := true) (n := x5) (s := 2) (k := .i64) (tbE h2)), .c (equal_Trim_Even_pi_Fi3_t0 x0 x1 (law11_EqualWithin_L0_h0_e0 x0 x1 x6 s0) false ((gt x6 s0.c4).c0) (tbE h5)), .b (tbE h6), .b (tbE h7), .b (tbE h8), .o 86 (fun _ => o_idx_os (enc := enc_R_i64_i64) (l := x6) (fl := true) (n := x5) (s := 2) (k := .i64) (tbE h2)), .b (tbE h9), .o 97 (fun _ => o_idx_os (enc := enc_R_i64_i64) (l := x6) (fl := true) (n := x5) (s := 2) (k := .i64) (tbE h2)), .b (tbE h10), .o 108 (fun _ => o_idx_os (enc := enc_R_i64_i64) (l := x6) (fl := true) (n := x5) (s := 2) (k := .i64) (tbE h2)), .b (tbE h11), .o 117 (fun _ => o_idx_os (enc := enc_R_i64_i64) (l := x6) (fl := true) (n := x5) (s := 2) (k := .i64) (tbE h2)), .o 122 (fun _ => o_idx_os (enc := enc_R_i64_i64) (l := x6) (fl := true) (n := x5) (s := 2) (k := .i64) (tbE h2)), .b (tbE h12), .b (tbE h13), .b (tbE h14), .b (tbE h15), .b (tbE h14), .b (tbE h16)] (by kernel_rfl)
                                · cases h17 : tb (((law11_EqualWithin_L0_h0_e0 x0 x1 x6 s0) : Int) != (law11_EqualWithin_L0_h0_e2 x6 x7 s0))
                                  · intro _
                                    exact round_walk [.o 38 (fun _ => o_len_os (enc := enc_R_i64_i64) (l := x6) (fl := true) (n := x5) (s := 2)), .b (tbE h1), .c (equal_Trim_Offset_p_Fi3_t0 x0 x1 s0.c7 false), .o 47 (fun _ => o_idx_os (enc := enc_R_i64_i64) (l := x6) (fl := true) (n := x5) (s := 2) (k := .i64) (tbE h2)), .o 52 (fun _ => o_idx_os (enc := enc_R_i64_i64) (l := x6) (fl := true) (n := x5) (s := 2) (k := .i64) (tbE h2)), .c (equal_Trim_Learn_pii_Fi3_t0 x0 x1 s0.c7 ((gt x6 s0.c4).c0) ((gt x6 s0.c4).c1) (tbE h3)), .b (tbE h4), .c (equal_Trim_Offset_p_Fi3_t0 x0 x1 (law11_EqualWithin_L0_h0_e0 x0 x1 x6 s0) false), .o 63 (fun _ => o_idx_os (enc := enc_R_i64_i64) (l := x6) (fl := true) (n := x5) (s := 2) (k := .i64) (tbE h2)), .c (equal_Trim_Even_pi_Fi3_t0 x0 x1 (law11_EqualWithin_L0_h0_e0 x0 x1 x6 s0) false ((gt x6 s0.c4).c0) (tbE h5)), .b (tbE h6), .b (tbE h7), .b (tbE h8), .o 86 (fun _ => o_idx_os (enc := enc_R_i64_i64) (l := x6) (fl := true) (n := x5) (s := 2) (k := .i64) (tbE h2)), .b (tbE h9), .o 97 (fun _ => o_idx_os (enc := enc_R_i64_i64) (l := x6) (fl := true) (n := x5) (s := 2) (k := .i64) (tbE h2)), .b (tbE h10), .o 108 (fun _ => o_idx_os (enc := enc_R_i64_i64) (l := x6) (fl := true) (n := x5) (s := 2) (k := .i64) (tbE h2)), .b (tbE h11), .o 117 (fun _ => o_idx_os (enc := enc_R_i64_i64) (l := x6) (fl := true) (n := x5) (s := 2) (k := .i64) (tbE h2)), .o 122 (fun _ => o_idx_os (enc := enc_R_i64_i64) (l := x6) (fl := true) (n := x5) (s := 2) (k := .i64) (tbE h2)), .b (tbE h12), .b (tbE h13), .b (tbE h14), .b (tbE h15), .b (tbE h14), .b (tbE h16), .b (tbE h17)] (by kernel_rfl)
                                  · intro g0
                                    exact absurd g0 ft
                            · intro g0
                              exact absurd g0 ft
                      · intro g0
                        exact absurd g0 ft
                    · intro g0
                      exact absurd g0 ft
                  · intro g0
                    exact absurd g0 ft
                · intro g0
                  exact absurd g0 ft
              · intro g0
                exact absurd g0 ft
            · intro g0
              exact absurd g0 ft
        · intro _
          exact round_walk [.o 38 (fun _ => o_len_os (enc := enc_R_i64_i64) (l := x6) (fl := true) (n := x5) (s := 2)), .b (tbE h1), .c (equal_Trim_Offset_p_Fi3_t0 x0 x1 s0.c7 false), .o 47 (fun _ => o_idx_os (enc := enc_R_i64_i64) (l := x6) (fl := true) (n := x5) (s := 2) (k := .i64) (tbE h2)), .o 52 (fun _ => o_idx_os (enc := enc_R_i64_i64) (l := x6) (fl := true) (n := x5) (s := 2) (k := .i64) (tbE h2)), .c (equal_Trim_Learn_pii_Fi3_t0 x0 x1 s0.c7 ((gt x6 s0.c4).c0) ((gt x6 s0.c4).c1) (tbE h3)), .b (tbE h4)] (by kernel_rfl)

def law11_EqualWithin_L0_c0 (x0 : Int) (x1 : Int) (x6 : List R_i64_i64) (s0 : law11_EqualWithin_L0_s0) : Bool := (bif tb (decide (s0.c4 < ((x6.length : Nat) : Int))) then (bif tb (inb x6.length s0.c4) then (bif tb (equal_Trim_Learn_pii_Fi3_c0 x0 x1 s0.c7 ((gt x6 s0.c4).c0) ((gt x6 s0.c4).c1)) then (bif tb (equal_Trim_Even_pi_Fi3_c0 ((gt x6 s0.c4).c0)) then true else false) else false) else false) else false)

def law11_EqualWithin_L0_c1 (x6 : List R_i64_i64) (s0 : law11_EqualWithin_L0_s0) : Bool := (bif tb (decide (s0.c4 < ((x6.length : Nat) : Int))) then false else true)

theorem law11_EqualWithin_L0_x0 (x0 : Int) (x1 : Int) (x2 : Int) (x3 : Bool) (x4 : Int) (x5 : Bool) (x6 : List R_i64_i64) (x7 : Int) (x8 : Int) (s0 : law11_EqualWithin_L0_s0) : law11_EqualWithin_L0_sel x0 x1 x4 x6 x7 s0 = false → law11_EqualWithin_L0_c0 x0 x1 x6 s0 = true → (roundG (runC E0 (cl E0) L14_0) [1, 2, 7, 8, 10] [6] 1) (law11_EqualWithin_L0_enc x0 x1 x2 x3 x4 x5 x6 x7 x8 s0) = some (.ret, ([(V.d (.bool false))], [(Blk.flat 107 3 [[(.int .i64 x0), (.int .i64 x1), (.int .i64 (law11_EqualWithin_L0_h0_e0 x0 x1 x6 s0))]] false)])) := by
  unfold law11_EqualWithin_L0_sel law11_EqualWithin_L0_c0
  cases h1 : tb (decide (s0.c4 < ((x6.length : Nat) : Int)))
  · intro g0 g1
    exact absurd g1 ft
  · cases h2 : tb (inb x6.length s0.c4)
    · intro g0 g1
      exact absurd g1 ft
    · cases h3 : tb (equal_Trim_Learn_pii_Fi3_c0 x0 x1 s0.c7 ((gt x6 s0.c4).c0) ((gt x6 s0.c4).c1))
      · intro g0 g1
        exact absurd g1 ft
      · cases h4 : tb (((equal_Trim_Learn_pii_Fi3_r0_0 ((gt x6 s0.c4).c0) ((gt x6 s0.c4).c1)) : Int) != 0)
        · cases h5 : tb (equal_Trim_Even_pi_Fi3_c0 ((gt x6 s0.c4).c0))
          · intro g0 g1
            exact absurd g1 ft
          · cases h6 : tb (decide (x7 < (law11_EqualWithin_L0_h0_e0 x0 x1 x6 s0)))
            · cases h7 : tb (decide ((law11_EqualWithin_L0_h0_e0 x0 x1 x6 s0) < (wi (0 - x7))))
              · cases h8 : tb (((equal_Trim_Even_pi_Fi3_r0_1 ((gt x6 s0.c4).c0)) : Int) != 0)
                · cases h9 : tb (((equal_Trim_Even_pi_Fi3_r0_0 (law11_EqualWithin_L0_h0_e0 x0 x1 x6 s0) ((gt x6 s0.c4).c0)) : Int) != (law11_EqualWithin_L0_h0_e1 x0 x1 x6 s0))
                  · cases h10 : tb (decide ((wi (((gt x6 s0.c4).c0) + x7)) < (equal_Trim_Even_pi_Fi3_r0_0 (law11_EqualWithin_L0_h0_e0 x0 x1 x6 s0) ((gt x6 s0.c4).c0))))
                    · cases h11 : tb (decide ((equal_Trim_Even_pi_Fi3_r0_0 (law11_EqualWithin_L0_h0_e0 x0 x1 x6 s0) ((gt x6 s0.c4).c0)) < (wi (((gt x6 s0.c4).c0) - x7))))
                      · cases h12 : tb (decide ((law11_EqualWithin_L0_h0_e0 x0 x1 x6 s0) < (mnI s0.c7 (wi (((gt x6 s0.c4).c0) - ((gt x6 s0.c4).c1))))))
                        · cases h13 : tb (decide ((mxI s0.c7 (wi (((gt x6 s0.c4).c0) - ((gt x6 s0.c4).c1)))) < (law11_EqualWithin_L0_h0_e0 x0 x1 x6 s0)))
                          · cases h14 : tb (((remI .u8 x4 9) : Int) == 0)
                            · intro g0 g1
                              exact absurd g0 tf
                            · cases h15 : tb (((law11_EqualWithin_L0_h0_e0 x0 x1 x6 s0) : Int) != (law11_EqualWithin_L0_h0_e2 x6 x7 s0))
                              · intro g0 g1
                                exact absurd g0 tf
                              · intro g0 g1
                                exact round_walk [.o 38 (fun _ => o_len_os (enc := enc_R_i64_i64) (l := x6) (fl := true) (n := x5) (s := 2)), .b (tbE h1), .c (equal_Trim_Offset_p_Fi3_t0 x0 x1 s0.c7 false), .o 47 (fun _ => o_idx_os (enc := enc_R_i64_i64) (l := x6) (fl := true) (n := x5) (s := 2) (k := .i64) (tbE h2)), .o 52 (fun _ => o_idx_os (enc := enc_R_i64_i64) (l := x6) (fl := true) (n := x5) (s := 2) (k := .i64) (tbE h2)), .c (equal_Trim_Learn_pii_Fi3_t0 x0 x1 s0.c7 ((gt x6 s0.c4).c0) ((gt x6 s0.c4).c1) (tbE h3)), .b (tbE h4), .c (equal_Trim_Offset_p_Fi3_t0 x0 x1 (law11_EqualWithin_L0_h0_e0 x0 x1 x6 s0) false), .o 63 (fun _ => o_idx_os (enc := enc_R_i64_i64) (l := x6) (fl := true) (n := x5) (s := 2) (k := .i64) (tbE h2)), .c (equal_Trim_Even_pi_Fi3_t0 x0 x1 (law11_EqualWithin_L0_h0_e0 x0 x1 x6 s0) false ((gt x6 s0.c4).c0) (tbE h5)), .b (tbE h6), .b (tbE h7), .b (tbE h8), .o 86 (fun _ => o_idx_os (enc := enc_R_i64_i64) (l := x6) (fl := true) (n := x5) (s := 2) (k := .i64) (tbE h2)), .b (tbE h9), .o 97 (fun _ => o_idx_os (enc := enc_R_i64_i64) (l := x6) (fl := true) (n := x5) (s := 2) (k := .i64) (tbE h2)), .b (tbE h10), .o 108 (fun _ => o_idx_os (enc := enc_R_i64_i64) (l := x6) (fl := true) (n := x5) (s := 2) (k := .i64) (tbE h2)), .b (tbE h11), .o 117 (fun _ => o_idx_os (enc := enc_R_i64_i64) (l := x6) (fl := true) (n := x5) (s := 2) (k := .i64) (tbE h2)), .o 122 (fun _ => o_idx_os (enc := enc_R_i64_i64) (l := x6) (fl := true) (n := x5) (s := 2) (k := .i64) (tbE h2)), .b (tbE h12), .b (tbE h13), .b (tbE h14), .b (tbE h15)] (by kernel_rfl)
                          · cases h14 : tb (((law11_EqualWithin_L0_h0_e0 x0 x1 x6 s0) : Int) != x7)
                            · cases h15 : tb (((remI .u8 x4 9) : Int) == 0)
                              · intro g0 g1
                                exact absurd g0 tf
                              · cases h16 : tb (((law11_EqualWithin_L0_h0_e0 x0 x1 x6 s0) : Int) != (law11_EqualWithin_L0_h0_e2 x6 x7 s0))
                                · intro g0 g1
                                  exact absurd g0 tf
                                · intro g0 g1
                                  exact round_walk [.o 38 (fun _ => o_len_os (enc := enc_R_i64_i64) (l := x6) (fl := true) (n := x5) (s := 2)), .b (tbE h1), .c (equal_Trim_Offset_p_Fi3_t0 x0 x1 s0.c7 false), .o 47 (fun _ => o_idx_os (enc := enc_R_i64_i64) (l := x6) (fl := true) (n := x5) (s := 2) (k := .i64) (tbE h2)), .o 52 (fun _ => o_idx_os (enc := enc_R_i64_i64) (l := x6) (fl := true) (n := x5) (s := 2) (k := .i64) (tbE h2)), .c (equal_Trim_Learn_pii_Fi3_t0 x0 x1 s0.c7 ((gt x6 s0.c4).c0) ((gt x6 s0.c4).c1) (tbE h3)), .b (tbE h4), .c (equal_Trim_Offset_p_Fi3_t0 x0 x1 (law11_EqualWithin_L0_h0_e0 x0 x1 x6 s0) false), .o 63 (fun _ => o_idx_os (enc := enc_R_i64_i64) (l := x6) (fl := true) (n := x5) (s := 2) (k := .i64) (tbE h2)), .c (equal_Trim_Even_pi_Fi3_t0 x0 x1 (law11_EqualWithin_L0_h0_e0 x0 x1 x6 s0) false ((gt x6 s0.c4).c0) (tbE h5)), .b (tbE h6), .b (tbE h7), .b (tbE h8), .o 86 (fun _ => o_idx_os (enc := enc_R_i64_i64) (l := x6) (fl := true) (n := x5) (s := 2) (k := .i64) (tbE h2)), .b (tbE h9), .o 97 (fun _ => o_idx_os (enc := enc_R_i64_i64) (l := x6) (fl := true) (n := x5) (s := 2) (k := .i64) (tbE h2)), .b (tbE h10), .o 108 (fun _ => o_idx_os (enc := enc_R_i64_i64) (l := x6) (fl := true) (n := x5) (s := 2) (k := .i64) (tbE h2)), .b (tbE h11), .o 117 (fun _ => o_idx_os (enc := enc_R_i64_i64) (l := x6) (fl := true) (n := x5) (s := 2) (k := .i64) (tbE h2)), .o 122 (fun _ => o_idx_os (enc := enc_R_i64_i64) (l := x6) (fl := true) (n := x5) (s := 2) (k := .i64) (tbE h2)), .b (tbE h12), .b (tbE h13), .b (tbE h14), .b (tbE h15), .b (tbE h16)] (by kernel_rfl)
                            · cases h15 : tb (((law11_EqualWithin_L0_h0_e0 x0 x1 x6 s0) : Int) != (wi (0 - x7)))
                              · cases h16 : tb (((remI .u8 x4 9) : Int) == 0)
                                · intro g0 g1
                                  exact absurd g0 tf
                                · cases h17 : tb (((law11_EqualWithin_L0_h0_e0 x0 x1 x6 s0) : Int) != (law11_EqualWithin_L0_h0_e2 x6 x7 s0))
                                  · intro g0 g1
                                    exact absurd g0 tf
                                  · intro g0 g1
                                    exact round_walk [.o 38 (fun _ => o_len_os (enc := enc_R_i64_i64) (l := x6) (fl := true) (n := x5) (s := 2)), .b (tbE h1), .c (equal_Trim_Offset_p_Fi3_t0 x0 x1 s0.c7 false), .o 47 (fun _ => o_idx_os (enc := enc_R_i64_i64) (l := x6) (fl := true) (n := x5) (s := 2) (k := .i64) (tbE h2)), .o 52 (fun _ => o_idx_os (enc := enc_R_i64_i64) (l := x6) (fl := true) (n := x5) (s := 2) (k := .i64) (tbE h2)), .c (equal_Trim_Learn_pii_Fi3_t0 x0 x1 s0.c7 ((gt x6 s0.c4).c0) ((gt x6 s0.c4).c1) (tbE h3)), .b (tbE h4), .c (equal_Trim_Offset_p_Fi3_t0 x0 x1 (law11_EqualWithin_L0_h0_e0 x0 x1 x6 s0) false), .o 63 (fun _ => o_idx_os (enc := enc_R_i64_i64) (l := x6) (fl := true) (n := x5) (s := 2) (k := .i64) (tbE h2)), .c (equal_Trim_Even_pi_Fi3_t0 x0 x1 (law11_EqualWithin_L0_h0_e0 x0 x1 x6 s0) false ((gt x6 s0.c4).c0) (tbE h5)), .b (tbE h6), .b (tbE h7), .b (tbE h8), .o 86 (fun _ => o_idx_os (enc := enc_R_i64_i64) (l := x6) (fl := true) (n := x5) (s := 2) (k := .i64) (tbE h2)), .b (tbE h9), .o 97 (fun _ => o_idx_os (enc := enc_R_i64_i64) (l := x6) (fl := true) (n := x5) (s := 2) (k := .i64) (tbE h2)), .b (tbE h10), .o 108 (fun _ => o_idx_os (enc := enc_R_i64_i64) (l := x6) (fl := true) (n := x5) (s := 2) (k := .i64) (tbE h2)), .b (tbE h11), .o 117 (fun _ => o_idx_os (enc := enc_R_i64_i64) (l := x6) (fl := true) (n := x5) (s := 2) (k := .i64) (tbE h2)), .o 122 (fun _ => o_idx_os (enc := enc_R_i64_i64) (l := x6) (fl := true) (n := x5) (s := 2) (k := .i64) (tbE h2)), .b (tbE h12), .b (tbE h13), .b (tbE h14), .b (tbE h15), .b (tbE h16), .b (tbE h17)] (by kernel_rfl)
                              · intro g0 g1
                                exact round_walk [.o 38 (fun _ => o_len_os (enc := enc_R_i64_i64) (l := x6) (fl := true) (n := x5) (s := 2)), .b (tbE h1), .c (equal_Trim_Offset_p_Fi3_t0 x0 x1 s0.c7 false), .o 47 (fun _ => o_idx_os (enc := enc_R_i64_i64) (l := x6) (fl := true) (n := x5) (s := 2) (k := .i64) (tbE h2)), .o 52 (fun _ => o_idx_os (enc := enc_R_i64_i64) (l := x6) (fl := true) (n := x5) (s := 2) (k := .i64) (tbE h2)), .c (equal_Trim_Learn_pii_Fi3_t0 x0 x1 s0.c7 ((gt x6 s0.c4).c0) ((gt x6 s0.c4).c1) (tbE h3)), .b (tbE h4), .c (equal_Trim_Offset_p_Fi3_t0 x0 x1 (law11_EqualWithin_L0_h0_e0 x0 x1 x6 s0) false), .o 63 (fun _ => o_idx_os (enc := enc_R_i64_i64) (l := x6) (fl := true) (n := x5) (s := 2) (k := .i64) (tbE h2)), .c (equal_Trim_Even_pi_Fi3_t0 x0 x1 (law11_EqualWithin_L0_h0_e0 x0 x1 x6 s0) false ((gt x6 s0.c4).c0) (tbE h5)), .b (tbE h6), .b (tbE h7), .b (tbE h8), .o 86 (fun _ => o_idx_os (enc := enc_R_i64_i64) (l := x6) (fl := true) (n := x5) (s := 2) (k := .i64) (tbE h2)), .b (tbE h9), .o 97 (fun _ => o_idx_os (enc := enc_R_i64_i64) (l := x6) (fl := true) (n := x5) (s := 2) (k := .i64) (tbE h2)), .b (tbE h10), .o 108 (fun _ => o_idx_os (enc := enc_R_i64_i64) (l := x6) (fl := true) (n := x5) (s := 2) (k := .i64) (tbE h2)), .b (tbE h11), .o 117 (fun _ => o_idx_os (enc := enc_R_i64_i64) (l := x6) (fl := true) (n := x5) (s := 2) (k := .i64) (tbE h2)), .o 122 (fun _ => o_idx_os (enc := enc_R_i64_i64) (l := x6) (fl := true) (n := x5) (s := 2) (k := .i64) (tbE h2)), .b (tbE h12), .b (tbE h13), .b (tbE h14), .b (tbE h15)] (by kernel_rfl)
                        · cases h13 : tb (((law11_EqualWithin_L0_h0_e0 x0 x1 x6 s0) : Int) != (wi (0 - x7)))
                          · cases h14 : tb (decide ((mxI s0.c7 (wi (((gt x6 s0.c4).c0) - ((gt x6 s0.c4).c1)))) < (law11_EqualWithin_L0_h0_e0 x0 x1 x6 s0)))
                            · cases h15 : tb (((remI .u8 x4 9) : Int) == 0)
                              · intro g0 g1
                                exact absurd g0 tf
                              · cases h16 : tb (((law11_EqualWithin_L0_h0_e0 x0 x1 x6 s0) : Int) != (law11_EqualWithin_L0_h0_e2 x6 x7 s0))
                                · intro g0 g1
                                  exact absurd g0 tf
                                · intro g0 g1
                                  exact round_walk [.o 38 (fun _ => o_len_os (enc := enc_R_i64_i64) (l := x6) (fl := true) (n := x5) (s := 2)), .b (tbE h1), .c (equal_Trim_Offset_p_Fi3_t0 x0 x1 s0.c7 false), .o 47 (fun _ => o_idx_os (enc := enc_R_i64_i64) (l := x6) (fl := true) (n := x5) (s := 2) (k := .i64) (tbE h2)), .o 52 (fun _ => o_idx_os (enc := enc_R_i64_i64) (l := x6) (fl := true) (n := x5) (s := 2) (k := .i64) (tbE h2)), .c (equal_Trim_Learn_pii_Fi3_t0 x0 x1 s0.c7 ((gt x6 s0.c4).c0) ((gt x6 s0.c4).c1) (tbE h3)), .b (tbE h4), .c (equal_Trim_Offset_p_Fi3_t0 x0 x1 (law11_EqualWithin_L0_h0_e0 x0 x1 x6 s0) false), .o 63 (fun _ => o_idx_os (enc := enc_R_i64_i64) (l := x6) (fl := true) (n := x5) (s := 2) (k := .i64) (tbE h2)), .c (equal_Trim_Even_pi_Fi3_t0 x0 x1 (law11_EqualWithin_L0_h0_e0 x0 x1 x6 s0) false ((gt x6 s0.c4).c0) (tbE h5)), .b (tbE h6), .b (tbE h7), .b (tbE h8), .o 86 (fun _ => o_idx_os (enc := enc_R_i64_i64) (l := x6) (fl := true) (n := x5) (s := 2) (k := .i64) (tbE h2)), .b (tbE h9), .o 97 (fun _ => o_idx_os (enc := enc_R_i64_i64) (l := x6) (fl := true) (n := x5) (s := 2) (k := .i64) (tbE h2)), .b (tbE h10), .o 108 (fun _ => o_idx_os (enc := enc_R_i64_i64) (l := x6) (fl := true) (n := x5) (s := 2) (k := .i64) (tbE h2)), .b (tbE h11), .o 117 (fun _ => o_idx_os (enc := enc_R_i64_i64) (l := x6) (fl := true) (n := x5) (s := 2) (k := .i64) (tbE h2)), .o 122 (fun _ => o_idx_os (enc := enc_R_i64_i64) (l := x6) (fl := true) (n := x5) (s := 2) (k := .i64) (tbE h2)), .b (tbE h12), .b (tbE h13), .b (tbE h14), .b (tbE h15), .b (tbE h16)] (by kernel_rfl)
                            · cases h15 : tb (((law11_EqualWithin_L0_h0_e0 x0 x1 x6 s0) : Int) != x7)
                              · cases h16 : tb (((remI .u8 x4 9) : Int) == 0)
                                · intro g0 g1
                                  exact absurd g0 tf
                                · cases h17 : tb (((law11_EqualWithin_L0_h0_e0 x0 x1 x6 s0) : Int) != (law11_EqualWithin_L0_h0_e2 x6 x7 s0))
                                  · intro g0 g1
                                    exact absurd g0 tf
                                  · intro g0 g1
                                    exact round_walk [.o 38 (fun _ => o_len_os (enc := enc_R_i64_i64) (l := x6) (fl := true) (n := x5) (s := 2)), .b (tbE h1), .c (equal_Trim_Offset_p_Fi3_t0 x0 x1 s0.c7 false), .o 47 (fun _ => o_idx_os (enc := enc_R_i64_i64) (l := x6) (fl := true) (n := x5) (s := 2) (k := .i64) (tbE h2)), .o 52 (fun _ => o_idx_os (enc := enc_R_i64_i64) (l := x6) (fl := true) (n := x5) (s := 2) (k := .i64) (tbE h2)), .c (equal_Trim_Learn_pii_Fi3_t0 x0 x1 s0.c7 ((gt x6 s0.c4).c0) ((gt x6 s0.c4).c1) (tbE h3)), .b (tbE h4), .c (equal_Trim_Offset_p_Fi3_t0 x0 x1 (law11_EqualWithin_L0_h0_e0 x0 x1 x6 s0) false), .o 63 (fun _ => o_idx_os (enc := enc_R_i64_i64) (l := x6) (fl := true) (n := x5) (s := 2) (k := .i64) (tbE h2)), .c (equal_Trim_Even_pi_Fi3_t0 x0 x1 (law11_EqualWithin_L0_h0_e0 x0 x1 x6 s0) false ((gt x6 s0.c4).c0) (tbE h5)), .b (tbE h6), .b (tbE h7), .b (tbE h8), .o 86 (fun _ => o_idx_os (enc := enc_R_i64_i64) (l := x6) (fl := true) (n := x5) (s := 2) (k := .i64) (tbE h2)), .b (tbE h9), .o 97 (fun _ => o_idx_os (enc := enc_R_i64_i64) (l := x6) (fl := true) (n := x5) (s := 2) (k := .i64) (tbE h2)), .b (tbE h10), .o 108 (fun _ => o_idx_os (enc := enc_R_i64_i64) (l := x6) (fl := true) (n := x5) (s := 2) (k := .i64) (tbE h2)), .b (tbE h11), .o 117 (fun _ => o_idx_os (enc := enc_R_i64_i64) (l := x6) (fl := true) (n := x5) (s := 2) (k := .i64) (tbE h2)), .o 122 (fun _ => o_idx_os (enc := enc_R_i64_i64) (l := x6) (fl := true) (n := x5) (s := 2) (k := .i64) (tbE h2)), .b (tbE h12), .b (tbE h13), .b (tbE h14), .b (tbE h15), .b (tbE h16), .b (tbE h17)] (by kernel_rfl)
                              · cases h16 : tb (((remI .u8 x4 9) : Int) == 0)
                                · intro g0 g1
                                  exact absurd g0 tf
                                · cases h17 : tb (((law11_EqualWithin_L0_h0_e0 x0 x1 x6 s0) : Int) != (law11_EqualWithin_L0_h0_e2 x6 x7 s0))
                                  · intro g0 g1
                                    exact absurd g0 tf
                                  · intro g0 g1
                                    exact round_walk [.o 38 (fun _ => o_len_os (enc := enc_R_i64_i64) (l := x6) (fl := true) (n := x5) (s := 2)), .b (tbE h1), .c (equal_Trim_Offset_p_Fi3_t0 x0 x1 s0.c7 false), .o 47 (fun _ => o_idx_os (enc := enc_R_i64_i64) (l := x6) (fl := true) (n := x5) (s := 2) (k := .i64) (tbE h2)), .o 52 (fun _ => o_idx_os (enc := enc_R_i64_i64) (l := x6) (fl := true) (n := x5) (s := 2) (k := .i64) (tbE h2)), .c (equal_Trim_Learn_pii_Fi3_t0 x0 x1 s0.c7 ((gt x6 s0.c4).c0) ((gt x6 s0.c4).c1) (tbE h3)), .b (tbE h4), .c (equal_Trim_Offset_p_Fi3_t0 x0 x1 (law11_EqualWithin_L0_h0_e0 x0 x1 x6 s0) false), .o 63 (fun _ => o_idx_os (enc := enc_R_i64_i64) (l := x6) (fl := true) (n := x5) (s := 2) (k := .i64) (tbE h2)), .c (equal_Trim_Even_pi_Fi3_t0 x0 x1 (law11_EqualWithin_L0_h0_e0 x0 x1 x6 s0) false ((gt x6 s0.c4).c0) (tbE h5)), .b (tbE h6), .b (tbE h7), .b (tbE h8), .o 86 (fun _ => o_idx_os (enc := enc_R_i64_i64) (l := x6) (fl := true) (n := x5) (s := 2) (k := .i64) (tbE h2)), .b (tbE h9), .o 97 (fun _ => o_idx_os (enc := enc_R_i64_i64) (l := x6) (fl := true) (n := x5) (s := 2) (k := .i64) (tbE h2)), .b (tbE h10), .o 108 (fun _ => o_idx_os (enc := enc_R_i64_i64) (l := x6) (fl := true) (n := x5) (s := 2) (k := .i64) (tbE h2)), .b (tbE h11), .o 117 (fun _ => o_idx_os (enc := enc_R_i64_i64) (l := x6) (fl := true) (n := x5) (s := 2) (k := .i64) (tbE h2)), .o 122 (fun _ => o_idx_os (enc := enc_R_i64_i64) (l := x6) (fl := true) (n := x5) (s := 2) (k := .i64) (tbE h2)), .b (tbE h12), .b (tbE h13), .b (tbE h14), .b (tbE h15), .b (tbE h13), .b (tbE h16), .b (tbE h17)] (by kernel_rfl)
                          · cases h14 : tb (((law11_EqualWithin_L0_h0_e0 x0 x1 x6 s0) : Int) != x7)
                            · cases h15 : tb (decide ((mxI s0.c7 (wi (((gt x6 s0.c4).c0) - ((gt x6 s0.c4).c1)))) < (law11_EqualWithin_L0_h0_e0 x0 x1 x6 s0)))
                              · cases h16 : tb (((remI .u8 x4 9) : Int) == 0)
                                · intro g0 g1
                                  exact absurd g0 tf
                                · cases h17 : tb (((law11_EqualWithin_L0_h0_e0 x0 x1 x6 s0) : Int) != (law11_EqualWithin_L0_h0_e2 x6 x7 s0))
                                  · intro g0 g1
                                    exact absurd g0 tf
                                  · intro g0 g1
                                    exact round_walk [.o 38 (fun _ => o_len_os (enc := enc_R_i64_i64) (l := x6) (fl := true) (n := x5) (s := 2)), .b (tbE h1), .c (equal_Trim_Offset_p_Fi3_t0 x0 x1 s0.c7 false), .o 47 (fun _ => o_idx_os (enc := enc_R_i64_i64) (l := x6) (fl := true) (n := x5) (s := 2) (k := .i64) (tbE h2)), .o 52 (fun _ => o_idx_os (enc := enc_R_i64_i64) (l := x6) (fl := true) (n := x5) (s := 2) (k := .i64) (tbE h2)), .c (equal_Trim_Learn_pii_Fi3_t0 x0 x1 s0.c7 ((gt x6 s0.c4).c0) ((gt x6 s0.c4).c1) (tbE h3)), .b (tbE h4), .c (equal_Trim_Offset_p_Fi3_t0 x0 x1 (law11_EqualWithin_L0_h0_e0 x0 x1 x6 s0) false), .o 63 (fun _ => o_idx_os (enc := enc_R_i64_i64) (l := x6) (fl := true) (n := x5) (s := 2) (k := .i64) (tbE h2)), .c (equal_Trim_Even_pi_Fi3_t0 x0 x1 (law11_EqualWithin_L0_h0_e0 x0 x1 x6 s0) false ((gt x6 s0.c4).c0) (tbE h5)), .b (tbE h6), .b (tbE h7), .b (tbE h8), .o 86 (fun _ => o_idx_os (enc := enc_R_i64_i64) (l := x6) (fl := true) (n := x5) (s := 2) (k := .i64) (tbE h2)), .b (tbE h9), .o 97 (fun _ => o_idx_os (enc := enc_R_i64_i64) (l := x6) (fl := true) (n := x5) (s := 2) (k := .i64) (tbE h2)), .b (tbE h10), .o 108 (fun _ => o_idx_os (enc := enc_R_i64_i64) (l := x6) (fl := true) (n := x5) (s := 2) (k := .i64) (tbE h2)), .b (tbE h11), .o 117 (fun _ => o_idx_os (enc := enc_R_i64_i64) (l := x6) (fl := true) (n := x5) (s := 2) (k := .i64) (tbE h2)), .o 122 (fun _ => o_idx_os (enc := enc_R_i64_i64) (l := x6) (fl := true) (n := x5) (s := 2) (k := .i64) (tbE h2)), .b (tbE h12), .b (tbE h13), .b (tbE h14), .b (tbE h15), .b (tbE h16), .b (tbE h17)] (by kernel_rfl)
                              · cases h16 : tb (((remI .u8 x4 9) : Int) == 0)
                                · intro g0 g1
                                  exact absurd g0 tf
                                · cases h17 : tb (((law11_EqualWithin_L0_h0_e0 x0 x1 x6 s0) : Int) != (law11_EqualWithin_L0_h0_e2 x6 x7 s0))
                                  · intro g0 g1
                                    exact absurd g0 tf
                                  · intro g0 g1
                                    exact round_walk [.o 38 (fun _ => o_len_os (enc := enc_R_i64_i64) (l := x6) (fl := true) (n := x5) (s := 2)), .b (tbE h1), .c (equal_Trim_Offset_p_Fi3_t0 x0 x1 s0.c7 false), .o 47 (fun _ => o_idx_os (enc := enc_R_i64_i64) (l := x6) (fl := true) (n := x5) (s := 2) (k := .i64) (tbE h2)), .o 52 (fun _ => o_idx_os (enc := enc_R_i64_i64) (l := x6) (fl := true) (n := x5) (s := 2) (k := .i64) (tbE h2)), .c (equal_Trim_Learn_pii_Fi3_t0 x0 x1 s0.c7 ((gt x6 s0.c4).c0) ((gt x6 s0.c4).c1) (tbE h3)), .b (tbE h4), .c (equal_Trim_Offset_p_Fi3_t0 x0 x1 (law11_EqualWithin_L0_h0_e0 x0 x1 x6 s0) false), .o 63 (fun _ => o_idx_os (enc := enc_R_i64_i64) (l := x6) (fl := true) (n := x5) (s := 2) (k := .i64) (tbE h2)), .c (equal_Trim_Even_pi_Fi3_t0 x0 x1 (law11_EqualWithin_L0_h0_e0 x0 x1 x6 s0) false ((gt x6 s0.c4).c0) (tbE h5)), .b (tbE h6), .b (tbE h7), .b (tbE h8), .o 86 (fun _ => o_idx_os (enc := enc_R_i64_i64) (l := x6) (fl := true) (n := x5) (s := 2) (k := .i64) (tbE h2)), .b (tbE h9), .o 97 (fun _ => o_idx_os (enc := enc_R_i64_i64) (l := x6) (fl := true) (n := x5) (s := 2) (k := .i64) (tbE h2)), .b (tbE h10), .o 108 (fun _ => o_idx_os (enc := enc_R_i64_i64) (l := x6) (fl := true) (n := x5) (s := 2) (k := .i64) (tbE h2)), .b (tbE h11), .o 117 (fun _ => o_idx_os (enc := enc_R_i64_i64) (l := x6) (fl := true) (n := x5) (s := 2) (k := .i64) (tbE h2)), .o 122 (fun _ => o_idx_os (enc := enc_R_i64_i64) (l := x6) (fl := true) (n := x5) (s := 2) (k := .i64) (tbE h2)), .b (tbE h12), .b (tbE h13), .b (tbE h14), .b (tbE h15), .b (tbE h14), .b (tbE h16), .b (tbE h17)] (by kernel_rfl)
                            · intro g0 g1
                              exact round_walk [.o 38 (fun _ => o_len_os (enc := enc_R_i64_i64) (l := x6) (fl := true) (n := x5) (s := 2)), .b (tbE h1), .c (equal_Trim_Offset_p_Fi3_t0 x0 x1 s0.c7 false), .o 47 (fun _ => o_idx_os (enc := enc_R_i64_i64) (l := x6) (fl := true) (n := x5) (s := 2) (k := .i64) (tbE h2)), .o 52 (fun _ => o_idx_os (enc := enc_R_i64_i64) (l := x6) (fl := true) (n := x5) (s := 2) (k := .i64) (tbE h2)), .c (equal_Trim_Learn_pii_Fi3_t0 x0 x1 s0.c7 ((gt x6 s0.c4).c0) ((gt x6 s0.c4).c1) (tbE h3)), .b (tbE h4), .c (equal_Trim_Offset_p_Fi3_t0 x0 x1 (law11_EqualWithin_L0_h0_e0 x0 x1 x6 s0) false), .o 63 (fun _ => o_idx_os (enc := enc_R_i64_i64) (l := x6) (fl := true) (n := x5) (s := 2) (k := .i64) (tbE h2)), .c (equal_Trim_Even_pi_Fi3_t0 x0 x1 (law11_EqualWithin_L0_h0_e0 x0 x1 x6 s0) false ((gt x6 s0.c4).c0) (tbE h5)), .b (tbE h6), .b (tbE h7), .b (tbE h8), .o 86 (fun _ => o_idx_os (enc := enc_R_i64_i64) (l := x6) (fl := true) (n := x5) (s := 2) (k := .i64) (tbE h2)), .b (tbE h9), .o 97 (fun _ => o_idx_os (enc := enc_R_i64_i64) (l := x6) (fl := true) (n := x5) (s := 2) (k := .i64) (tbE h2)), .b (tbE h10), .o 108 (fun _ => o_idx_os (enc := enc_R_i64_i64) (l := x6) (fl := true) (n := x5) (s := 2) (k := .i64) (tbE h2)), .b (tbE h11), .o 117 (fun _ => o_idx_os (enc := enc_R_i64_i64) (l := x6) (fl := true) (n := x5) (s := 2) (k := .i64) (tbE h2)), .o 122 (fun _ => o_idx_os (enc := enc_R_i64_i64) (l := x6) (fl := true) (n := x5) (s := 2) (k := .i64) (tbE h2)), .b (tbE h12), .b (tbE h13), .b (tbE h14)] (by kernel_rfl)
                      · intro g0 g1
                        exact round_walk [.o 38 (fun _ => o_len_os (enc := enc_R_i64_i64) (l := x6) (fl := true) (n := x5) (s := 2)), .b (tbE h1), .c (equal_Trim_Offset_p_Fi3_t0 x0 x1 s0.c7 false), .o 47 (fun _ => o_idx_os (enc := enc_R_i64_i64) (l := x6) (fl := true) (n := x5) (s := 2) (k := .i64) (tbE h2)), .o 52 (fun _ => o_idx_os (enc := enc_R_i64_i64) (l := x6) (fl := true) (n := x5) (s := 2) (k := .i64) (tbE h2)), .c (equal_Trim_Learn_pii_Fi3_t0 x0 x1 s0.c7 ((gt x6 s0.c4).c0) ((gt x6 s0.c4).c1) (tbE h3)), .b (tbE h4), .c (equal_Trim_Offset_p_Fi3_t0 x0 x1 (law11_EqualWithin_L0_h0_e0 x0 x1 x6 s0) false), .o 63 (fun _ => o_idx_os (enc := enc_R_i64_i64) (l := x6) (fl := true) (n := x5) (s := 2) (k := .i64) (tbE h2)), .c (equal_Trim_Even_pi_Fi3_t0 x0 x1 (law11_EqualWithin_L0_h0_e0 x0 x1 x6 s0) false ((gt x6 s0.c4).c0) (tbE h5)), .b (tbE h6), .b (tbE h7), .b (tbE h8), .o 86 (fun _ => o_idx_os (enc := enc_R_i64_i64) (l := x6) (fl := true) (n := x5) (s := 2) (k := .i64) (tbE h2)), .b (tbE h9), .o 97 (fun _ => o_idx_os (enc := enc_R_i64_i64) (l := x6) (fl := true) (n := x5) (s := 2) (k := .i64) (tbE h2)), .b (tbE h10), .o 108 (fun _ => o_idx_os (enc := enc_R_i64_i64) (l := x6) (fl := true) (n := x5) (s := 2) (k := .i64) (tbE h2)), .b (tbE h11)] (by kernel_rfl)
                    · intro g0 g1
                      exact round_walk [.o 38 (fun _ => o_len_os (enc := enc_R_i64_i64) (l := x6) (fl := true) (n := x5) (s := 2)), .b (tbE h1), .c (equal_Trim_Offset_p_Fi3_t0 x0 x1 s0.c7 false), .o 47 (fun _ => o_idx_os (enc := enc_R_i64_i64) (l := x6) (fl := true) (n := x5) (s := 2) (k := .i64) (tbE h2)), .o 52 (fun _ => o_idx_os (enc := enc_R_i64_i64) (l := x6) (fl := true) (n := x5) (s := 2) (k := .i64) (tbE h2)), .c (equal_Trim_Learn_pii_Fi3_t0 x0 x1 s0.c7 ((gt x6 s0.c4).c0) ((gt x6 s0.c4).c1) (tbE h3)), .b (tbE h4), .c (equal_Trim_Offset_p_Fi3_t0 x0 x1 (law11_EqualWithin_L0_h0_e0 x0 x1 x6 s0) false), .o 63 (fun _ => o_idx_os (enc := enc_R_i64_i64) (l := x6) (fl := true) (n := x5) (s := 2) (k := .i64) (tbE h2)), .c (equal_Trim_Even_pi_Fi3_t0 x0 x1 (law11_EqualWithin_L0_h0_e0 x0 x1 x6 s0) false ((gt x6 s0.c4).c0) (tbE h5)), .b (tbE h6), .b (tbE h7), .b (tbE h8), .o 86 (fun _ => o_idx_os (enc := enc_R_i64_i64) (l := x6) (fl := true) (n := x5) (s := 2) (k := .i64) (tbE h2)), .b (tbE h9), .o 97 (fun _ => o_idx_os (enc := enc_R_i64_i64) (l := x6) (fl := true) (n := x5) (s := 2) (k := .i64) (tbE h2)), .b (tbE h10)] (by kernel_rfl)
                  · intro g0 g1
                    exact round_walk [.o 38 (fun _ => o_len_os (enc := enc_R_i64_i64) (l := x6) (fl := true) (n := x5) (s := 2)), .b (tbE h1), .c (equal_Trim_Offset_p_Fi3_t0 x0 x1 s0.c7 false), .o 47 (fun _ => o_idx_os (enc := enc_R_i64_i64) (l := x6) (fl := true) (n := x5) (s := 2) (k := .i64) (tbE h2)), .o 52 (fun _ => o_idx_os (enc := enc_R_i64_i64) (l := x6) (fl := true) (n := x5) (s := 2) (k := .i64) (tbE h2)), .c (equal_Trim_Learn_pii_Fi3_t0 x0 x1 s0.c7 ((gt x6 s0.c4).c0) ((gt x6 s0.c4).c1) (tbE h3)), .b (tbE h4), .c (equal_Trim_Offset_p_Fi3_t0 x0 x1 (law11_EqualWithin_L0_h0_e0 x0 x1 x6 s0) false), .o 63 (fun _ => o_idx_os (enc := enc_R_i64_i64) (l := x6) (fl := true) (n := x5) (s := 2) (k := .i64) (tbE h2)), .c (equal_Trim_Even_pi_Fi3_t0 x0 x1 (law11_EqualWithin_L0_h0_e0 x0 x1 x6 s0) false ((gt x6 s0.c4).c0) (tbE h5)), .b (tbE h6), .b (tbE h7), .b (tbE h8), .o 86 (fun _ => o_idx_os (enc := enc_R_i64_i64) (l := x6) (fl := true) (n := x5) (s := 2) (k := .i64) (tbE h2)), .b (tbE h9)] (by kernel_rfl)
                · intro g0 g1
                  exact round_walk [.o 38 (fun _ => o_len_os (enc := enc_R_i64_i64) (l := x6) (fl := true) (n := x5) (s := 2)), .b (tbE h1), .c (equal_Trim_Offset_p_Fi3_t0 x0 x1 s0.c7 false), .o 47 (fun _ => o_idx_os (enc := enc_R_i64_i64) (l := x6) (fl := true) (n := x5) (s := 2) (k := .i64) (tbE h2)), .o 52 (fun _ => o_idx_os (enc := enc_R_i64_i64) (l := x6) (fl := true) (n := x5) (s := 2) (k := .i64) (tbE h2)), .c (equal_Trim_Learn_pii_Fi3_t0 x0 x1 s0.c7 ((gt x6 s0.c4).c0) ((gt x6 s0.c4).c1) (tbE h3)), .b (tbE h4), .c (equal_Trim_Offset_p_Fi3_t0 x0 x1 (law11_EqualWithin_L0_h0_e0 x0 x1 x6 s0) false), .o 63 (fun _ => o_idx_os (enc := enc_R_i64_i64) (l := x6) (fl := true) (n := x5) (s := 2) (k := .i64) (tbE h2)), .c (equal_Trim_Even_pi_Fi3_t0 x0 x1 (law11_EqualWithin_L0_h0_e0 x0 x1 x6 s0) false ((gt x6 s0.c4).c0) (tbE h5)), .b (tbE h6), .b (tbE h7), .b (tbE h8)] (by kernel_rfl)
              · intro g0 g1
                exact round_walk [.o 38 (fun _ => o_len_os (enc := enc_R_i64_i64) (l := x6) (fl := true) (n := x5) (s := 2)), .b (tbE h1), .c (equal_Trim_Offset_p_Fi3_t0 x0 x1 s0.c7 false), .o 47 (fun _ => o_idx_os (enc := enc_R_i64_i64) (l := x6) (fl := true) (n := x5) (s := 2) (k := .i64) (tbE h2)), .o 52 (fun _ => o_idx_os (enc := enc_R_i64_i64) (l := x6) (fl := true) (n := x5) (s := 2) (k := .i64) (tbE h2)), .c (equal_Trim_Learn_pii_Fi3_t0 x0 x1 s0.c7 ((gt x6 s0.c4).c0) ((gt x6 s0.c4).c1) (tbE h3)), .b (tbE h4), .c (equal_Trim_Offset_p_Fi3_t0 x0 x1 (law11_EqualWithin_L0_h0_e0 x0 x1 x6 s0) false), .o 63 (fun _ => o_idx_os (enc := enc_R_i64_i64) (l := x6) (fl := true) (n := x5) (s := 2) (k := .i64) (tbE h2)), .c (equal_Trim_Even_pi_Fi3_t0 x0 x1 (law11_EqualWithin_L0_h0_e0 x0 x1 x6 s0) false ((gt x6 s0.c4).c0) (tbE h5)), .b (tbE h6), .b (tbE h7)] (by kernel_rfl)
            · intro g0 g1
              exact round_walk [.o 38 (fun _ => o_len_os (enc := enc_R_i64_i64) (l := x6) (fl := true) (n := x5) (s := 2)), .b (tbE h1), .c (equal_Trim_Offset_p_Fi3_t0 x0 x1 s0.c7 false), .o 47 (fun _ => o_idx_os (enc := enc_R_i64_i64) (l := x6) (fl := true) (n := x5) (s := 2) (k := .i64) (tbE h2)), .o 52 (fun _ => o_idx_os (enc := enc_R_i64_i64) (l := x6) (fl := true) (n := x5) (s := 2) (k := .i64) (tbE h2)), .c (equal_Trim_Learn_pii_Fi3_t0 x0 x1 s0.c7 ((gt x6 s0.c4).c0) ((gt x6 s0.c4).c1) (tbE h3)), .b (tbE h4), .c (equal_Trim_Offset_p_Fi3_t0 x0 x1 (law11_EqualWithin_L0_h0_e0 x0 x1 x6 s0) false), .o 63 (fun _ => o_idx_os (enc := enc_R_i64_i64) (l := x6) (fl := true) (n := x5) (s := 2) (k := .i64) (tbE h2)), .c (equal_Trim_Even_pi_Fi3_t0 x0 x1 (law11_EqualWithin_L0_h0_e0 x0 x1 x6 s0) false ((gt x6 s0.c4).c0) (tbE h5)), .b (tbE h6)] (by kernel_rfl)
        · intro g0 g1
          exact absurd g0 tf

theorem law11_EqualWithin_L0_x1 (x0 : Int) (x1 : Int) (x2 : Int) (x3 : Bool) (x4 : Int) (x5 : Bool) (x6 : List R_i64_i64) (x7 : Int) (x8 : Int) (s0 : law11_EqualWithin_L0_s0) : law11_EqualWithin_L0_sel x0 x1 x4 x6 x7 s0 = false → law11_EqualWithin_L0_c0 x0 x1 x6 s0 = false → law11_EqualWithin_L0_c1 x6 s0 = true → (roundG (runC E0 (cl E0) L14_0) [1, 2, 7, 8, 10] [6] 1) (law11_EqualWithin_L0_enc x0 x1 x2 x3 x4 x5 x6 x7 x8 s0) = some ((.exit 0), ([V.un], [(Blk.flat 107 3 [[(.int .i64 x0), (.int .i64 x1), (.int .i64 s0.c7)]] false)])) := by
  unfold law11_EqualWithin_L0_sel law11_EqualWithin_L0_c0 law11_EqualWithin_L0_c1
  cases h1 : tb (decide (s0.c4 < ((x6.length : Nat) : Int)))
  · intro g0 g1 g2
    exact round_walk [.o 38 (fun _ => o_len_os (enc := enc_R_i64_i64) (l := x6) (fl := true) (n := x5) (s := 2)), .b (tbE h1)] (by kernel_rfl)
  · cases h2 : tb (inb x6.length s0.c4)
    · intro g0 g1 g2
      exact absurd g2 ft
    · cases h3 : tb (equal_Trim_Learn_pii_Fi3_c0 x0 x1 s0.c7 ((gt x6 s0.c4).c0) ((gt x6 s0.c4).c1))
      · intro g0 g1 g2
        exact absurd g2 ft
      · cases h4 : tb (((equal_Trim_Learn_pii_Fi3_r0_0 ((gt x6 s0.c4).c0) ((gt x6 s0.c4).c1)) : Int) != 0)
        · cases h5 : tb (equal_Trim_Even_pi_Fi3_c0 ((gt x6 s0.c4).c0))
          · intro g0 g1 g2
            exact absurd g2 ft
          · cases h6 : tb (decide (x7 < (law11_EqualWithin_L0_h0_e0 x0 x1 x6 s0)))
            · cases h7 : tb (decide ((law11_EqualWithin_L0_h0_e0 x0 x1 x6 s0) < (wi (0 - x7))))
              · cases h8 : tb (((equal_Trim_Even_pi_Fi3_r0_1 ((gt x6 s0.c4).c0)) : Int) != 0)
                · cases h9 : tb (((equal_Trim_Even_pi_Fi3_r0_0 (law11_EqualWithin_L0_h0_e0 x0 x1 x6 s0) ((gt x6 s0.c4).c0)) : Int) != (law11_EqualWithin_L0_h0_e1 x0 x1 x6 s0))
                  · cases h10 : tb (decide ((wi (((gt x6 s0.c4).c0) + x7)) < (equal_Trim_Even_pi_Fi3_r0_0 (law11_EqualWithin_L0_h0_e0 x0 x1 x6 s0) ((gt x6 s0.c4).c0))))
                    · cases h11 : tb (decide ((equal_Trim_Even_pi_Fi3_r0_0 (law11_EqualWithin_L0_h0_e0 x0 x1 x6 s0) ((gt x6 s0.c4).c0)) < (wi (((gt x6 s0.c4).c0) - x7))))
                      · cases h12 : tb (decide ((law11_EqualWithin_L0_h0_e0 x0 x1 x6 s0) < (mnI s0.c7 (wi (((gt x6 s0.c4).c0) - ((gt x6 s0.c4).c1))))))
                        · cases h13 : tb (decide ((mxI s0.c7 (wi (((gt x6 s0.c4).c0) - ((gt x6 s0.c4).c1)))) < (law11_EqualWithin_L0_h0_e0 x0 x1 x6 s0)))
                          · cases h14 : tb (((remI .u8 x4 9) : Int) == 0)
                            · intro g0 g1 g2
                              exact absurd g0 tf
                            · cases h15 : tb (((law11_EqualWithin_L0_h0_e0 x0 x1 x6 s0) : Int) != (law11_EqualWithin_L0_h0_e2 x6 x7 s0))
                              · intro g0 g1 g2
                                exact absurd g0 tf
                              · intro g0 g1 g2
                                exact absurd g1 tf
                          · cases h14 : tb (((law11_EqualWithin_L0_h0_e0 x0 x1 x6 s0) : Int) != x7)
                            · cases h15 : tb (((remI .u8 x4 9) : Int) == 0)
                              · intro g0 g1 g2
                                exact absurd g0 tf
                              · cases h16 : tb (((law11_EqualWithin_L0_h0_e0 x0 x1 x6 s0) : Int) != (law11_EqualWithin_L0_h0_e2 x6 x7 s0))
                                · intro g0 g1 g2
                                  exact absurd g0 tf
                                · intro g0 g1 g2
                                  exact absurd g1 tf
                            · cases h15 : tb (((law11_EqualWithin_L0_h0_e0 x0 x1 x6 s0) : Int) != (wi (0 - x7)))
                              · cases h16 : tb (((remI .u8 x4 9) : Int) == 0)
                                · intro g0 g1 g2
                                  exact absurd g0 tf
                                · cases h17 : tb (((law11_EqualWithin_L0_h0_e0 x0 x1 x6 s0) : Int) != (law11_EqualWithin_L0_h0_e2 x6 x7 s0))
                                  · intro g0 g1 g2
                                    exact absurd g0 tf
                                  · intro g0 g1 g2
                                    exact absurd g1 tf
                              · intro g0 g1 g2
                                exact absurd g1 tf
                        · cases h13 : tb (((law11_EqualWithin_L0_h0_e0 x0 x1 x6 s0) : Int) != (wi (0 - x7)))
                          · cases h14 : tb (decide ((mxI s0.c7 (wi (((gt x6 s0.c4).c0) - ((gt x6 s0.c4).c1)))) < (law11_EqualWithin_L0_h0_e0 x0 x1 x6 s0)))
                            · cases h15 : tb (((remI .u8 x4 9) : Int) == 0)
                              · intro g0 g1 g2
                                exact absurd g0 tf
                              · cases h16 : tb (((law11_EqualWithin_L0_h0_e0 x0 x1 x6 s0) : Int) != (law11_EqualWithin_L0_h0_e2 x6 x7 s0))
                                · intro g0 g1 g2
                                  exact absurd g0 tf
                                · intro g0 g1 g2
                                  exact absurd g1 tf
                            · cases h15 : tb (((law11_EqualWithin_L0_h0_e0 x0 x1 x6 s0) : Int) != x7)
                              · cases h16 : tb (((remI .u8 x4 9) : Int) == 0)
                                · intro g0 g1 g2
                                  exact absurd g0 tf
                                · cases h17 : tb (((law11_EqualWithin_L0_h0_e0 x0 x1 x6 s0) : Int) != (law11_EqualWithin_L0_h0_e2 x6 x7 s0))
                                  · intro g0 g1 g2
                                    exact absurd g0 tf
                                  · intro g0 g1 g2
                                    exact absurd g1 tf
                              · cases h16 : tb (((remI .u8 x4 9) : Int) == 0)
                                · intro g0 g1 g2
                                  exact absurd g0 tf
                                · cases h17 : tb (((law11_EqualWithin_L0_h0_e0 x0 x1 x6 s0) : Int) != (law11_EqualWithin_L0_h0_e2 x6 x7 s0))
                                  · intro g0 g1 g2
                                    exact absurd g0 tf
                                  · intro g0 g1 g2
                                    exact absurd g1 tf
                          · cases h14 : tb (((law11_EqualWithin_L0_h0_e0 x0 x1 x6 s0) : Int) != x7)
                            · cases h15 : tb (decide ((mxI s0.c7 (wi (((gt x6 s0.c4).c0) - ((gt x6 s0.c4).c1)))) < (law11_EqualWithin_L0_h0_e0 x0 x1 x6 s0)))
                              · cases h16 : tb (((remI .u8 x4 9) : Int) == 0)
                                · intro g0 g1 g2
                                  exact absurd g0 tf
                                · cases h17 : tb (((law11_EqualWithin_L0_h0_e0 x0 x1 x6 s0) : Int) != (law11_EqualWithin_L0_h0_e2 x6 x7 s0))
                                  · intro g0 g1 g2
                                    exact absurd g0 tf
                                  · intro g0 g1 g2
                                    exact absurd g1 tf
                              · cases h16 : tb (((remI .u8 x4 9) : Int) == 0)
                                · intro g0 g1 g2
                                  exact absurd g0 tf
                                · cases h17 : tb (((law11_EqualWithin_L0_h0_e0 x0 x1 x6 s0) : Int) != (law11_EqualWithin_L0_h0_e2 x6 x7 s0))
                                  · intro g0 g1 g2
                                    exact absurd g0 tf
                                  · intro g0 g1 g2
                                    exact absurd g1 tf
                            · intro g0 g1 g2
                              exact absurd g1 tf
                      · intro g0 g1 g2
                        exact absurd g1 tf
                    · intro g0 g1 g2
                      exact absurd g1 tf
                  · intro g0 g1 g2
                    exact absurd g1 tf
                · intro g0 g1 g2
                  exact absurd g1 tf
              · intro g0 g1 g2
                exact absurd g1 tf
            · intro g0 g1 g2
              exact absurd g1 tf
        · intro g0 g1 g2
          exact absurd g0 tf

theorem law11_EqualWithin_L0_f0_0 (x0 : Int) (x1 : Int) (x2 : Int) (x3 : Bool) (x4 : Int) (x5 : Bool) (x6 : List R_i64_i64) (x7 : Int) (x8 : Int) (s : law11_EqualWithin_L0_s0) (hok : law11_EqualWithin_L0_ok x0 x1 x4 x6 x7 s = true) (c0 : law11_EqualWithin_L0_c0 x0 x1 x6 (law11_EqualWithin_L0_end x0 x1 x4 x6 x7 s) = true) : loopG (roundG (runC E0 (cl E0) L14_0) [1, 2, 7, 8, 10] [6] 1) bound (law11_EqualWithin_L0_enc x0 x1 x2 x3 x4 x5 x6 x7 x8 s) = some (.ret, ([(V.d (.bool false))], [(Blk.flat 107 3 [[(.int .i64 x0), (.int .i64 x1), (.int .i64 (law11_EqualWithin_L0_h0_e0 x0 x1 x6 (law11_EqualWithin_L0_end x0 x1 x4 x6 x7 s)))]] false)])) := by
  have e : itS (law11_EqualWithin_L0_sel x0 x1 x4 x6 x7) (law11_EqualWithin_L0_nx x0 x1 x4 x6 x7) bound s = some (law11_EqualWithin_L0_end x0 x1 x4 x6 x7 s) := itS_get hok
  have f := itS_false e
  exact loop_it (law11_EqualWithin_L0_go x0 x1 x2 x3 x4 x5 x6 x7 x8) bound s _ _ _ e (fun h => by cases h) (law11_EqualWithin_L0_x0 x0 x1 x2 x3 x4 x5 x6 x7 x8 (law11_EqualWithin_L0_end x0 x1 x4 x6 x7 s) f c0)

theorem law11_EqualWithin_L0_f0_1 (x0 : Int) (x1 : Int) (x2 : Int) (x3 : Bool) (x4 : Int) (x5 : Bool) (x6 : List R_i64_i64) (x7 : Int) (x8 : Int) (s : law11_EqualWithin_L0_s0) (hok : law11_EqualWithin_L0_ok x0 x1 x4 x6 x7 s = true) (c0 : law11_EqualWithin_L0_c0 x0 x1 x6 (law11_EqualWithin_L0_end x0 x1 x4 x6 x7 s) = false) (c1 : law11_EqualWithin_L0_c1 x6 (law11_EqualWithin_L0_end x0 x1 x4 x6 x7 s) = true) : loopG (roundG (runC E0 (cl E0) L14_0) [1, 2, 7, 8, 10] [6] 1) bound (law11_EqualWithin_L0_enc x0 x1 x2 x3 x4 x5 x6 x7 x8 s) = some ((.exit 0), ([V.un], [(Blk.flat 107 3 [[(.int .i64 x0), (.int .i64 x1), (.int .i64 ((law11_EqualWithin_L0_end x0 x1 x4 x6 x7 s).c7))]] false)])) := by
  have e : itS (law11_EqualWithin_L0_sel x0 x1 x4 x6 x7) (law11_EqualWithin_L0_nx x0 x1 x4 x6 x7) bound s = some (law11_EqualWithin_L0_end x0 x1 x4 x6 x7 s) := itS_get hok
  have f := itS_false e
  exact loop_it (law11_EqualWithin_L0_go x0 x1 x2 x3 x4 x5 x6 x7 x8) bound s _ _ _ e (fun h => by cases h) (law11_EqualWithin_L0_x1 x0 x1 x2 x3 x4 x5 x6 x7 x8 (law11_EqualWithin_L0_end x0 x1 x4 x6 x7 s) f c0 c1)

def law11_EqualWithin_e0 (x0 : Int) (x1 : Int) (x3 : List R_i64_i64) : law11_EqualWithin_L0_s0 := law11_EqualWithin_L0_end (wi (x0)) (wi (remI .u8 x1 9)) x1 x3 (wi (x0)) (⟨0, 0⟩ : law11_EqualWithin_L0_s0)

def law11_EqualWithin_c0 (x0 : Int) (x1 : Int) (x3 : List R_i64_i64) : Bool := (bif tb (decide (200 < ((x3.length : Nat) : Int))) then true else (bif tb (equal_New_ii_c0 (wi (x0)) (wi (remI .u8 x1 9))) then true else (bif tb (law11_EqualWithin_L0_ok (wi (x0)) (wi (remI .u8 x1 9)) x1 x3 (wi (x0)) (⟨0, 0⟩ : law11_EqualWithin_L0_s0)) then (bif tb (law11_EqualWithin_L0_c0 (wi (x0)) (wi (remI .u8 x1 9)) x3 (law11_EqualWithin_e0 x0 x1 x3)) then true else (bif tb (law11_EqualWithin_L0_c1 x3 (law11_EqualWithin_e0 x0 x1 x3)) then true else false)) else false)))

def law11_EqualWithin_r0_0 (x0 : Int) (x1 : Int) (x3 : List R_i64_i64) : Bool := (bif tb (decide (200 < ((x3.length : Nat) : Int))) then true else (bif tb (equal_New_ii_c0 (wi (x0)) (wi (remI .u8 x1 9))) then false else (bif tb (law11_EqualWithin_L0_c0 (wi (x0)) (wi (remI .u8 x1 9)) x3 (law11_EqualWithin_e0 x0 x1 x3)) then false else true)))

theorem law11_EqualWithin_t0 (x0 : Int) (x1 : Int) (x2 : Bool) (x3 : List R_i64_i64) : law11_EqualWithin_c0 x0 x1 x3 = true → cl E0 14 [(V.d (.int .u16 x0)), (V.d (.int .u8 x1)), (V.d (slD enc_R_i64_i64 true 2 x2 x3))] [] = some ([(V.d (.bool (law11_EqualWithin_r0_0 x0 x1 x3)))], []) := by
  unfold law11_EqualWithin_c0 law11_EqualWithin_r0_0
  cases h1 : tb (decide (200 < ((x3.length : Nat) : Int)))
  · cases h2 : tb (equal_New_ii_c0 (wi (x0)) (wi (remI .u8 x1 9)))
    · cases h3 : tb (law11_EqualWithin_L0_ok (wi (x0)) (wi (remI .u8 x1 9)) x1 x3 (wi (x0)) (⟨0, 0⟩ : law11_EqualWithin_L0_s0))
      · intro g0
        exact absurd g0 ft
      · cases h4 : tb (law11_EqualWithin_L0_c0 (wi (x0)) (wi (remI .u8 x1 9)) x3 (law11_EqualWithin_e0 x0 x1 x3))
        · cases h5 : tb (law11_EqualWithin_L0_c1 x3 (law11_EqualWithin_e0 x0 x1 x3))
          · intro g0
            exact absurd g0 ft
          · intro g0
            exact w14 [.o 17 (fun _ => o_len_os (enc := enc_R_i64_i64) (l := x3) (fl := true) (n := x2) (s := 2)), .b (tbE h1), .c (equal_New_ii_t1 (wi (x0)) (wi (remI .u8 x1 9)) (tbE h2)), .k false, .k false, .l (law11_EqualWithin_L0_f0_1 (wi (x0)) (wi (remI .u8 x1 9)) 0 false x1 x2 x3 (wi (x0)) 0 (⟨0, 0⟩ : law11_EqualWithin_L0_s0) (tbE h3) (tbE h4) (tbE h5)), .c (law11_alive_t0)] (by kernel_rfl)
        · intro g0
          exact w14 [.o 17 (fun _ => o_len_os (enc := enc_R_i64_i64) (l := x3) (fl := true) (n := x2) (s := 2)), .b (tbE h1), .c (equal_New_ii_t1 (wi (x0)) (wi (remI .u8 x1 9)) (tbE h2)), .k false, .k false, .l (law11_EqualWithin_L0_f0_0 (wi (x0)) (wi (remI .u8 x1 9)) 0 false x1 x2 x3 (wi (x0)) 0 (⟨0, 0⟩ : law11_EqualWithin_L0_s0) (tbE h3) (tbE h4))] (by kernel_rfl)
    · intro g0
      exact w14 [.o 17 (fun _ => o_len_os (enc := enc_R_i64_i64) (l := x3) (fl := true) (n := x2) (s := 2)), .b (tbE h1), .c (equal_New_ii_t0 (wi (x0)) (wi (remI .u8 x1 9)) (tbE h2)), .k true] (by kernel_rfl)
  · intro g0
    exact w14 [.o 17 (fun _ => o_len_os (enc := enc_R_i64_i64) (l := x3) (fl := true) (n := x2) (s := 2)), .b (tbE h1), .c (law11_alive_t0)] (by kernel_rfl)

end Go.Proofs.Ytgalchmjpfmemaa.Den

namespace Go.Proofs.Ytgalchmjpfmemaa.Den
open Go Go.Proofs
set_option maxRecDepth 100000
set_option maxHeartbeats 4000000
set_option linter.unusedVariables false
set_option linter.unusedSimpArgs false

def ref01_Small_i_r0_0 (x0 : Int) : Bool := (bif tb (decide ((-1099511627776) ≤ x0)) then (decide (x0 ≤ 1099511627776)) else false)

theorem ref01_Small_i_t0 (x0 : Int) : cl E0 79 [(V.d (.int .i64 x0))] [] = some ([(V.d (.bool (ref01_Small_i_r0_0 x0)))], []) := by
  unfold ref01_Small_i_r0_0
  cases h1 : tb (decide ((-1099511627776) ≤ x0))
  · exact w79 [.b (tbE h1)] (by kernel_rfl)
  · exact w79 [.b (tbE h1)] (by kernel_rfl)

structure ref01_Shift_ii_L0_s0 where
  c2 : Int
  c3 : Int
  deriving Inhabited

def ref01_Shift_ii_L0_enc (x0 : Int) (x1 : Int) (x2 : Int) (x3 : Int) (s0 : ref01_Shift_ii_L0_s0) : List V × Mem := ([(V.d (.int .i64 x0)), (V.d (.int .i64 x1)), (V.d (.int .i64 s0.c2)), (V.d (.int .i64 s0.c3))], [])

def ref01_Shift_ii_L0_sel (x1 : Int) (s0 : ref01_Shift_ii_L0_s0) : Bool := (bif tb (decide (s0.c3 < x1)) then true else false)

def ref01_Shift_ii_L0_nx (x1 : Int) (s0 : ref01_Shift_ii_L0_s0) : ref01_Shift_ii_L0_s0 := ⟨(wi (2 * s0.c2)), (wi (s0.c3 + 1))⟩

def ref01_Shift_ii_L0_ok (x1 : Int) (s0 : ref01_Shift_ii_L0_s0) : Bool := (itS (ref01_Shift_ii_L0_sel x1) (ref01_Shift_ii_L0_nx x1) bound s0).isSome
def ref01_Shift_ii_L0_end (x1 : Int) (s0 : ref01_Shift_ii_L0_s0) : ref01_Shift_ii_L0_s0 := (itS (ref01_Shift_ii_L0_sel x1) (ref01_Shift_ii_L0_nx x1) bound s0).getD default

theorem ref01_Shift_ii_L0_go (x0 : Int) (x1 : Int) (x2 : Int) (x3 : Int) (s0 : ref01_Shift_ii_L0_s0) : ref01_Shift_ii_L0_sel x1 s0 = true → (roundG (runC E0 (cl E0) L62_0) [0, 1, 6, 7] [0, 6] 0) (ref01_Shift_ii_L0_enc x0 x1 x2 x3 s0) = some (.normal, ref01_Shift_ii_L0_enc x0 x1 x2 x3 (ref01_Shift_ii_L0_nx x1 s0)) := by
  unfold ref01_Shift_ii_L0_sel ref01_Shift_ii_L0_nx
  cases h1 : tb (decide (s0.c3 < x1))
  · intro g0
    exact absurd g0 ft
  · intro _
    exact round_walk [.b (tbE h1)] (by kernel_rfl)

theorem ref01_Shift_ii_L0_x0 (x0 : Int) (x1 : Int) (x2 : Int) (x3 : Int) (s0 : ref01_Shift_ii_L0_s0) : ref01_Shift_ii_L0_sel x1 s0 = false → (roundG (runC E0 (cl E0) L62_0) [0, 1, 6, 7] [0, 6] 0) (ref01_Shift_ii_L0_enc x0 x1 x2 x3 s0) = some ((.exit 0), ([(V.d (.int .i64 x0)), (V.d (.int .i64 s0.c2))], [])) := by
  unfold ref01_Shift_ii_L0_sel
  cases h1 : tb (decide (s0.c3 < x1))
  · intro g0
    exact round_walk [.b (tbE h1)] (by kernel_rfl)
  · intro g0
    exact absurd g0 tf

theorem ref01_Shift_ii_L0_f0_0 (x0 : Int) (x1 : Int) (x2 : Int) (x3 : Int) (s : ref01_Shift_ii_L0_s0) (hok : ref01_Shift_ii_L0_ok x1 s = true) : loopG (roundG (runC E0 (cl E0) L62_0) [0, 1, 6, 7] [0, 6] 0) bound (ref01_Shift_ii_L0_enc x0 x1 x2 x3 s) = some ((.exit 0), ([(V.d (.int .i64 x0)), (V.d (.int .i64 ((ref01_Shift_ii_L0_end x1 s).c2)))], [])) := by
  have e : itS (ref01_Shift_ii_L0_sel x1) (ref01_Shift_ii_L0_nx x1) bound s = some (ref01_Shift_ii_L0_end x1 s) := itS_get hok
  have f := itS_false e
  exact loop_it (ref01_Shift_ii_L0_go x0 x1 x2 x3) bound s _ _ _ e (fun h => by cases h) (ref01_Shift_ii_L0_x0 x0 x1 x2 x3 (ref01_Shift_ii_L0_end x1 s) f )

structure ref01_All_o_L0_s0 where
  c2 : Int
  deriving Inhabited

def ref01_All_o_L0_enc (x0 : Bool) (x1 : List Int) (x2 : Int) (s0 : ref01_All_o_L0_s0) : List V × Mem := ([(V.d (slD (encI .i64) true 1 x0 x1)), (V.d (.int .i64 s0.c2))], [])

def ref01_All_o_L0_sel (x1 : List Int) (s0 : ref01_All_o_L0_s0) : Bool := (bif tb (decide (s0.c2 < ((x1.length : Nat) : Int))) then (bif tb (inb x1.length s0.c2) then (bif tb (ref01_Small_i_r0_0 (gt x1 s0.c2)) then true else false) else false) else false)

def ref01_All_o_L0_nx (x1 : List Int) (s0 : ref01_All_o_L0_s0) : ref01_All_o_L0_s0 := ⟨(wi (s0.c2 + 1))⟩

def ref01_All_o_L0_ok (x1 : List Int) (s0 : ref01_All_o_L0_s0) : Bool := (itS (ref01_All_o_L0_sel x1) (ref01_All_o_L0_nx x1) bound s0).isSome
def ref01_All_o_L0_end (x1 : List Int) (s0 : ref01_All_o_L0_s0) : ref01_All_o_L0_s0 := (itS (ref01_All_o_L0_sel x1) (ref01_All_o_L0_nx x1) bound s0).getD default

theorem ref01_All_o_L0_go (x0 : Bool) (x1 : List Int) (x2 : Int) (s0 : ref01_All_o_L0_s0) : ref01_All_o_L0_sel x1 s0 = true → (roundG (runC E0 (cl E0) L85_0) [0, 3] [2] 0) (ref01_All_o_L0_enc x0 x1 x2 s0) = some (.normal, ref01_All_o_L0_enc x0 x1 x2 (ref01_All_o_L0_nx x1 s0)) := by
  unfold ref01_All_o_L0_sel ref01_All_o_L0_nx
  cases h1 : tb (decide (s0.c2 < ((x1.length : Nat) : Int)))
  · intro g0
    exact absurd g0 ft
  · cases h2 : tb (inb x1.length s0.c2)
    · intro g0
      exact absurd g0 ft
    · cases h3 : tb (ref01_Small_i_r0_0 (gt x1 s0.c2))
      · intro g0
        exact absurd g0 ft
      · intro _
        exact round_walk [.o 7 (fun _ => o_len_os (enc := (encI .i64)) (l := x1) (fl := true) (n := x0) (s := 1)), .b (tbE h1), .o 13 (fun _ => o_idx_os (enc := (encI .i64)) (l := x1) (fl := true) (n := x0) (s := 1) (k := .i64) (tbE h2)), .c (ref01_Small_i_t0 (gt x1 s0.c2)), .b (notT (tbE h3))] (by kernel_rfl)

def ref01_All_o_L0_c0 (x1 : List Int) (s0 : ref01_All_o_L0_s0) : Bool := (bif tb (decide (s0.c2 < ((x1.length : Nat) : Int))) then (bif tb (inb x1.length s0.c2) then true else false) else false)

def ref01_All_o_L0_c1 (x1 : List Int) (s0 : ref01_All_o_L0_s0) : Bool := (bif tb (decide (s0.c2 < ((x1.length : Nat) : Int))) then false else true)

theorem ref01_All_o_L0_x0 (x0 : Bool) (x1 : List Int) (x2 : Int) (s0 : ref01_All_o_L0_s0) : ref01_All_o_L0_sel x1 s0 = false → ref01_All_o_L0_c0 x1 s0 = true → (roundG (runC E0 (cl E0) L85_0) [0, 3] [2] 0) (ref01_All_o_L0_enc x0 x1 x2 s0) = some (.ret, ([(V.d (.bool false))], [])) := by
  unfold ref01_All_o_L0_sel ref01_All_o_L0_c0
  cases h1 : tb (decide (s0.c2 < ((x1.length : Nat) : Int)))
  · intro g0 g1
    exact absurd g1 ft
  · cases h2 : tb (inb x1.length s0.c2)
    · intro g0 g1
      exact absurd g1 ft
    · cases h3 : tb (ref01_Small_i_r0_0 (gt x1 s0.c2))
      · intro g0 g1
        exact round_walk [.o 7 (fun _ => o_len_os (enc := (encI .i64)) (l := x1) (fl := true) (n := x0) (s := 1)), .b (tbE h1), .o 13 (fun _ => o_idx_os (enc := (encI .i64)) (l := x1) (fl := true) (n := x0) (s := 1) (k := .i64) (tbE h2)), .c (ref01_Small_i_t0 (gt x1 s0.c2)), .b (notF (tbE h3))] (by kernel_rfl)
      · intro g0 g1
        exact absurd g0 tf

theorem ref01_All_o_L0_x1 (x0 : Bool) (x1 : List Int) (x2 : Int) (s0 : ref01_All_o_L0_s0) : ref01_All_o_L0_sel x1 s0 = false → ref01_All_o_L0_c0 x1 s0 = false → ref01_All_o_L0_c1 x1 s0 = true → (roundG (runC E0 (cl E0) L85_0) [0, 3] [2] 0) (ref01_All_o_L0_enc x0 x1 x2 s0) = some ((.exit 0), ([V.un], [])) := by
  unfold ref01_All_o_L0_sel ref01_All_o_L0_c0 ref01_All_o_L0_c1
  cases h1 : tb (decide (s0.c2 < ((x1.length : Nat) : Int)))
  · intro g0 g1 g2
    exact round_walk [.o 7 (fun _ => o_len_os (enc := (encI .i64)) (l := x1) (fl := true) (n := x0) (s := 1)), .b (tbE h1)] (by kernel_rfl)
  · cases h2 : tb (inb x1.length s0.c2)
    · intro g0 g1 g2
      exact absurd g2 ft
    · cases h3 : tb (ref01_Small_i_r0_0 (gt x1 s0.c2))
      · intro g0 g1 g2
        exact absurd g1 tf
      · intro g0 g1 g2
        exact absurd g0 tf

theorem ref01_All_o_L0_f0_0 (x0 : Bool) (x1 : List Int) (x2 : Int) (s : ref01_All_o_L0_s0) (hok : ref01_All_o_L0_ok x1 s = true) (c0 : ref01_All_o_L0_c0 x1 (ref01_All_o_L0_end x1 s) = true) : loopG (roundG (runC E0 (cl E0) L85_0) [0, 3] [2] 0) bound (ref01_All_o_L0_enc x0 x1 x2 s) = some (.ret, ([(V.d (.bool false))], [])) := by
  have e : itS (ref01_All_o_L0_sel x1) (ref01_All_o_L0_nx x1) bound s = some (ref01_All_o_L0_end x1 s) := itS_get hok
  have f := itS_false e
  exact loop_it (ref01_All_o_L0_go x0 x1 x2) bound s _ _ _ e (fun h => by cases h) (ref01_All_o_L0_x0 x0 x1 x2 (ref01_All_o_L0_end x1 s) f c0)

theorem ref01_All_o_L0_f0_1 (x0 : Bool) (x1 : List Int) (x2 : Int) (s : ref01_All_o_L0_s0) (hok : ref01_All_o_L0_ok x1 s = true) (c0 : ref01_All_o_L0_c0 x1 (ref01_All_o_L0_end x1 s) = false) (c1 : ref01_All_o_L0_c1 x1 (ref01_All_o_L0_end x1 s) = true) : loopG (roundG (runC E0 (cl E0) L85_0) [0, 3] [2] 0) bound (ref01_All_o_L0_enc x0 x1 x2 s) = some ((.exit 0), ([V.un], [])) := by
  have e : itS (ref01_All_o_L0_sel x1) (ref01_All_o_L0_nx x1) bound s = some (ref01_All_o_L0_end x1 s) := itS_get hok
  have f := itS_false e
  exact loop_it (ref01_All_o_L0_go x0 x1 x2) bound s _ _ _ e (fun h => by cases h) (ref01_All_o_L0_x1 x0 x1 x2 (ref01_All_o_L0_end x1 s) f c0 c1)

def ref01_All_o_c0 (x1 : List Int) : Bool := (bif tb (ref01_All_o_L0_ok x1 (⟨0⟩ : ref01_All_o_L0_s0)) then (bif tb (ref01_All_o_L0_c0 x1 (ref01_All_o_L0_end x1 (⟨0⟩ : ref01_All_o_L0_s0))) then true else (bif tb (ref01_All_o_L0_c1 x1 (ref01_All_o_L0_end x1 (⟨0⟩ : ref01_All_o_L0_s0))) then true else false)) else false)

def ref01_All_o_r0_0 (x1 : List Int) : Bool := (bif tb (ref01_All_o_L0_c0 x1 (ref01_All_o_L0_end x1 (⟨0⟩ : ref01_All_o_L0_s0))) then false else true)

theorem ref01_All_o_t0 (x0 : Bool) (x1 : List Int) : ref01_All_o_c0 x1 = true → cl E0 85 [(V.d (slD (encI .i64) true 1 x0 x1))] [] = some ([(V.d (.bool (ref01_All_o_r0_0 x1)))], []) := by
  unfold ref01_All_o_c0 ref01_All_o_r0_0
  cases h1 : tb (ref01_All_o_L0_ok x1 (⟨0⟩ : ref01_All_o_L0_s0))
  · intro g0
    exact absurd g0 ft
  · cases h2 : tb (ref01_All_o_L0_c0 x1 (ref01_All_o_L0_end x1 (⟨0⟩ : ref01_All_o_L0_s0)))
    · cases h3 : tb (ref01_All_o_L0_c1 x1 (ref01_All_o_L0_end x1 (⟨0⟩ : ref01_All_o_L0_s0)))
      · intro g0
        exact absurd g0 ft
      · intro g0
        exact w85 [.l (ref01_All_o_L0_f0_1 x0 x1 0 (⟨0⟩ : ref01_All_o_L0_s0) (tbE h1) (tbE h2) (tbE h3))] (by kernel_rfl)
    · intro g0
      exact w85 [.l (ref01_All_o_L0_f0_0 x0 x1 0 (⟨0⟩ : ref01_All_o_L0_s0) (tbE h1) (tbE h2))] (by kernel_rfl)

def ref01_Floor_ii_c0 (x0 : Int) (x1 : Int) : Bool := (bif tb (ref01_All_o_c0 [x0, x1]) then (bif tb (ref01_All_o_r0_0 [x0, x1]) then (bif tb (decide (x1 < 1)) then true else (bif tb ((x1 : Int) == 0) then false else true)) else true) else false)

def ref01_Floor_ii_r0_0 (x0 : Int) (x1 : Int) : Int := (bif tb (ref01_All_o_r0_0 [x0, x1]) then (bif tb (decide (x1 < 1)) then 0 else (bif tb (decide (0 ≤ x0)) then (quoI .i64 x0 x1) else (wi (0 - (quoI .i64 (wi ((wi (x1 - 1)) - x0)) x1))))) else 0)

theorem ref01_Floor_ii_t0 (x0 : Int) (x1 : Int) : ref01_Floor_ii_c0 x0 x1 = true → cl E0 80 [(V.d (.int .i64 x0)), (V.d (.int .i64 x1))] [] = some ([(V.d (.int .i64 (ref01_Floor_ii_r0_0 x0 x1)))], []) := by
  unfold ref01_Floor_ii_c0 ref01_Floor_ii_r0_0
  cases h1 : tb (ref01_All_o_c0 [x0, x1])
  · intro g0
    exact absurd g0 ft
  · cases h2 : tb (ref01_All_o_r0_0 [x0, x1])
    · intro g0
      exact w80 [.c (ref01_All_o_t0 false [x0, x1] (tbE h1)), .b (notF (tbE h2))] (by kernel_rfl)
    · cases h3 : tb (decide (x1 < 1))
      · cases h4 : tb (decide (0 ≤ x0))
        · cases h5 : tb ((x1 : Int) == 0)
          · intro g0
            exact w80 [.c (ref01_All_o_t0 false [x0, x1] (tbE h1)), .b (notT (tbE h2)), .b (tbE h3), .b (tbE h4), .o 26 (fun _ => o_quo (k := .i64) (x := (wi ((wi (x1 - 1)) - x0))) (y := x1) (tbE h5))] (by kernel_rfl)
          · intro g0
            exact absurd g0 ft
        · cases h5 : tb ((x1 : Int) == 0)
          · intro g0
            exact w80 [.c (ref01_All_o_t0 false [x0, x1] (tbE h1)), .b (notT (tbE h2)), .b (tbE h3), .b (tbE h4), .o 20 (fun _ => o_quo (k := .i64) (x := x0) (y := x1) (tbE h5))] (by kernel_rfl)
          · intro g0
            exact absurd g0 ft
      · intro g0
        exact w80 [.c (ref01_All_o_t0 false [x0, x1] (tbE h1)), .b (notT (tbE h2)), .b (tbE h3)] (by kernel_rfl)

def ref01_Shift_ii_e0 (x1 : Int) : Int := ((ref01_Shift_ii_L0_end x1 (⟨1, 0⟩ : ref01_Shift_ii_L0_s0)).c2)

def ref01_Shift_ii_c0 (x0 : Int) (x1 : Int) : Bool := (bif tb (ref01_Small_i_r0_0 x0) then (bif tb (decide (x1 < 0)) then true else (bif tb (decide (40 < x1)) then true else (bif tb (ref01_Shift_ii_L0_ok x1 (⟨1, 0⟩ : ref01_Shift_ii_L0_s0)) then (bif tb (ref01_Floor_ii_c0 x0 (ref01_Shift_ii_e0 x1)) then true else false) else false))) else true)

def ref01_Shift_ii_r0_0 (x0 : Int) (x1 : Int) : Int := (bif tb (ref01_Small_i_r0_0 x0) then (bif tb (decide (x1 < 0)) then 0 else (bif tb (decide (40 < x1)) then 0 else (ref01_Floor_ii_r0_0 x0 (ref01_Shift_ii_e0 x1)))) else 0)

theorem ref01_Shift_ii_t0 (x0 : Int) (x1 : Int) : ref01_Shift_ii_c0 x0 x1 = true → cl E0 62 [(V.d (.int .i64 x0)), (V.d (.int .i64 x1))] [] = some ([(V.d (.int .i64 (ref01_Shift_ii_r0_0 x0 x1)))], []) := by
  unfold ref01_Shift_ii_c0 ref01_Shift_ii_r0_0
  cases h1 : tb (ref01_Small_i_r0_0 x0)
  · intro g0
    exact w62 [.c (ref01_Small_i_t0 x0), .b (notF (tbE h1))] (by kernel_rfl)
  · cases h2 : tb (decide (x1 < 0))
    · cases h3 : tb (decide (40 < x1))
      · cases h4 : tb (ref01_Shift_ii_L0_ok x1 (⟨1, 0⟩ : ref01_Shift_ii_L0_s0))
        · intro g0
          exact absurd g0 ft
        · cases h5 : tb (ref01_Floor_ii_c0 x0 (ref01_Shift_ii_e0 x1))
          · intro g0
            exact absurd g0 ft
          · intro g0
            exact w62 [.c (ref01_Small_i_t0 x0), .b (notT (tbE h1)), .b (tbE h2), .b (tbE h3), .l (ref01_Shift_ii_L0_f0_0 x0 x1 1 0 (⟨1, 0⟩ : ref01_Shift_ii_L0_s0) (tbE h4)), .c (ref01_Floor_ii_t0 x0 (ref01_Shift_ii_e0 x1) (tbE h5))] (by kernel_rfl)
      · intro g0
        exact w62 [.c (ref01_Small_i_t0 x0), .b (notT (tbE h1)), .b (tbE h2), .b (tbE h3)] (by kernel_rfl)
    · intro g0
      exact w62 [.c (ref01_Small_i_t0 x0), .b (notT (tbE h1)), .b (tbE h2)] (by kernel_rfl)

end Go.Proofs.Ytgalchmjpfmemaa.Den

namespace Go.Proofs.Ytgalchmjpfmemaa.Den
open Go Go.Proofs
set_option maxRecDepth 100000
set_option maxHeartbeats 4000000
set_option linter.unusedVariables false
set_option linter.unusedSimpArgs false

def ref08_Right_i_r0_0 (x0 : Int) : Bool := (bif tb (decide ((-2147483648) ≤ x0)) then (decide (x0 ≤ 2147483647)) else false)

theorem ref08_Right_i_t0 (x0 : Int) : cl E0 64 [(V.d (.int .i64 x0))] [] = some ([(V.d (.bool (ref08_Right_i_r0_0 x0)))], []) := by
  unfold ref08_Right_i_r0_0
  cases h1 : tb (decide ((-2147483648) ≤ x0))
  · exact w64 [.b (tbE h1)] (by kernel_rfl)
  · exact w64 [.b (tbE h1)] (by kernel_rfl)

def ref08_May_iii_r0_0 (x0 : Int) (x1 : Int) (x2 : Int) : Bool := (bif tb (ref08_Right_i_r0_0 x0) then (bif tb (ref08_Right_i_r0_0 x1) then (bif tb (ref08_Right_i_r0_0 x2) then (bif tb (decide (x0 ≤ x1)) then (decide (0 ≤ x2)) else false) else false) else false) else false)

theorem ref08_May_iii_t0 (x0 : Int) (x1 : Int) (x2 : Int) : cl E0 24 [(V.d (.int .i64 x0)), (V.d (.int .i64 x1)), (V.d (.int .i64 x2))] [] = some ([(V.d (.bool (ref08_May_iii_r0_0 x0 x1 x2)))], []) := by
  unfold ref08_May_iii_r0_0
  cases h1 : tb (ref08_Right_i_r0_0 x0)
  · exact w24 [.c (ref08_Right_i_t0 x0), .c (ref08_Right_i_t0 x1), .c (ref08_Right_i_t0 x2), .b (tbE h1)] (by kernel_rfl)
  · cases h2 : tb (ref08_Right_i_r0_0 x1)
    · exact w24 [.c (ref08_Right_i_t0 x0), .c (ref08_Right_i_t0 x1), .c (ref08_Right_i_t0 x2), .b (tbE h1), .b (tbE h2)] (by kernel_rfl)
    · cases h3 : tb (ref08_Right_i_r0_0 x2)
      · exact w24 [.c (ref08_Right_i_t0 x0), .c (ref08_Right_i_t0 x1), .c (ref08_Right_i_t0 x2), .b (tbE h1), .b (tbE h2), .b (tbE h3)] (by kernel_rfl)
      · cases h4 : tb (decide (x0 ≤ x1))
        · exact w24 [.c (ref08_Right_i_t0 x0), .c (ref08_Right_i_t0 x1), .c (ref08_Right_i_t0 x2), .b (tbE h1), .b (tbE h2), .b (tbE h3), .b (tbE h4)] (by kernel_rfl)
        · exact w24 [.c (ref08_Right_i_t0 x0), .c (ref08_Right_i_t0 x1), .c (ref08_Right_i_t0 x2), .b (tbE h1), .b (tbE h2), .b (tbE h3), .b (tbE h4)] (by kernel_rfl)

theorem ref08_Begin_iii_t0 (x0 : Int) (x1 : Int) (x2 : Int) : cl E0 25 [(V.d (.int .i64 x0)), (V.d (.int .i64 x1)), (V.d (.int .i64 x2))] [] = some ([(V.ptr 0 1 0 0)], [(Blk.gen 99 4 [[(V.d (.int .i64 x0)), (V.d (.int .i64 x1)), (V.d (.int .i64 x2)), (V.d .nils)]] false)]) := by
  exact w25 [] (by kernel_rfl)

theorem ref08_Watch_Miss_p_Gi3n_t0 (x0 : Int) (x1 : Int) (x2 : Int) : cl E0 27 [(V.ptr 0 1 0 0)] [(Blk.gen 99 4 [[(V.d (.int .i64 x0)), (V.d (.int .i64 x1)), (V.d (.int .i64 x2)), (V.d .nils)]] false)] = some ([], [(Blk.gen 99 4 [[(V.d (.int .i64 x0)), (V.d (.int .i64 x1)), (V.d (.int .i64 x2)), (V.d .nils)]] false)]) := by
  exact w27 [] (by kernel_rfl)

theorem ref08_Watch_Last_p_Gi3n_t0 (x0 : Int) (x1 : Int) (x2 : Int) (x3 : Bool) : cl E0 31 [(V.ptr 0 1 0 0)] [(Blk.gen 99 4 [[(V.d (.int .i64 x0)), (V.d (.int .i64 x1)), (V.d (.int .i64 x2)), (V.d .nils)]] x3)] = some ([(V.d (.int .i64 0)), (V.d (.bool false))], [(Blk.gen 99 4 [[(V.d (.int .i64 x0)), (V.d (.int .i64 x1)), (V.d (.int .i64 x2)), (V.d .nils)]] x3)]) := by
  exact w31 [.k true] (by kernel_rfl)

def ref08_Watch_Come_pi_Gi3n_c0 (x4 : Int) : Bool := (bif tb (ref08_Right_i_r0_0 x4) then true else false)

def ref08_Watch_Come_pi_Gi3n_r0_0 (x0 : Int) (x1 : Int) (x4 : Int) : Int := (bif tb (decide (x4 < x0)) then 2 else (bif tb (decide (x1 < x4)) then 2 else 0))

theorem ref08_Watch_Come_pi_Gi3n_t0 (x0 : Int) (x1 : Int) (x2 : Int) (x4 : Int) : ref08_Watch_Come_pi_Gi3n_c0 x4 = true → cl E0 29 [(V.ptr 0 1 0 0), (V.d (.int .i64 x4))] [(Blk.gen 99 4 [[(V.d (.int .i64 x0)), (V.d (.int .i64 x1)), (V.d (.int .i64 x2)), (V.d .nils)]] false)] = some ([(V.d (.int .i64 (ref08_Watch_Come_pi_Gi3n_r0_0 x0 x1 x4))), (V.d (.int .i64 0))], [(Blk.gen 99 4 [[(V.d (.int .i64 x0)), (V.d (.int .i64 x1)), (V.d (.int .i64 x2)), (V.sl 1 1 0 1)]] false), (Blk.flat 3 1 [[(.int .i64 x4)]] false)]) := by
  unfold ref08_Watch_Come_pi_Gi3n_c0 ref08_Watch_Come_pi_Gi3n_r0_0
  cases h1 : tb (ref08_Right_i_r0_0 x4)
  · intro g0
    exact absurd g0 ft
  · cases h2 : tb (decide (x4 < x0))
    · cases h3 : tb (decide (x1 < x4))
      · intro g0
        exact w29 [.c (ref08_Right_i_t0 x4), .b (notT (tbE h1)), .b (tbE h2), .b (tbE h3), .k false] (by kernel_rfl)
      · intro g0
        exact w29 [.c (ref08_Right_i_t0 x4), .b (notT (tbE h1)), .b (tbE h2), .b (tbE h3), .k false] (by kernel_rfl)
    · intro g0
      exact w29 [.c (ref08_Right_i_t0 x4), .b (notT (tbE h1)), .b (tbE h2), .k false] (by kernel_rfl)

theorem ref08_Watch_Come_pi_Gi3n_t1 (x0 : Int) (x1 : Int) (x2 : Int) (x4 : Int) : ref08_Watch_Come_pi_Gi3n_c0 x4 = false → cl E0 29 [(V.ptr 0 1 0 0), (V.d (.int .i64 x4))] [(Blk.gen 99 4 [[(V.d (.int .i64 x0)), (V.d (.int .i64 x1)), (V.d (.int .i64 x2)), (V.d .nils)]] false)] = some ([(V.d (.int .i64 0)), (V.d (.int .i64 1))], [(Blk.gen 99 4 [[(V.d (.int .i64 x0)), (V.d (.int .i64 x1)), (V.d (.int .i64 x2)), (V.d .nils)]] false)]) := by
  unfold ref08_Watch_Come_pi_Gi3n_c0
  cases h1 : tb (ref08_Right_i_r0_0 x4)
  · intro g0
    exact w29 [.c (ref08_Right_i_t0 x4), .b (notF (tbE h1))] (by kernel_rfl)
  · cases h2 : tb (decide (x4 < x0))
    · cases h3 : tb (decide (x1 < x4))
      · intro g0
        exact absurd g0 tf
      · intro g0
        exact absurd g0 tf
    · intro g0
      exact absurd g0 tf

theorem ref08_Watch_Last_p_Gi3vFi_t0 (x0 : Int) (x1 : Int) (x2 : Int) (x3 : Int) (x4 : Bool) (x5 : Bool) : cl E0 31 [(V.ptr 0 1 0 0)] [(Blk.gen 99 4 [[(V.d (.int .i64 x1)), (V.d (.int .i64 x2)), (V.d (.int .i64 x3)), (V.sl 1 1 0 1)]] x4), (Blk.flat 3 1 [[(.int .i64 x0)]] x5)] = some ([(V.d (.int .i64 x0)), (V.d (.bool true))], [(Blk.gen 99 4 [[(V.d (.int .i64 x1)), (V.d (.int .i64 x2)), (V.d (.int .i64 x3)), (V.sl 1 1 0 1)]] x4), (Blk.flat 3 1 [[(.int .i64 x0)]] x5)]) := by
  exact w31 [.k false] (by kernel_rfl)

theorem ref08_Watch_Miss_p_Gi3vFi_t0 (x0 : Int) (x1 : Int) (x2 : Int) (x3 : Int) (x5 : Bool) : cl E0 27 [(V.ptr 0 1 0 0)] [(Blk.gen 99 4 [[(V.d (.int .i64 x1)), (V.d (.int .i64 x2)), (V.d (.int .i64 x3)), (V.sl 1 1 0 1)]] false), (Blk.flat 3 1 [[(.int .i64 x0)]] x5)] = some ([], [(Blk.gen 99 4 [[(V.d (.int .i64 x1)), (V.d (.int .i64 x2)), (V.d (.int .i64 x3)), (V.d .nils)]] false), (Blk.flat 3 1 [[(.int .i64 x0)]] x5)]) := by
  exact w27 [] (by kernel_rfl)

def ref08_Watch_Come_pi_Gi3vFi_c0 (x6 : Int) : Bool := (bif tb (ref08_Right_i_r0_0 x6) then true else false)

def ref08_Watch_Come_pi_Gi3vFi_r0_0 (x0 : Int) (x1 : Int) (x2 : Int) (x3 : Int) (x6 : Int) : Int := (bif tb (decide (x6 < x1)) then (bif tb (decide (x3 < (wi (x6 - x0)))) then 6 else (bif tb (decide (x3 < (wi (x0 - x6)))) then 6 else 2)) else (bif tb (decide (x2 < x6)) then (bif tb (decide (x3 < (wi (x6 - x0)))) then 6 else (bif tb (decide (x3 < (wi (x0 - x6)))) then 6 else 2)) else (bif tb (decide (x3 < (wi (x6 - x0)))) then 4 else (bif tb (decide (x3 < (wi (x0 - x6)))) then 4 else 0))))

theorem ref08_Watch_Come_pi_Gi3vFi_t0 (x0 : Int) (x1 : Int) (x2 : Int) (x3 : Int) (x5 : Bool) (x6 : Int) : ref08_Watch_Come_pi_Gi3vFi_c0 x6 = true → cl E0 29 [(V.ptr 0 1 0 0), (V.d (.int .i64 x6))] [(Blk.gen 99 4 [[(V.d (.int .i64 x1)), (V.d (.int .i64 x2)), (V.d (.int .i64 x3)), (V.sl 1 1 0 1)]] false), (Blk.flat 3 1 [[(.int .i64 x0)]] x5)] = some ([(V.d (.int .i64 (ref08_Watch_Come_pi_Gi3vFi_r0_0 x0 x1 x2 x3 x6))), (V.d (.int .i64 0))], [(Blk.gen 99 4 [[(V.d (.int .i64 x1)), (V.d (.int .i64 x2)), (V.d (.int .i64 x3)), (V.sl 2 1 0 1)]] false), (Blk.flat 3 1 [[(.int .i64 x0)]] x5), (Blk.flat 3 1 [[(.int .i64 x6)]] false)]) := by
  unfold ref08_Watch_Come_pi_Gi3vFi_c0 ref08_Watch_Come_pi_Gi3vFi_r0_0
  cases h1 : tb (ref08_Right_i_r0_0 x6)
  · intro g0
    exact absurd g0 ft
  · cases h2 : tb (decide (x6 < x1))
    · cases h3 : tb (decide (x2 < x6))
      · cases h4 : tb (decide (x3 < (wi (x6 - x0))))
        · cases h5 : tb (decide (x3 < (wi (x0 - x6))))
          · intro g0
            exact w29 [.c (ref08_Right_i_t0 x6), .b (notT (tbE h1)), .b (tbE h2), .b (tbE h3), .k true, .b (tbE h4), .b (tbE h5)] (by kernel_rfl)
          · intro g0
            exact w29 [.c (ref08_Right_i_t0 x6), .b (notT (tbE h1)), .b (tbE h2), .b (tbE h3), .k true, .b (tbE h4), .b (tbE h5)] (by kernel_rfl)
        · intro g0
          exact w29 [.c (ref08_Right_i_t0 x6), .b (notT (tbE h1)), .b (tbE h2), .b (tbE h3), .k true, .b (tbE h4)] (by kernel_rfl)
      · cases h4 : tb (decide (x3 < (wi (x6 - x0))))
        · cases h5 : tb (decide (x3 < (wi (x0 - x6))))
          · intro g0
            exact w29 [.c (ref08_Right_i_t0 x6), .b (notT (tbE h1)), .b (tbE h2), .b (tbE h3), .k true, .b (tbE h4), .b (tbE h5)] (by kernel_rfl)
          · intro g0
            exact w29 [.c (ref08_Right_i_t0 x6), .b (notT (tbE h1)), .b (tbE h2), .b (tbE h3), .k true, .b (tbE h4), .b (tbE h5)] (by kernel_rfl)
        · intro g0
          exact w29 [.c (ref08_Right_i_t0 x6), .b (notT (tbE h1)), .b (tbE h2), .b (tbE h3), .k true, .b (tbE h4)] (by kernel_rfl)
    · cases h3 : tb (decide (x3 < (wi (x6 - x0))))
      · cases h4 : tb (decide (x3 < (wi (x0 - x6))))
        · intro g0
          exact w29 [.c (ref08_Right_i_t0 x6), .b (notT (tbE h1)), .b (tbE h2), .k true, .b (tbE h3), .b (tbE h4)] (by kernel_rfl)
        · intro g0
          exact w29 [.c (ref08_Right_i_t0 x6), .b (notT (tbE h1)), .b (tbE h2), .k true, .b (tbE h3), .b (tbE h4)] (by kernel_rfl)
      · intro g0
        exact w29 [.c (ref08_Right_i_t0 x6), .b (notT (tbE h1)), .b (tbE h2), .k true, .b (tbE h3)] (by kernel_rfl)

theorem ref08_Watch_Come_pi_Gi3vFi_t1 (x0 : Int) (x1 : Int) (x2 : Int) (x3 : Int) (x5 : Bool) (x6 : Int) : ref08_Watch_Come_pi_Gi3vFi_c0 x6 = false → cl E0 29 [(V.ptr 0 1 0 0), (V.d (.int .i64 x6))] [(Blk.gen 99 4 [[(V.d (.int .i64 x1)), (V.d (.int .i64 x2)), (V.d (.int .i64 x3)), (V.sl 1 1 0 1)]] false), (Blk.flat 3 1 [[(.int .i64 x0)]] x5)] = some ([(V.d (.int .i64 0)), (V.d (.int .i64 1))], [(Blk.gen 99 4 [[(V.d (.int .i64 x1)), (V.d (.int .i64 x2)), (V.d (.int .i64 x3)), (V.sl 1 1 0 1)]] false), (Blk.flat 3 1 [[(.int .i64 x0)]] x5)]) := by
  unfold ref08_Watch_Come_pi_Gi3vFi_c0
  cases h1 : tb (ref08_Right_i_r0_0 x6)
  · intro g0
    exact w29 [.c (ref08_Right_i_t0 x6), .b (notF (tbE h1))] (by kernel_rfl)
  · cases h2 : tb (decide (x6 < x1))
    · cases h3 : tb (decide (x2 < x6))
      · cases h4 : tb (decide (x3 < (wi (x6 - x0))))
        · cases h5 : tb (decide (x3 < (wi (x0 - x6))))
          · intro g0
            exact absurd g0 tf
          · intro g0
            exact absurd g0 tf
        · intro g0
          exact absurd g0 tf
      · cases h4 : tb (decide (x3 < (wi (x6 - x0))))
        · cases h5 : tb (decide (x3 < (wi (x0 - x6))))
          · intro g0
            exact absurd g0 tf
          · intro g0
            exact absurd g0 tf
        · intro g0
          exact absurd g0 tf
    · cases h3 : tb (decide (x3 < (wi (x6 - x0))))
      · cases h4 : tb (decide (x3 < (wi (x0 - x6))))
        · intro g0
          exact absurd g0 tf
        · intro g0
          exact absurd g0 tf
      · intro g0
        exact absurd g0 tf

end Go.Proofs.Ytgalchmjpfmemaa.Den

namespace Go.Proofs.Ytgalchmjpfmemaa.Den
open Go Go.Proofs
set_option maxRecDepth 100000
set_option maxHeartbeats 4000000
set_option linter.unusedVariables false
set_option linter.unusedSimpArgs false

def ref11_May_ii_r0_0 (x0 : Int) (x1 : Int) : Bool := (bif tb (decide (0 ≤ x0)) then (bif tb (decide (x0 ≤ 2147483647)) then (bif tb (decide (0 ≤ x1)) then (decide (x1 ≤ 8)) else false) else false) else false)

theorem ref11_May_ii_t0 (x0 : Int) (x1 : Int) : cl E0 54 [(V.d (.int .i64 x0)), (V.d (.int .i64 x1))] [] = some ([(V.d (.bool (ref11_May_ii_r0_0 x0 x1)))], []) := by
  unfold ref11_May_ii_r0_0
  cases h1 : tb (decide (0 ≤ x0))
  · exact w54 [.b (tbE h1)] (by kernel_rfl)
  · cases h2 : tb (decide (x0 ≤ 2147483647))
    · exact w54 [.b (tbE h1), .b (tbE h2)] (by kernel_rfl)
    · cases h3 : tb (decide (0 ≤ x1))
      · exact w54 [.b (tbE h1), .b (tbE h2), .b (tbE h3)] (by kernel_rfl)
      · exact w54 [.b (tbE h1), .b (tbE h2), .b (tbE h3)] (by kernel_rfl)

def ref11_Learn_iiiii_e0 (x1 : Int) (x2 : Int) (x3 : Int) (x4 : Int) : Int := wi (x2 + (ref01_Shift_ii_r0_0 (wi ((wi (x3 - x4)) - x2)) x1))

def ref11_Learn_iiiii_c0 (x1 : Int) (x2 : Int) (x3 : Int) (x4 : Int) : Bool := (bif tb (ref08_Right_i_r0_0 x3) then (bif tb (ref08_Right_i_r0_0 x4) then (bif tb (ref01_Shift_ii_c0 (wi ((wi (x3 - x4)) - x2)) x1) then true else false) else true) else true)

def ref11_Learn_iiiii_r0_0 (x0 : Int) (x1 : Int) (x2 : Int) (x3 : Int) (x4 : Int) : Int := (bif tb (ref08_Right_i_r0_0 x3) then (bif tb (ref08_Right_i_r0_0 x4) then (bif tb (decide (x0 < (ref11_Learn_iiiii_e0 x1 x2 x3 x4))) then x0 else (bif tb (decide ((ref11_Learn_iiiii_e0 x1 x2 x3 x4) < (wi (0 - x0)))) then (wi (0 - x0)) else (ref11_Learn_iiiii_e0 x1 x2 x3 x4))) else x2) else x2)

def ref11_Learn_iiiii_r0_1 (x3 : Int) (x4 : Int) : Int := (bif tb (ref08_Right_i_r0_0 x3) then (bif tb (ref08_Right_i_r0_0 x4) then 0 else 1) else 1)

theorem ref11_Learn_iiiii_t0 (x0 : Int) (x1 : Int) (x2 : Int) (x3 : Int) (x4 : Int) : ref11_Learn_iiiii_c0 x1 x2 x3 x4 = true → cl E0 56 [(V.d (.int .i64 x0)), (V.d (.int .i64 x1)), (V.d (.int .i64 x2)), (V.d (.int .i64 x3)), (V.d (.int .i64 x4))] [] = some ([(V.d (.int .i64 (ref11_Learn_iiiii_r0_0 x0 x1 x2 x3 x4))), (V.d (.int .i64 (ref11_Learn_iiiii_r0_1 x3 x4)))], []) := by
  unfold ref11_Learn_iiiii_c0 ref11_Learn_iiiii_r0_0 ref11_Learn_iiiii_r0_1
  cases h1 : tb (ref08_Right_i_r0_0 x3)
  · intro g0
    exact w56 [.c (ref08_Right_i_t0 x3), .c (ref08_Right_i_t0 x4), .b (notF (tbE h1))] (by kernel_rfl)
  · cases h2 : tb (ref08_Right_i_r0_0 x4)
    · intro g0
      exact w56 [.c (ref08_Right_i_t0 x3), .c (ref08_Right_i_t0 x4), .b (notT (tbE h1)), .b (notF (tbE h2))] (by kernel_rfl)
    · cases h3 : tb (ref01_Shift_ii_c0 (wi ((wi (x3 - x4)) - x2)) x1)
      · intro g0
        exact absurd g0 ft
      · cases h4 : tb (decide (x0 < (ref11_Learn_iiiii_e0 x1 x2 x3 x4)))
        · cases h5 : tb (decide ((ref11_Learn_iiiii_e0 x1 x2 x3 x4) < (wi (0 - x0))))
          · intro g0
            exact w56 [.c (ref08_Right_i_t0 x3), .c (ref08_Right_i_t0 x4), .b (notT (tbE h1)), .b (notT (tbE h2)), .c (ref01_Shift_ii_t0 (wi ((wi (x3 - x4)) - x2)) x1 (tbE h3)), .b (tbE h4), .b (tbE h5)] (by kernel_rfl)
          · intro g0
            exact w56 [.c (ref08_Right_i_t0 x3), .c (ref08_Right_i_t0 x4), .b (notT (tbE h1)), .b (notT (tbE h2)), .c (ref01_Shift_ii_t0 (wi ((wi (x3 - x4)) - x2)) x1 (tbE h3)), .b (tbE h4), .b (tbE h5)] (by kernel_rfl)
        · intro g0
          exact w56 [.c (ref08_Right_i_t0 x3), .c (ref08_Right_i_t0 x4), .b (notT (tbE h1)), .b (notT (tbE h2)), .c (ref01_Shift_ii_t0 (wi ((wi (x3 - x4)) - x2)) x1 (tbE h3)), .b (tbE h4)] (by kernel_rfl)

def ref11_Even_ii_r0_0 (x0 : Int) (x1 : Int) : Int := (bif tb (ref08_Right_i_r0_0 x1) then (wi (x1 - x0)) else 0)

def ref11_Even_ii_r0_1 (x1 : Int) : Int := (bif tb (ref08_Right_i_r0_0 x1) then 0 else 1)

theorem ref11_Even_ii_t0 (x0 : Int) (x1 : Int) : cl E0 58 [(V.d (.int .i64 x0)), (V.d (.int .i64 x1))] [] = some ([(V.d (.int .i64 (ref11_Even_ii_r0_0 x0 x1))), (V.d (.int .i64 (ref11_Even_ii_r0_1 x1)))], []) := by
  unfold ref11_Even_ii_r0_0 ref11_Even_ii_r0_1
  cases h1 : tb (ref08_Right_i_r0_0 x1)
  · exact w58 [.c (ref08_Right_i_t0 x1), .b (notF (tbE h1))] (by kernel_rfl)
  · exact w58 [.c (ref08_Right_i_t0 x1), .b (notT (tbE h1))] (by kernel_rfl)

end Go.Proofs.Ytgalchmjpfmemaa.Den

/- A type's data, opened cell by cell. -/
namespace Go.Proofs.Ytgalchmjpfmemaa.Den
open Go
set_option linter.unusedVariables false
set_option linter.unusedSimpArgs false

inductive CK where
  | b
  | i (k : IntKind)
  | s
  | l (e : TypeId)

def flatK (P : Program) : Nat → TypeId → Option (List CK)
  | 0, _ => none
  | n + 1, t => match P.underlying t with
    | some .bool => some [.b]
    | some (.int k) => some [.i k]
    | some .string => some [.s]
    | some (.slice e) => some [.l e]
    | some (.struct fs) => (fs.toList.mapM fun f => flatK P n f.type).map List.flatten
    | some (.array m e) => (flatK P n e).map fun l => (List.replicate m l).flatten
    | _ => none

def WfI (k : IntKind) (z : Int) : Prop := (Lit.int k z).wf = true

def CellK (P : Program) : CK → D → Prop
  | .b, d => ∃ b, d = .bool b
  | .i k, d => ∃ z, d = .int k z ∧ WfI k z
  | .s, d => ∃ s, d = .str s ∧ s.size ≤ maxLen
  | .l e, d => d = .nils ∨ ∃ rows, d = .rs (isFlat P e) (P.cellsOf e) rows false ∧ rows.length ≤ maxLen ∧ ∃ n, ∀ r, r ∈ rows → Ty P n e r

def CellsK (P : Program) : List CK → List D → Prop
  | [], ds => ds = []
  | k :: ks, ds => ∃ d r, ds = d :: r ∧ CellK P k d ∧ CellsK P ks r

theorem CellsK.append {P : Program} : ∀ {a b : List CK} {x y : List D}, CellsK P a x → CellsK P b y → CellsK P (a ++ b) (x ++ y)
  | [], _, _, _, h, h' => by simp only [CellsK] at h; subst h; simpa using h'
  | k :: a, b, x, y, h, h' => by
    simp only [CellsK] at h
    obtain ⟨d, r, rfl, h1, h2⟩ := h
    simp only [List.cons_append, CellsK]
    exact ⟨d, _, rfl, h1, CellsK.append h2 h'⟩

theorem flatK_fs {P : Program} {n : Nat} (ih : ∀ t ks ds, flatK P n t = some ks → Ty P n t ds → CellsK P ks ds) : ∀ (fs : List Field) (l : List (List CK)) (ds : List D), fs.mapM (fun f => flatK P n f.type) = some l → TyFs (Ty P n) fs ds → CellsK P l.flatten ds
  | [], l, ds, h, ht => by
    simp at h; subst h
    obtain rfl := tyfs_nil ht
    simp [CellsK]
  | f :: fs, l, ds, h, ht => by
    rw [List.mapM_cons] at h
    simp only [Option.bind_eq_bind, Option.bind_eq_some_iff, Option.pure_def, Option.some.injEq] at h
    obtain ⟨a, h1, b, h2, rfl⟩ := h
    obtain ⟨x, y, rfl, g1, g2⟩ := tyfs_cons ht
    simp only [List.flatten_cons]
    exact (ih _ _ _ h1 g1).append (flatK_fs ih fs b y h2 g2)

theorem flatK_ok {P : Program} : ∀ (n : Nat) (t : TypeId) (ks : List CK) (ds : List D), flatK P n t = some ks → Ty P n t ds → CellsK P ks ds
  | 0, _, _, _, h, _ => by simp [flatK] at h
  | n + 1, t, ks, ds, h, ht => by
    simp only [flatK] at h
    cases hu : P.underlying t with
    | none => simp [hu] at h
    | some u =>
      rw [hu] at h
      cases u with
      | bool => cases h; obtain ⟨b, rfl⟩ := ty_bool ht hu; exact ⟨_, [], rfl, ⟨b, rfl⟩, rfl⟩
      | int k => cases h; obtain ⟨z, rfl, hz⟩ := ty_int ht hu; exact ⟨_, [], rfl, ⟨z, rfl, hz⟩, rfl⟩
      | string => cases h; obtain ⟨z, rfl, hz⟩ := ty_str ht hu; exact ⟨_, [], rfl, ⟨z, rfl, hz⟩, rfl⟩
      | slice e =>
        cases h
        rcases ty_slice ht hu with rfl | ⟨rows, rfl, h1, h2⟩
        · exact ⟨_, [], rfl, .inl rfl, rfl⟩
        · exact ⟨_, [], rfl, .inr ⟨rows, rfl, h1, n, h2⟩, rfl⟩
      | struct fs =>
        obtain ⟨l, hl, rfl⟩ := Option.map_eq_some_iff.1 h
        exact flatK_fs (fun t ks ds => flatK_ok n t ks ds) fs.toList l ds hl (ty_struct ht hu)
      | array m e =>
        obtain ⟨l, hl, rfl⟩ := Option.map_eq_some_iff.1 h
        obtain ⟨rows, hr, rfl, hall⟩ := ty_arr ht hu
        have key : ∀ (rows : List (List D)), (∀ r, r ∈ rows → Ty P n e r) → CellsK P (List.replicate rows.length l).flatten rows.flatten := by
          intro rows
          induction rows with
          | nil => intro _; simp [CellsK]
          | cons r rows ih =>
            intro hall
            simp only [List.length_cons, List.replicate_succ, List.flatten_cons]
            exact (flatK_ok n e l r hl (hall r (by simp))).append (ih fun x hx => hall x (by simp [hx]))
        rw [← hr]; exact key rows hall
      | _ => simp at h

/-- The rows of a list, told by an encoding. -/
theorem rows_of {α : Type} {enc : α → List D} {wf : α → Prop} {T : List D → Prop} (h : ∀ r, T r → ∃ x, r = enc x ∧ wf x) : ∀ rows : List (List D), (∀ r, r ∈ rows → T r) → ∃ l : List α, rows = l.map enc ∧ ∀ x, x ∈ l → wf x
  | [], _ => ⟨[], rfl, fun _ h => by simp at h⟩
  | r :: rows, hr => by
    obtain ⟨x, rfl, hx⟩ := h r (hr r (by simp))
    obtain ⟨l, rfl, hl⟩ := rows_of h rows fun y hy => hr y (by simp [hy])
    refine ⟨x :: l, rfl, fun y hy => ?_⟩
    rcases List.mem_cons.1 hy with rfl | hy
    · exact hx
    · exact hl y hy

theorem ints_of {P : Program} {n : Nat} {e : TypeId} {k : IntKind} (hu : P.underlying e = some (.int k)) {rows : List (List D)} (h : ∀ r, r ∈ rows → Ty P n e r) : ∃ l : List Int, rows = l.map (encI k) ∧ ∀ z, z ∈ l → WfI k z :=
  rows_of (T := Ty P n e) (fun r hr => by
    cases n with
    | zero => simp [Ty] at hr
    | succ n => obtain ⟨z, rfl, hz⟩ := ty_int hr hu; exact ⟨z, rfl, hz⟩) rows h

theorem bools_of {P : Program} {n : Nat} {e : TypeId} (hu : P.underlying e = some .bool) {rows : List (List D)} (h : ∀ r, r ∈ rows → Ty P n e r) : ∃ l : List Bool, rows = l.map encB ∧ ∀ z, z ∈ l → True :=
  rows_of (T := Ty P n e) (fun r hr => by
    cases n with
    | zero => simp [Ty] at hr
    | succ n => obtain ⟨z, rfl⟩ := ty_bool hr hu; exact ⟨z, rfl, trivial⟩) rows h

theorem tyFs_mono {T T' : TypeId → List D → Prop} (h : ∀ t ds, T t ds → T' t ds) : ∀ (fs : List Field) (ds : List D), TyFs T fs ds → TyFs T' fs ds
  | [], ds, ht => ht
  | f :: fs, ds, ht => by
    obtain ⟨x, y, rfl, g1, g2⟩ := tyfs_cons ht
    simp only [TyFs]
    exact ⟨x, y, rfl, h _ _ g1, tyFs_mono h fs y g2⟩

theorem ty_mono {P : Program} : ∀ (n : Nat) (t : TypeId) (ds : List D), Ty P n t ds → Ty P (n + 1) t ds
  | 0, _, _, h => by simp [Ty] at h
  | n + 1, t, ds, h => by
    rw [Ty] at h ⊢
    cases hu : P.underlying t with
    | none => simp [hu] at h
    | some u =>
      rw [hu] at h
      cases u with
      | slice e =>
        rcases h with rfl | ⟨rows, rfl, h1, h2⟩
        · exact .inl rfl
        · exact .inr ⟨rows, rfl, h1, fun r hr => ty_mono n _ _ (h2 r hr)⟩
      | struct fs => exact tyFs_mono (fun t ds => ty_mono n t ds) _ _ h
      | array m e =>
        obtain ⟨rows, h1, rfl, h2⟩ := h
        exact ⟨rows, h1, rfl, fun r hr => ty_mono n _ _ (h2 r hr)⟩
      | _ => exact h

theorem mapM_mono {α β : Type} {f g : α → Option β} (h : ∀ a b, f a = some b → g a = some b) : ∀ (l : List α) (r : List β), l.mapM f = some r → l.mapM g = some r
  | [], r, hr => by simpa using hr
  | a :: l, r, hr => by
    rw [List.mapM_cons] at hr ⊢
    simp only [Option.bind_eq_bind, Option.bind_eq_some_iff, Option.pure_def, Option.some.injEq] at hr ⊢
    obtain ⟨x, h1, y, h2, rfl⟩ := hr
    exact ⟨x, h a x h1, y, mapM_mono h l y h2, rfl⟩

theorem flatK_mono {P : Program} : ∀ (n : Nat) (t : TypeId) (ks : List CK), flatK P n t = some ks → flatK P (n + 1) t = some ks
  | 0, _, _, h => by simp [flatK] at h
  | n + 1, t, ks, h => by
    rw [flatK] at h ⊢
    cases hu : P.underlying t with
    | none => simp [hu] at h
    | some u =>
      rw [hu] at h
      cases u with
      | struct fs =>
        obtain ⟨l, hl, rfl⟩ := Option.map_eq_some_iff.1 h
        simp only [mapM_mono (fun f b hb => flatK_mono n _ _ hb) _ _ hl, Option.map_some]
      | array m e =>
        obtain ⟨l, hl, rfl⟩ := Option.map_eq_some_iff.1 h
        simp only [flatK_mono n _ _ hl, Option.map_some]
      | _ => exact h

/-- The cells of an element's type, at any depth. -/
theorem flatK_any {P : Program} {k : Nat} {t : TypeId} {ks : List CK} {ds : List D} (h : flatK P k t = some ks) {n : Nat} (ht : Ty P n t ds) : CellsK P ks ds := by
  have h1 : ∀ j, flatK P (k + j) t = some ks := fun j => by
    induction j with
    | zero => exact h
    | succ j ih => exact flatK_mono _ _ _ ih
  have h2 : ∀ j, Ty P (n + j) t ds := fun j => by
    induction j with
    | zero => exact ht
    | succ j ih => exact ty_mono _ _ _ ih
  refine flatK_ok (k + n) t ks ds (h1 n) ?_
  rw [Nat.add_comm]; exact h2 k

theorem wfI_i64 {z : Int} (h : WfI .i64 z) : -9223372036854775808 ≤ z ∧ z ≤ 9223372036854775807 := by
  simp [WfI, Lit.wf, IntKind.min, IntKind.max, IntKind.signed, IntKind.bits] at h
  omega
end Go.Proofs.Ytgalchmjpfmemaa.Den

/- Plain laws on the words of the printed texts. -/
namespace Go.Proofs.Ytgalchmjpfmemaa.Den
open Go
set_option linter.unusedVariables false
set_option linter.unusedSimpArgs false

@[simp] theorem tb_eq (b : Bool) : tb b = b := rfl

theorem wrap64 {x : Int} (h1 : -9223372036854775808 ≤ x) (h2 : x ≤ 9223372036854775807) : IntKind.i64.wrap x = x := by
  unfold IntKind.wrap
  simp [IntKind.bits, IntKind.signed]
  omega

theorem wi_eq {x : Int} (h1 : -9223372036854775808 ≤ x) (h2 : x ≤ 9223372036854775807) : wi x = x := wrap64 h1 h2

theorem wfI_i32 {z : Int} (h : WfI .i32 z) : -2147483648 ≤ z ∧ z ≤ 2147483647 := by
  simp [WfI, Lit.wf, IntKind.min, IntKind.max, IntKind.signed, IntKind.bits] at h
  omega
theorem wfI_i16 {z : Int} (h : WfI .i16 z) : -32768 ≤ z ∧ z ≤ 32767 := by
  simp [WfI, Lit.wf, IntKind.min, IntKind.max, IntKind.signed, IntKind.bits] at h
  omega
theorem wfI_u8 {z : Int} (h : WfI .u8 z) : 0 ≤ z ∧ z ≤ 255 := by
  simp [WfI, Lit.wf, IntKind.min, IntKind.max, IntKind.signed, IntKind.bits] at h
  omega
theorem wfI_u16 {z : Int} (h : WfI .u16 z) : 0 ≤ z ∧ z ≤ 65535 := by
  simp [WfI, Lit.wf, IntKind.min, IntKind.max, IntKind.signed, IntKind.bits] at h
  omega
theorem wfI_u32 {z : Int} (h : WfI .u32 z) : 0 ≤ z ∧ z ≤ 4294967295 := by
  simp [WfI, Lit.wf, IntKind.min, IntKind.max, IntKind.signed, IntKind.bits] at h
  omega

theorem mxI_eq (a b : Int) : mxI a b = max a b := by unfold mxI; split <;> omega
theorem mnI_eq (a b : Int) : mnI a b = min a b := by unfold mnI; split <;> omega

theorem inb_iff {n : Nat} {i : Int} : inb n i = true ↔ 0 ≤ i ∧ i < n := by simp [inb]
theorem inb_of {n : Nat} {i : Int} (h1 : 0 ≤ i) (h2 : i < n) : inb n i = true := inb_iff.2 ⟨h1, h2⟩

theorem loop_inv {S : Type} {sel : S → Bool} {nx : S → S} (J : S → Prop) (μ : S → Nat) {s0 : S} (h0 : J s0) (hb : μ s0 < 1152921504606846976) (hn : ∀ s, J s → sel s = true → J (nx s) ∧ μ (nx s) < μ s) :
    ∃ s1, itS sel nx bound s0 = some s1 ∧ J s1 ∧ sel s1 = false := itS_inv J μ hn bound s0 h0 hb

/-- A loop told by a function of its states. -/
theorem loop_fun {S : Type} {sel : S → Bool} {nx : S → S} (J : S → Prop) (μ : S → Nat) (g : S → S) {s0 : S} (h0 : J s0) (hb : μ s0 < 1152921504606846976) (hs : ∀ s, J s → sel s = false → g s = s) (hn : ∀ s, J s → sel s = true → J (nx s) ∧ μ (nx s) < μ s ∧ g (nx s) = g s) :
    itS sel nx bound s0 = some (g s0) := itS_eq J μ g hs hn bound s0 h0 hb

theorem gt_mem {α : Type} [Inhabited α] {l : List α} {i : Int} (h1 : 0 ≤ i) (h2 : i < l.length) : gt l i ∈ l := by
  have h : i.toNat < l.length := by omega
  have : gt l i = l[i.toNat] := by simp [gt, List.getD, h]
  rw [this]; exact List.getElem_mem h

theorem gt_nat {α : Type} [Inhabited α] {l : List α} {k : Nat} (h : k < l.length) : gt l (k : Int) = l[k] := by simp [gt, List.getD, h]

theorem gt_getElem {α : Type} [Inhabited α] {l : List α} {i : Int} (h1 : 0 ≤ i) (h2 : i.toNat < l.length) : gt l i = l[i.toNat] := by simp [gt, List.getD, h2]

/-- A loop over a list by an index, that stops where a test fails. -/
theorem all_loop {S α : Type} [Inhabited α] {sel : S → Bool} {nx : S → S} {s0 : S} (l : List α) (ix : S → Int) (p : α → Bool) (J : S → Prop) (hl : l.length < 1152921504606846976) (h0 : ix s0 = 0) (hJ0 : J s0)
    (hnx : ∀ s, J s → 0 ≤ ix s → ix s < l.length → sel s = true → ix (nx s) = ix s + 1 ∧ J (nx s)) (hsel : ∀ s, J s → 0 ≤ ix s → ix s ≤ l.length → sel s = (decide (ix s < l.length) && p (gt l (ix s)))) :
    ∃ s1, itS sel nx bound s0 = some s1 ∧ J s1 ∧ 0 ≤ ix s1 ∧ ((ix s1 = l.length ∧ l.all p = true) ∨ (ix s1 < l.length ∧ p (gt l (ix s1)) = false ∧ l.all p = false)) := by
  obtain ⟨s1, e, ⟨hJ, a1, a2, a3⟩, hs⟩ := loop_inv (sel := sel) (nx := nx) (fun s => J s ∧ 0 ≤ ix s ∧ ix s ≤ l.length ∧ ∀ j : Nat, (j : Int) < ix s → p (gt l j) = true) (fun s => (l.length - ix s).toNat) (s0 := s0)
    ⟨hJ0, by omega, by omega, fun j hj => by omega⟩ (by omega) (fun s ⟨hJ, b1, b2, b3⟩ hs => by
      have h1 := hsel s hJ b1 b2
      rw [hs] at h1
      have h2 := (Bool.and_eq_true _ _).mp h1.symm
      have h3 : ix s < l.length := by simpa using h2.1
      obtain ⟨h4, h5⟩ := hnx s hJ b1 h3 hs
      refine ⟨⟨h5, by omega, by omega, fun j hj => ?_⟩, by omega⟩
      by_cases hjj : (j : Int) < ix s
      · exact b3 j hjj
      · have : (j : Int) = ix s := by omega
        rw [this]; exact h2.2)
  refine ⟨s1, e, hJ, a1, ?_⟩
  rcases Int.lt_or_eq_of_le a2 with h | h
  · have h1 := hsel s1 hJ a1 a2
    rw [hs] at h1
    have hp : p (gt l (ix s1)) = false := by simpa [h] using h1.symm
    refine .inr ⟨h, hp, ?_⟩
    rw [List.all_eq_false]
    exact ⟨_, gt_mem a1 h, by simp [hp]⟩
  · refine .inl ⟨h, ?_⟩
    rw [List.all_eq_true]
    intro x hx
    obtain ⟨j, hj, rfl⟩ := List.getElem_of_mem hx
    have := a3 j (by omega)
    rwa [gt_nat hj] at this

/-- A loop by an index that goes to its end. -/
theorem idx_loop {S : Type} {sel : S → Bool} {nx : S → S} {s0 : S} (n : Int) (ix : S → Int) (J : S → Prop) (hn : n < 1152921504606846976) (h0 : J s0) (h1 : 0 ≤ ix s0) (h2 : ix s0 ≤ n)
    (hr : ∀ s, J s → 0 ≤ ix s → ix s < n → sel s = true ∧ J (nx s) ∧ ix (nx s) = ix s + 1) (he : ∀ s, J s → ix s = n → sel s = false) : ∃ s1, itS sel nx bound s0 = some s1 ∧ J s1 ∧ ix s1 = n := by
  obtain ⟨s1, e, ⟨hJ, a1, a2⟩, hs⟩ := loop_inv (sel := sel) (nx := nx) (fun s => J s ∧ 0 ≤ ix s ∧ ix s ≤ n) (fun s => (n - ix s).toNat) (s0 := s0) ⟨h0, h1, h2⟩ (by omega) (fun s ⟨hJ, b1, b2⟩ hs => by
    by_cases h : ix s = n
    · rw [he s hJ h] at hs; cases hs
    · obtain ⟨_, g1, g2⟩ := hr s hJ b1 (by omega)
      exact ⟨⟨g1, by omega, by omega⟩, by omega⟩)
  refine ⟨s1, e, hJ, ?_⟩
  by_cases h : ix s1 = n
  · exact h
  · rw [(hr s1 hJ a1 (by omega)).1] at hs; cases hs

end Go.Proofs.Ytgalchmjpfmemaa.Den

/- The functions of layer 1 (fix), told plainly. -/
namespace Go.Proofs.Ytgalchmjpfmemaa.Den
open Go
set_option linter.unusedVariables false
set_option linter.unusedSimpArgs false

def sm (z : Int) : Bool := decide (-1099511627776 ≤ z) && decide (z ≤ 1099511627776)
theorem sm_iff {z : Int} : sm z = true ↔ -1099511627776 ≤ z ∧ z ≤ 1099511627776 := by simp [sm]

theorem small_eq (l : List Int) (hl : l.length < 1152921504606846976) : fix_small_o_c0 l = true ∧ fix_small_o_r0_0 l = l.all sm := by
  obtain ⟨s1, e, -, h0, h⟩ := all_loop (sel := fix_small_o_L0_sel l l.length) (nx := fix_small_o_L0_nx l l.length) (s0 := ⟨0⟩) l (fun s => s.c3) sm (fun _ => True) hl rfl trivial
    (fun s _ h1 h2 _ => ⟨by show wi _ = _; exact wi_eq (by omega) (by omega), trivial⟩)
    (fun s _ h1 h2 => by
      by_cases h : s.c3 < l.length
      · have hi := inb_of h1 h
        by_cases g1 : gt l s.c3 < -1099511627776
        · have : sm (gt l s.c3) = false := by simp [sm]; omega
          simp [fix_small_o_L0_sel, h, hi, g1, this]
        · by_cases g2 : 1099511627776 < gt l s.c3
          · have : sm (gt l s.c3) = false := by simp [sm]; omega
            simp [fix_small_o_L0_sel, h, hi, g1, g2, this]
          · have : sm (gt l s.c3) = true := by simp [sm]; omega
            simp [fix_small_o_L0_sel, h, hi, g1, g2, this]
      · simp [fix_small_o_L0_sel, h])
  have hok : fix_small_o_L0_ok l l.length ⟨0⟩ = true := by simp [fix_small_o_L0_ok, e]
  have hend : fix_small_o_e0 l = s1 := by simp [fix_small_o_e0, fix_small_o_L0_end, e]
  simp only [fix_small_o_c0, fix_small_o_r0_0, hok, hend, tb_eq, cond_true]
  rcases h with ⟨h1, h2⟩ | ⟨h1, h2, h3⟩
  · simp [fix_small_o_L0_c0, fix_small_o_L0_c1, h1, h2]
  · simp [fix_small_o_L0_c0, fix_small_o_L0_c1, h1, h3, inb_of h0 h1]

theorem small1 (a : Int) : fix_small_o_c0 [a] = true ∧ fix_small_o_r0_0 [a] = sm a := by simpa using small_eq [a] (by simp)
theorem small2 (a b : Int) : fix_small_o_c0 [a, b] = true ∧ fix_small_o_r0_0 [a, b] = (sm a && sm b) := by simpa using small_eq [a, b] (by simp)
theorem small3 (a b c : Int) : fix_small_o_c0 [a, b, c] = true ∧ fix_small_o_r0_0 [a, b, c] = (sm a && sm b && sm c) := by simpa [Bool.and_assoc] using small_eq [a, b, c] (by simp)

theorem Shift_c (a b : Int) : fix_Shift_ii_c0 a b = true := by
  simp only [fix_Shift_ii_c0, (small1 a).1, (small1 a).2, tb_eq, cond_true]
  cases sm a <;> simp
  omega

/-- Divided by a power of two, floored. -/
def shf (a b : Int) : Int := if sm a = true ∧ 0 ≤ b ∧ b ≤ 40 then a.fdiv (2 ^ b.toNat) else 0

theorem Shift_r (a b : Int) : fix_Shift_ii_r0_0 a b = shf a b := by
  simp only [fix_Shift_ii_r0_0, (small1 a).2, tb_eq, shf]
  cases h : sm a
  · simp
  · by_cases h1 : b < 0
    · simp [h1]; omega
    · by_cases h2 : 40 < b
      · simp [h1, h2]; omega
      · have h3 : min b.toNat 64 = b.toNat := by omega
        have h4 : 0 ≤ b ∧ b ≤ 40 := by omega
        simp [h1, h2, h4, shrI, IntKind.bits, h3]

theorem Apart_c (a b : Int) : fix_Apart_ii_c0 a b = true := by simp [fix_Apart_ii_c0, (small2 a b).1]

def apt (a b : Int) : Int := if sm a = true ∧ sm b = true then max (a - b) (b - a) else 0

theorem Apart_r (a b : Int) : fix_Apart_ii_r0_0 a b = apt a b := by
  simp only [fix_Apart_ii_r0_0, (small2 a b).2, tb_eq, apt]
  cases h1 : sm a <;> cases h2 : sm b <;> simp
  rw [sm_iff] at h1 h2
  rw [mxI_eq, wi_eq (by omega) (by omega), wi_eq (by omega) (by omega)]

theorem Clamp_c (a b c : Int) : fix_Clamp_iii_c0 a b c = true := by simp [fix_Clamp_iii_c0, (small3 a b c).1]
theorem Clamp_r (a b c : Int) : fix_Clamp_iii_r0_0 a b c = if sm a = true ∧ sm b = true ∧ sm c = true then max b (min a c) else 0 := by
  simp only [fix_Clamp_iii_r0_0, (small3 a b c).2, tb_eq, mxI_eq, mnI_eq]
  cases sm a <;> cases sm b <;> cases sm c <;> simp

end Go.Proofs.Ytgalchmjpfmemaa.Den

/- The reference's functions of layer 1, told plainly. -/
namespace Go.Proofs.Ytgalchmjpfmemaa.Den
open Go
set_option linter.unusedVariables false
set_option linter.unusedSimpArgs false

theorem Small_r (z : Int) : ref01_Small_i_r0_0 z = sm z := by
  simp only [ref01_Small_i_r0_0, tb_eq, sm]; cases decide (-1099511627776 ≤ z) <;> rfl

theorem All_eq (l : List Int) (hl : l.length < 1152921504606846976) : ref01_All_o_c0 l = true ∧ ref01_All_o_r0_0 l = l.all sm := by
  obtain ⟨s1, e, -, h0, h⟩ := all_loop (sel := ref01_All_o_L0_sel l) (nx := ref01_All_o_L0_nx l) (s0 := ⟨0⟩) l (fun s => s.c2) sm (fun _ => True) hl rfl trivial
    (fun s _ h1 h2 _ => ⟨by show wi _ = _; exact wi_eq (by omega) (by omega), trivial⟩)
    (fun s _ h1 h2 => by
      by_cases h : s.c2 < l.length
      · have hi := inb_of h1 h
        simp only [ref01_All_o_L0_sel, h, hi, Small_r, tb_eq, decide_true, cond_true, Bool.true_and]
        cases sm (gt l s.c2) <;> rfl
      · simp [ref01_All_o_L0_sel, h])
  have hok : ref01_All_o_L0_ok l ⟨0⟩ = true := by simp [ref01_All_o_L0_ok, e]
  have hend : ref01_All_o_L0_end l ⟨0⟩ = s1 := by simp [ref01_All_o_L0_end, e]
  simp only [ref01_All_o_c0, ref01_All_o_r0_0, hok, hend, tb_eq, cond_true]
  rcases h with ⟨h1, h2⟩ | ⟨h1, h2, h3⟩
  · simp [ref01_All_o_L0_c0, ref01_All_o_L0_c1, h1, h2]
  · simp [ref01_All_o_L0_c0, ref01_All_o_L0_c1, h1, h3, inb_of h0 h1]

theorem all1 (a : Int) : ref01_All_o_c0 [a] = true ∧ ref01_All_o_r0_0 [a] = sm a := by simpa using All_eq [a] (by simp)
theorem all2 (a b : Int) : ref01_All_o_c0 [a, b] = true ∧ ref01_All_o_r0_0 [a, b] = (sm a && sm b) := by simpa using All_eq [a, b] (by simp)
theorem all3 (a b c : Int) : ref01_All_o_c0 [a, b, c] = true ∧ ref01_All_o_r0_0 [a, b, c] = (sm a && sm b && sm c) := by simpa [Bool.and_assoc] using All_eq [a, b, c] (by simp)

/-- Divided, floored. -/
def flo (a b : Int) : Int := if sm a = true ∧ sm b = true ∧ 1 ≤ b then a.fdiv b else 0

theorem floor_neg {n p : Int} (hp : 1 ≤ p) (hn : n < 0) : n / p = -((p - 1 - n) / p) := by
  have hp0 : 0 < p := by omega
  obtain ⟨q, hq⟩ : ∃ q, (p - 1 - n) / p = q := ⟨_, rfl⟩
  have h1 : q * p ≤ p - 1 - n := by rw [← hq]; exact Int.ediv_mul_le _ (by omega)
  have h2 : p - 1 - n < (q + 1) * p := by rw [← hq]; exact Int.lt_ediv_add_one_mul_self _ hp0
  rw [hq]
  have e1 : (q + 1) * p = q * p + p := by rw [Int.add_mul, Int.one_mul]
  have e2 : (-q) * p = -(q * p) := Int.neg_mul _ _
  have e3 : (-q + 1) * p = -(q * p) + p := by rw [Int.add_mul, Int.one_mul, e2]
  apply Int.le_antisymm
  · have : n / p < -q + 1 := by rw [Int.ediv_lt_iff_lt_mul hp0, e3]; omega
    omega
  · rw [Int.le_ediv_iff_mul_le hp0, e2]; omega

theorem Floor_c (a b : Int) : ref01_Floor_ii_c0 a b = true := by
  simp only [ref01_Floor_ii_c0, (all2 a b).1, (all2 a b).2, tb_eq, cond_true]
  cases sm a && sm b
  · rfl
  · by_cases h : b < 1
    · simp [h]
    · have : ((b : Int) == 0) = false := by simp; omega
      simp [h, this]

theorem Floor_r (a b : Int) : ref01_Floor_ii_r0_0 a b = flo a b := by
  simp only [ref01_Floor_ii_r0_0, (all2 a b).2, tb_eq, flo]
  cases h1 : sm a <;> cases h2 : sm b <;> simp
  rw [sm_iff] at h1 h2
  by_cases hb : b < 1
  · have : ¬ (1 ≤ b) := by omega
    simp [hb, this]
  · have hb1 : 1 ≤ b := by omega
    have hf : a.fdiv b = a / b := Int.fdiv_eq_ediv_of_nonneg _ (by omega)
    by_cases ha : 0 ≤ a
    · have e : quoI .i64 a b = a / b := by
        unfold quoI
        rw [Int.tdiv_eq_ediv_of_nonneg ha]
        have := Int.ediv_nonneg ha (show 0 ≤ b by omega)
        have := Int.ediv_le_self b ha
        exact wrap64 (by omega) (by omega)
      simp [hb, hb1, ha, hf, e]
    · have w1 : wi (b - 1) = b - 1 := wi_eq (by omega) (by omega)
      have w2 : wi (b - 1 - a) = b - 1 - a := wi_eq (by omega) (by omega)
      have n1 := Int.ediv_nonneg (show 0 ≤ b - 1 - a by omega) (show 0 ≤ b by omega)
      have n2 := Int.ediv_le_self b (show 0 ≤ b - 1 - a by omega)
      have e : quoI .i64 (b - 1 - a) b = (b - 1 - a) / b := by
        unfold quoI
        rw [Int.tdiv_eq_ediv_of_nonneg (show 0 ≤ b - 1 - a by omega)]
        exact wrap64 (by omega) (by omega)
      have w3 : wi (-((b - 1 - a) / b)) = -((b - 1 - a) / b) := wi_eq (by omega) (by omega)
      have fn := floor_neg (n := a) hb1 (by omega)
      simp [hb, hb1, ha, hf, w1, w2, e, w3, fn]

theorem pow_bound {i : Int} (h1 : 0 ≤ i) (h2 : i ≤ 40) : (2 : Int) ^ i.toNat ≤ 1099511627776 ∧ (1 : Int) ≤ 2 ^ i.toNat := by
  obtain ⟨k, hk⟩ : ∃ k : Nat, i.toNat = k := ⟨_, rfl⟩
  have hk40 : k ≤ 40 := by omega
  rw [hk]
  have e : (2 : Int) ^ k = ((2 ^ k : Nat) : Int) := by simp
  rw [e]
  have a1 : 2 ^ k ≤ 2 ^ 40 := Nat.pow_le_pow_right (by decide) hk40
  have a2 : 1 ≤ 2 ^ k := Nat.one_le_two_pow
  omega

theorem rShift_loop {b : Int} (h : 0 ≤ b ∧ b ≤ 40) : itS (ref01_Shift_ii_L0_sel b) (ref01_Shift_ii_L0_nx b) bound ⟨1, 0⟩ = some ⟨2 ^ b.toNat, b⟩ := by
  refine loop_fun (sel := ref01_Shift_ii_L0_sel b) (nx := ref01_Shift_ii_L0_nx b) (fun s => 0 ≤ s.c3 ∧ s.c3 ≤ b ∧ s.c2 = 2 ^ s.c3.toNat) (fun s => (b - s.c3).toNat) (fun _ => ⟨2 ^ b.toNat, b⟩) ⟨by decide, h.1, rfl⟩ (by simp only; omega) ?_ ?_
  · rintro ⟨p, i⟩ ⟨h1, h2, h3⟩ hs
    simp [ref01_Shift_ii_L0_sel] at hs h1 h2 h3
    have : i = b := by omega
    subst this; subst h3; rfl
  · rintro ⟨p, i⟩ ⟨h1, h2, h3⟩ hs
    simp [ref01_Shift_ii_L0_sel] at hs h1 h2 h3
    have h4 := pow_bound h1 (by omega)
    have w1 : wi (i + 1) = i + 1 := wi_eq (by omega) (by omega)
    have w2 : wi (2 * p) = 2 * p := wi_eq (by omega) (by omega)
    simp only [ref01_Shift_ii_L0_nx, w1, w2]
    refine ⟨⟨by omega, by omega, ?_⟩, by omega, trivial⟩
    rw [show (i + 1).toNat = i.toNat + 1 by omega, Int.pow_succ, h3]; omega

theorem rShift_c (a b : Int) : ref01_Shift_ii_c0 a b = true := by
  simp only [ref01_Shift_ii_c0, Small_r, Floor_c, tb_eq]
  cases sm a
  · rfl
  · by_cases h1 : b < 0
    · simp [h1]
    · by_cases h2 : 40 < b
      · simp [h1, h2]
      · have e := rShift_loop (b := b) (by omega)
        have : ref01_Shift_ii_L0_ok b ⟨1, 0⟩ = true := by simp [ref01_Shift_ii_L0_ok, e]
        simp [h1, h2, this]

theorem rShift_r (a b : Int) : ref01_Shift_ii_r0_0 a b = shf a b := by
  simp only [ref01_Shift_ii_r0_0, Small_r, tb_eq, shf, Floor_r]
  cases h : sm a
  · simp
  · by_cases h1 : b < 0
    · simp [h1]; omega
    · by_cases h2 : 40 < b
      · simp [h1, h2]; omega
      · have e := rShift_loop (b := b) (by omega)
        have e0 : ref01_Shift_ii_e0 b = 2 ^ b.toNat := by simp [ref01_Shift_ii_e0, ref01_Shift_ii_L0_end, e]
        have hp := pow_bound (i := b) (by omega) (by omega)
        have hsm : sm (2 ^ b.toNat) = true := sm_iff.2 (by omega)
        have h4 : 0 ≤ b ∧ b ≤ 40 := by omega
        simp [h1, h2, e0, flo, h, hsm, h4, hp.2]

end Go.Proofs.Ytgalchmjpfmemaa.Den

/- Levels, plainly. -/
namespace Go.Proofs.Ytgalchmjpfmemaa.Den
open Go
set_option linter.unusedVariables false
set_option linter.unusedSimpArgs false

def lev (g l d : Int) : Int := l + (d - l).fdiv (2 ^ g.toNat)

theorem fdiv_between (x : Int) (k : Nat) : (0 ≤ x → 0 ≤ x.fdiv (2 ^ k) ∧ x.fdiv (2 ^ k) ≤ x) ∧ (x ≤ 0 → x ≤ x.fdiv (2 ^ k) ∧ x.fdiv (2 ^ k) ≤ 0) := by
  have hp : (0 : Int) < 2 ^ k := Int.pow_pos (by decide)
  have e : x.fdiv (2 ^ k) = x / 2 ^ k := Int.fdiv_eq_ediv_of_nonneg _ (Int.le_of_lt hp)
  rw [e]
  have h1 : (1 : Int) ≤ 2 ^ k := hp
  refine ⟨fun h => ⟨Int.ediv_nonneg h (Int.le_of_lt hp), Int.ediv_le_self _ h⟩, fun h => ⟨?_, ?_⟩⟩
  · rw [Int.le_ediv_iff_mul_le hp]
    have := Int.mul_le_mul_of_nonpos_left h h1
    omega
  · have := Int.ediv_le_ediv hp h
    simpa using this

theorem lev_between (g l d : Int) : min l d ≤ lev g l d ∧ lev g l d ≤ max l d := by
  unfold lev
  obtain ⟨h1, h2⟩ := fdiv_between (d - l) g.toNat
  rcases Int.le_total l d with h | h
  · have := h1 (by omega); omega
  · have := h2 (by omega); omega

/-- What falls by at least a part of itself, falls below its bound. -/
theorem falls {p q : Nat} (hp : 1 ≤ p) {u : Nat → Nat} {f : Nat → Nat} (hu : ∀ n, u (n + 1) = u n - f (u n)) (hf : ∀ x, q ≤ x → x ≤ 2 * p * f x) : ∀ (j X : Nat), X = 2 ^ j → ∀ n, u n < X → u (n + 2 * p * j) < q ∨ u (n + 2 * p * j) < 1
  | 0, X, hX, n, h => by right; subst hX; simpa using h
  | j + 1, X, hX, n, h => by
    have mono : ∀ m k, u (m + k) ≤ u m := by
      intro m k
      induction k with
      | zero => exact Nat.le_refl _
      | succ k ih => rw [show m + (k + 1) = m + k + 1 by omega, hu]; omega
    have hX2 : X = 2 * 2 ^ j := by rw [hX, Nat.pow_succ]; omega
    have key : ∀ m, m ≤ 2 * p → u (n + m) < q ∨ u (n + m) < 2 ^ j ∨ 4 * p * u (n + m) + m * X + 4 * p ≤ 4 * p * X := by
      intro m
      induction m with
      | zero =>
        intro _
        right; right
        have : 4 * p * (u n + 1) ≤ 4 * p * X := Nat.mul_le_mul_left _ h
        simp only [Nat.add_zero, Nat.zero_mul]
        rw [Nat.mul_add] at this
        omega
      | succ m ih =>
        intro hm
        rcases ih (by omega) with h1 | h1 | h1
        · left; exact Nat.lt_of_le_of_lt (mono (n + m) 1) h1
        · right; left; exact Nat.lt_of_le_of_lt (mono (n + m) 1) h1
        · by_cases hq : u (n + m) < q
          · left; exact Nat.lt_of_le_of_lt (mono (n + m) 1) hq
          · by_cases hh : u (n + m) < 2 ^ j
            · right; left; exact Nat.lt_of_le_of_lt (mono (n + m) 1) hh
            · right; right
              have hfx := hf (u (n + m)) (by omega)
              rw [show n + (m + 1) = n + m + 1 by omega, hu]
              generalize u (n + m) = y at *
              generalize f y = z at *
              have e1 : 4 * p * (y - z) = 4 * p * y - 4 * p * z := Nat.mul_sub _ _ _
              have e2 : X ≤ 4 * p * z := by
                have : 2 * (2 * p * z) = 4 * p * z := by rw [← Nat.mul_assoc, ← Nat.mul_assoc]
                omega
              rw [e1, Nat.add_mul, Nat.one_mul]
              by_cases hzy : 4 * p * z ≤ 4 * p * y
              · omega
              · have : 4 * p * y - 4 * p * z = 0 := by omega
                rw [this]
                have h3 : (m + 1) * X + 4 * p ≤ 4 * p * X := by
                  have h4 : (m + 1) * X ≤ 2 * p * X := Nat.mul_le_mul_right _ hm
                  have h5 : 4 * p * X = 2 * p * X + 2 * p * X := by rw [← Nat.add_mul]; congr 1; omega
                  have h6 : 4 * p ≤ 2 * p * X := by
                    have : 2 * p * 2 ≤ 2 * p * X := Nat.mul_le_mul_left _ (by have := Nat.one_le_two_pow (n := j); omega)
                    omega
                  omega
                rw [Nat.add_mul, Nat.one_mul] at h3
                omega
    have hend := key (2 * p) (Nat.le_refl _)
    have hstep : u (n + 2 * p) < q ∨ u (n + 2 * p) < 2 ^ j := by
      rcases hend with h1 | h1 | h1
      · exact .inl h1
      · exact .inr h1
      · right
        have h5 : 4 * p * X = 2 * p * X + 2 * p * X := by rw [← Nat.add_mul]; congr 1; omega
        have h6 : 4 * p * u (n + 2 * p) + 4 * p ≤ 2 * p * X := by omega
        rw [hX2] at h6
        have h7 : 2 * p * (2 * 2 ^ j) = 4 * p * 2 ^ j := by rw [← Nat.mul_assoc]; congr 1; omega
        rw [h7] at h6
        have h8 : 4 * p * (u (n + 2 * p) + 1) ≤ 4 * p * 2 ^ j := by rw [Nat.mul_add]; omega
        have := Nat.le_of_mul_le_mul_left h8 (by omega)
        omega
    rcases hstep with h1 | h1
    · left; exact Nat.lt_of_le_of_lt (by have := mono (n + 2 * p) (2 * p * j); rw [show n + 2 * p * (j + 1) = n + 2 * p + 2 * p * j by rw [Nat.mul_add]; omega]; exact this) h1
    · have := falls hp hu hf j (2 ^ j) rfl (n + 2 * p) h1
      rw [show n + 2 * p * (j + 1) = n + 2 * p + 2 * p * j by rw [Nat.mul_add]; omega]; exact this

/-- Levels, one after the other, at one difference. -/
def levs (g d : Int) : Nat → Int
  | 0 => 0
  | n + 1 => lev g (levs g d n) d

theorem levs_bounds (g d : Int) : ∀ n, min 0 d ≤ levs g d n ∧ levs g d n ≤ max 0 d
  | 0 => by simp only [levs]; omega
  | n + 1 => by
    have h1 := levs_bounds g d n
    have h2 := lev_between g (levs g d n) d
    simp only [levs]; omega

theorem levs_end (g d : Int) (hg : 0 ≤ g ∧ g ≤ 8) (hd : -32768 ≤ d ∧ d ≤ 32767) (n : Nat) (hn : n = 40 * 2 ^ g.toNat) : (0 < d → d - levs g d n < 2 ^ g.toNat) ∧ (d ≤ 0 → levs g d n = d) := by
  obtain ⟨p, hp⟩ : ∃ p : Nat, p = 2 ^ g.toNat := ⟨_, rfl⟩
  have hp1 : 1 ≤ p := by rw [hp]; exact Nat.one_le_two_pow
  have hpi : (2 : Int) ^ g.toNat = (p : Int) := by rw [hp]; simp
  have hle : ∀ (u : Nat → Nat) (f : Nat → Nat), (∀ n, u (n + 1) = u n - f (u n)) → ∀ m k, u (m + k) ≤ u m := by
    intro u f hu m k
    induction k with
    | zero => exact Nat.le_refl _
    | succ k ih => rw [show m + (k + 1) = m + k + 1 by omega, hu]; omega
  constructor
  · intro h
    -- the rest above the level
    have hu : ∀ n, ((d - levs g d (n + 1)).toNat) = (d - levs g d n).toNat - (d - levs g d n).toNat / p := by
      intro n
      have hb := levs_bounds g d n
      obtain ⟨x, hx⟩ : ∃ x : Nat, d - levs g d n = x := ⟨(d - levs g d n).toNat, by omega⟩
      simp only [levs, lev, hpi]
      rw [hx]
      have e : (x : Int).fdiv (p : Int) = ((x / p : Nat) : Int) := by rw [Int.fdiv_eq_ediv_of_nonneg _ (by omega)]; simp
      rw [e]
      have := Nat.div_le_self x p
      simp only [Int.toNat_natCast]
      omega
    have hf : ∀ x, p ≤ x → x ≤ 2 * p * (x / p) := by
      intro x hx
      have h1 := Nat.div_add_mod x p
      have h2 := Nat.mod_lt x (show 0 < p by omega)
      have h3 : 1 ≤ x / p := (Nat.le_div_iff_mul_le (by omega)).2 (by omega)
      have h4 : p * 1 ≤ p * (x / p) := Nat.mul_le_mul_left _ h3
      rw [Nat.mul_assoc]
      omega
    have := falls hp1 (q := p) (u := fun n => (d - levs g d n).toNat) (f := fun x => x / p) hu hf 16 (2 ^ 16) rfl 0 (by simp only [levs]; omega)
    have h2 := hle (fun n => (d - levs g d n).toNat) (fun x => x / p) hu (0 + 2 * p * 16) (8 * p)
    rw [hpi, hn, ← hp, show 40 * p = 0 + 2 * p * 16 + 8 * p by omega]
    omega
  · intro h
    have hu : ∀ n, ((levs g d (n + 1) - d).toNat) = (levs g d n - d).toNat - ((levs g d n - d).toNat + p - 1) / p := by
      intro n
      have hb := levs_bounds g d n
      obtain ⟨x, hx⟩ : ∃ x : Nat, levs g d n - d = x := ⟨(levs g d n - d).toNat, by omega⟩
      simp only [levs, lev, hpi]
      rw [hx, show d - levs g d n = -(x : Int) by omega]
      have e : (-(x : Int)).fdiv (p : Int) = -(((x + p - 1) / p : Nat) : Int) := by
        rw [Int.fdiv_eq_ediv_of_nonneg _ (by omega)]
        have h1 := Nat.div_add_mod (x + p - 1) p
        have h2 := Nat.mod_lt (x + p - 1) (show 0 < p by omega)
        generalize (x + p - 1) / p = a at *
        generalize (x + p - 1) % p = r at *
        have h3 : ((p * a : Nat) : Int) = (p : Int) * (a : Int) := by simp
        have e1 : -(x : Int) = (p - 1 - r : Int) + (p : Int) * (-(a : Int)) := by
          rw [Int.mul_neg, ← h3]; omega
        rw [e1, Int.add_mul_ediv_left _ _ (by omega)]
        have : ((p : Int) - 1 - r) / p = 0 := Int.ediv_eq_zero_of_lt (by omega) (by omega)
        rw [this]; omega
      rw [e]
      have : (x + p - 1) / p ≤ x := by
        rcases Nat.eq_zero_or_pos x with h0 | h0
        · subst h0
          have : (0 + p - 1) / p = 0 := Nat.div_eq_of_lt (by omega)
          omega
        · rw [Nat.div_le_iff_le_mul_add_pred (by omega)]
          have : p * 1 ≤ p * x := Nat.mul_le_mul_left _ h0
          have h2 : x * 1 ≤ x * p := Nat.mul_le_mul_left _ hp1
          rw [Nat.mul_comm p x]
          omega
      simp only [Int.toNat_natCast]
      omega
    have hf : ∀ x, 1 ≤ x → x ≤ 2 * p * ((x + p - 1) / p) := by
      intro x hx
      have h1 := Nat.div_add_mod (x + p - 1) p
      have h2 := Nat.mod_lt (x + p - 1) (show 0 < p by omega)
      rw [Nat.mul_assoc]
      omega
    have := falls hp1 (q := 1) (u := fun n => (levs g d n - d).toNat) (f := fun x => (x + p - 1) / p) hu hf 16 (2 ^ 16) rfl 0 (by simp only [levs]; omega)
    have h2 := hle (fun n => (levs g d n - d).toNat) (fun x => (x + p - 1) / p) hu (0 + 2 * p * 16) (8 * p)
    have hb := levs_bounds g d (0 + 2 * p * 16 + 8 * p)
    rw [hn, ← hp, show 40 * p = 0 + 2 * p * 16 + 8 * p by omega]
    omega



end Go.Proofs.Ytgalchmjpfmemaa.Den

/- The functions of layer 11 (equal), told plainly. -/
namespace Go.Proofs.Ytgalchmjpfmemaa.Den
open Go
set_option linter.unusedVariables false
set_option linter.unusedSimpArgs false

/-- Is a number one of 32 bits? -/
def n32 (n : Int) : Bool := decide (-2147483648 ≤ n) && decide (n ≤ 2147483647)
theorem n32_iff {n : Int} : n32 n = true ↔ -2147483648 ≤ n ∧ n ≤ 2147483647 := by simp [n32]

theorem wrong_r (n : Int) : equal_Trim_wrong_c1_i_r0_0 n = !n32 n := by
  simp only [equal_Trim_wrong_c1_i_r0_0, tb_eq, n32]
  by_cases h1 : n < -2147483648
  · have : ¬ (-2147483648 ≤ n) := by omega
    simp [h1, this]
  · have h2 : -2147483648 ≤ n := by omega
    by_cases h3 : 2147483647 < n
    · have : ¬ (n ≤ 2147483647) := by omega
      simp [h1, h2, h3, this]
    · have : n ≤ 2147483647 := by omega
      simp [h1, h2, h3, this]

theorem wr08 (n : Int) : ref08_Right_i_r0_0 n = n32 n := by
  simp only [ref08_Right_i_r0_0, tb_eq, n32]; cases decide (-2147483648 ≤ n) <;> rfl

/-- Where the first number lies that is too far. -/
theorem idx_eq (l : List Int) (hl : l.length < 1152921504606846976) : slices_IndexFunc_int_o_equal_Trim_wrong_c1_c0 l = true ∧ decide (0 ≤ slices_IndexFunc_int_o_equal_Trim_wrong_c1_r0_0 l) = !l.all n32 := by
  obtain ⟨s1, e, -, h0, h⟩ := all_loop (sel := slices_IndexFunc_int_o_equal_Trim_wrong_c1_L0_sel l l.length) (nx := slices_IndexFunc_int_o_equal_Trim_wrong_c1_L0_nx l l.length) (s0 := ⟨0⟩) l (fun s => s.c3) n32 (fun _ => True) hl rfl trivial
    (fun s _ h1 h2 _ => ⟨by show wi _ = _; exact wi_eq (by omega) (by omega), trivial⟩)
    (fun s _ h1 h2 => by
      by_cases h : s.c3 < l.length
      · have hi := inb_of h1 h
        simp only [slices_IndexFunc_int_o_equal_Trim_wrong_c1_L0_sel, h, hi, wrong_r, tb_eq, decide_true, cond_true, Bool.true_and]
        cases n32 (gt l s.c3) <;> rfl
      · simp [slices_IndexFunc_int_o_equal_Trim_wrong_c1_L0_sel, h])
  have hok : slices_IndexFunc_int_o_equal_Trim_wrong_c1_L0_ok l l.length ⟨0⟩ = true := by simp [slices_IndexFunc_int_o_equal_Trim_wrong_c1_L0_ok, e]
  have hend : slices_IndexFunc_int_o_equal_Trim_wrong_c1_e0 l = s1 := by simp [slices_IndexFunc_int_o_equal_Trim_wrong_c1_e0, slices_IndexFunc_int_o_equal_Trim_wrong_c1_L0_end, e]
  simp only [slices_IndexFunc_int_o_equal_Trim_wrong_c1_c0, slices_IndexFunc_int_o_equal_Trim_wrong_c1_r0_0, hok, hend, tb_eq, cond_true]
  rcases h with ⟨h1, h2⟩ | ⟨h1, h2, h3⟩
  · simp [slices_IndexFunc_int_o_equal_Trim_wrong_c1_L0_c0, slices_IndexFunc_int_o_equal_Trim_wrong_c1_L0_c1, h1, h2]
  · simp [slices_IndexFunc_int_o_equal_Trim_wrong_c1_L0_c0, slices_IndexFunc_int_o_equal_Trim_wrong_c1_L0_c1, h1, h3, inb_of h0 h1, h0]

theorem idx1 (a : Int) : slices_IndexFunc_int_o_equal_Trim_wrong_c1_c0 [a] = true ∧ decide (0 ≤ slices_IndexFunc_int_o_equal_Trim_wrong_c1_r0_0 [a]) = !n32 a := by simpa using idx_eq [a] (by simp)
theorem idx2 (a b : Int) : slices_IndexFunc_int_o_equal_Trim_wrong_c1_c0 [a, b] = true ∧ decide (0 ≤ slices_IndexFunc_int_o_equal_Trim_wrong_c1_r0_0 [a, b]) = !(n32 a && n32 b) := by simpa using idx_eq [a, b] (by simp)

theorem wrong_c (l : List Int) (hl : l.length < 1152921504606846976) : equal_Trim_wrong_po_Fi3_c0 l = true := by
  simp [equal_Trim_wrong_po_Fi3_c0, slices_ContainsFunc_int_o_equal_Trim_wrong_c1_c0, (idx_eq l hl).1]

def emay (a g : Int) : Bool := decide (0 ≤ a ∧ a ≤ 2147483647 ∧ 0 ≤ g ∧ g ≤ 8)

theorem eNew_c (a g : Int) : equal_New_ii_c0 a g = !emay a g := by
  simp only [equal_New_ii_c0, tb_eq, emay]
  by_cases h1 : a < 0
  · simp [h1] <;> omega
  · by_cases h2 : 2147483647 < a
    · simp [h1, h2] <;> omega
    · by_cases h3 : g < 0
      · simp [h1, h2, h3] <;> omega
      · by_cases h4 : 8 < g
        · simp [h1, h2, h3, h4] <;> omega
        · simp [h1, h2, h3, h4] <;> omega

theorem eMay (a g : Int) : ref11_May_ii_r0_0 a g = emay a g := by
  simp only [ref11_May_ii_r0_0, tb_eq, emay]
  by_cases h1 : 0 ≤ a <;> by_cases h2 : a ≤ 2147483647 <;> by_cases h3 : 0 ≤ g <;> simp [h1, h2, h3]

/-- The offset behind a value, and a vote. -/
def off (a g o n v : Int) : Int := max (-a) (min (o + (n - v - o).fdiv (2 ^ g.toNat)) a)

theorem off_facts {a g o n v : Int} (ha : 0 ≤ a ∧ a ≤ 2147483647) (hg : 0 ≤ g ∧ g ≤ 8) (ho : -a ≤ o ∧ o ≤ a) (hn : -2147483648 ≤ n ∧ n ≤ 2147483647) (hv : -2147483648 ≤ v ∧ v ≤ 2147483647) :
    wi (n - v) = n - v ∧ wi (n - v - o) = n - v - o ∧ shf (n - v - o) g = (n - v - o).fdiv (2 ^ g.toNat) ∧ wi (o + (n - v - o).fdiv (2 ^ g.toNat)) = o + (n - v - o).fdiv (2 ^ g.toNat) ∧
    (-1099511627776 ≤ o + (n - v - o).fdiv (2 ^ g.toNat) ∧ o + (n - v - o).fdiv (2 ^ g.toNat) ≤ 1099511627776) ∧ (-a ≤ off a g o n v ∧ off a g o n v ≤ a) := by
  have hb := fdiv_between (n - v - o) g.toNat
  have hs : sm (n - v - o) = true := sm_iff.2 (by omega)
  obtain ⟨q, hq⟩ : ∃ q, (n - v - o).fdiv (2 ^ g.toNat) = q := ⟨_, rfl⟩
  rw [hq] at hb
  have hr : -12000000000 ≤ q ∧ q ≤ 12000000000 := by omega
  refine ⟨wi_eq (by omega) (by omega), wi_eq (by omega) (by omega), ?_, ?_, ?_, ?_⟩
  · unfold shf; rw [if_pos ⟨hs, by omega, by omega⟩]
  · rw [hq]; exact wi_eq (by omega) (by omega)
  · rw [hq]; omega
  · unfold off; omega

/-- What 'Learn' comes to. -/
theorem Learn_ok {a g o n v : Int} (ha : 0 ≤ a ∧ a ≤ 2147483647) (hg : 0 ≤ g ∧ g ≤ 8) (ho : -a ≤ o ∧ o ≤ a) :
    equal_Trim_Learn_pii_Fi3_c0 a g o n v = true ∧ equal_Trim_Learn_pii_Fi3_r0_0 n v = (if n32 n = true ∧ n32 v = true then 0 else 1) ∧
    equal_Trim_Learn_pii_Fi3_r0_3 a g o n v = (if n32 n = true ∧ n32 v = true then off a g o n v else o) ∧
    ref11_Learn_iiiii_c0 g o n v = true ∧ ref11_Learn_iiiii_r0_1 n v = (if n32 n = true ∧ n32 v = true then 0 else 1) ∧
    ref11_Learn_iiiii_r0_0 a g o n v = (if n32 n = true ∧ n32 v = true then off a g o n v else o) := by
  obtain ⟨i1, i2⟩ := idx2 n v
  have wc := wrong_c [n, v] (by simp)
  have wa : wi (0 - a) = -a := by rw [wi_eq (by omega) (by omega)]; omega
  simp only [equal_Trim_Learn_pii_Fi3_c0, equal_Trim_Learn_pii_Fi3_r0_0, equal_Trim_Learn_pii_Fi3_r0_3, ref11_Learn_iiiii_c0, ref11_Learn_iiiii_r0_1, ref11_Learn_iiiii_r0_0, wc, i2, Shift_c, Clamp_c, rShift_c, wr08, wa, tb_eq]
  cases h1 : n32 n <;> cases h2 : n32 v <;> simp
  rw [n32_iff] at h1 h2
  obtain ⟨w1, w2, w3, w4, w5, w6⟩ := off_facts ha hg ho h1 h2
  have k1 : equal_Trim_Learn_pii_Fi3_e0 g o n v = o + (n - v - o).fdiv (2 ^ g.toNat) := by simp only [equal_Trim_Learn_pii_Fi3_e0, Shift_r, w1, w2, w3, w4]
  have k2 : ref11_Learn_iiiii_e0 g o n v = o + (n - v - o).fdiv (2 ^ g.toNat) := by simp only [ref11_Learn_iiiii_e0, rShift_r, w1, w2, w3, w4]
  rw [k1, k2, Clamp_r, if_pos ⟨sm_iff.2 w5, sm_iff.2 (by omega), sm_iff.2 (by omega)⟩]
  refine ⟨rfl, ?_⟩
  unfold off
  obtain ⟨m, hm⟩ : ∃ m, o + (n - v - o).fdiv (2 ^ g.toNat) = m := ⟨_, rfl⟩
  rw [hm]
  by_cases c1 : a < m
  · simp [c1]; omega
  · by_cases c2 : m < -a
    · simp [c1, c2]; omega
    · simp [c1, c2]; omega

theorem Even_ok (o n : Int) : equal_Trim_Even_pi_Fi3_c0 n = true ∧ equal_Trim_Even_pi_Fi3_r0_0 o n = (if n32 n = true then wi (n - o) else 0) ∧ equal_Trim_Even_pi_Fi3_r0_1 n = (if n32 n = true then 0 else 1) ∧
    ref11_Even_ii_r0_0 o n = (if n32 n = true then wi (n - o) else 0) ∧ ref11_Even_ii_r0_1 n = (if n32 n = true then 0 else 1) := by
  obtain ⟨i1, i2⟩ := idx1 n
  have wc := wrong_c [n] (by simp)
  simp only [equal_Trim_Even_pi_Fi3_c0, equal_Trim_Even_pi_Fi3_r0_0, equal_Trim_Even_pi_Fi3_r0_1, ref11_Even_ii_r0_0, ref11_Even_ii_r0_1, wc, i2, wr08, tb_eq]
  cases n32 n <;> simp

end Go.Proofs.Ytgalchmjpfmemaa.Den

namespace Go.Proofs.Ytgalchmjpfmemaa.Den
open Go Go.Proofs
set_option maxRecDepth 100000
set_option maxHeartbeats 4000000
set_option linter.unusedVariables false
set_option linter.unusedSimpArgs false

def drift_New_ii_c0 (x0 : Int) (x1 : Int) : Bool := (bif tb (decide (x0 < 0)) then true else (bif tb (decide (8 < x0)) then true else (bif tb (decide (x1 < 0)) then true else (bif tb (decide (2147483647 < x1)) then true else false))))

theorem drift_New_ii_t0 (x0 : Int) (x1 : Int) : drift_New_ii_c0 x0 x1 = true → cl E0 16 [(V.d (.int .i64 x0)), (V.d (.int .i64 x1))] [] = some ([(V.d .nilp), (V.d (.int .i64 1))], []) := by
  unfold drift_New_ii_c0
  cases h1 : tb (decide (x0 < 0))
  · cases h2 : tb (decide (8 < x0))
    · cases h3 : tb (decide (x1 < 0))
      · cases h4 : tb (decide (2147483647 < x1))
        · intro g0
          exact absurd g0 ft
        · intro g0
          exact w16 [.b (tbE h1), .b (tbE h2), .b (tbE h3), .b (tbE h4)] (by kernel_rfl)
      · intro g0
        exact w16 [.b (tbE h1), .b (tbE h2), .b (tbE h3)] (by kernel_rfl)
    · intro g0
      exact w16 [.b (tbE h1), .b (tbE h2)] (by kernel_rfl)
  · intro g0
    exact w16 [.b (tbE h1)] (by kernel_rfl)

theorem drift_New_ii_t1 (x0 : Int) (x1 : Int) : drift_New_ii_c0 x0 x1 = false → cl E0 16 [(V.d (.int .i64 x0)), (V.d (.int .i64 x1))] [] = some ([(V.ptr 0 1 0 0), (V.d (.int .i64 0))], [(Blk.flat 92 3 [[(.int .i64 x0), (.int .i64 x1), (.int .i64 0)]] false)]) := by
  unfold drift_New_ii_c0
  cases h1 : tb (decide (x0 < 0))
  · cases h2 : tb (decide (8 < x0))
    · cases h3 : tb (decide (x1 < 0))
      · cases h4 : tb (decide (2147483647 < x1))
        · intro g0
          exact w16 [.b (tbE h1), .b (tbE h2), .b (tbE h3), .b (tbE h4)] (by kernel_rfl)
        · intro g0
          exact absurd g0 tf
      · intro g0
        exact absurd g0 tf
    · intro g0
      exact absurd g0 tf
  · intro g0
    exact absurd g0 tf

theorem drift_Filter_Clear_p_Fi3_t0 (x0 : Int) (x1 : Int) (x2 : Int) : cl E0 18 [(V.ptr 0 1 0 0)] [(Blk.flat 92 3 [[(.int .i64 x0), (.int .i64 x1), (.int .i64 x2)]] false)] = some ([], [(Blk.flat 92 3 [[(.int .i64 x0), (.int .i64 x1), (.int .i64 0)]] false)]) := by
  exact w18 [.k true] (by kernel_rfl)

theorem drift_Filter_Level_p_Fi3_t0 (x0 : Int) (x1 : Int) (x2 : Int) (x3 : Bool) : cl E0 21 [(V.ptr 0 1 0 0)] [(Blk.flat 92 3 [[(.int .i64 x0), (.int .i64 x1), (.int .i64 x2)]] x3)] = some ([(V.d (.int .i64 x2))], [(Blk.flat 92 3 [[(.int .i64 x0), (.int .i64 x1), (.int .i64 x2)]] x3)]) := by
  exact w21 [.k false] (by kernel_rfl)

def drift_bounds_over_ai2i_c0 (x2 : Int) : Bool := (bif tb (fix_Apart_ii_c0 x2 0) then true else false)

theorem drift_bounds_over_ai2i_t0 (x0 : Int) (x1 : Int) (x2 : Int) : drift_bounds_over_ai2i_c0 x2 = true → cl E0 61 [(V.agg [(V.d (.int .i64 x0)), (V.d (.int .i64 x1))]), (V.d (.int .i64 x2))] [] = some ([(V.d (.bool (decide (x1 < (fix_Apart_ii_r0_0 x2 0)))))], []) := by
  unfold drift_bounds_over_ai2i_c0
  cases h1 : tb (fix_Apart_ii_c0 x2 0)
  · intro g0
    exact absurd g0 ft
  · intro g0
    exact w61 [.c (fix_Apart_ii_t0 x2 0 (tbE h1))] (by kernel_rfl)

def drift_Filter_Come_pi_Fi3_c0 (x0 : Int) (x2 : Int) (x4 : Int) : Bool := (bif tb (decide (x4 < (-4294967296))) then true else (bif tb (decide (4294967296 < x4)) then true else (bif tb (fix_Shift_ii_c0 (wi (x4 - x2)) x0) then (bif tb (drift_bounds_over_ai2i_c0 (wi (x2 + (fix_Shift_ii_r0_0 (wi (x4 - x2)) x0)))) then true else false) else false)))

def drift_Filter_Come_pi_Fi3_r0_0 (x0 : Int) (x1 : Int) (x2 : Int) (x4 : Int) : Bool := (bif tb (decide (x4 < (-4294967296))) then false else (bif tb (decide (4294967296 < x4)) then false else (decide (x1 < (fix_Apart_ii_r0_0 (wi (x2 + (fix_Shift_ii_r0_0 (wi (x4 - x2)) x0))) 0)))))

def drift_Filter_Come_pi_Fi3_r0_1 (x4 : Int) : Int := (bif tb (decide (x4 < (-4294967296))) then 1 else (bif tb (decide (4294967296 < x4)) then 1 else 0))

def drift_Filter_Come_pi_Fi3_r0_4 (x0 : Int) (x2 : Int) (x4 : Int) : Int := (bif tb (decide (x4 < (-4294967296))) then x2 else (bif tb (decide (4294967296 < x4)) then x2 else (wi (x2 + (fix_Shift_ii_r0_0 (wi (x4 - x2)) x0)))))

theorem drift_Filter_Come_pi_Fi3_t0 (x0 : Int) (x1 : Int) (x2 : Int) (x4 : Int) : drift_Filter_Come_pi_Fi3_c0 x0 x2 x4 = true → cl E0 19 [(V.ptr 0 1 0 0), (V.d (.int .i64 x4))] [(Blk.flat 92 3 [[(.int .i64 x0), (.int .i64 x1), (.int .i64 x2)]] false)] = some ([(V.d (.bool (drift_Filter_Come_pi_Fi3_r0_0 x0 x1 x2 x4))), (V.d (.int .i64 (drift_Filter_Come_pi_Fi3_r0_1 x4)))], [(Blk.flat 92 3 [[(.int .i64 x0), (.int .i64 x1), (.int .i64 (drift_Filter_Come_pi_Fi3_r0_4 x0 x2 x4))]] false)]) := by
  unfold drift_Filter_Come_pi_Fi3_c0 drift_Filter_Come_pi_Fi3_r0_0 drift_Filter_Come_pi_Fi3_r0_1 drift_Filter_Come_pi_Fi3_r0_4
  cases h1 : tb (decide (x4 < (-4294967296)))
  · cases h2 : tb (decide (4294967296 < x4))
    · cases h3 : tb (fix_Shift_ii_c0 (wi (x4 - x2)) x0)
      · intro g0
        exact absurd g0 ft
      · cases h4 : tb (drift_bounds_over_ai2i_c0 (wi (x2 + (fix_Shift_ii_r0_0 (wi (x4 - x2)) x0))))
        · intro g0
          exact absurd g0 ft
        · intro g0
          exact w19 [.k false, .b (tbE h1), .b (tbE h2), .c (fix_Shift_ii_t0 (wi (x4 - x2)) x0 (tbE h3)), .c (drift_bounds_over_ai2i_t0 x0 x1 (wi (x2 + (fix_Shift_ii_r0_0 (wi (x4 - x2)) x0))) (tbE h4))] (by kernel_rfl)
    · intro g0
      exact w19 [.k false, .b (tbE h1), .b (tbE h2)] (by kernel_rfl)
  · intro g0
    exact w19 [.k false, .b (tbE h1)] (by kernel_rfl)

theorem drift_Filter_Clear_n_t0  : cl E0 18 [(V.d .nilp)] [] = some ([], []) := by
  exact w18 [.k false] (by kernel_rfl)

theorem drift_Filter_Come_ni_t0 (x0 : Int) : cl E0 19 [(V.d .nilp), (V.d (.int .i64 x0))] [] = some ([(V.d (.bool false)), (V.d (.int .i64 1))], []) := by
  exact w19 [.k true] (by kernel_rfl)

theorem drift_Filter_Level_n_t0  : cl E0 21 [(V.d .nilp)] [] = some ([(V.d (.int .i64 0))], []) := by
  exact w21 [.k true] (by kernel_rfl)

end Go.Proofs.Ytgalchmjpfmemaa.Den

/- The functions of layer 10 (drift), told plainly. -/
namespace Go.Proofs.Ytgalchmjpfmemaa.Den
open Go
set_option linter.unusedVariables false
set_option linter.unusedSimpArgs false

theorem sm_of {z : Int} (h1 : -1099511627776 ≤ z) (h2 : z ≤ 1099511627776) : sm z = true := sm_iff.2 ⟨h1, h2⟩

theorem New_c (g b : Int) : drift_New_ii_c0 g b = !(decide (0 ≤ g ∧ g ≤ 8 ∧ 0 ≤ b ∧ b ≤ 2147483647)) := by
  simp only [drift_New_ii_c0, tb_eq, Bool.cond_decide]
  by_cases h1 : g < 0
  · simp [h1] <;> omega
  · by_cases h2 : 8 < g
    · simp [h1, h2] <;> omega
    · by_cases h3 : b < 0
      · simp [h1, h2, h3] <;> omega
      · by_cases h4 : 2147483647 < b
        · simp [h1, h2, h3, h4] <;> omega
        · simp [h1, h2, h3, h4] <;> omega

theorem shf_lev {g l d : Int} (hg : 0 ≤ g ∧ g ≤ 8) (hl : -4294967296 ≤ l ∧ l ≤ 4294967296) (hd : -4294967296 ≤ d ∧ d ≤ 4294967296) :
    wi (d - l) = d - l ∧ wi (l + shf (d - l) g) = lev g l d := by
  have hb := lev_between g l d
  have h1 : sm (d - l) = true := sm_of (by omega) (by omega)
  have h2 : shf (d - l) g = (d - l).fdiv (2 ^ g.toNat) := by unfold shf; rw [if_pos ⟨h1, by omega, by omega⟩]
  refine ⟨wi_eq (by omega) (by omega), ?_⟩
  rw [h2]
  unfold lev at hb ⊢
  exact wi_eq (by omega) (by omega)

theorem lev_less {g l d : Int} (h : d < l) : lev g l d < l := by
  unfold lev
  have hp : (0 : Int) < 2 ^ g.toNat := Int.pow_pos (by decide)
  have : (d - l).fdiv (2 ^ g.toNat) < 0 := by
    rw [Int.fdiv_eq_ediv_of_nonneg _ (Int.le_of_lt hp)]
    exact Int.ediv_neg_of_neg_of_pos (by omega) hp
  omega

theorem lev_same (g d : Int) : lev g d d = d := by unfold lev; simp

theorem lev_zero (l d : Int) : lev 0 l d = d := by unfold lev; simp; omega

theorem Come_ok {g l d : Int} (b : Int) (hg : 0 ≤ g ∧ g ≤ 8) (hl : -4294967296 ≤ l ∧ l ≤ 4294967296) (hd : -4294967296 ≤ d ∧ d ≤ 4294967296) :
    drift_Filter_Come_pi_Fi3_c0 g l d = true ∧ drift_Filter_Come_pi_Fi3_r0_1 d = 0 ∧ drift_Filter_Come_pi_Fi3_r0_4 g l d = lev g l d ∧
    drift_Filter_Come_pi_Fi3_r0_0 g b l d = decide (b < max (lev g l d) (-lev g l d)) ∧ (-4294967296 ≤ lev g l d ∧ lev g l d ≤ 4294967296) := by
  obtain ⟨w1, w2⟩ := shf_lev hg hl hd
  have hb := lev_between g l d
  have n1 : ¬ (d < -4294967296) := by omega
  have n2 : ¬ (4294967296 < d) := by omega
  have hlev : -4294967296 ≤ lev g l d ∧ lev g l d ≤ 4294967296 := by omega
  refine ⟨?_, ?_, ?_, ?_, hlev⟩
  · simp [drift_Filter_Come_pi_Fi3_c0, n1, n2, Shift_c, drift_bounds_over_ai2i_c0, Apart_c]
  · simp [drift_Filter_Come_pi_Fi3_r0_1, n1, n2]
  · simp only [drift_Filter_Come_pi_Fi3_r0_4, Shift_r, w1, w2]; simp [n1, n2]
  · simp only [drift_Filter_Come_pi_Fi3_r0_0, Shift_r, w1, w2, Apart_r]
    have h1 : sm (lev g l d) = true := sm_of (by omega) (by omega)
    have h2 : sm 0 = true := by decide
    simp [n1, n2, apt, h1, h2]

end Go.Proofs.Ytgalchmjpfmemaa.Den

/- EqualWithin, plainly. -/
namespace Go.Proofs.Ytgalchmjpfmemaa.Den
open Go
set_option maxHeartbeats 1000000
set_option linter.unusedVariables false
set_option linter.unusedSimpArgs false

theorem remI9 {x : Int} (h : WfI .u8 x) : remI .u8 x 9 = x % 9 ∧ wi (remI .u8 x 9) = x % 9 ∧ 0 ≤ x % 9 ∧ x % 9 ≤ 8 := by
  have := wfI_u8 h
  have e : remI .u8 x 9 = x % 9 := by unfold remI; exact Int.tmod_eq_emod_of_nonneg this.1
  refine ⟨e, ?_, by omega, by omega⟩
  rw [e, wi_eq (by omega) (by omega)]

theorem off_arith {a o d m z : Int} (ha : 0 ≤ a) (h1 : min o d ≤ m) (h2 : m ≤ max o d) (hz : z = max (-a) (min m a)) : (z < min o d → z = -a ∨ z = a) ∧ (max o d < z → z = -a ∨ z = a) := by omega
theorem off_zero {a d m z : Int} (hm : m = d) (hz : z = max (-a) (min m a)) : z = max (-a) (min a d) := by omega

theorem ew_loop {a x1 : Int} (ha : 0 ≤ a ∧ a ≤ 65535) (hx1 : WfI .u8 x1) {l : List R_i64_i64} (hl : l.length ≤ 200) :
    ∃ s, itS (law11_EqualWithin_L0_sel a (x1 % 9) x1 l a) (law11_EqualWithin_L0_nx a (x1 % 9) x1 l a) bound ⟨0, 0⟩ = some s ∧ (-a ≤ s.c7 ∧ s.c7 ≤ a) ∧ s.c4 = l.length := by
  obtain ⟨r1, r2, r3, r4⟩ := remI9 hx1
  obtain ⟨g, hg⟩ : ∃ g, x1 % 9 = g := ⟨_, rfl⟩
  rw [hg] at r1 r2 r3 r4 ⊢
  refine idx_loop (l.length : Int) (fun s : law11_EqualWithin_L0_s0 => s.c4) (fun s => -a ≤ s.c7 ∧ s.c7 ≤ a) (by omega) ⟨by simp only; omega, by simp only; omega⟩ (by decide) (by simp) ?_ ?_
  · rintro ⟨i, o⟩ ⟨a2, a3⟩ h1 h2
    simp only at a2 a3 h1 h2
    have w : wi (i + 1) = i + 1 := wi_eq (by omega) (by omega)
    obtain ⟨⟨n, v⟩, hx⟩ : ∃ x, gt l i = x := ⟨_, rfl⟩
    obtain ⟨k1, k2, k3, _, _, _⟩ := Learn_ok (n := n) (v := v) (a := a) (g := g) ⟨ha.1, by omega⟩ ⟨r3, r4⟩ ⟨a2, a3⟩
    have e0 : law11_EqualWithin_L0_h0_e0 a g l ⟨i, o⟩ = (if n32 n = true ∧ n32 v = true then off a g o n v else o) := by simp only [law11_EqualWithin_L0_h0_e0, hx]; exact k3
    by_cases hb : n32 n = true ∧ n32 v = true
    · rw [if_pos hb] at k2 k3 e0
      obtain ⟨b1, b2⟩ := hb
      have c1 := n32_iff.1 b1
      have c2 := n32_iff.1 b2
      obtain ⟨w1, w2, w3, w4, w5, w6⟩ := off_facts (a := a) (g := g) (o := o) (n := n) (v := v) ⟨ha.1, by omega⟩ ⟨r3, r4⟩ ⟨a2, a3⟩ c1 c2
      have hlev := lev_between g o (n - v)
      have hl0 : g = 0 → lev g o (n - v) = n - v := fun e => by subst e; exact lev_zero _ _
      have hoff : off a g o n v = max (-a) (min (lev g o (n - v)) a) := rfl
      obtain ⟨z, hz⟩ : ∃ z, off a g o n v = z := ⟨_, rfl⟩
      obtain ⟨m, hm⟩ : ∃ m, lev g o (n - v) = m := ⟨_, rfl⟩
      rw [hz] at k3 e0 w6 hoff
      rw [hm] at hlev hl0 hoff
      obtain ⟨m1, m2, m3, _, _⟩ := Even_ok z n
      rw [if_pos b1] at m2 m3
      have wa : wi (0 - a) = -a := by have := wi_eq (x := 0 - a) (by omega) (by omega); omega
      have wz : wi (n - z) = n - z := wi_eq (by omega) (by omega)
      have wp : wi (n + a) = n + a := wi_eq (by omega) (by omega)
      have wm : wi (n - a) = n - a := wi_eq (by omega) (by omega)
      have e1 : law11_EqualWithin_L0_h0_e1 a g l ⟨i, o⟩ = n - z := by simp only [law11_EqualWithin_L0_h0_e1, hx, e0]; exact wz
      have e2 : law11_EqualWithin_L0_h0_e2 l a ⟨i, o⟩ = max (-a) (min a (n - v)) := by simp only [law11_EqualWithin_L0_h0_e2, hx, wa, w1, mxI_eq, mnI_eq]
      refine ⟨?_, ?_, ?_⟩
      · simp only [law11_EqualWithin_L0_sel, e0, e1, e2, hx, h2, inb_of h1 h2, k1, k2, m1, m2, m3, r1, w1, wa, wz, wp, wm, mxI_eq, mnI_eq, tb_eq, decide_true, cond_true, bne_self_eq_false, cond_false]
        have n1 : ¬ (a < z) := by omega
        have n2 : ¬ (z < -a) := by omega
        have n3 : ¬ (n + a < n - z) := by omega
        have n4 : ¬ (n - z < n - a) := by omega
        simp only [n1, n2, n3, n4, decide_false, cond_false]
        obtain ⟨q1, q2⟩ := off_arith ha.1 hlev.1 hlev.2 hoff.symm.symm
        have q3 : g = 0 → z = max (-a) (min a (n - v)) := fun e => off_zero (hl0 e) hoff
        clear hlev hoff hl0 k1 k2 k3 e0 e1 e2 w1 w2 w3 w4 w5 m1 m2 m3 w6 hz hm hx
        have u1 : decide (z < min o (n - v)) = true → ((z != -a) = false ∨ (z != a) = false) := fun h => by simpa using q1 (of_decide_eq_true h)
        have u2 : decide (max o (n - v) < z) = true → ((z != -a) = false ∨ (z != a) = false) := fun h => by simpa using q2 (of_decide_eq_true h)
        have u3 : ((g : Int) == 0) = true → (z != max (-a) (min a (n - v))) = false := fun h => by simpa using q3 (by simpa using h)
        clear q1 q2 q3
        generalize decide (z < min o (n - v)) = B1 at *
        generalize decide (max o (n - v) < z) = B2 at *
        generalize (z != -a) = B3 at *
        generalize (z != a) = B4 at *
        generalize ((g : Int) == 0) = B5 at *
        generalize (z != max (-a) (min a (n - v))) = B6 at *
        clear n1 n2 n3 n4 wa wz wp wm c1 c2 a2 a3 h1 h2 w hl b1 b2 hg r1 r2 r3 r4 hx1 ha
        revert u1 u2 u3
        cases B1 <;> cases B2 <;> cases B3 <;> cases B4 <;> cases B5 <;> cases B6 <;> decide
      · simp only [law11_EqualWithin_L0_nx, hx, k2, e0, tb_eq, bne_self_eq_false, cond_false]
        exact w6
      · simp only [law11_EqualWithin_L0_nx, w]
    · rw [if_neg hb] at k2 k3
      have hne : ((1 : Int) != 0) = true := by decide
      refine ⟨?_, ?_, ?_⟩
      · simp only [law11_EqualWithin_L0_sel, hx, h2, inb_of h1 h2, k1, k2, hne, tb_eq, decide_true, cond_true]
      · simp only [law11_EqualWithin_L0_nx, hx, k2, k3, hne, tb_eq, cond_true]
        exact ⟨a2, a3⟩
      · simp only [law11_EqualWithin_L0_nx, w]
  · rintro ⟨i, o⟩ _ h
    simp only at h
    simp [law11_EqualWithin_L0_sel, h]

theorem pure_EqualWithin (x0 : Int) (x1 : Int) (x2 : Bool) (x3 : List R_i64_i64) (wx0 : WfI .u16 x0) (wx1 : WfI .u8 x1) (wx3 : (x3.length ≤ maxLen ∧ ∀ z ∈ x3, WfI .i64 z.c0 ∧ WfI .i64 z.c1 ∧ True)) : law11_EqualWithin_c0 x0 x1 x3 = true ∧ (law11_EqualWithin_r0_0 x0 x1 x3) = true := by
  have h0 := wfI_u16 wx0
  obtain ⟨r1, r2, r3, r4⟩ := remI9 wx1
  have w0 : wi x0 = x0 := wi_eq (by omega) (by omega)
  by_cases hl : 200 < (x3.length : Int)
  · simp [law11_EqualWithin_c0, law11_EqualWithin_r0_0, hl]
  · have hm : emay x0 (x1 % 9) = true := by simp [emay]; omega
    obtain ⟨s, e, _, hi⟩ := ew_loop (a := x0) h0 wx1 (l := x3) (by omega)
    have o : law11_EqualWithin_L0_ok x0 (x1 % 9) x1 x3 x0 ⟨0, 0⟩ = true := by simp [law11_EqualWithin_L0_ok, e]
    have e0 : law11_EqualWithin_e0 x0 x1 x3 = s := by simp [law11_EqualWithin_e0, law11_EqualWithin_L0_end, w0, r2, e]
    have c0 : law11_EqualWithin_L0_c0 x0 (x1 % 9) x3 s = false := by simp [law11_EqualWithin_L0_c0, hi]
    have c1 : law11_EqualWithin_L0_c1 x3 s = true := by simp [law11_EqualWithin_L0_c1, hi]
    simp only [law11_EqualWithin_c0, law11_EqualWithin_r0_0, hl, w0, r2, eNew_c, hm, o, e0, c0, c1, tb_eq, decide_false, cond_false, cond_true, Bool.not_true]
    exact ⟨trivial, trivial⟩

end Go.Proofs.Ytgalchmjpfmemaa.Den

/- What all rows of a seat rest on. -/
namespace Go.Proofs.Ytgalchmjpfmemaa.Den
open Go Go.Proofs
set_option maxRecDepth 100000

theorem own : ownKnob Try.prog.godebug = none := by kernel_rfl
theorem laidOut : laidOutB Try.prog = true := by kernel_rfl
theorem mixed : Try.prog.follows .mixedOrders = true := by kernel_rfl
theorem envOK : EnvOK Try.prog E0 := ⟨e0_cf, fun f args m r m' h => by simp [E0] at h⟩
theorem glOK (w : World) : GlOK E0 (cx0 w) := fun g cs h => by simp [E0] at h
end Go.Proofs.Ytgalchmjpfmemaa.Den

/- The row of EqualWithin. -/
namespace Go.Proofs.Ytgalchmjpfmemaa.Den
open Go Go.Proofs Go.ChangeShapes Go.WideShapes Go.ChangeAt Go.RowKit
open Go.Proofs.Ytgalchmjpfmemaa (Rows.equalWithinSpec Rows.equalWithinRow Rows.EqualWithinSaid)
set_option maxRecDepth 100000
set_option linter.unusedSimpArgs false
set_option linter.unusedVariables false

theorem row14 (rs : List (List D)) (h : TyAll Try.prog 20 Try.f14.params.toList rs) : ∃ k m', callD E0 k 14 (argsV Try.prog Try.f14.params.toList rs) [] = some ([.d (.bool true)], m') := by
  rw [Try.params14] at h ⊢
  simp only [TyAll] at h
  obtain ⟨_, _, rfl, q0, _, _, rfl, q1, _, _, rfl, q2, rfl⟩ := h
  have k0 := flatK_ok 20 _ _ _ (show flatK Try.prog 20 54 = some [.i .u16] by kernel_rfl) q0
  simp only [CellsK, CellK] at k0
  obtain ⟨_, _, rfl, ⟨a0_0, rfl, w0_0⟩, rfl⟩ := k0
  have k1 := flatK_ok 20 _ _ _ (show flatK Try.prog 20 5 = some [.i .u8] by kernel_rfl) q1
  simp only [CellsK, CellK] at k1
  obtain ⟨_, _, rfl, ⟨a1_0, rfl, w1_0⟩, rfl⟩ := k1
  have k2 := flatK_ok 20 _ _ _ (show flatK Try.prog 20 78 = some [.l 84] by kernel_rfl) q2
  simp only [CellsK, CellK] at k2
  obtain ⟨d2_0, _, rfl, y2_0, rfl⟩ := k2
  obtain ⟨n2_0, a2_0, rfl, v2_0⟩ : ∃ n l, d2_0 = slD enc_R_i64_i64 true 2 n l ∧ (l.length ≤ maxLen ∧ ∀ z ∈ l, WfI .i64 z.c0 ∧ WfI .i64 z.c1 ∧ True) := by
    rcases y2_0 with rfl | ⟨rows1, rfl, hl1, m1, hr1⟩
    · exact ⟨true, [], rfl, by simp [maxLen], fun z hz => by simp at hz⟩
    · obtain ⟨l2, rfl, hw2⟩ : ∃ l : List R_i64_i64, rows1 = l.map enc_R_i64_i64 ∧ ∀ z ∈ l, WfI .i64 z.c0 ∧ WfI .i64 z.c1 ∧ True := rows_of (T := Ty Try.prog m1 84) (fun r hr => by
          have q := flatK_any (show flatK Try.prog 20 84 = some [.i .i64, .i .i64] by kernel_rfl) hr
          simp only [CellsK, CellK] at q
          obtain ⟨_, _, rfl, ⟨b0, rfl, w0⟩, _, _, rfl, ⟨b1, rfl, w1⟩, rfl⟩ := q
          exact ⟨⟨b0, b1⟩, rfl, ⟨w0, w1, trivial⟩⟩) rows1 hr1
      rw [show isFlat Try.prog 84 = true by kernel_rfl, show Try.prog.cellsOf 84 = 2 by kernel_rfl]
      exact ⟨false, l2, slD_rs _ _ _ _, by simpa using hl1, hw2⟩
  simp only [argsV, argV, Try.underlying5, Try.underlying54, Try.underlying78, List.map_cons, List.map_nil]
  obtain ⟨g1, g2⟩ := pure_EqualWithin a0_0 a1_0 n2_0 a2_0 w0_0 w1_0 v2_0
  have hc := law11_EqualWithin_t0 a0_0 a1_0 n2_0 a2_0 g1
  rw [g2] at hc
  obtain ⟨k, hk⟩ := of_cl hc
  exact ⟨k, _, hk⟩

theorem equalWithin_lifted (os : Os) (started : os.Started) (H : Type) (enc : TypeId × Value → H) :
    ReturnsInHanded {} Try.checked os 14 .any (Rows.equalWithinSpec.pre6 enc Try.prog Try.f14 Rows.equalWithinRow.domain false) (Rows.equalWithinSpec.post enc Try.prog Try.f14 false true false false) :=
  law_lifted (C := Try.checked) (fn := Try.f14) mixed envOK glOK own started (by kernel_rfl) Try.func14 laidOut
    (ChangeSpec.witness6 (enc := enc) (C := Try.checked) false ⟨#[], #[.int .u16 0, .int .u8 0, .slice none 0 0], []⟩ 8 (by kernel_rfl) (by kernel_rfl) (by kernel_rfl) (by kernel_rfl))
    (by kernel_rfl) (rt := 4) rfl Try.underlying4 rfl
    (fun ds h => by
      match ds, h with
      | [_, _, _], _ => rfl)
    row14

theorem equalWithin_holds : Rows.EqualWithinSaid :=
  OpenClaim.holds_of_wide 14 Try.f14 rfl rfl rfl rfl rfl rfl rfl ⟨rfl, rfl, rfl, rfl, rfl⟩ rfl rfl rfl rfl rfl (by kernel_rfl) Try.func14 (by kernel_rfl)
    (of_decide_eq_true (by kernel_rfl)) (by unfold Func.isWrapper; first | (rw [if_pos (by decide +kernel)]; kernel_rfl) | (rw [if_neg (by decide +kernel)]; exact ⟨rfl, rfl⟩))
    (fun os started H enc _ => equalWithin_lifted os started H enc)

end Go.Proofs.Ytgalchmjpfmemaa.Den
