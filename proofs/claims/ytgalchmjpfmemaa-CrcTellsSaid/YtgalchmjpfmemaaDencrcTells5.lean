/- CrcTells: part 5 of what its proof rests on: an evaluator of the program's code, proved sound; plain functions printed from the code by a program of this session, with proofs; plain laws. No condition. -/
import Derived.Test.YtgalchmjpfmemaaDencrcTells4

/- Facts for walks: single instructions on lists and numbers that stand open; loops told by a step on plain states. -/
namespace Go.Proofs.Ytgalchmjpfmemaa.Den
open Go
set_option linter.unusedVariables false
set_option linter.unusedSimpArgs false

/-! ### words of the printed texts -/

abbrev wi (x : Int) : Int := IntKind.i64.wrap x

def encI (k : IntKind) (z : Int) : List D := [.int k z]
def encB (b : Bool) : List D := [.bool b]
def encS (s : ByteArray) : List D := [.str s]

/-- The element at a whole number. -/
def gt {α : Type} [Inhabited α] (l : List α) (i : Int) : α := l.getD i.toNat default
def st {α : Type} (l : List α) (i : Int) (x : α) : List α := l.set i.toNat x
/-- Is a whole number a place? -/
def inb (n : Nat) (i : Int) : Bool := decide (0 ≤ i) && decide (i < (n : Int))
def shrI (k : IntKind) (x y : Int) : Int := x.fdiv (2 ^ (min y.toNat k.bits))
def shlI (k : IntKind) (x y : Int) : Int := k.wrap (x * 2 ^ (min y.toNat k.bits))
def andI (k : IntKind) (x y : Int) : Int := k.wrap (BitVec.ofInt k.bits x &&& BitVec.ofInt k.bits y).toNat
def orI (k : IntKind) (x y : Int) : Int := k.wrap (BitVec.ofInt k.bits x ||| BitVec.ofInt k.bits y).toNat
def xorI (k : IntKind) (x y : Int) : Int := k.wrap (BitVec.ofInt k.bits x ^^^ BitVec.ofInt k.bits y).toNat
def andNotI (k : IntKind) (x y : Int) : Int := k.wrap (BitVec.ofInt k.bits x &&& ~~~BitVec.ofInt k.bits y).toNat
def quoI (k : IntKind) (x y : Int) : Int := k.wrap (x.tdiv y)
def remI (k : IntKind) (x y : Int) : Int := x.tmod y
def mxI (x y : Int) : Int := if y > x then y else x
def mnI (x y : Int) : Int := if y < x then y else x

/-- A slice by value, that is nil, or not. -/
def slD {α : Type} (enc : α → List D) (fl : Bool) (s : Nat) (n : Bool) (l : List α) : D :=
  match n, l with
  | true, [] => .nils
  | _, _ => .rs fl s (l.map enc) false

theorem slD_nil {α : Type} (enc : α → List D) (fl : Bool) (s : Nat) : D.nils = slD enc fl s true ([] : List α) := rfl
theorem slD_rs {α : Type} (enc : α → List D) (fl : Bool) (s : Nat) (l : List α) : D.rs fl s (l.map enc) false = slD enc fl s false l := by cases l <;> rfl

/-- A test (a word that keeps it from being taken for its like elsewhere). -/
def tb (b : Bool) : Bool := b

theorem tbE {b c : Bool} (h : tb b = c) : b = c := h

theorem notT {b : Bool} (h : b = true) : (!b) = false := by rw [h]; rfl
theorem notF {b : Bool} (h : b = false) : (!b) = true := by rw [h]; rfl
theorem tf : ¬ (true = false) := Bool.noConfusion
theorem ft : ¬ (false = true) := Bool.noConfusion

/-! ### loops on plain states -/

def itS {S : Type} (sel : S → Bool) (nx : S → S) : Nat → S → Option S
  | 0, _ => none
  | n + 1, s => match sel s with | true => itS sel nx n (nx s) | false => some s

theorem loop_it {S : Type} {g : List V × Mem → Option (X × (List V × Mem))} {enc : S → List V × Mem} {sel : S → Bool} {nx : S → S} (hn : ∀ s, sel s = true → g (enc s) = some (.normal, enc (nx s))) :
    ∀ (n : Nat) (s0 s1 : S) (x : X) (h : List V × Mem), itS sel nx n s0 = some s1 → x ≠ .normal → g (enc s1) = some (x, h) → loopG g n (enc s0) = some (x, h)
  | 0, s0, s1, x, h, hi, _, _ => by simp [itS] at hi
  | n + 1, s0, s1, x, h, hi, hx, hg => by
    simp only [itS] at hi
    simp only [loopG]
    split at hi
    · rename_i hs
      rw [hn s0 hs]
      exact loop_it hn n (nx s0) s1 x h hi hx hg
    · cases hi
      rw [hg]
      cases x with
      | normal => exact absurd rfl hx
      | exit i => rfl
      | ret => rfl

theorem itS_false {S : Type} {sel : S → Bool} {nx : S → S} : ∀ {n : Nat} {s0 s1 : S}, itS sel nx n s0 = some s1 → sel s1 = false
  | 0, _, _, h => by simp [itS] at h
  | n + 1, s0, s1, h => by
    simp only [itS] at h
    split at h
    · exact itS_false h
    · rename_i hs; cases h; exact hs

theorem itS_get {S : Type} {sel : S → Bool} {nx : S → S} {n : Nat} {s0 d : S} (h : (itS sel nx n s0).isSome = true) : itS sel nx n s0 = some ((itS sel nx n s0).getD d) := by
  cases hi : itS sel nx n s0 with
  | none => rw [hi] at h; cases h
  | some s => rfl

/-- What a loop comes to, by a measure. -/
theorem itS_eq {S : Type} {sel : S → Bool} {nx : S → S} (J : S → Prop) (μ : S → Nat) (g : S → S) (hs : ∀ s, J s → sel s = false → g s = s) (hn : ∀ s, J s → sel s = true → J (nx s) ∧ μ (nx s) < μ s ∧ g (nx s) = g s) :
    ∀ (n : Nat) (s : S), J s → μ s < n → itS sel nx n s = some (g s)
  | 0, s, _, h => by omega
  | n + 1, s, hJ, h => by
    simp only [itS]
    cases hc : sel s with
    | true =>
      obtain ⟨h1, h2, h3⟩ := hn s hJ hc
      simp only
      rw [itS_eq J μ g hs hn n (nx s) h1 (by omega), h3]
    | false => simp only; rw [hs s hJ hc]

/-- What holds where a loop ends. -/
theorem itS_inv {S : Type} {sel : S → Bool} {nx : S → S} (J : S → Prop) (μ : S → Nat) (hn : ∀ s, J s → sel s = true → J (nx s) ∧ μ (nx s) < μ s) :
    ∀ (n : Nat) (s : S), J s → μ s < n → ∃ s1, itS sel nx n s = some s1 ∧ J s1 ∧ sel s1 = false
  | 0, s, _, h => by omega
  | n + 1, s, hJ, h => by
    simp only [itS]
    cases hc : sel s with
    | true =>
      obtain ⟨h1, h2⟩ := hn s hJ hc
      exact itS_inv J μ hn n (nx s) h1 (by omega)
    | false => exact ⟨s, rfl, hJ, hc⟩

theorem itS_step {S : Type} {sel : S → Bool} {nx : S → S} {n : Nat} {s : S} (h : sel s = true) : itS sel nx (n + 1) s = itS sel nx n (nx s) := by simp only [itS, h]
theorem itS_stop {S : Type} {sel : S → Bool} {nx : S → S} {n : Nat} {s : S} (h : sel s = false) : itS sel nx (n + 1) s = some s := by simp only [itS, h]

/-! ### single instructions -/

section
variable {E : Env} {c : CallT} {t : Nat → V} {m : Mem}

theorem inb_spec {n : Nat} {i : Int} (h : inb n i = true) : 0 ≤ i ∧ i.toNat < n := by
  simp only [inb, Bool.and_eq_true, decide_eq_true_eq] at h
  omega

theorem asNat_inb {k : IntKind} {i : Int} (h : 0 ≤ i) : asNat (.d (.int k i)) = some i.toNat := by simp [asNat, h]

/-- Reading a slice by value at an open place. -/
theorem o_idx_rs {α : Type} [Inhabited α] {enc : α → List D} {l : List α} {fl tg : Bool} {s : Nat} {k : IntKind} {i : Int} (h : inb l.length i = true) :
    doI E c (.idxA s (.v (.d (.rs fl s (l.map enc) tg))) (.v (.d (.int k i)))) t m = some (.d (.rp (enc (gt l i))), m) := by
  obtain ⟨h1, h2⟩ := inb_spec h
  have hl : l[i.toNat]? = some l[i.toNat] := List.getElem?_eq_getElem h2
  simp [doI, ev, sizeOk, asNat_inb h1, idxSV, List.getElem?_map, hl, gt, List.getD]

theorem o_len_rs {α : Type} {enc : α → List D} {l : List α} {fl tg : Bool} {s : Nat} :
    doI E c (.len (.v (.d (.rs fl s (l.map enc) tg)))) t m = some (.d (.int .i64 ((l.length : Nat) : Int)), m) := by
  simp [doI, ev, lenV]

theorem o_len_os {α : Type} {enc : α → List D} {fl : Bool} {s : Nat} {n : Bool} {l : List α} :
    doI E c (.len (.v (.d (slD enc fl s n l)))) t m = some (.d (.int .i64 ((l.length : Nat) : Int)), m) := by
  cases n <;> cases l <;> simp [doI, ev, lenV, slD]

theorem o_idx_os {α : Type} [Inhabited α] {enc : α → List D} {l : List α} {fl n : Bool} {s : Nat} {k : IntKind} {i : Int} (h : inb l.length i = true) :
    doI E c (.idxA s (.v (.d (slD enc fl s n l))) (.v (.d (.int k i)))) t m = some (.d (.rp (enc (gt l i))), m) := by
  have key : slD enc fl s n l = .rs fl s (l.map enc) false := by
    cases n <;> cases l <;> first | rfl | (obtain ⟨_, h2⟩ := inb_spec h; simp at h2)
  rw [key]; exact o_idx_rs h

theorem o_nil_os {α : Type} {enc : α → List D} {l : List α} {fl n neg : Bool} {s : Nat} :
    doI E c (.beq .slc neg (.v (.d (slD enc fl s n l))) (.v (.d .nils))) t m = some (.d (.bool (neg != (n && l.isEmpty))), m) := by
  cases n <;> cases l <;> simp [doI, ev, eqV, isSlc, slD]

theorem o_shr {k k2 : IntKind} {x y : Int} (h : decide (0 ≤ y) = true) : doI E c (.bin .shr (.v (.d (.int k x))) (.v (.d (.int k2 y)))) t m = some (.d (.int k (shrI k x y)), m) := by
  have h1 : 0 ≤ y := of_decide_eq_true h
  have h2 : ¬ (y < 0) := by omega
  simp [doI, ev, binV, shiftInt, h2, shrI]

theorem o_shl {k k2 : IntKind} {x y : Int} (h : decide (0 ≤ y) = true) : doI E c (.bin .shl (.v (.d (.int k x))) (.v (.d (.int k2 y)))) t m = some (.d (.int k (shlI k x y)), m) := by
  have h1 : 0 ≤ y := of_decide_eq_true h
  have h2 : ¬ (y < 0) := by omega
  simp [doI, ev, binV, shiftInt, h2, shlI]

theorem o_quo {k : IntKind} {x y : Int} (h : ((y : Int) == 0) = false) : doI E c (.bin .quo (.v (.d (.int k x))) (.v (.d (.int k y)))) t m = some (.d (.int k (quoI k x y)), m) := by
  have h1 : ¬ (y = 0) := by simpa using h
  simp [doI, ev, binV, binInt, h1, quoI]

theorem o_rem {k : IntKind} {x y : Int} (h : ((y : Int) == 0) = false) : doI E c (.bin .rem (.v (.d (.int k x))) (.v (.d (.int k y)))) t m = some (.d (.int k (remI k x y)), m) := by
  have h1 : ¬ (y = 0) := by simpa using h
  simp [doI, ev, binV, binInt, h1, remI]
/-! ### parts of lists -/

/-- What stands for a bound that may be missing. -/
def opt (x : Option (IntKind × Int)) : Option O := x.map fun p => .v (.d (.int p.1 p.2))
def lo0 (x : Option (IntKind × Int)) : Int := match x with | some p => p.2 | none => 0
def hi0 (n : Nat) (x : Option (IntKind × Int)) : Int := match x with | some p => p.2 | none => (n : Int)
def ins (n : Nat) (lo hi : Int) : Bool := decide (0 ≤ lo) && decide (lo ≤ hi) && decide (hi ≤ (n : Int))
def sub {α : Type} (l : List α) (lo hi : Int) : List α := (l.drop lo.toNat).take (hi - lo).toNat

theorem ins_spec {n : Nat} {lo hi : Int} (h : ins n lo hi = true) : 0 ≤ lo ∧ lo ≤ hi ∧ hi ≤ n ∧ lo.toNat ≤ hi.toNat ∧ hi.toNat ≤ n ∧ hi.toNat - lo.toNat = (hi - lo).toNat := by
  simp only [ins, Bool.and_eq_true, decide_eq_true_eq] at h
  omega

theorem optNat_lo {x : Option (IntKind × Int)} (h : 0 ≤ lo0 x) : optNat E t (opt x) 0 = some (lo0 x).toNat := by
  cases x with
  | none => rfl
  | some p => simp only [lo0] at h ⊢; simp [optNat, opt, ev, asNat, h]

theorem optNat_hi {n : Nat} {x : Option (IntKind × Int)} (h : 0 ≤ hi0 n x) : optNat E t (opt x) n = some (hi0 n x).toNat := by
  cases x with
  | none => simp [optNat, opt, hi0]
  | some p => simp only [hi0] at h ⊢; simp [optNat, opt, ev, asNat, h]

theorem map_sub {α β : Type} (f : α → β) (l : List α) (lo hi : Int) : ((l.map f).drop lo.toNat).take (hi - lo).toNat = (sub l lo hi).map f := by
  unfold sub; rw [← List.map_drop, ← List.map_take]

theorem o_slice_rs {α : Type} {enc : α → List D} {l : List α} {fl tg : Bool} {s : Nat} (lo hi : Option (IntKind × Int)) (h : ins l.length (lo0 lo) (hi0 l.length hi) = true) :
    doI E c (.slice s (.v (.d (.rs fl s (l.map enc) tg))) (opt lo) (opt hi) none) t m = some (.d (.rs fl s ((sub l (lo0 lo) (hi0 l.length hi)).map enc) (tg && (hi0 l.length hi).toNat == l.length)), m) := by
  obtain ⟨h1, h2, h3, h4, h5, h6⟩ := ins_spec h
  have e1 : optNat E t (opt lo) 0 = some (lo0 lo).toNat := optNat_lo h1
  have e2 : optNat E t (opt hi) l.length = some (hi0 l.length hi).toNat := optNat_hi (by omega)
  simp [doI, ev, sizeOk, lenV, e1, e2, sliceV, h4, h5, h6, ← map_sub] <;> omega

theorem o_slice_os {α : Type} {enc : α → List D} {l : List α} {fl n : Bool} {s : Nat} (lo hi : Option (IntKind × Int)) (h : ins l.length (lo0 lo) (hi0 l.length hi) = true) :
    doI E c (.slice s (.v (.d (slD enc fl s n l))) (opt lo) (opt hi) none) t m = some (.d (slD enc fl s (n && l.isEmpty) (sub l (lo0 lo) (hi0 l.length hi))), m) := by
  have rs : ∀ (l : List α), ins l.length (lo0 lo) (hi0 l.length hi) = true → doI E c (.slice s (.v (.d (.rs fl s (l.map enc) false))) (opt lo) (opt hi) none) t m = some (.d (slD enc fl s false (sub l (lo0 lo) (hi0 l.length hi))), m) := fun l h => by
    rw [o_slice_rs lo hi h, Bool.false_and, slD_rs]
  cases n with
  | false => rw [← slD_rs]; exact rs l h
  | true =>
    cases l with
    | nil =>
      obtain ⟨h1, h2, h3, h4, h5, h6⟩ := ins_spec h
      have e1 : optNat E t (opt lo) 0 = some (lo0 lo).toNat := optNat_lo h1
      have e2 : optNat E t (opt hi) 0 = some (hi0 0 hi).toNat := optNat_hi (by simpa using (show 0 ≤ hi0 ([] : List α).length hi by omega))
      have z2 : (hi0 0 hi).toNat = 0 := by simpa using h5
      have z1 : (lo0 lo).toNat = 0 := by simp only [List.length_nil] at h4; omega
      simp [doI, ev, sizeOk, lenV, e1, e2, sliceV, z1, z2, sub, slD]
    | cons a l => exact rs (a :: l) h

theorem o_slice_mx {α : Type} {enc : α → List D} {l : List α} {fl n : Bool} {s : Nat} {kl kh kx : IntKind} {hi : Int} (h : ins l.length 0 hi = true) (hp : decide (0 < hi) = true) :
    doI E c (.slice s (.v (.d (slD enc fl s n l))) none (some (.v (.d (.int kh hi)))) (some (.v (.d (.int kx hi))))) t m = some (.d (.rs fl s ((sub l 0 hi).map enc) true), m) := by
  obtain ⟨h1, h2, h3, h4, h5, h6⟩ := ins_spec h
  have hp := of_decide_eq_true hp
  have key : slD enc fl s n l = .rs fl s (l.map enc) false := by
    cases n <;> cases l <;> first | rfl | (simp at h5; omega)
  have h7 : hi.toNat = (hi - 0).toNat := by omega
  have h8 : 0 ≤ hi := by omega
  rw [key]
  simp [doI, ev, sizeOk, lenV, optNat, asNat, h8, sliceV, h5, ← map_sub] <;> omega

theorem flatRowsOf_os {α : Type} {enc : α → List D} {l : List α} {n : Bool} {s : Nat} : flatRowsOf m (.d (slD enc true s n l)) = some (l.map enc) := by
  cases n <;> cases l <;> simp [flatRowsOf, slD]

theorem sizeOk_os {α : Type} {enc : α → List D} {l : List α} {n fl : Bool} {s : Nat} : sizeOk m s (.d (slD enc fl s n l)) = true := by
  cases n <;> cases l <;> simp [sizeOk, slD]

theorem beq_len {n k : Nat} (h : Nat.beq n k = true) : n = k := Nat.eq_of_beq_eq_true h
theorem st_len {α : Type} {l : List α} {i : Int} {x : α} {n : Nat} (h : Nat.beq n l.length = true) : Nat.beq n (st l i x).length = true := by
  rw [beq_len h]; simp [st]
theorem app_len {α : Type} {l k : List α} {n : Nat} (h : Nat.beq n l.length = true) : Nat.beq (n + k.length) (l ++ k).length = true := by
  rw [beq_len h]; simp

theorem flatRowsOf_sl {α : Type} {enc : α → List D} {l : List α} {id e s n : Nat} {p : Bool} (hn : Nat.beq n l.length = true) (hm : m[id]? = some (.flat e s (l.map enc) p)) : flatRowsOf m (.sl id n 0 n) = some (l.map enc) := by
  rw [beq_len hn]
  simp only [flatRowsOf, hm, Option.bind_some, List.length_map, Nat.zero_add, Nat.le_refl, and_self, if_true, List.drop_zero]
  rw [List.take_of_length_le (by simp)]

theorem byval_sl {α : Type} {enc : α → List D} {l : List α} {id e s n : Nat} {p : Bool} (hn : Nat.beq n l.length = true) (hm : m[id]? = some (.flat e s (l.map enc) p)) : V.byval m (.sl id n 0 n) = .d (.rs true s (l.map enc) false) := by
  rw [beq_len hn]
  simp only [V.byval, byvalS, hm, List.length_map, Nat.zero_add, Nat.le_refl, and_self, if_true, List.drop_zero]
  rw [List.take_of_length_le (by simp)]

theorem byvals_cons {v v1 : V} {l l1 : List V} (h : V.byval m v = v1) (h2 : V.byvals m l = l1) : V.byvals m (v :: l) = v1 :: l1 := by
  rw [V.byvals, h, h2]

theorem byval_agg {l l1 : List V} (h : V.byvals m l = l1) : V.byval m (.agg l) = .agg l1 := by rw [V.byval, h]

theorem set_self {α : Type} : ∀ {l : List α} {i : Nat} {x : α}, l[i]? = some x → l.set i x = l
  | [], _, _, h => by simp at h
  | a :: l, 0, x, h => by simp at h; simp [h]
  | a :: l, i + 1, x, h => by simp at h; simp [set_self h]

/-- Rows appended to a list of our own. -/
theorem o_app {α : Type} {enc : α → List D} {l0 l1 : List α} {id e s bytes n : Nat} {x : V} (hn : Nat.beq n l0.length = true) (hm : m[id]? = some (.flat e s (l0.map enc) false)) (hx : flatRowsOf m x = some (l1.map enc)) (hs : sizeOk m s x = true)
    (h : decide ((l0.length + l1.length) * bytes ≤ 140737488355328) = true) :
    doI E c (.append e true s bytes (.v (.sl id n 0 n)) (.v x)) t m = some (.sl id (n + l1.length) 0 (n + l1.length), m.set id (.flat e s ((l0 ++ l1).map enc) false)) := by
  rw [beq_len hn]
  have h := of_decide_eq_true h
  simp only [doI, ev, appendV, hs, hm, hx, Option.bind_some, List.length_map, true_and, if_true]
  rw [if_pos h]
  cases l1 with
  | nil => simp; exact (set_self hm).symm
  | cons a l1 => simp

theorem o_app0 {α : Type} {enc : α → List D} {l1 : List α} {id e s bytes : Nat} {x : V} (hm : m[id]? = some (.flat e s [] false)) (hx : flatRowsOf m x = some (l1.map enc)) (hs : sizeOk m s x = true)
    (h : decide (l1.length * bytes ≤ 140737488355328) = true) :
    doI E c (.append e true s bytes (.v (.sl id 0 0 0)) (.v x)) t m = some (.sl id l1.length 0 l1.length, m.set id (.flat e s (l1.map enc) false)) := by
  have := o_app (E := E) (c := c) (t := t) (m := m) (enc := enc) (l0 := []) (l1 := l1) (id := id) (e := e) (s := s) (bytes := bytes) (x := x) (n := 0) rfl hm hx hs (by simpa using h)
  simpa using this

theorem o_app_nil {α : Type} {enc : α → List D} {l1 : List α} {e s bytes : Nat} {x : V} (hx : flatRowsOf m x = some (l1.map enc)) (hs : sizeOk m s x = true) (he : l1.isEmpty = false)
    (h : decide (l1.length * bytes ≤ 140737488355328) = true) :
    doI E c (.append e true s bytes (.v (.d .nils)) (.v x)) t m = some (.sl m.length l1.length 0 l1.length, m ++ [.flat e s (l1.map enc) false]) := by
  have h := of_decide_eq_true h
  have he : ¬ (l1 = []) := by cases l1 <;> simp_all
  simp [doI, ev, appendV, hs, hx, h, he]

theorem o_app_none {α : Type} {enc : α → List D} {l1 : List α} {e s bytes : Nat} {x : V} (hx : flatRowsOf m x = some (l1.map enc)) (hs : sizeOk m s x = true) (he : l1.isEmpty = true) :
    doI E c (.append e true s bytes (.v (.d .nils)) (.v x)) t m = some (.d .nils, m) := by
  have he : l1 = [] := by cases l1 <;> simp_all
  subst he
  simp [doI, ev, appendV, hs, hx]

/-- Places of lists of our own. -/
theorem o_idx_sl {id n : Nat} {s : Nat} {k : IntKind} {i : Int} (hs : sizeOk m s (.sl id n 0 n) = true) (h : inb n i = true) :
    doI E c (.idxA s (.v (.sl id n 0 n)) (.v (.d (.int k i)))) t m = some (.ptr id n i.toNat 0, m) := by
  obtain ⟨h1, h2⟩ := inb_spec h
  simp [doI, ev, hs, asNat_inb h1, idxSV, h2]

theorem o_load_L {α : Type} [Inhabited α] {enc : α → List D} {l : List α} {id e s off size : Nat} {p agg : Bool} {i : Int} {v : V} {n : Nat} (hn : Nat.beq n l.length = true) (hm : m[id]? = some (.flat e s (l.map enc) p)) (h : inb n i = true)
    (hv : part agg ((enc (gt l i)).map V.d) off size = some v) : doI E c (.load agg size (.v (.ptr id n i.toNat off))) t m = some (v, m) := by
  rw [beq_len hn] at h ⊢
  obtain ⟨h1, h2⟩ := inb_spec h
  have hl : l[i.toNat]? = some l[i.toNat] := List.getElem?_eq_getElem h2
  have hg : gt l i = l[i.toNat] := by simp [gt, List.getD, hl]
  rw [hg] at hv
  simp [doI, ev, loadV, hm, Blk.row?, List.getElem?_map, hl, hv]

theorem o_store_L {α : Type} [Inhabited α] {enc : α → List D} {l : List α} {id e s size off : Nat} {i : Int} {v : V} {x : α} {ys : List D} {n : Nat} (hn : Nat.beq n l.length = true) (hm : m[id]? = some (.flat e s (l.map enc) false)) (h : inb n i = true)
    (hc : v.cells.length = size ∧ v.cellsOk = true) (hy : toSs v.cells = some ys) (hx : (if off + ys.length ≤ (enc (gt l i)).length then some ((enc (gt l i)).take off ++ ys ++ (enc (gt l i)).drop (off + ys.length)) else none) = some (enc x)) :
    doI E c (.store size (.v (.ptr id n i.toNat off)) (.v v)) t m = some (.tup [], m.set id (.flat e s ((st l i x).map enc) false)) := by
  rw [beq_len hn] at h ⊢
  obtain ⟨h1, h2⟩ := inb_spec h
  have hl : l[i.toNat]? = some l[i.toNat] := List.getElem?_eq_getElem h2
  have hg : gt l i = l[i.toNat] := by simp [gt, List.getD, hl]
  rw [hg] at hx
  have hset : ∀ ys : List D, ys.length = ys.length → True := fun _ _ => trivial
  by_cases hle : off + ys.length ≤ (enc l[i.toNat]).length
  · rw [if_pos hle] at hx
    have hx := Option.some.inj hx
    have hrow : setRow (l.map enc) i.toNat off ys = some ((st l i x).map enc) := by
      simp only [setRow, List.getElem?_map, hl, Option.map_some, hle, if_true, st, List.map_set]
      rw [← hx]
    simp [doI, ev, storeV, hc.1, hc.2, hm, Blk.put?, hy, hrow]
  · rw [if_neg hle] at hx; cases hx

theorem o_mksl {α : Type} {enc : α → List D} {z : α} {e bytes : Nat} {zero : List D} {k k2 : IntKind} {n : Int} (hz : zero = enc z) (hs : allSs [zero.map V.d] = some [zero]) (h : (decide (0 ≤ n) && decide (n * bytes ≤ 140737488355328)) = true) :
    doI E c (.mksl e true zero bytes (.v (.d (.int k n))) (.v (.d (.int k2 n)))) t m = some (.sl m.length (List.replicate n.toNat z).length 0 (List.replicate n.toNat z).length, m ++ [.flat e zero.length ((List.replicate n.toNat z).map enc) false]) := by
  subst hz
  simp only [Bool.and_eq_true, decide_eq_true_eq] at h
  have h0 : n.toNat * bytes ≤ 140737488355328 := by
    have e1 : ((n.toNat * bytes : Nat) : Int) = n * bytes := by rw [Int.natCast_mul, Int.toNat_of_nonneg h.1]
    omega
  have all : ∀ k : Nat, allSs (List.replicate k ((enc z).map V.d)) = some (List.replicate k (enc z)) := fun k => by
    induction k with
    | zero => rfl
    | succ k ih =>
      simp only [List.replicate_succ, allSs, ih]
      simp only [allSs] at hs
      cases ht : toSs (List.map V.d (enc z)) with
      | none => simp [ht] at hs
      | some y => simp [ht] at hs; simp [hs]
  simp [doI, ev, asNat, h.1, h0, mkBlk, all]
end

end Go.Proofs.Ytgalchmjpfmemaa.Den

namespace Go.Proofs.Ytgalchmjpfmemaa.Den
open Go Go.Proofs
set_option maxRecDepth 100000
set_option maxHeartbeats 4000000
set_option linter.unusedVariables false
set_option linter.unusedSimpArgs false

structure R_bool_i64 where
  c0 : Bool
  c1 : Int
  deriving Inhabited

def enc_R_bool_i64 (p : R_bool_i64) : List D := [(.bool p.c0), (.int .i64 p.c1)]

structure R_str_bool where
  c0 : ByteArray
  c1 : Bool
  deriving Inhabited

def enc_R_str_bool (p : R_str_bool) : List D := [(.str p.c0), (.bool p.c1)]

structure R_i64_i64 where
  c0 : Int
  c1 : Int
  deriving Inhabited

def enc_R_i64_i64 (p : R_i64_i64) : List D := [(.int .i64 p.c0), (.int .i64 p.c1)]

end Go.Proofs.Ytgalchmjpfmemaa.Den

namespace Go.Proofs.Ytgalchmjpfmemaa.Den
open Go Go.Proofs
set_option maxRecDepth 100000
set_option maxHeartbeats 4000000
set_option linter.unusedVariables false
set_option linter.unusedSimpArgs false

def slices_Clone_byte_o_c0 (x0 : Bool) (x1 : List Int) : Bool := (bif tb (false != (x0 && x1.isEmpty)) then true else false)

def slices_Clone_byte_o_c1 (x0 : Bool) (x1 : List Int) : Bool := (bif tb (false != (x0 && x1.isEmpty)) then false else (bif tb (decide (x1.length * 1 ≤ 140737488355328)) then true else false))

theorem slices_Clone_byte_o_t0 (x0 : Bool) (x1 : List Int) : slices_Clone_byte_o_c0 x0 x1 = true → cl E0 68 [(V.d (slD (encI .u8) true 1 x0 x1))] [] = some ([(V.d .nils)], []) := by
  unfold slices_Clone_byte_o_c0
  cases h1 : tb (false != (x0 && x1.isEmpty))
  · cases h2 : tb (decide (x1.length * 1 ≤ 140737488355328))
    · intro g0
      exact absurd g0 ft
    · intro g0
      exact absurd g0 ft
  · intro g0
    exact w68 [.o 4 (fun _ => o_nil_os (enc := (encI .u8)) (l := x1) (fl := true) (n := x0) (s := 1) (neg := false)), .b (tbE h1)] (by kernel_rfl)

theorem slices_Clone_byte_o_t1 (x0 : Bool) (x1 : List Int) : slices_Clone_byte_o_c0 x0 x1 = false → slices_Clone_byte_o_c1 x0 x1 = true → cl E0 68 [(V.d (slD (encI .u8) true 1 x0 x1))] [] = some ([(V.sl 0 x1.length 0 x1.length)], [(Blk.flat 5 1 (List.map (encI .u8) x1) false)]) := by
  unfold slices_Clone_byte_o_c0 slices_Clone_byte_o_c1
  cases h1 : tb (false != (x0 && x1.isEmpty))
  · cases h2 : tb (decide (x1.length * 1 ≤ 140737488355328))
    · intro g0 g1
      exact absurd g1 ft
    · intro g0 g1
      exact w68 [.o 4 (fun _ => o_nil_os (enc := (encI .u8)) (l := x1) (fl := true) (n := x0) (s := 1) (neg := false)), .b (tbE h1), .m 7 (o_app0 (m := [(Blk.flat 5 1 [] false)]) (enc := (encI .u8)) (l1 := x1) (id := 0) (e := 5) (s := 1) (bytes := 1) (x := (V.d (slD (encI .u8) true 1 x0 x1))) (by kernel_rfl) flatRowsOf_os sizeOk_os (tbE h2))] (by kernel_rfl)
  · intro g0 g1
    exact absurd g0 tf

structure slices_Equal_byte_oo_L0_s0 where
  c5 : Int
  deriving Inhabited

def slices_Equal_byte_oo_L0_enc (x0 : Bool) (x1 : List Int) (x2 : Bool) (x3 : List Int) (x4 : Int) (x5 : Int) (s0 : slices_Equal_byte_oo_L0_s0) : List V × Mem := ([(V.d (slD (encI .u8) true 1 x0 x1)), (V.d (slD (encI .u8) true 1 x2 x3)), (V.d (.int .i64 x4)), (V.d (.int .i64 s0.c5))], [])

def slices_Equal_byte_oo_L0_sel (x1 : List Int) (x3 : List Int) (x4 : Int) (s0 : slices_Equal_byte_oo_L0_s0) : Bool := (bif tb (decide (s0.c5 < x4)) then (bif tb (inb x1.length s0.c5) then (bif tb (inb x3.length s0.c5) then (bif tb (((gt x1 s0.c5) : Int) != (gt x3 s0.c5)) then false else true) else false) else false) else false)

def slices_Equal_byte_oo_L0_nx (x1 : List Int) (x3 : List Int) (x4 : Int) (s0 : slices_Equal_byte_oo_L0_s0) : slices_Equal_byte_oo_L0_s0 := ⟨(wi (s0.c5 + 1))⟩

def slices_Equal_byte_oo_L0_ok (x1 : List Int) (x3 : List Int) (x4 : Int) (s0 : slices_Equal_byte_oo_L0_s0) : Bool := (itS (slices_Equal_byte_oo_L0_sel x1 x3 x4) (slices_Equal_byte_oo_L0_nx x1 x3 x4) bound s0).isSome
def slices_Equal_byte_oo_L0_end (x1 : List Int) (x3 : List Int) (x4 : Int) (s0 : slices_Equal_byte_oo_L0_s0) : slices_Equal_byte_oo_L0_s0 := (itS (slices_Equal_byte_oo_L0_sel x1 x3 x4) (slices_Equal_byte_oo_L0_nx x1 x3 x4) bound s0).getD default

theorem slices_Equal_byte_oo_L0_go (x0 : Bool) (x1 : List Int) (x2 : Bool) (x3 : List Int) (x4 : Int) (x5 : Int) (s0 : slices_Equal_byte_oo_L0_s0) : slices_Equal_byte_oo_L0_sel x1 x3 x4 s0 = true → (roundG (runC E0 (cl E0) L67_0) [0, 1, 12, 13] [4] 0) (slices_Equal_byte_oo_L0_enc x0 x1 x2 x3 x4 x5 s0) = some (.normal, slices_Equal_byte_oo_L0_enc x0 x1 x2 x3 x4 x5 (slices_Equal_byte_oo_L0_nx x1 x3 x4 s0)) := by
  unfold slices_Equal_byte_oo_L0_sel slices_Equal_byte_oo_L0_nx
  cases h1 : tb (decide (s0.c5 < x4))
  · intro g0
    exact absurd g0 ft
  · cases h2 : tb (inb x1.length s0.c5)
    · intro g0
      exact absurd g0 ft
    · cases h3 : tb (inb x3.length s0.c5)
      · intro g0
        exact absurd g0 ft
      · cases h4 : tb (((gt x1 s0.c5) : Int) != (gt x3 s0.c5))
        · intro _
          exact round_walk [.b (tbE h1), .o 18 (fun _ => o_idx_os (enc := (encI .u8)) (l := x1) (fl := true) (n := x0) (s := 1) (k := .i64) (tbE h2)), .o 22 (fun _ => o_idx_os (enc := (encI .u8)) (l := x3) (fl := true) (n := x2) (s := 1) (k := .i64) (tbE h3)), .b (tbE h4)] (by kernel_rfl)
        · intro g0
          exact absurd g0 ft

def slices_Equal_byte_oo_L0_c0 (x1 : List Int) (x3 : List Int) (x4 : Int) (s0 : slices_Equal_byte_oo_L0_s0) : Bool := (bif tb (decide (s0.c5 < x4)) then (bif tb (inb x1.length s0.c5) then (bif tb (inb x3.length s0.c5) then true else false) else false) else false)

def slices_Equal_byte_oo_L0_c1 (x4 : Int) (s0 : slices_Equal_byte_oo_L0_s0) : Bool := (bif tb (decide (s0.c5 < x4)) then false else true)

theorem slices_Equal_byte_oo_L0_x0 (x0 : Bool) (x1 : List Int) (x2 : Bool) (x3 : List Int) (x4 : Int) (x5 : Int) (s0 : slices_Equal_byte_oo_L0_s0) : slices_Equal_byte_oo_L0_sel x1 x3 x4 s0 = false → slices_Equal_byte_oo_L0_c0 x1 x3 x4 s0 = true → (roundG (runC E0 (cl E0) L67_0) [0, 1, 12, 13] [4] 0) (slices_Equal_byte_oo_L0_enc x0 x1 x2 x3 x4 x5 s0) = some (.ret, ([(V.d (.bool false))], [])) := by
  unfold slices_Equal_byte_oo_L0_sel slices_Equal_byte_oo_L0_c0
  cases h1 : tb (decide (s0.c5 < x4))
  · intro g0 g1
    exact absurd g1 ft
  · cases h2 : tb (inb x1.length s0.c5)
    · intro g0 g1
      exact absurd g1 ft
    · cases h3 : tb (inb x3.length s0.c5)
      · intro g0 g1
        exact absurd g1 ft
      · cases h4 : tb (((gt x1 s0.c5) : Int) != (gt x3 s0.c5))
        · intro g0 g1
          exact absurd g0 tf
        · intro g0 g1
          exact round_walk [.b (tbE h1), .o 18 (fun _ => o_idx_os (enc := (encI .u8)) (l := x1) (fl := true) (n := x0) (s := 1) (k := .i64) (tbE h2)), .o 22 (fun _ => o_idx_os (enc := (encI .u8)) (l := x3) (fl := true) (n := x2) (s := 1) (k := .i64) (tbE h3)), .b (tbE h4)] (by kernel_rfl)

theorem slices_Equal_byte_oo_L0_x1 (x0 : Bool) (x1 : List Int) (x2 : Bool) (x3 : List Int) (x4 : Int) (x5 : Int) (s0 : slices_Equal_byte_oo_L0_s0) : slices_Equal_byte_oo_L0_sel x1 x3 x4 s0 = false → slices_Equal_byte_oo_L0_c0 x1 x3 x4 s0 = false → slices_Equal_byte_oo_L0_c1 x4 s0 = true → (roundG (runC E0 (cl E0) L67_0) [0, 1, 12, 13] [4] 0) (slices_Equal_byte_oo_L0_enc x0 x1 x2 x3 x4 x5 s0) = some ((.exit 0), ([V.un], [])) := by
  unfold slices_Equal_byte_oo_L0_sel slices_Equal_byte_oo_L0_c0 slices_Equal_byte_oo_L0_c1
  cases h1 : tb (decide (s0.c5 < x4))
  · intro g0 g1 g2
    exact round_walk [.b (tbE h1)] (by kernel_rfl)
  · cases h2 : tb (inb x1.length s0.c5)
    · intro g0 g1 g2
      exact absurd g2 ft
    · cases h3 : tb (inb x3.length s0.c5)
      · intro g0 g1 g2
        exact absurd g2 ft
      · cases h4 : tb (((gt x1 s0.c5) : Int) != (gt x3 s0.c5))
        · intro g0 g1 g2
          exact absurd g0 tf
        · intro g0 g1 g2
          exact absurd g1 tf

theorem slices_Equal_byte_oo_L0_f0_0 (x0 : Bool) (x1 : List Int) (x2 : Bool) (x3 : List Int) (x4 : Int) (x5 : Int) (s : slices_Equal_byte_oo_L0_s0) (hok : slices_Equal_byte_oo_L0_ok x1 x3 x4 s = true) (c0 : slices_Equal_byte_oo_L0_c0 x1 x3 x4 (slices_Equal_byte_oo_L0_end x1 x3 x4 s) = true) : loopG (roundG (runC E0 (cl E0) L67_0) [0, 1, 12, 13] [4] 0) bound (slices_Equal_byte_oo_L0_enc x0 x1 x2 x3 x4 x5 s) = some (.ret, ([(V.d (.bool false))], [])) := by
  have e : itS (slices_Equal_byte_oo_L0_sel x1 x3 x4) (slices_Equal_byte_oo_L0_nx x1 x3 x4) bound s = some (slices_Equal_byte_oo_L0_end x1 x3 x4 s) := itS_get hok
  have f := itS_false e
  exact loop_it (slices_Equal_byte_oo_L0_go x0 x1 x2 x3 x4 x5) bound s _ _ _ e (fun h => by cases h) (slices_Equal_byte_oo_L0_x0 x0 x1 x2 x3 x4 x5 (slices_Equal_byte_oo_L0_end x1 x3 x4 s) f c0)

theorem slices_Equal_byte_oo_L0_f0_1 (x0 : Bool) (x1 : List Int) (x2 : Bool) (x3 : List Int) (x4 : Int) (x5 : Int) (s : slices_Equal_byte_oo_L0_s0) (hok : slices_Equal_byte_oo_L0_ok x1 x3 x4 s = true) (c0 : slices_Equal_byte_oo_L0_c0 x1 x3 x4 (slices_Equal_byte_oo_L0_end x1 x3 x4 s) = false) (c1 : slices_Equal_byte_oo_L0_c1 x4 (slices_Equal_byte_oo_L0_end x1 x3 x4 s) = true) : loopG (roundG (runC E0 (cl E0) L67_0) [0, 1, 12, 13] [4] 0) bound (slices_Equal_byte_oo_L0_enc x0 x1 x2 x3 x4 x5 s) = some ((.exit 0), ([V.un], [])) := by
  have e : itS (slices_Equal_byte_oo_L0_sel x1 x3 x4) (slices_Equal_byte_oo_L0_nx x1 x3 x4) bound s = some (slices_Equal_byte_oo_L0_end x1 x3 x4 s) := itS_get hok
  have f := itS_false e
  exact loop_it (slices_Equal_byte_oo_L0_go x0 x1 x2 x3 x4 x5) bound s _ _ _ e (fun h => by cases h) (slices_Equal_byte_oo_L0_x1 x0 x1 x2 x3 x4 x5 (slices_Equal_byte_oo_L0_end x1 x3 x4 s) f c0 c1)

def slices_Equal_byte_oo_e0 (x1 : List Int) (x3 : List Int) : slices_Equal_byte_oo_L0_s0 := slices_Equal_byte_oo_L0_end x1 x3 ((x1.length : Nat) : Int) (⟨0⟩ : slices_Equal_byte_oo_L0_s0)

def slices_Equal_byte_oo_c0 (x1 : List Int) (x3 : List Int) : Bool := (bif tb ((((x1.length : Nat) : Int) : Int) != ((x3.length : Nat) : Int)) then true else (bif tb (slices_Equal_byte_oo_L0_ok x1 x3 ((x1.length : Nat) : Int) (⟨0⟩ : slices_Equal_byte_oo_L0_s0)) then (bif tb (slices_Equal_byte_oo_L0_c0 x1 x3 ((x1.length : Nat) : Int) (slices_Equal_byte_oo_e0 x1 x3)) then true else (bif tb (slices_Equal_byte_oo_L0_c1 ((x1.length : Nat) : Int) (slices_Equal_byte_oo_e0 x1 x3)) then true else false)) else false))

def slices_Equal_byte_oo_r0_0 (x1 : List Int) (x3 : List Int) : Bool := (bif tb ((((x1.length : Nat) : Int) : Int) != ((x3.length : Nat) : Int)) then false else (bif tb (slices_Equal_byte_oo_L0_c0 x1 x3 ((x1.length : Nat) : Int) (slices_Equal_byte_oo_e0 x1 x3)) then false else true))

theorem slices_Equal_byte_oo_t0 (x0 : Bool) (x1 : List Int) (x2 : Bool) (x3 : List Int) : slices_Equal_byte_oo_c0 x1 x3 = true → cl E0 67 [(V.d (slD (encI .u8) true 1 x0 x1)), (V.d (slD (encI .u8) true 1 x2 x3))] [] = some ([(V.d (.bool (slices_Equal_byte_oo_r0_0 x1 x3)))], []) := by
  unfold slices_Equal_byte_oo_c0 slices_Equal_byte_oo_r0_0
  cases h1 : tb ((((x1.length : Nat) : Int) : Int) != ((x3.length : Nat) : Int))
  · cases h2 : tb (slices_Equal_byte_oo_L0_ok x1 x3 ((x1.length : Nat) : Int) (⟨0⟩ : slices_Equal_byte_oo_L0_s0))
    · intro g0
      exact absurd g0 ft
    · cases h3 : tb (slices_Equal_byte_oo_L0_c0 x1 x3 ((x1.length : Nat) : Int) (slices_Equal_byte_oo_e0 x1 x3))
      · cases h4 : tb (slices_Equal_byte_oo_L0_c1 ((x1.length : Nat) : Int) (slices_Equal_byte_oo_e0 x1 x3))
        · intro g0
          exact absurd g0 ft
        · intro g0
          exact w67 [.o 7 (fun _ => o_len_os (enc := (encI .u8)) (l := x1) (fl := true) (n := x0) (s := 1)), .o 9 (fun _ => o_len_os (enc := (encI .u8)) (l := x3) (fl := true) (n := x2) (s := 1)), .b (tbE h1), .o 12 (fun _ => o_len_os (enc := (encI .u8)) (l := x1) (fl := true) (n := x0) (s := 1)), .l (slices_Equal_byte_oo_L0_f0_1 x0 x1 x2 x3 ((x1.length : Nat) : Int) 0 (⟨0⟩ : slices_Equal_byte_oo_L0_s0) (tbE h2) (tbE h3) (tbE h4))] (by kernel_rfl)
      · intro g0
        exact w67 [.o 7 (fun _ => o_len_os (enc := (encI .u8)) (l := x1) (fl := true) (n := x0) (s := 1)), .o 9 (fun _ => o_len_os (enc := (encI .u8)) (l := x3) (fl := true) (n := x2) (s := 1)), .b (tbE h1), .o 12 (fun _ => o_len_os (enc := (encI .u8)) (l := x1) (fl := true) (n := x0) (s := 1)), .l (slices_Equal_byte_oo_L0_f0_0 x0 x1 x2 x3 ((x1.length : Nat) : Int) 0 (⟨0⟩ : slices_Equal_byte_oo_L0_s0) (tbE h2) (tbE h3))] (by kernel_rfl)
  · intro g0
    exact w67 [.o 7 (fun _ => o_len_os (enc := (encI .u8)) (l := x1) (fl := true) (n := x0) (s := 1)), .o 9 (fun _ => o_len_os (enc := (encI .u8)) (l := x3) (fl := true) (n := x2) (s := 1)), .b (tbE h1)] (by kernel_rfl)

end Go.Proofs.Ytgalchmjpfmemaa.Den

namespace Go.Proofs.Ytgalchmjpfmemaa.Den
open Go Go.Proofs
set_option maxRecDepth 100000
set_option maxHeartbeats 4000000
set_option linter.unusedVariables false
set_option linter.unusedSimpArgs false

def crc_More_c1_p_Fi_r0_0 (x0 : Int) : Int := (bif tb (((andI .i64 x0 32768) : Int) != 0) then (xorI .i64 (andI .i64 (shlI .i64 x0 1) 65535) 4129) else (andI .i64 (shlI .i64 x0 1) 65535))

theorem crc_More_c1_p_Fi_t0 (x0 : Int) : cl E0 69 [(V.ptr 0 1 0 0)] [(Blk.flat 3 1 [[(.int .i64 x0)]] false)] = some ([], [(Blk.flat 3 1 [[(.int .i64 (crc_More_c1_p_Fi_r0_0 x0))]] false)]) := by
  unfold crc_More_c1_p_Fi_r0_0
  cases h1 : tb (((andI .i64 x0 32768) : Int) != 0)
  · exact w69 [.o 6 (fun _ => o_shl (k := .i64) (k2 := .u64) (x := x0) (y := 1) rfl), .b (tbE h1)] (by kernel_rfl)
  · exact w69 [.o 6 (fun _ => o_shl (k := .i64) (k2 := .u64) (x := x0) (y := 1) rfl), .b (tbE h1)] (by kernel_rfl)

structure crc_More_io_L0_s0 where
  c4 : Int
  c5 : Int
  deriving Inhabited

def crc_More_io_L0_enc (x0 : Int) (x1 : Bool) (x2 : Bool) (x3 : List Int) (x4 : Int) (x5 : Int) (x6 : Int) (s0 : crc_More_io_L0_s0) : List V × Mem := ([(V.ptr 0 1 0 0), (V.fn (.func 69) [] [(V.ptr 0 1 0 0)]), (V.d (slD (encI .u8) true 1 x2 x3)), (V.d (.int .i64 x4)), (V.d (.int .i64 x5)), (V.d (.int .i64 s0.c4))], [(Blk.flat 3 1 [[(.int .i64 s0.c5)]] false)])

def crc_More_io_L0_sel  (s0 : crc_More_io_L0_s0) : Bool := (bif tb (decide (s0.c4 < 8)) then true else false)

def crc_More_io_L0_nx  (s0 : crc_More_io_L0_s0) : crc_More_io_L0_s0 := ⟨(wi (s0.c4 + 1)), (crc_More_c1_p_Fi_r0_0 s0.c5)⟩

def crc_More_io_L0_ok  (s0 : crc_More_io_L0_s0) : Bool := (itS (crc_More_io_L0_sel ) (crc_More_io_L0_nx ) bound s0).isSome
def crc_More_io_L0_end  (s0 : crc_More_io_L0_s0) : crc_More_io_L0_s0 := (itS (crc_More_io_L0_sel ) (crc_More_io_L0_nx ) bound s0).getD default

theorem crc_More_io_L0_go (x0 : Int) (x1 : Bool) (x2 : Bool) (x3 : List Int) (x4 : Int) (x5 : Int) (x6 : Int) (s0 : crc_More_io_L0_s0) : crc_More_io_L0_sel  s0 = true → (roundG (runC E0 (cl E0) L40_0) [2, 5, 15, 16, 17, 26] [2, 5, 15, 16, 17] 1) (crc_More_io_L0_enc x0 x1 x2 x3 x4 x5 x6 s0) = some (.normal, crc_More_io_L0_enc x0 x1 x2 x3 x4 x5 x6 (crc_More_io_L0_nx  s0)) := by
  unfold crc_More_io_L0_sel crc_More_io_L0_nx
  cases h1 : tb (decide (s0.c4 < 8))
  · intro g0
    exact absurd g0 ft
  · intro _
    exact round_walk [.b (tbE h1), .c (crc_More_c1_p_Fi_t0 s0.c5)] (by kernel_rfl)

theorem crc_More_io_L0_x0 (x0 : Int) (x1 : Bool) (x2 : Bool) (x3 : List Int) (x4 : Int) (x5 : Int) (x6 : Int) (s0 : crc_More_io_L0_s0) : crc_More_io_L0_sel  s0 = false → (roundG (runC E0 (cl E0) L40_0) [2, 5, 15, 16, 17, 26] [2, 5, 15, 16, 17] 1) (crc_More_io_L0_enc x0 x1 x2 x3 x4 x5 x6 s0) = some ((.exit 2), ([(V.ptr 0 1 0 0), (V.fn (.func 69) [] [(V.ptr 0 1 0 0)]), (V.d (slD (encI .u8) true 1 x2 x3)), (V.d (.int .i64 x4)), (V.d (.int .i64 x5))], [(Blk.flat 3 1 [[(.int .i64 s0.c5)]] false)])) := by
  unfold crc_More_io_L0_sel
  cases h1 : tb (decide (s0.c4 < 8))
  · intro g0
    exact round_walk [.b (tbE h1)] (by kernel_rfl)
  · intro g0
    exact absurd g0 tf

theorem crc_More_io_L0_f0_0 (x0 : Int) (x1 : Bool) (x2 : Bool) (x3 : List Int) (x4 : Int) (x5 : Int) (x6 : Int) (s : crc_More_io_L0_s0) (hok : crc_More_io_L0_ok  s = true) : loopG (roundG (runC E0 (cl E0) L40_0) [2, 5, 15, 16, 17, 26] [2, 5, 15, 16, 17] 1) bound (crc_More_io_L0_enc x0 x1 x2 x3 x4 x5 x6 s) = some ((.exit 2), ([(V.ptr 0 1 0 0), (V.fn (.func 69) [] [(V.ptr 0 1 0 0)]), (V.d (slD (encI .u8) true 1 x2 x3)), (V.d (.int .i64 x4)), (V.d (.int .i64 x5))], [(Blk.flat 3 1 [[(.int .i64 ((crc_More_io_L0_end  s).c5))]] false)])) := by
  have e : itS (crc_More_io_L0_sel ) (crc_More_io_L0_nx ) bound s = some (crc_More_io_L0_end  s) := itS_get hok
  have f := itS_false e
  exact loop_it (crc_More_io_L0_go x0 x1 x2 x3 x4 x5 x6) bound s _ _ _ e (fun h => by cases h) (crc_More_io_L0_x0 x0 x1 x2 x3 x4 x5 x6 (crc_More_io_L0_end  s) f )

structure crc_More_io_L1_s0 where
  c3 : Int
  c4 : Int
  deriving Inhabited

def crc_More_io_L1_enc (x0 : Int) (x1 : Bool) (x2 : Bool) (x3 : List Int) (x4 : Int) (x5 : Int) (s0 : crc_More_io_L1_s0) : List V × Mem := ([(V.ptr 0 1 0 0), (V.fn (.func 69) [] [(V.ptr 0 1 0 0)]), (V.d (slD (encI .u8) true 1 x2 x3)), (V.d (.int .i64 x4)), (V.d (.int .i64 s0.c3))], [(Blk.flat 3 1 [[(.int .i64 s0.c4)]] false)])

def crc_More_io_L1_h0_e0 (x3 : List Int) (s0 : crc_More_io_L1_s0) : crc_More_io_L0_s0 := crc_More_io_L0_end  (⟨0, (xorI .i64 s0.c4 (shlI .i64 (wi (gt x3 s0.c3)) 8))⟩ : crc_More_io_L0_s0)

def crc_More_io_L1_sel (x3 : List Int) (x4 : Int) (s0 : crc_More_io_L1_s0) : Bool := (bif tb (decide (s0.c3 < x4)) then (bif tb (inb x3.length s0.c3) then (bif tb (crc_More_io_L0_ok  (⟨0, (xorI .i64 s0.c4 (shlI .i64 (wi (gt x3 s0.c3)) 8))⟩ : crc_More_io_L0_s0)) then true else false) else false) else false)

def crc_More_io_L1_nx (x3 : List Int) (x4 : Int) (s0 : crc_More_io_L1_s0) : crc_More_io_L1_s0 := ⟨(wi (s0.c3 + 1)), ((crc_More_io_L1_h0_e0 x3 s0).c5)⟩

def crc_More_io_L1_ok (x3 : List Int) (x4 : Int) (s0 : crc_More_io_L1_s0) : Bool := (itS (crc_More_io_L1_sel x3 x4) (crc_More_io_L1_nx x3 x4) bound s0).isSome
def crc_More_io_L1_end (x3 : List Int) (x4 : Int) (s0 : crc_More_io_L1_s0) : crc_More_io_L1_s0 := (itS (crc_More_io_L1_sel x3 x4) (crc_More_io_L1_nx x3 x4) bound s0).getD default

theorem crc_More_io_L1_go (x0 : Int) (x1 : Bool) (x2 : Bool) (x3 : List Int) (x4 : Int) (x5 : Int) (s0 : crc_More_io_L1_s0) : crc_More_io_L1_sel x3 x4 s0 = true → (roundG (runC E0 (cl E0) L40_1) [2, 5, 15, 16, 17] [2] 1) (crc_More_io_L1_enc x0 x1 x2 x3 x4 x5 s0) = some (.normal, crc_More_io_L1_enc x0 x1 x2 x3 x4 x5 (crc_More_io_L1_nx x3 x4 s0)) := by
  unfold crc_More_io_L1_sel crc_More_io_L1_nx
  cases h1 : tb (decide (s0.c3 < x4))
  · intro g0
    exact absurd g0 ft
  · cases h2 : tb (inb x3.length s0.c3)
    · intro g0
      exact absurd g0 ft
    · cases h3 : tb (crc_More_io_L0_ok  (⟨0, (xorI .i64 s0.c4 (shlI .i64 (wi (gt x3 s0.c3)) 8))⟩ : crc_More_io_L0_s0))
      · intro g0
        exact absurd g0 ft
      · intro _
        exact round_walk [.b (tbE h1), .o 19 (fun _ => o_idx_os (enc := (encI .u8)) (l := x3) (fl := true) (n := x2) (s := 1) (k := .i64) (tbE h2)), .o 24 (fun _ => o_shl (k := .i64) (k2 := .u64) (x := (wi (gt x3 s0.c3))) (y := 8) rfl), .l (crc_More_io_L0_f0_0 (xorI .i64 s0.c4 (shlI .i64 (wi (gt x3 s0.c3)) 8)) false x2 x3 x4 s0.c3 0 (⟨0, (xorI .i64 s0.c4 (shlI .i64 (wi (gt x3 s0.c3)) 8))⟩ : crc_More_io_L0_s0) (tbE h3))] (by kernel_rfl)

def crc_More_io_L1_c0 (x4 : Int) (s0 : crc_More_io_L1_s0) : Bool := (bif tb (decide (s0.c3 < x4)) then false else true)

theorem crc_More_io_L1_x0 (x0 : Int) (x1 : Bool) (x2 : Bool) (x3 : List Int) (x4 : Int) (x5 : Int) (s0 : crc_More_io_L1_s0) : crc_More_io_L1_sel x3 x4 s0 = false → crc_More_io_L1_c0 x4 s0 = true → (roundG (runC E0 (cl E0) L40_1) [2, 5, 15, 16, 17] [2] 1) (crc_More_io_L1_enc x0 x1 x2 x3 x4 x5 s0) = some ((.exit 0), ([(V.ptr 0 1 0 0)], [(Blk.flat 3 1 [[(.int .i64 s0.c4)]] false)])) := by
  unfold crc_More_io_L1_sel crc_More_io_L1_c0
  cases h1 : tb (decide (s0.c3 < x4))
  · intro g0 g1
    exact round_walk [.b (tbE h1)] (by kernel_rfl)
  · cases h2 : tb (inb x3.length s0.c3)
    · intro g0 g1
      exact absurd g1 ft
    · cases h3 : tb (crc_More_io_L0_ok  (⟨0, (xorI .i64 s0.c4 (shlI .i64 (wi (gt x3 s0.c3)) 8))⟩ : crc_More_io_L0_s0))
      · intro g0 g1
        exact absurd g1 ft
      · intro g0 g1
        exact absurd g0 tf

theorem crc_More_io_L1_f0_0 (x0 : Int) (x1 : Bool) (x2 : Bool) (x3 : List Int) (x4 : Int) (x5 : Int) (s : crc_More_io_L1_s0) (hok : crc_More_io_L1_ok x3 x4 s = true) (c0 : crc_More_io_L1_c0 x4 (crc_More_io_L1_end x3 x4 s) = true) : loopG (roundG (runC E0 (cl E0) L40_1) [2, 5, 15, 16, 17] [2] 1) bound (crc_More_io_L1_enc x0 x1 x2 x3 x4 x5 s) = some ((.exit 0), ([(V.ptr 0 1 0 0)], [(Blk.flat 3 1 [[(.int .i64 ((crc_More_io_L1_end x3 x4 s).c4))]] false)])) := by
  have e : itS (crc_More_io_L1_sel x3 x4) (crc_More_io_L1_nx x3 x4) bound s = some (crc_More_io_L1_end x3 x4 s) := itS_get hok
  have f := itS_false e
  exact loop_it (crc_More_io_L1_go x0 x1 x2 x3 x4 x5) bound s _ _ _ e (fun h => by cases h) (crc_More_io_L1_x0 x0 x1 x2 x3 x4 x5 (crc_More_io_L1_end x3 x4 s) f c0)

def crc_More_io_e0 (x0 : Int) (x2 : List Int) : crc_More_io_L1_s0 := crc_More_io_L1_end x2 ((x2.length : Nat) : Int) (⟨0, x0⟩ : crc_More_io_L1_s0)

def crc_More_io_c0 (x0 : Int) (x2 : List Int) : Bool := (bif tb (decide (x0 < 0)) then true else (bif tb (decide (65535 < x0)) then true else (bif tb (crc_More_io_L1_ok x2 ((x2.length : Nat) : Int) (⟨0, x0⟩ : crc_More_io_L1_s0)) then (bif tb (crc_More_io_L1_c0 ((x2.length : Nat) : Int) (crc_More_io_e0 x0 x2)) then true else false) else false)))

def crc_More_io_r0_0 (x0 : Int) (x2 : List Int) : Int := (bif tb (decide (x0 < 0)) then 0 else (bif tb (decide (65535 < x0)) then 0 else ((crc_More_io_e0 x0 x2).c4)))

theorem crc_More_io_t0 (x0 : Int) (x1 : Bool) (x2 : List Int) : crc_More_io_c0 x0 x2 = true → cl E0 40 [(V.d (.int .i64 x0)), (V.d (slD (encI .u8) true 1 x1 x2))] [] = some ([(V.d (.int .i64 (crc_More_io_r0_0 x0 x2)))], []) := by
  unfold crc_More_io_c0 crc_More_io_r0_0
  cases h1 : tb (decide (x0 < 0))
  · cases h2 : tb (decide (65535 < x0))
    · cases h3 : tb (crc_More_io_L1_ok x2 ((x2.length : Nat) : Int) (⟨0, x0⟩ : crc_More_io_L1_s0))
      · intro g0
        exact absurd g0 ft
      · cases h4 : tb (crc_More_io_L1_c0 ((x2.length : Nat) : Int) (crc_More_io_e0 x0 x2))
        · intro g0
          exact absurd g0 ft
        · intro g0
          exact w40 [.b (tbE h1), .b (tbE h2), .o 16 (fun _ => o_len_os (enc := (encI .u8)) (l := x2) (fl := true) (n := x1) (s := 1)), .l (crc_More_io_L1_f0_0 x0 false x1 x2 ((x2.length : Nat) : Int) 0 (⟨0, x0⟩ : crc_More_io_L1_s0) (tbE h3) (tbE h4))] (by kernel_rfl)
    · intro g0
      exact w40 [.b (tbE h1), .b (tbE h2)] (by kernel_rfl)
  · intro g0
    exact w40 [.b (tbE h1)] (by kernel_rfl)

def crc_Sum_o_c0 (x1 : List Int) : Bool := (bif tb (crc_More_io_c0 65535 x1) then true else false)

theorem crc_Sum_o_t0 (x0 : Bool) (x1 : List Int) : crc_Sum_o_c0 x1 = true → cl E0 38 [(V.d (slD (encI .u8) true 1 x0 x1))] [] = some ([(V.d (.int .i64 (crc_More_io_r0_0 65535 x1)))], []) := by
  unfold crc_Sum_o_c0
  cases h1 : tb (crc_More_io_c0 65535 x1)
  · intro g0
    exact absurd g0 ft
  · intro g0
    exact w38 [.c (crc_More_io_t0 65535 x0 x1 (tbE h1))] (by kernel_rfl)

def crc_Seal_o_e0 (x1 : List Int) : List Int := (x1 ++ [(IntKind.u8.wrap (shrI .i64 (crc_More_io_r0_0 65535 x1) 8)), (IntKind.u8.wrap ((crc_More_io_r0_0 65535 x1)))])

def crc_Seal_o_c0 (x0 : Bool) (x1 : List Int) : Bool := (bif tb (crc_Sum_o_c0 x1) then (bif tb (slices_Clone_byte_o_c0 x0 x1) then true else false) else false)

def crc_Seal_o_c1 (x0 : Bool) (x1 : List Int) : Bool := (bif tb (crc_Sum_o_c0 x1) then (bif tb (slices_Clone_byte_o_c0 x0 x1) then false else (bif tb (slices_Clone_byte_o_c1 x0 x1) then (bif tb (decide ((x1.length + [(IntKind.u8.wrap (shrI .i64 (crc_More_io_r0_0 65535 x1) 8)), (IntKind.u8.wrap ((crc_More_io_r0_0 65535 x1)))].length) * 1 ≤ 140737488355328)) then true else false) else false)) else false)

theorem crc_Seal_o_t0 (x0 : Bool) (x1 : List Int) : crc_Seal_o_c0 x0 x1 = true → cl E0 36 [(V.d (slD (encI .u8) true 1 x0 x1))] [] = some ([(V.sl 0 2 0 2)], [(Blk.flat 5 1 [[(.int .u8 (IntKind.u8.wrap (shrI .i64 (crc_More_io_r0_0 65535 x1) 8)))], [(.int .u8 (IntKind.u8.wrap ((crc_More_io_r0_0 65535 x1))))]] false)]) := by
  unfold crc_Seal_o_c0
  cases h1 : tb (crc_Sum_o_c0 x1)
  · intro g0
    exact absurd g0 ft
  · cases h2 : tb (slices_Clone_byte_o_c0 x0 x1)
    · cases h3 : tb (slices_Clone_byte_o_c1 x0 x1)
      · intro g0
        exact absurd g0 ft
      · cases h4 : tb (decide ((x1.length + [(IntKind.u8.wrap (shrI .i64 (crc_More_io_r0_0 65535 x1) 8)), (IntKind.u8.wrap ((crc_More_io_r0_0 65535 x1)))].length) * 1 ≤ 140737488355328))
        · intro g0
          exact absurd g0 ft
        · intro g0
          exact absurd g0 ft
    · intro g0
      exact w36 [.c (crc_Sum_o_t0 x0 x1 (tbE h1)), .c (slices_Clone_byte_o_t0 x0 x1 (tbE h2)), .o 9 (fun _ => o_shr (k := .i64) (k2 := .u64) (x := (crc_More_io_r0_0 65535 x1)) (y := 8) rfl)] (by kernel_rfl)

theorem crc_Seal_o_t1 (x0 : Bool) (x1 : List Int) : crc_Seal_o_c0 x0 x1 = false → crc_Seal_o_c1 x0 x1 = true → cl E0 36 [(V.d (slD (encI .u8) true 1 x0 x1))] [] = some ([(V.sl 0 (x1.length + [(IntKind.u8.wrap (shrI .i64 (crc_More_io_r0_0 65535 x1) 8)), (IntKind.u8.wrap ((crc_More_io_r0_0 65535 x1)))].length) 0 (x1.length + [(IntKind.u8.wrap (shrI .i64 (crc_More_io_r0_0 65535 x1) 8)), (IntKind.u8.wrap ((crc_More_io_r0_0 65535 x1)))].length))], [(Blk.flat 5 1 (List.map (encI .u8) (crc_Seal_o_e0 x1)) false)]) := by
  unfold crc_Seal_o_c0 crc_Seal_o_c1
  cases h1 : tb (crc_Sum_o_c0 x1)
  · intro g0 g1
    exact absurd g1 ft
  · cases h2 : tb (slices_Clone_byte_o_c0 x0 x1)
    · cases h3 : tb (slices_Clone_byte_o_c1 x0 x1)
      · intro g0 g1
        exact absurd g1 ft
      · cases h4 : tb (decide ((x1.length + [(IntKind.u8.wrap (shrI .i64 (crc_More_io_r0_0 65535 x1) 8)), (IntKind.u8.wrap ((crc_More_io_r0_0 65535 x1)))].length) * 1 ≤ 140737488355328))
        · intro g0 g1
          exact absurd g1 ft
        · intro g0 g1
          exact w36 [.c (crc_Sum_o_t0 x0 x1 (tbE h1)), .c (slices_Clone_byte_o_t1 x0 x1 (tbE h2) (tbE h3)), .o 9 (fun _ => o_shr (k := .i64) (k2 := .u64) (x := (crc_More_io_r0_0 65535 x1)) (y := 8) rfl), .m 14 (o_app (m := [(Blk.flat 5 1 (List.map (encI .u8) x1) false), (Blk.flat 5 1 [[(.int .u8 (IntKind.u8.wrap (shrI .i64 (crc_More_io_r0_0 65535 x1) 8)))], [(.int .u8 (IntKind.u8.wrap ((crc_More_io_r0_0 65535 x1))))]] false)]) (enc := (encI .u8)) (l0 := x1) (l1 := [(IntKind.u8.wrap (shrI .i64 (crc_More_io_r0_0 65535 x1) 8)), (IntKind.u8.wrap ((crc_More_io_r0_0 65535 x1)))]) (id := 0) (e := 5) (s := 1) (bytes := 1) (x := (V.sl 1 2 0 2)) (n := x1.length) (Nat.beq_refl _) (by kernel_rfl) (by kernel_rfl) (by kernel_rfl) (tbE h4))] (by kernel_rfl)
    · intro g0 g1
      exact absurd g0 tf

theorem crc_Seal_o_t1_len0 (x1 : List Int) : Nat.beq (x1.length + [(IntKind.u8.wrap (shrI .i64 (crc_More_io_r0_0 65535 x1) 8)), (IntKind.u8.wrap ((crc_More_io_r0_0 65535 x1)))].length) ((crc_Seal_o_e0 x1)).length = true := (app_len (l := x1) (k := [(IntKind.u8.wrap (shrI .i64 (crc_More_io_r0_0 65535 x1) 8)), (IntKind.u8.wrap ((crc_More_io_r0_0 65535 x1)))]) (Nat.beq_refl _))

def crc_Open_o_e0 (x1 : List Int) : List Int := [(IntKind.u8.wrap (shrI .i64 (crc_More_io_r0_0 65535 (sub x1 0 (wi (((x1.length : Nat) : Int) - 2)))) 8)), (IntKind.u8.wrap ((crc_More_io_r0_0 65535 (sub x1 0 (wi (((x1.length : Nat) : Int) - 2))))))]

def crc_Open_o_e1 (x1 : List Int) : List Int := (crc_Seal_o_e0 (sub x1 0 (wi (((x1.length : Nat) : Int) - 2))))

def crc_Open_o_c0 (x0 : Bool) (x1 : List Int) : Bool := (bif tb (decide ((wi (((x1.length : Nat) : Int) - 2)) < 0)) then true else (bif tb (ins x1.length 0 (wi (((x1.length : Nat) : Int) - 2))) then (bif tb (crc_Seal_o_c0 (x0 && x1.isEmpty) (sub x1 0 (wi (((x1.length : Nat) : Int) - 2)))) then (bif tb (slices_Equal_byte_oo_c0 (crc_Open_o_e0 x1) x1) then (bif tb (slices_Equal_byte_oo_r0_0 (crc_Open_o_e0 x1) x1) then (bif tb (slices_Clone_byte_o_c0 (x0 && x1.isEmpty) (sub x1 0 (wi (((x1.length : Nat) : Int) - 2)))) then true else false) else true) else false) else (bif tb (crc_Seal_o_c1 (x0 && x1.isEmpty) (sub x1 0 (wi (((x1.length : Nat) : Int) - 2)))) then (bif tb (slices_Equal_byte_oo_c0 (crc_Open_o_e1 x1) x1) then (bif tb (slices_Equal_byte_oo_r0_0 (crc_Open_o_e1 x1) x1) then (bif tb (slices_Clone_byte_o_c0 (x0 && x1.isEmpty) (sub x1 0 (wi (((x1.length : Nat) : Int) - 2)))) then true else false) else true) else false) else false)) else false))

def crc_Open_o_r0_0 (x0 : Bool) (x1 : List Int) : Bool := (bif tb (decide ((wi (((x1.length : Nat) : Int) - 2)) < 0)) then false else (bif tb (crc_Seal_o_c0 (x0 && x1.isEmpty) (sub x1 0 (wi (((x1.length : Nat) : Int) - 2)))) then (bif tb (slices_Equal_byte_oo_r0_0 (crc_Open_o_e0 x1) x1) then true else false) else (bif tb (slices_Equal_byte_oo_r0_0 (crc_Open_o_e1 x1) x1) then true else false)))

def crc_Open_o_c1 (x0 : Bool) (x1 : List Int) : Bool := (bif tb (decide ((wi (((x1.length : Nat) : Int) - 2)) < 0)) then false else (bif tb (ins x1.length 0 (wi (((x1.length : Nat) : Int) - 2))) then (bif tb (crc_Seal_o_c0 (x0 && x1.isEmpty) (sub x1 0 (wi (((x1.length : Nat) : Int) - 2)))) then (bif tb (slices_Equal_byte_oo_c0 (crc_Open_o_e0 x1) x1) then (bif tb (slices_Equal_byte_oo_r0_0 (crc_Open_o_e0 x1) x1) then (bif tb (slices_Clone_byte_o_c0 (x0 && x1.isEmpty) (sub x1 0 (wi (((x1.length : Nat) : Int) - 2)))) then false else (bif tb (slices_Clone_byte_o_c1 (x0 && x1.isEmpty) (sub x1 0 (wi (((x1.length : Nat) : Int) - 2)))) then true else false)) else false) else false) else (bif tb (crc_Seal_o_c1 (x0 && x1.isEmpty) (sub x1 0 (wi (((x1.length : Nat) : Int) - 2)))) then (bif tb (slices_Equal_byte_oo_c0 (crc_Open_o_e1 x1) x1) then (bif tb (slices_Equal_byte_oo_r0_0 (crc_Open_o_e1 x1) x1) then (bif tb (slices_Clone_byte_o_c0 (x0 && x1.isEmpty) (sub x1 0 (wi (((x1.length : Nat) : Int) - 2)))) then false else (bif tb (slices_Clone_byte_o_c1 (x0 && x1.isEmpty) (sub x1 0 (wi (((x1.length : Nat) : Int) - 2)))) then true else false)) else false) else false) else false)) else false))

theorem crc_Open_o_t0 (x0 : Bool) (x1 : List Int) : crc_Open_o_c0 x0 x1 = true → cl E0 33 [(V.d (slD (encI .u8) true 1 x0 x1))] [] = some ([(V.d .nils), (V.d (.bool (crc_Open_o_r0_0 x0 x1)))], []) := by
  unfold crc_Open_o_c0 crc_Open_o_r0_0
  cases h1 : tb (decide ((wi (((x1.length : Nat) : Int) - 2)) < 0))
  · cases h2 : tb (ins x1.length 0 (wi (((x1.length : Nat) : Int) - 2)))
    · intro g0
      exact absurd g0 ft
    · cases h3 : tb (crc_Seal_o_c0 (x0 && x1.isEmpty) (sub x1 0 (wi (((x1.length : Nat) : Int) - 2))))
      · cases h4 : tb (crc_Seal_o_c1 (x0 && x1.isEmpty) (sub x1 0 (wi (((x1.length : Nat) : Int) - 2))))
        · intro g0
          exact absurd g0 ft
        · cases h5 : tb (slices_Equal_byte_oo_c0 (crc_Open_o_e1 x1) x1)
          · intro g0
            exact absurd g0 ft
          · cases h6 : tb (slices_Equal_byte_oo_r0_0 (crc_Open_o_e1 x1) x1)
            · intro g0
              exact w33 [.o 6 (fun _ => o_len_os (enc := (encI .u8)) (l := x1) (fl := true) (n := x0) (s := 1)), .b (tbE h1), .o 13 (fun _ => o_slice_os (enc := (encI .u8)) (l := x1) (fl := true) (n := x0) (s := 1) none (some (.i64, (wi (((x1.length : Nat) : Int) - 2)))) (tbE h2)), .c (crc_Seal_o_t1 (x0 && x1.isEmpty) (sub x1 0 (wi (((x1.length : Nat) : Int) - 2))) (tbE h3) (tbE h4)), .y (mm := [(Blk.flat 5 1 (List.map (encI .u8) (crc_Seal_o_e0 (sub x1 0 (wi (((x1.length : Nat) : Int) - 2))))) false)]) (args := [(V.sl 0 ((sub x1 0 (wi (((x1.length : Nat) : Int) - 2))).length + [(IntKind.u8.wrap (shrI .i64 (crc_More_io_r0_0 65535 (sub x1 0 (wi (((x1.length : Nat) : Int) - 2)))) 8)), (IntKind.u8.wrap ((crc_More_io_r0_0 65535 (sub x1 0 (wi (((x1.length : Nat) : Int) - 2))))))].length) 0 ((sub x1 0 (wi (((x1.length : Nat) : Int) - 2))).length + [(IntKind.u8.wrap (shrI .i64 (crc_More_io_r0_0 65535 (sub x1 0 (wi (((x1.length : Nat) : Int) - 2)))) 8)), (IntKind.u8.wrap ((crc_More_io_r0_0 65535 (sub x1 0 (wi (((x1.length : Nat) : Int) - 2))))))].length)), (V.d (slD (encI .u8) true 1 x0 x1))]) (args1 := [(V.d (.rs true 1 (List.map (encI .u8) (crc_Seal_o_e0 (sub x1 0 (wi (((x1.length : Nat) : Int) - 2))))) false)), (V.d (slD (encI .u8) true 1 x0 x1))]) (byvals_cons (byval_sl (enc := (encI .u8)) (l := (crc_Seal_o_e0 (sub x1 0 (wi (((x1.length : Nat) : Int) - 2))))) (e := 5) (s := 1) (p := false) (n := ((sub x1 0 (wi (((x1.length : Nat) : Int) - 2))).length + [(IntKind.u8.wrap (shrI .i64 (crc_More_io_r0_0 65535 (sub x1 0 (wi (((x1.length : Nat) : Int) - 2)))) 8)), (IntKind.u8.wrap ((crc_More_io_r0_0 65535 (sub x1 0 (wi (((x1.length : Nat) : Int) - 2))))))].length)) (crc_Seal_o_t1_len0 (sub x1 0 (wi (((x1.length : Nat) : Int) - 2)))) (by kernel_rfl)) (by kernel_rfl)), .c (slices_Equal_byte_oo_t0 false (crc_Open_o_e1 x1) x0 x1 (tbE h5)), .b (notF (tbE h6))] (by kernel_rfl)
            · cases h7 : tb (slices_Clone_byte_o_c0 (x0 && x1.isEmpty) (sub x1 0 (wi (((x1.length : Nat) : Int) - 2))))
              · cases h8 : tb (slices_Clone_byte_o_c1 (x0 && x1.isEmpty) (sub x1 0 (wi (((x1.length : Nat) : Int) - 2))))
                · intro g0
                  exact absurd g0 ft
                · intro g0
                  exact absurd g0 ft
              · intro g0
                exact w33 [.o 6 (fun _ => o_len_os (enc := (encI .u8)) (l := x1) (fl := true) (n := x0) (s := 1)), .b (tbE h1), .o 13 (fun _ => o_slice_os (enc := (encI .u8)) (l := x1) (fl := true) (n := x0) (s := 1) none (some (.i64, (wi (((x1.length : Nat) : Int) - 2)))) (tbE h2)), .c (crc_Seal_o_t1 (x0 && x1.isEmpty) (sub x1 0 (wi (((x1.length : Nat) : Int) - 2))) (tbE h3) (tbE h4)), .y (mm := [(Blk.flat 5 1 (List.map (encI .u8) (crc_Seal_o_e0 (sub x1 0 (wi (((x1.length : Nat) : Int) - 2))))) false)]) (args := [(V.sl 0 ((sub x1 0 (wi (((x1.length : Nat) : Int) - 2))).length + [(IntKind.u8.wrap (shrI .i64 (crc_More_io_r0_0 65535 (sub x1 0 (wi (((x1.length : Nat) : Int) - 2)))) 8)), (IntKind.u8.wrap ((crc_More_io_r0_0 65535 (sub x1 0 (wi (((x1.length : Nat) : Int) - 2))))))].length) 0 ((sub x1 0 (wi (((x1.length : Nat) : Int) - 2))).length + [(IntKind.u8.wrap (shrI .i64 (crc_More_io_r0_0 65535 (sub x1 0 (wi (((x1.length : Nat) : Int) - 2)))) 8)), (IntKind.u8.wrap ((crc_More_io_r0_0 65535 (sub x1 0 (wi (((x1.length : Nat) : Int) - 2))))))].length)), (V.d (slD (encI .u8) true 1 x0 x1))]) (args1 := [(V.d (.rs true 1 (List.map (encI .u8) (crc_Seal_o_e0 (sub x1 0 (wi (((x1.length : Nat) : Int) - 2))))) false)), (V.d (slD (encI .u8) true 1 x0 x1))]) (byvals_cons (byval_sl (enc := (encI .u8)) (l := (crc_Seal_o_e0 (sub x1 0 (wi (((x1.length : Nat) : Int) - 2))))) (e := 5) (s := 1) (p := false) (n := ((sub x1 0 (wi (((x1.length : Nat) : Int) - 2))).length + [(IntKind.u8.wrap (shrI .i64 (crc_More_io_r0_0 65535 (sub x1 0 (wi (((x1.length : Nat) : Int) - 2)))) 8)), (IntKind.u8.wrap ((crc_More_io_r0_0 65535 (sub x1 0 (wi (((x1.length : Nat) : Int) - 2))))))].length)) (crc_Seal_o_t1_len0 (sub x1 0 (wi (((x1.length : Nat) : Int) - 2)))) (by kernel_rfl)) (by kernel_rfl)), .c (slices_Equal_byte_oo_t0 false (crc_Open_o_e1 x1) x0 x1 (tbE h5)), .b (notT (tbE h6)), .o 21 (fun _ => o_slice_os (enc := (encI .u8)) (l := x1) (fl := true) (n := x0) (s := 1) none (some (.i64, (wi (((x1.length : Nat) : Int) - 2)))) (tbE h2)), .c (slices_Clone_byte_o_t0 (x0 && x1.isEmpty) (sub x1 0 (wi (((x1.length : Nat) : Int) - 2))) (tbE h7))] (by kernel_rfl)
      · cases h4 : tb (slices_Equal_byte_oo_c0 (crc_Open_o_e0 x1) x1)
        · intro g0
          exact absurd g0 ft
        · cases h5 : tb (slices_Equal_byte_oo_r0_0 (crc_Open_o_e0 x1) x1)
          · intro g0
            exact w33 [.o 6 (fun _ => o_len_os (enc := (encI .u8)) (l := x1) (fl := true) (n := x0) (s := 1)), .b (tbE h1), .o 13 (fun _ => o_slice_os (enc := (encI .u8)) (l := x1) (fl := true) (n := x0) (s := 1) none (some (.i64, (wi (((x1.length : Nat) : Int) - 2)))) (tbE h2)), .c (crc_Seal_o_t0 (x0 && x1.isEmpty) (sub x1 0 (wi (((x1.length : Nat) : Int) - 2))) (tbE h3)), .c (slices_Equal_byte_oo_t0 false (crc_Open_o_e0 x1) x0 x1 (tbE h4)), .b (notF (tbE h5))] (by kernel_rfl)
          · cases h6 : tb (slices_Clone_byte_o_c0 (x0 && x1.isEmpty) (sub x1 0 (wi (((x1.length : Nat) : Int) - 2))))
            · cases h7 : tb (slices_Clone_byte_o_c1 (x0 && x1.isEmpty) (sub x1 0 (wi (((x1.length : Nat) : Int) - 2))))
              · intro g0
                exact absurd g0 ft
              · intro g0
                exact absurd g0 ft
            · intro g0
              exact w33 [.o 6 (fun _ => o_len_os (enc := (encI .u8)) (l := x1) (fl := true) (n := x0) (s := 1)), .b (tbE h1), .o 13 (fun _ => o_slice_os (enc := (encI .u8)) (l := x1) (fl := true) (n := x0) (s := 1) none (some (.i64, (wi (((x1.length : Nat) : Int) - 2)))) (tbE h2)), .c (crc_Seal_o_t0 (x0 && x1.isEmpty) (sub x1 0 (wi (((x1.length : Nat) : Int) - 2))) (tbE h3)), .c (slices_Equal_byte_oo_t0 false (crc_Open_o_e0 x1) x0 x1 (tbE h4)), .b (notT (tbE h5)), .o 21 (fun _ => o_slice_os (enc := (encI .u8)) (l := x1) (fl := true) (n := x0) (s := 1) none (some (.i64, (wi (((x1.length : Nat) : Int) - 2)))) (tbE h2)), .c (slices_Clone_byte_o_t0 (x0 && x1.isEmpty) (sub x1 0 (wi (((x1.length : Nat) : Int) - 2))) (tbE h6))] (by kernel_rfl)
  · intro g0
    exact w33 [.o 6 (fun _ => o_len_os (enc := (encI .u8)) (l := x1) (fl := true) (n := x0) (s := 1)), .b (tbE h1)] (by kernel_rfl)

theorem crc_Open_o_t1 (x0 : Bool) (x1 : List Int) : crc_Open_o_c0 x0 x1 = false → crc_Open_o_c1 x0 x1 = true → cl E0 33 [(V.d (slD (encI .u8) true 1 x0 x1))] [] = some ([(V.sl 0 ((sub x1 0 (wi (((x1.length : Nat) : Int) - 2))).length) 0 ((sub x1 0 (wi (((x1.length : Nat) : Int) - 2))).length)), (V.d (.bool true))], [(Blk.flat 5 1 (List.map (encI .u8) (sub x1 0 (wi (((x1.length : Nat) : Int) - 2)))) false)]) := by
  unfold crc_Open_o_c0 crc_Open_o_c1
  cases h1 : tb (decide ((wi (((x1.length : Nat) : Int) - 2)) < 0))
  · cases h2 : tb (ins x1.length 0 (wi (((x1.length : Nat) : Int) - 2)))
    · intro g0 g1
      exact absurd g1 ft
    · cases h3 : tb (crc_Seal_o_c0 (x0 && x1.isEmpty) (sub x1 0 (wi (((x1.length : Nat) : Int) - 2))))
      · cases h4 : tb (crc_Seal_o_c1 (x0 && x1.isEmpty) (sub x1 0 (wi (((x1.length : Nat) : Int) - 2))))
        · intro g0 g1
          exact absurd g1 ft
        · cases h5 : tb (slices_Equal_byte_oo_c0 (crc_Open_o_e1 x1) x1)
          · intro g0 g1
            exact absurd g1 ft
          · cases h6 : tb (slices_Equal_byte_oo_r0_0 (crc_Open_o_e1 x1) x1)
            · intro g0 g1
              exact absurd g0 tf
            · cases h7 : tb (slices_Clone_byte_o_c0 (x0 && x1.isEmpty) (sub x1 0 (wi (((x1.length : Nat) : Int) - 2))))
              · cases h8 : tb (slices_Clone_byte_o_c1 (x0 && x1.isEmpty) (sub x1 0 (wi (((x1.length : Nat) : Int) - 2))))
                · intro g0 g1
                  exact absurd g1 ft
                · intro g0 g1
                  exact w33 [.o 6 (fun _ => o_len_os (enc := (encI .u8)) (l := x1) (fl := true) (n := x0) (s := 1)), .b (tbE h1), .o 13 (fun _ => o_slice_os (enc := (encI .u8)) (l := x1) (fl := true) (n := x0) (s := 1) none (some (.i64, (wi (((x1.length : Nat) : Int) - 2)))) (tbE h2)), .c (crc_Seal_o_t1 (x0 && x1.isEmpty) (sub x1 0 (wi (((x1.length : Nat) : Int) - 2))) (tbE h3) (tbE h4)), .y (mm := [(Blk.flat 5 1 (List.map (encI .u8) (crc_Seal_o_e0 (sub x1 0 (wi (((x1.length : Nat) : Int) - 2))))) false)]) (args := [(V.sl 0 ((sub x1 0 (wi (((x1.length : Nat) : Int) - 2))).length + [(IntKind.u8.wrap (shrI .i64 (crc_More_io_r0_0 65535 (sub x1 0 (wi (((x1.length : Nat) : Int) - 2)))) 8)), (IntKind.u8.wrap ((crc_More_io_r0_0 65535 (sub x1 0 (wi (((x1.length : Nat) : Int) - 2))))))].length) 0 ((sub x1 0 (wi (((x1.length : Nat) : Int) - 2))).length + [(IntKind.u8.wrap (shrI .i64 (crc_More_io_r0_0 65535 (sub x1 0 (wi (((x1.length : Nat) : Int) - 2)))) 8)), (IntKind.u8.wrap ((crc_More_io_r0_0 65535 (sub x1 0 (wi (((x1.length : Nat) : Int) - 2))))))].length)), (V.d (slD (encI .u8) true 1 x0 x1))]) (args1 := [(V.d (.rs true 1 (List.map (encI .u8) (crc_Seal_o_e0 (sub x1 0 (wi (((x1.length : Nat) : Int) - 2))))) false)), (V.d (slD (encI .u8) true 1 x0 x1))]) (byvals_cons (byval_sl (enc := (encI .u8)) (l := (crc_Seal_o_e0 (sub x1 0 (wi (((x1.length : Nat) : Int) - 2))))) (e := 5) (s := 1) (p := false) (n := ((sub x1 0 (wi (((x1.length : Nat) : Int) - 2))).length + [(IntKind.u8.wrap (shrI .i64 (crc_More_io_r0_0 65535 (sub x1 0 (wi (((x1.length : Nat) : Int) - 2)))) 8)), (IntKind.u8.wrap ((crc_More_io_r0_0 65535 (sub x1 0 (wi (((x1.length : Nat) : Int) - 2))))))].length)) (crc_Seal_o_t1_len0 (sub x1 0 (wi (((x1.length : Nat) : Int) - 2)))) (by kernel_rfl)) (by kernel_rfl)), .c (slices_Equal_byte_oo_t0 false (crc_Open_o_e1 x1) x0 x1 (tbE h5)), .b (notT (tbE h6)), .o 21 (fun _ => o_slice_os (enc := (encI .u8)) (l := x1) (fl := true) (n := x0) (s := 1) none (some (.i64, (wi (((x1.length : Nat) : Int) - 2)))) (tbE h2)), .c (slices_Clone_byte_o_t1 (x0 && x1.isEmpty) (sub x1 0 (wi (((x1.length : Nat) : Int) - 2))) (tbE h7) (tbE h8))] (by kernel_rfl)
              · intro g0 g1
                exact absurd g0 tf
      · cases h4 : tb (slices_Equal_byte_oo_c0 (crc_Open_o_e0 x1) x1)
        · intro g0 g1
          exact absurd g1 ft
        · cases h5 : tb (slices_Equal_byte_oo_r0_0 (crc_Open_o_e0 x1) x1)
          · intro g0 g1
            exact absurd g0 tf
          · cases h6 : tb (slices_Clone_byte_o_c0 (x0 && x1.isEmpty) (sub x1 0 (wi (((x1.length : Nat) : Int) - 2))))
            · cases h7 : tb (slices_Clone_byte_o_c1 (x0 && x1.isEmpty) (sub x1 0 (wi (((x1.length : Nat) : Int) - 2))))
              · intro g0 g1
                exact absurd g1 ft
              · intro g0 g1
                exact w33 [.o 6 (fun _ => o_len_os (enc := (encI .u8)) (l := x1) (fl := true) (n := x0) (s := 1)), .b (tbE h1), .o 13 (fun _ => o_slice_os (enc := (encI .u8)) (l := x1) (fl := true) (n := x0) (s := 1) none (some (.i64, (wi (((x1.length : Nat) : Int) - 2)))) (tbE h2)), .c (crc_Seal_o_t0 (x0 && x1.isEmpty) (sub x1 0 (wi (((x1.length : Nat) : Int) - 2))) (tbE h3)), .c (slices_Equal_byte_oo_t0 false (crc_Open_o_e0 x1) x0 x1 (tbE h4)), .b (notT (tbE h5)), .o 21 (fun _ => o_slice_os (enc := (encI .u8)) (l := x1) (fl := true) (n := x0) (s := 1) none (some (.i64, (wi (((x1.length : Nat) : Int) - 2)))) (tbE h2)), .c (slices_Clone_byte_o_t1 (x0 && x1.isEmpty) (sub x1 0 (wi (((x1.length : Nat) : Int) - 2))) (tbE h6) (tbE h7))] (by kernel_rfl)
            · intro g0 g1
              exact absurd g0 tf
  · intro g0 g1
    exact absurd g0 tf

end Go.Proofs.Ytgalchmjpfmemaa.Den

namespace Go.Proofs.Ytgalchmjpfmemaa.Den
open Go Go.Proofs
set_option maxRecDepth 100000
set_option maxHeartbeats 4000000
set_option linter.unusedVariables false
set_option linter.unusedSimpArgs false

theorem law03_alive_t0 : cl E0 32 [] [] = some ([(V.d (.bool true))], []) := cl_of (n := 60) (by kernel_rfl)

end Go.Proofs.Ytgalchmjpfmemaa.Den

namespace Go.Proofs.Ytgalchmjpfmemaa.Den
open Go Go.Proofs
set_option maxRecDepth 100000
set_option maxHeartbeats 4000000
set_option linter.unusedVariables false
set_option linter.unusedSimpArgs false

structure ref03_cross_ii_L0_s0 where
  c0 : Int
  c1 : Int
  c2 : Int
  c3 : Int
  c4 : Int
  deriving Inhabited

def ref03_cross_ii_L0_enc (x0 : Int) (x1 : Int) (x2 : Int) (x3 : Int) (x4 : Int) (s0 : ref03_cross_ii_L0_s0) : List V × Mem := ([(V.d (.int .i64 s0.c0)), (V.d (.int .i64 s0.c1)), (V.d (.int .i64 s0.c2)), (V.d (.int .i64 s0.c3)), (V.d (.int .i64 s0.c4))], [])

def ref03_cross_ii_L0_sel  (s0 : ref03_cross_ii_L0_s0) : Bool := (bif tb (decide (s0.c4 < 16)) then true else false)

def ref03_cross_ii_L0_nx  (s0 : ref03_cross_ii_L0_s0) : ref03_cross_ii_L0_s0 := (bif tb (((remI .i64 s0.c2 2) : Int) != (remI .i64 s0.c3 2)) then ⟨(wi (s0.c0 + s0.c1)), (wi (2 * s0.c1)), (quoI .i64 s0.c2 2), (quoI .i64 s0.c3 2), (wi (s0.c4 + 1))⟩ else ⟨s0.c0, (wi (2 * s0.c1)), (quoI .i64 s0.c2 2), (quoI .i64 s0.c3 2), (wi (s0.c4 + 1))⟩)

def ref03_cross_ii_L0_ok  (s0 : ref03_cross_ii_L0_s0) : Bool := (itS (ref03_cross_ii_L0_sel ) (ref03_cross_ii_L0_nx ) bound s0).isSome
def ref03_cross_ii_L0_end  (s0 : ref03_cross_ii_L0_s0) : ref03_cross_ii_L0_s0 := (itS (ref03_cross_ii_L0_sel ) (ref03_cross_ii_L0_nx ) bound s0).getD default

theorem ref03_cross_ii_L0_go (x0 : Int) (x1 : Int) (x2 : Int) (x3 : Int) (x4 : Int) (s0 : ref03_cross_ii_L0_s0) : ref03_cross_ii_L0_sel  s0 = true → (roundG (runC E0 (cl E0) L70_0) [5, 6, 7, 8, 9] [5] 0) (ref03_cross_ii_L0_enc x0 x1 x2 x3 x4 s0) = some (.normal, ref03_cross_ii_L0_enc x0 x1 x2 x3 x4 (ref03_cross_ii_L0_nx  s0)) := by
  unfold ref03_cross_ii_L0_sel ref03_cross_ii_L0_nx
  cases h1 : tb (decide (s0.c4 < 16))
  · intro g0
    exact absurd g0 ft
  · cases h2 : tb (((remI .i64 s0.c2 2) : Int) != (remI .i64 s0.c3 2))
    · intro _
      exact round_walk [.b (tbE h1), .b (tbE h2)] (by kernel_rfl)
    · intro _
      exact round_walk [.b (tbE h1), .b (tbE h2)] (by kernel_rfl)

theorem ref03_cross_ii_L0_x0 (x0 : Int) (x1 : Int) (x2 : Int) (x3 : Int) (x4 : Int) (s0 : ref03_cross_ii_L0_s0) : ref03_cross_ii_L0_sel  s0 = false → (roundG (runC E0 (cl E0) L70_0) [5, 6, 7, 8, 9] [5] 0) (ref03_cross_ii_L0_enc x0 x1 x2 x3 x4 s0) = some ((.exit 0), ([(V.d (.int .i64 s0.c0))], [])) := by
  unfold ref03_cross_ii_L0_sel
  cases h1 : tb (decide (s0.c4 < 16))
  · intro g0
    exact round_walk [.b (tbE h1)] (by kernel_rfl)
  · cases h2 : tb (((remI .i64 s0.c2 2) : Int) != (remI .i64 s0.c3 2))
    · intro g0
      exact absurd g0 tf
    · intro g0
      exact absurd g0 tf

theorem ref03_cross_ii_L0_f0_0 (x0 : Int) (x1 : Int) (x2 : Int) (x3 : Int) (x4 : Int) (s : ref03_cross_ii_L0_s0) (hok : ref03_cross_ii_L0_ok  s = true) : loopG (roundG (runC E0 (cl E0) L70_0) [5, 6, 7, 8, 9] [5] 0) bound (ref03_cross_ii_L0_enc x0 x1 x2 x3 x4 s) = some ((.exit 0), ([(V.d (.int .i64 ((ref03_cross_ii_L0_end  s).c0)))], [])) := by
  have e : itS (ref03_cross_ii_L0_sel ) (ref03_cross_ii_L0_nx ) bound s = some (ref03_cross_ii_L0_end  s) := itS_get hok
  have f := itS_false e
  exact loop_it (ref03_cross_ii_L0_go x0 x1 x2 x3 x4) bound s _ _ _ e (fun h => by cases h) (ref03_cross_ii_L0_x0 x0 x1 x2 x3 x4 (ref03_cross_ii_L0_end  s) f )

def ref03_cross_ii_e0 (x0 : Int) (x1 : Int) : ref03_cross_ii_L0_s0 := ref03_cross_ii_L0_end  (⟨0, 1, x0, x1, 0⟩ : ref03_cross_ii_L0_s0)

def ref03_cross_ii_c0 (x0 : Int) (x1 : Int) : Bool := (bif tb (ref03_cross_ii_L0_ok  (⟨0, 1, x0, x1, 0⟩ : ref03_cross_ii_L0_s0)) then true else false)

theorem ref03_cross_ii_t0 (x0 : Int) (x1 : Int) : ref03_cross_ii_c0 x0 x1 = true → cl E0 70 [(V.d (.int .i64 x0)), (V.d (.int .i64 x1))] [] = some ([(V.d (.int .i64 ((ref03_cross_ii_e0 x0 x1).c0)))], []) := by
  unfold ref03_cross_ii_c0
  cases h1 : tb (ref03_cross_ii_L0_ok  (⟨0, 1, x0, x1, 0⟩ : ref03_cross_ii_L0_s0))
  · intro g0
    exact absurd g0 ft
  · intro g0
    exact w70 [.l (ref03_cross_ii_L0_f0_0 0 1 x0 x1 0 (⟨0, 1, x0, x1, 0⟩ : ref03_cross_ii_L0_s0) (tbE h1))] (by kernel_rfl)

structure ref03_More_io_L0_s0 where
  c2 : Int
  c4 : Int
  deriving Inhabited

def ref03_More_io_L0_enc (x0 : Bool) (x1 : List Int) (x2 : Int) (x3 : Int) (x4 : Int) (s0 : ref03_More_io_L0_s0) : List V × Mem := ([(V.d (slD (encI .u8) true 1 x0 x1)), (V.d (.int .i64 s0.c2)), (V.d (.int .i64 x3)), (V.d (.int .i64 s0.c4))], [])

def ref03_More_io_L0_sel  (s0 : ref03_More_io_L0_s0) : Bool := (bif tb (decide (s0.c4 < 8)) then (bif tb (decide (32768 ≤ s0.c2)) then (bif tb (ref03_cross_ii_c0 (remI .i64 (wi (2 * s0.c2)) 65536) 4129) then true else false) else true) else false)

def ref03_More_io_L0_nx  (s0 : ref03_More_io_L0_s0) : ref03_More_io_L0_s0 := (bif tb (decide (32768 ≤ s0.c2)) then ⟨((ref03_cross_ii_e0 (remI .i64 (wi (2 * s0.c2)) 65536) 4129).c0), (wi (s0.c4 + 1))⟩ else ⟨(remI .i64 (wi (2 * s0.c2)) 65536), (wi (s0.c4 + 1))⟩)

def ref03_More_io_L0_ok  (s0 : ref03_More_io_L0_s0) : Bool := (itS (ref03_More_io_L0_sel ) (ref03_More_io_L0_nx ) bound s0).isSome
def ref03_More_io_L0_end  (s0 : ref03_More_io_L0_s0) : ref03_More_io_L0_s0 := (itS (ref03_More_io_L0_sel ) (ref03_More_io_L0_nx ) bound s0).getD default

theorem ref03_More_io_L0_go (x0 : Bool) (x1 : List Int) (x2 : Int) (x3 : Int) (x4 : Int) (s0 : ref03_More_io_L0_s0) : ref03_More_io_L0_sel  s0 = true → (roundG (runC E0 (cl E0) L41_0) [1, 5, 6, 7] [1, 5, 6] 0) (ref03_More_io_L0_enc x0 x1 x2 x3 x4 s0) = some (.normal, ref03_More_io_L0_enc x0 x1 x2 x3 x4 (ref03_More_io_L0_nx  s0)) := by
  unfold ref03_More_io_L0_sel ref03_More_io_L0_nx
  cases h1 : tb (decide (s0.c4 < 8))
  · intro g0
    exact absurd g0 ft
  · cases h2 : tb (decide (32768 ≤ s0.c2))
    · intro _
      exact round_walk [.b (tbE h1), .b (tbE h2)] (by kernel_rfl)
    · cases h3 : tb (ref03_cross_ii_c0 (remI .i64 (wi (2 * s0.c2)) 65536) 4129)
      · intro g0
        exact absurd g0 ft
      · intro _
        exact round_walk [.b (tbE h1), .b (tbE h2), .c (ref03_cross_ii_t0 (remI .i64 (wi (2 * s0.c2)) 65536) 4129 (tbE h3))] (by kernel_rfl)

def ref03_More_io_L0_c0 (s0 : ref03_More_io_L0_s0) : Bool := (bif tb (decide (s0.c4 < 8)) then false else true)

theorem ref03_More_io_L0_x0 (x0 : Bool) (x1 : List Int) (x2 : Int) (x3 : Int) (x4 : Int) (s0 : ref03_More_io_L0_s0) : ref03_More_io_L0_sel  s0 = false → ref03_More_io_L0_c0 s0 = true → (roundG (runC E0 (cl E0) L41_0) [1, 5, 6, 7] [1, 5, 6] 0) (ref03_More_io_L0_enc x0 x1 x2 x3 x4 s0) = some ((.exit 2), ([(V.d (slD (encI .u8) true 1 x0 x1)), (V.d (.int .i64 s0.c2)), (V.d (.int .i64 x3))], [])) := by
  unfold ref03_More_io_L0_sel ref03_More_io_L0_c0
  cases h1 : tb (decide (s0.c4 < 8))
  · intro g0 g1
    exact round_walk [.b (tbE h1)] (by kernel_rfl)
  · cases h2 : tb (decide (32768 ≤ s0.c2))
    · intro g0 g1
      exact absurd g0 tf
    · cases h3 : tb (ref03_cross_ii_c0 (remI .i64 (wi (2 * s0.c2)) 65536) 4129)
      · intro g0 g1
        exact absurd g1 ft
      · intro g0 g1
        exact absurd g0 tf

theorem ref03_More_io_L0_f0_0 (x0 : Bool) (x1 : List Int) (x2 : Int) (x3 : Int) (x4 : Int) (s : ref03_More_io_L0_s0) (hok : ref03_More_io_L0_ok  s = true) (c0 : ref03_More_io_L0_c0 (ref03_More_io_L0_end  s) = true) : loopG (roundG (runC E0 (cl E0) L41_0) [1, 5, 6, 7] [1, 5, 6] 0) bound (ref03_More_io_L0_enc x0 x1 x2 x3 x4 s) = some ((.exit 2), ([(V.d (slD (encI .u8) true 1 x0 x1)), (V.d (.int .i64 ((ref03_More_io_L0_end  s).c2))), (V.d (.int .i64 x3))], [])) := by
  have e : itS (ref03_More_io_L0_sel ) (ref03_More_io_L0_nx ) bound s = some (ref03_More_io_L0_end  s) := itS_get hok
  have f := itS_false e
  exact loop_it (ref03_More_io_L0_go x0 x1 x2 x3 x4) bound s _ _ _ e (fun h => by cases h) (ref03_More_io_L0_x0 x0 x1 x2 x3 x4 (ref03_More_io_L0_end  s) f c0)

structure ref03_More_io_L1_s0 where
  c2 : Int
  c3 : Int
  deriving Inhabited

def ref03_More_io_L1_enc (x0 : Bool) (x1 : List Int) (x2 : Int) (x3 : Int) (s0 : ref03_More_io_L1_s0) : List V × Mem := ([(V.d (slD (encI .u8) true 1 x0 x1)), (V.d (.int .i64 s0.c2)), (V.d (.int .i64 s0.c3))], [])

def ref03_More_io_L1_h0_e0 (x1 : List Int) (s0 : ref03_More_io_L1_s0) : Int := ((ref03_cross_ii_e0 s0.c2 (wi (256 * (wi (gt x1 s0.c3))))).c0)

def ref03_More_io_L1_h0_e1 (x1 : List Int) (s0 : ref03_More_io_L1_s0) : ref03_More_io_L0_s0 := ref03_More_io_L0_end  (⟨(ref03_More_io_L1_h0_e0 x1 s0), 0⟩ : ref03_More_io_L0_s0)

def ref03_More_io_L1_sel (x1 : List Int) (s0 : ref03_More_io_L1_s0) : Bool := (bif tb (decide (s0.c3 < ((x1.length : Nat) : Int))) then (bif tb (inb x1.length s0.c3) then (bif tb (ref03_cross_ii_c0 s0.c2 (wi (256 * (wi (gt x1 s0.c3))))) then (bif tb (ref03_More_io_L0_ok  (⟨(ref03_More_io_L1_h0_e0 x1 s0), 0⟩ : ref03_More_io_L0_s0)) then (bif tb (ref03_More_io_L0_c0 (ref03_More_io_L1_h0_e1 x1 s0)) then true else false) else false) else false) else false) else false)

def ref03_More_io_L1_nx (x1 : List Int) (s0 : ref03_More_io_L1_s0) : ref03_More_io_L1_s0 := ⟨((ref03_More_io_L1_h0_e1 x1 s0).c2), (wi (s0.c3 + 1))⟩

def ref03_More_io_L1_ok (x1 : List Int) (s0 : ref03_More_io_L1_s0) : Bool := (itS (ref03_More_io_L1_sel x1) (ref03_More_io_L1_nx x1) bound s0).isSome
def ref03_More_io_L1_end (x1 : List Int) (s0 : ref03_More_io_L1_s0) : ref03_More_io_L1_s0 := (itS (ref03_More_io_L1_sel x1) (ref03_More_io_L1_nx x1) bound s0).getD default

theorem ref03_More_io_L1_go (x0 : Bool) (x1 : List Int) (x2 : Int) (x3 : Int) (s0 : ref03_More_io_L1_s0) : ref03_More_io_L1_sel x1 s0 = true → (roundG (runC E0 (cl E0) L41_1) [1, 5, 6] [5] 0) (ref03_More_io_L1_enc x0 x1 x2 x3 s0) = some (.normal, ref03_More_io_L1_enc x0 x1 x2 x3 (ref03_More_io_L1_nx x1 s0)) := by
  unfold ref03_More_io_L1_sel ref03_More_io_L1_nx
  cases h1 : tb (decide (s0.c3 < ((x1.length : Nat) : Int)))
  · intro g0
    exact absurd g0 ft
  · cases h2 : tb (inb x1.length s0.c3)
    · intro g0
      exact absurd g0 ft
    · cases h3 : tb (ref03_cross_ii_c0 s0.c2 (wi (256 * (wi (gt x1 s0.c3)))))
      · intro g0
        exact absurd g0 ft
      · cases h4 : tb (ref03_More_io_L0_ok  (⟨(ref03_More_io_L1_h0_e0 x1 s0), 0⟩ : ref03_More_io_L0_s0))
        · intro g0
          exact absurd g0 ft
        · cases h5 : tb (ref03_More_io_L0_c0 (ref03_More_io_L1_h0_e1 x1 s0))
          · intro g0
            exact absurd g0 ft
          · intro _
            exact round_walk [.o 18 (fun _ => o_len_os (enc := (encI .u8)) (l := x1) (fl := true) (n := x0) (s := 1)), .b (tbE h1), .o 25 (fun _ => o_idx_os (enc := (encI .u8)) (l := x1) (fl := true) (n := x0) (s := 1) (k := .i64) (tbE h2)), .c (ref03_cross_ii_t0 s0.c2 (wi (256 * (wi (gt x1 s0.c3)))) (tbE h3)), .l (ref03_More_io_L0_f0_0 x0 x1 (ref03_More_io_L1_h0_e0 x1 s0) s0.c3 0 (⟨(ref03_More_io_L1_h0_e0 x1 s0), 0⟩ : ref03_More_io_L0_s0) (tbE h4) (tbE h5))] (by kernel_rfl)

def ref03_More_io_L1_c0 (x1 : List Int) (s0 : ref03_More_io_L1_s0) : Bool := (bif tb (decide (s0.c3 < ((x1.length : Nat) : Int))) then false else true)

theorem ref03_More_io_L1_x0 (x0 : Bool) (x1 : List Int) (x2 : Int) (x3 : Int) (s0 : ref03_More_io_L1_s0) : ref03_More_io_L1_sel x1 s0 = false → ref03_More_io_L1_c0 x1 s0 = true → (roundG (runC E0 (cl E0) L41_1) [1, 5, 6] [5] 0) (ref03_More_io_L1_enc x0 x1 x2 x3 s0) = some ((.exit 0), ([(V.d (.int .i64 s0.c2))], [])) := by
  unfold ref03_More_io_L1_sel ref03_More_io_L1_c0
  cases h1 : tb (decide (s0.c3 < ((x1.length : Nat) : Int)))
  · intro g0 g1
    exact round_walk [.o 18 (fun _ => o_len_os (enc := (encI .u8)) (l := x1) (fl := true) (n := x0) (s := 1)), .b (tbE h1)] (by kernel_rfl)
  · cases h2 : tb (inb x1.length s0.c3)
    · intro g0 g1
      exact absurd g1 ft
    · cases h3 : tb (ref03_cross_ii_c0 s0.c2 (wi (256 * (wi (gt x1 s0.c3)))))
      · intro g0 g1
        exact absurd g1 ft
      · cases h4 : tb (ref03_More_io_L0_ok  (⟨(ref03_More_io_L1_h0_e0 x1 s0), 0⟩ : ref03_More_io_L0_s0))
        · intro g0 g1
          exact absurd g1 ft
        · cases h5 : tb (ref03_More_io_L0_c0 (ref03_More_io_L1_h0_e1 x1 s0))
          · intro g0 g1
            exact absurd g1 ft
          · intro g0 g1
            exact absurd g0 tf

theorem ref03_More_io_L1_f0_0 (x0 : Bool) (x1 : List Int) (x2 : Int) (x3 : Int) (s : ref03_More_io_L1_s0) (hok : ref03_More_io_L1_ok x1 s = true) (c0 : ref03_More_io_L1_c0 x1 (ref03_More_io_L1_end x1 s) = true) : loopG (roundG (runC E0 (cl E0) L41_1) [1, 5, 6] [5] 0) bound (ref03_More_io_L1_enc x0 x1 x2 x3 s) = some ((.exit 0), ([(V.d (.int .i64 ((ref03_More_io_L1_end x1 s).c2)))], [])) := by
  have e : itS (ref03_More_io_L1_sel x1) (ref03_More_io_L1_nx x1) bound s = some (ref03_More_io_L1_end x1 s) := itS_get hok
  have f := itS_false e
  exact loop_it (ref03_More_io_L1_go x0 x1 x2 x3) bound s _ _ _ e (fun h => by cases h) (ref03_More_io_L1_x0 x0 x1 x2 x3 (ref03_More_io_L1_end x1 s) f c0)

def ref03_More_io_c0 (x0 : Int) (x2 : List Int) : Bool := (bif tb (decide (x0 < 0)) then true else (bif tb (decide (65535 < x0)) then true else (bif tb (ref03_More_io_L1_ok x2 (⟨x0, 0⟩ : ref03_More_io_L1_s0)) then (bif tb (ref03_More_io_L1_c0 x2 (ref03_More_io_L1_end x2 (⟨x0, 0⟩ : ref03_More_io_L1_s0))) then true else false) else false)))

def ref03_More_io_r0_0 (x0 : Int) (x2 : List Int) : Int := (bif tb (decide (x0 < 0)) then 0 else (bif tb (decide (65535 < x0)) then 0 else ((ref03_More_io_L1_end x2 (⟨x0, 0⟩ : ref03_More_io_L1_s0)).c2)))

theorem ref03_More_io_t0 (x0 : Int) (x1 : Bool) (x2 : List Int) : ref03_More_io_c0 x0 x2 = true → cl E0 41 [(V.d (.int .i64 x0)), (V.d (slD (encI .u8) true 1 x1 x2))] [] = some ([(V.d (.int .i64 (ref03_More_io_r0_0 x0 x2)))], []) := by
  unfold ref03_More_io_c0 ref03_More_io_r0_0
  cases h1 : tb (decide (x0 < 0))
  · cases h2 : tb (decide (65535 < x0))
    · cases h3 : tb (ref03_More_io_L1_ok x2 (⟨x0, 0⟩ : ref03_More_io_L1_s0))
      · intro g0
        exact absurd g0 ft
      · cases h4 : tb (ref03_More_io_L1_c0 x2 (ref03_More_io_L1_end x2 (⟨x0, 0⟩ : ref03_More_io_L1_s0)))
        · intro g0
          exact absurd g0 ft
        · intro g0
          exact w41 [.b (tbE h1), .b (tbE h2), .l (ref03_More_io_L1_f0_0 x1 x2 x0 0 (⟨x0, 0⟩ : ref03_More_io_L1_s0) (tbE h3) (tbE h4))] (by kernel_rfl)
    · intro g0
      exact w41 [.b (tbE h1), .b (tbE h2)] (by kernel_rfl)
  · intro g0
    exact w41 [.b (tbE h1)] (by kernel_rfl)

def ref03_Sum_o_c0 (x1 : List Int) : Bool := (bif tb (ref03_More_io_c0 65535 x1) then true else false)

theorem ref03_Sum_o_t0 (x0 : Bool) (x1 : List Int) : ref03_Sum_o_c0 x1 = true → cl E0 39 [(V.d (slD (encI .u8) true 1 x0 x1))] [] = some ([(V.d (.int .i64 (ref03_More_io_r0_0 65535 x1)))], []) := by
  unfold ref03_Sum_o_c0
  cases h1 : tb (ref03_More_io_c0 65535 x1)
  · intro g0
    exact absurd g0 ft
  · intro g0
    exact w39 [.c (ref03_More_io_t0 65535 x0 x1 (tbE h1))] (by kernel_rfl)

def ref03_Open_o_e0 (x1 : List Int) : Int := quoI .i64 (ref03_More_io_r0_0 65535 (sub x1 0 (wi (((x1.length : Nat) : Int) - 2)))) 256

def ref03_Open_o_e1 (x1 : List Int) : Int := remI .i64 (ref03_More_io_r0_0 65535 (sub x1 0 (wi (((x1.length : Nat) : Int) - 2)))) 256

def ref03_Open_o_c0 (x1 : List Int) : Bool := (bif tb (decide (((x1.length : Nat) : Int) < 2)) then true else (bif tb (ins x1.length 0 (wi (((x1.length : Nat) : Int) - 2))) then (bif tb (ref03_Sum_o_c0 (sub x1 0 (wi (((x1.length : Nat) : Int) - 2)))) then (bif tb (inb x1.length (wi (((x1.length : Nat) : Int) - 2))) then (bif tb (((wi (gt x1 (wi (((x1.length : Nat) : Int) - 2)))) : Int) != (ref03_Open_o_e0 x1)) then true else (bif tb (inb x1.length (wi (((x1.length : Nat) : Int) - 1))) then (bif tb (((wi (gt x1 (wi (((x1.length : Nat) : Int) - 1)))) : Int) != (ref03_Open_o_e1 x1)) then true else false) else false)) else false) else false) else false))

def ref03_Open_o_c1 (x1 : List Int) : Bool := (bif tb (decide (((x1.length : Nat) : Int) < 2)) then false else (bif tb (ins x1.length 0 (wi (((x1.length : Nat) : Int) - 2))) then (bif tb (ref03_Sum_o_c0 (sub x1 0 (wi (((x1.length : Nat) : Int) - 2)))) then (bif tb (inb x1.length (wi (((x1.length : Nat) : Int) - 2))) then (bif tb (((wi (gt x1 (wi (((x1.length : Nat) : Int) - 2)))) : Int) != (ref03_Open_o_e0 x1)) then false else (bif tb (inb x1.length (wi (((x1.length : Nat) : Int) - 1))) then (bif tb (((wi (gt x1 (wi (((x1.length : Nat) : Int) - 1)))) : Int) != (ref03_Open_o_e1 x1)) then false else (bif tb (decide ((sub x1 0 (wi (((x1.length : Nat) : Int) - 2))).length * 1 ≤ 140737488355328)) then true else false)) else false)) else false) else false) else false))

theorem ref03_Open_o_t0 (x0 : Bool) (x1 : List Int) : ref03_Open_o_c0 x1 = true → cl E0 34 [(V.d (slD (encI .u8) true 1 x0 x1))] [] = some ([(V.d .nils), (V.d (.bool false))], []) := by
  unfold ref03_Open_o_c0
  cases h1 : tb (decide (((x1.length : Nat) : Int) < 2))
  · cases h2 : tb (ins x1.length 0 (wi (((x1.length : Nat) : Int) - 2)))
    · intro g0
      exact absurd g0 ft
    · cases h3 : tb (ref03_Sum_o_c0 (sub x1 0 (wi (((x1.length : Nat) : Int) - 2))))
      · intro g0
        exact absurd g0 ft
      · cases h4 : tb (inb x1.length (wi (((x1.length : Nat) : Int) - 2)))
        · intro g0
          exact absurd g0 ft
        · cases h5 : tb (((wi (gt x1 (wi (((x1.length : Nat) : Int) - 2)))) : Int) != (ref03_Open_o_e0 x1))
          · cases h6 : tb (inb x1.length (wi (((x1.length : Nat) : Int) - 1)))
            · intro g0
              exact absurd g0 ft
            · cases h7 : tb (((wi (gt x1 (wi (((x1.length : Nat) : Int) - 1)))) : Int) != (ref03_Open_o_e1 x1))
              · cases h8 : tb (decide ((sub x1 0 (wi (((x1.length : Nat) : Int) - 2))).length * 1 ≤ 140737488355328))
                · intro g0
                  exact absurd g0 ft
                · intro g0
                  exact absurd g0 ft
              · intro g0
                exact w34 [.o 6 (fun _ => o_len_os (enc := (encI .u8)) (l := x1) (fl := true) (n := x0) (s := 1)), .b (tbE h1), .o 10 (fun _ => o_len_os (enc := (encI .u8)) (l := x1) (fl := true) (n := x0) (s := 1)), .o 12 (fun _ => o_slice_os (enc := (encI .u8)) (l := x1) (fl := true) (n := x0) (s := 1) none (some (.i64, (wi (((x1.length : Nat) : Int) - 2)))) (tbE h2)), .c (ref03_Sum_o_t0 (x0 && x1.isEmpty) (sub x1 0 (wi (((x1.length : Nat) : Int) - 2))) (tbE h3)), .o 16 (fun _ => o_len_os (enc := (encI .u8)) (l := x1) (fl := true) (n := x0) (s := 1)), .o 18 (fun _ => o_idx_os (enc := (encI .u8)) (l := x1) (fl := true) (n := x0) (s := 1) (k := .i64) (tbE h4)), .b (tbE h5), .o 27 (fun _ => o_len_os (enc := (encI .u8)) (l := x1) (fl := true) (n := x0) (s := 1)), .o 29 (fun _ => o_idx_os (enc := (encI .u8)) (l := x1) (fl := true) (n := x0) (s := 1) (k := .i64) (tbE h6)), .b (tbE h7)] (by kernel_rfl)
          · intro g0
            exact w34 [.o 6 (fun _ => o_len_os (enc := (encI .u8)) (l := x1) (fl := true) (n := x0) (s := 1)), .b (tbE h1), .o 10 (fun _ => o_len_os (enc := (encI .u8)) (l := x1) (fl := true) (n := x0) (s := 1)), .o 12 (fun _ => o_slice_os (enc := (encI .u8)) (l := x1) (fl := true) (n := x0) (s := 1) none (some (.i64, (wi (((x1.length : Nat) : Int) - 2)))) (tbE h2)), .c (ref03_Sum_o_t0 (x0 && x1.isEmpty) (sub x1 0 (wi (((x1.length : Nat) : Int) - 2))) (tbE h3)), .o 16 (fun _ => o_len_os (enc := (encI .u8)) (l := x1) (fl := true) (n := x0) (s := 1)), .o 18 (fun _ => o_idx_os (enc := (encI .u8)) (l := x1) (fl := true) (n := x0) (s := 1) (k := .i64) (tbE h4)), .b (tbE h5)] (by kernel_rfl)
  · intro g0
    exact w34 [.o 6 (fun _ => o_len_os (enc := (encI .u8)) (l := x1) (fl := true) (n := x0) (s := 1)), .b (tbE h1)] (by kernel_rfl)

theorem ref03_Open_o_t1 (x0 : Bool) (x1 : List Int) : ref03_Open_o_c0 x1 = false → ref03_Open_o_c1 x1 = true → cl E0 34 [(V.d (slD (encI .u8) true 1 x0 x1))] [] = some ([(V.sl 0 ((sub x1 0 (wi (((x1.length : Nat) : Int) - 2))).length) 0 ((sub x1 0 (wi (((x1.length : Nat) : Int) - 2))).length)), (V.d (.bool true))], [(Blk.flat 5 1 (List.map (encI .u8) (sub x1 0 (wi (((x1.length : Nat) : Int) - 2)))) false)]) := by
  unfold ref03_Open_o_c0 ref03_Open_o_c1
  cases h1 : tb (decide (((x1.length : Nat) : Int) < 2))
  · cases h2 : tb (ins x1.length 0 (wi (((x1.length : Nat) : Int) - 2)))
    · intro g0 g1
      exact absurd g1 ft
    · cases h3 : tb (ref03_Sum_o_c0 (sub x1 0 (wi (((x1.length : Nat) : Int) - 2))))
      · intro g0 g1
        exact absurd g1 ft
      · cases h4 : tb (inb x1.length (wi (((x1.length : Nat) : Int) - 2)))
        · intro g0 g1
          exact absurd g1 ft
        · cases h5 : tb (((wi (gt x1 (wi (((x1.length : Nat) : Int) - 2)))) : Int) != (ref03_Open_o_e0 x1))
          · cases h6 : tb (inb x1.length (wi (((x1.length : Nat) : Int) - 1)))
            · intro g0 g1
              exact absurd g1 ft
            · cases h7 : tb (((wi (gt x1 (wi (((x1.length : Nat) : Int) - 1)))) : Int) != (ref03_Open_o_e1 x1))
              · cases h8 : tb (decide ((sub x1 0 (wi (((x1.length : Nat) : Int) - 2))).length * 1 ≤ 140737488355328))
                · intro g0 g1
                  exact absurd g1 ft
                · intro g0 g1
                  exact w34 [.o 6 (fun _ => o_len_os (enc := (encI .u8)) (l := x1) (fl := true) (n := x0) (s := 1)), .b (tbE h1), .o 10 (fun _ => o_len_os (enc := (encI .u8)) (l := x1) (fl := true) (n := x0) (s := 1)), .o 12 (fun _ => o_slice_os (enc := (encI .u8)) (l := x1) (fl := true) (n := x0) (s := 1) none (some (.i64, (wi (((x1.length : Nat) : Int) - 2)))) (tbE h2)), .c (ref03_Sum_o_t0 (x0 && x1.isEmpty) (sub x1 0 (wi (((x1.length : Nat) : Int) - 2))) (tbE h3)), .o 16 (fun _ => o_len_os (enc := (encI .u8)) (l := x1) (fl := true) (n := x0) (s := 1)), .o 18 (fun _ => o_idx_os (enc := (encI .u8)) (l := x1) (fl := true) (n := x0) (s := 1) (k := .i64) (tbE h4)), .b (tbE h5), .o 27 (fun _ => o_len_os (enc := (encI .u8)) (l := x1) (fl := true) (n := x0) (s := 1)), .o 29 (fun _ => o_idx_os (enc := (encI .u8)) (l := x1) (fl := true) (n := x0) (s := 1) (k := .i64) (tbE h6)), .b (tbE h7), .o 39 (fun _ => o_len_os (enc := (encI .u8)) (l := x1) (fl := true) (n := x0) (s := 1)), .o 41 (fun _ => o_slice_os (enc := (encI .u8)) (l := x1) (fl := true) (n := x0) (s := 1) none (some (.i64, (wi (((x1.length : Nat) : Int) - 2)))) (tbE h2)), .m 42 (o_app0 (m := [(Blk.flat 5 1 [] false)]) (enc := (encI .u8)) (l1 := (sub x1 0 (wi (((x1.length : Nat) : Int) - 2)))) (id := 0) (e := 5) (s := 1) (bytes := 1) (x := (V.d (slD (encI .u8) true 1 (x0 && x1.isEmpty) (sub x1 0 (wi (((x1.length : Nat) : Int) - 2)))))) (by kernel_rfl) flatRowsOf_os sizeOk_os (tbE h8))] (by kernel_rfl)
              · intro g0 g1
                exact absurd g0 tf
          · intro g0 g1
            exact absurd g0 tf
  · intro g0 g1
    exact absurd g0 tf

def ref03_Seal_o_e0 (x1 : List Int) : Int := IntKind.u8.wrap (quoI .i64 (ref03_More_io_r0_0 65535 x1) 256)

def ref03_Seal_o_e1 (x1 : List Int) : Int := IntKind.u8.wrap (remI .i64 (ref03_More_io_r0_0 65535 x1) 256)

def ref03_Seal_o_c0 (x1 : List Int) : Bool := (bif tb (ref03_Sum_o_c0 x1) then (bif tb (decide (x1.length * 1 ≤ 140737488355328)) then (bif tb (decide ((x1.length + [(ref03_Seal_o_e0 x1), (ref03_Seal_o_e1 x1)].length) * 1 ≤ 140737488355328)) then true else false) else false) else false)

theorem ref03_Seal_o_t0 (x0 : Bool) (x1 : List Int) : ref03_Seal_o_c0 x1 = true → cl E0 37 [(V.d (slD (encI .u8) true 1 x0 x1))] [] = some ([(V.sl 0 (x1.length + [(ref03_Seal_o_e0 x1), (ref03_Seal_o_e1 x1)].length) 0 (x1.length + [(ref03_Seal_o_e0 x1), (ref03_Seal_o_e1 x1)].length))], [(Blk.flat 5 1 (List.map (encI .u8) (x1 ++ [(ref03_Seal_o_e0 x1), (ref03_Seal_o_e1 x1)])) false)]) := by
  unfold ref03_Seal_o_c0
  cases h1 : tb (ref03_Sum_o_c0 x1)
  · intro g0
    exact absurd g0 ft
  · cases h2 : tb (decide (x1.length * 1 ≤ 140737488355328))
    · intro g0
      exact absurd g0 ft
    · cases h3 : tb (decide ((x1.length + [(ref03_Seal_o_e0 x1), (ref03_Seal_o_e1 x1)].length) * 1 ≤ 140737488355328))
      · intro g0
        exact absurd g0 ft
      · intro g0
        exact w37 [.c (ref03_Sum_o_t0 x0 x1 (tbE h1)), .m 8 (o_app0 (m := [(Blk.flat 5 1 [] false)]) (enc := (encI .u8)) (l1 := x1) (id := 0) (e := 5) (s := 1) (bytes := 1) (x := (V.d (slD (encI .u8) true 1 x0 x1))) (by kernel_rfl) flatRowsOf_os sizeOk_os (tbE h2)), .m 16 (o_app (m := [(Blk.flat 5 1 (List.map (encI .u8) x1) false), (Blk.flat 5 1 [[(.int .u8 (ref03_Seal_o_e0 x1))], [(.int .u8 (ref03_Seal_o_e1 x1))]] false)]) (enc := (encI .u8)) (l0 := x1) (l1 := [(ref03_Seal_o_e0 x1), (ref03_Seal_o_e1 x1)]) (id := 0) (e := 5) (s := 1) (bytes := 1) (x := (V.sl 1 2 0 2)) (n := x1.length) (Nat.beq_refl _) (by kernel_rfl) (by kernel_rfl) (by kernel_rfl) (tbE h3))] (by kernel_rfl)

theorem ref03_Seal_o_t0_len0 (x1 : List Int) : Nat.beq (x1.length + [(ref03_Seal_o_e0 x1), (ref03_Seal_o_e1 x1)].length) ((x1 ++ [(ref03_Seal_o_e0 x1), (ref03_Seal_o_e1 x1)])).length = true := (app_len (l := x1) (k := [(ref03_Seal_o_e0 x1), (ref03_Seal_o_e1 x1)]) (Nat.beq_refl _))

structure ref03_Same_oo_L0_s0 where
  c4 : Int
  deriving Inhabited

def ref03_Same_oo_L0_enc (x0 : Bool) (x1 : List Int) (x2 : Bool) (x3 : List Int) (x4 : Int) (s0 : ref03_Same_oo_L0_s0) : List V × Mem := ([(V.d (slD (encI .u8) true 1 x0 x1)), (V.d (slD (encI .u8) true 1 x2 x3)), (V.d (.int .i64 s0.c4))], [])

def ref03_Same_oo_L0_sel (x1 : List Int) (x3 : List Int) (s0 : ref03_Same_oo_L0_s0) : Bool := (bif tb (decide (s0.c4 < ((x1.length : Nat) : Int))) then (bif tb (inb x1.length s0.c4) then (bif tb (inb x3.length s0.c4) then (bif tb (((gt x1 s0.c4) : Int) != (gt x3 s0.c4)) then false else true) else false) else false) else false)

def ref03_Same_oo_L0_nx (x1 : List Int) (x3 : List Int) (s0 : ref03_Same_oo_L0_s0) : ref03_Same_oo_L0_s0 := ⟨(wi (s0.c4 + 1))⟩

def ref03_Same_oo_L0_ok (x1 : List Int) (x3 : List Int) (s0 : ref03_Same_oo_L0_s0) : Bool := (itS (ref03_Same_oo_L0_sel x1 x3) (ref03_Same_oo_L0_nx x1 x3) bound s0).isSome
def ref03_Same_oo_L0_end (x1 : List Int) (x3 : List Int) (s0 : ref03_Same_oo_L0_s0) : ref03_Same_oo_L0_s0 := (itS (ref03_Same_oo_L0_sel x1 x3) (ref03_Same_oo_L0_nx x1 x3) bound s0).getD default

theorem ref03_Same_oo_L0_go (x0 : Bool) (x1 : List Int) (x2 : Bool) (x3 : List Int) (x4 : Int) (s0 : ref03_Same_oo_L0_s0) : ref03_Same_oo_L0_sel x1 x3 s0 = true → (roundG (runC E0 (cl E0) L35_0) [0, 1, 5] [4] 0) (ref03_Same_oo_L0_enc x0 x1 x2 x3 x4 s0) = some (.normal, ref03_Same_oo_L0_enc x0 x1 x2 x3 x4 (ref03_Same_oo_L0_nx x1 x3 s0)) := by
  unfold ref03_Same_oo_L0_sel ref03_Same_oo_L0_nx
  cases h1 : tb (decide (s0.c4 < ((x1.length : Nat) : Int)))
  · intro g0
    exact absurd g0 ft
  · cases h2 : tb (inb x1.length s0.c4)
    · intro g0
      exact absurd g0 ft
    · cases h3 : tb (inb x3.length s0.c4)
      · intro g0
        exact absurd g0 ft
      · cases h4 : tb (((gt x1 s0.c4) : Int) != (gt x3 s0.c4))
        · intro _
          exact round_walk [.o 13 (fun _ => o_len_os (enc := (encI .u8)) (l := x1) (fl := true) (n := x0) (s := 1)), .b (tbE h1), .o 19 (fun _ => o_idx_os (enc := (encI .u8)) (l := x1) (fl := true) (n := x0) (s := 1) (k := .i64) (tbE h2)), .o 23 (fun _ => o_idx_os (enc := (encI .u8)) (l := x3) (fl := true) (n := x2) (s := 1) (k := .i64) (tbE h3)), .b (tbE h4)] (by kernel_rfl)
        · intro g0
          exact absurd g0 ft

def ref03_Same_oo_L0_c0 (x1 : List Int) (x3 : List Int) (s0 : ref03_Same_oo_L0_s0) : Bool := (bif tb (decide (s0.c4 < ((x1.length : Nat) : Int))) then (bif tb (inb x1.length s0.c4) then (bif tb (inb x3.length s0.c4) then true else false) else false) else false)

def ref03_Same_oo_L0_c1 (x1 : List Int) (s0 : ref03_Same_oo_L0_s0) : Bool := (bif tb (decide (s0.c4 < ((x1.length : Nat) : Int))) then false else true)

theorem ref03_Same_oo_L0_x0 (x0 : Bool) (x1 : List Int) (x2 : Bool) (x3 : List Int) (x4 : Int) (s0 : ref03_Same_oo_L0_s0) : ref03_Same_oo_L0_sel x1 x3 s0 = false → ref03_Same_oo_L0_c0 x1 x3 s0 = true → (roundG (runC E0 (cl E0) L35_0) [0, 1, 5] [4] 0) (ref03_Same_oo_L0_enc x0 x1 x2 x3 x4 s0) = some (.ret, ([(V.d (.bool false))], [])) := by
  unfold ref03_Same_oo_L0_sel ref03_Same_oo_L0_c0
  cases h1 : tb (decide (s0.c4 < ((x1.length : Nat) : Int)))
  · intro g0 g1
    exact absurd g1 ft
  · cases h2 : tb (inb x1.length s0.c4)
    · intro g0 g1
      exact absurd g1 ft
    · cases h3 : tb (inb x3.length s0.c4)
      · intro g0 g1
        exact absurd g1 ft
      · cases h4 : tb (((gt x1 s0.c4) : Int) != (gt x3 s0.c4))
        · intro g0 g1
          exact absurd g0 tf
        · intro g0 g1
          exact round_walk [.o 13 (fun _ => o_len_os (enc := (encI .u8)) (l := x1) (fl := true) (n := x0) (s := 1)), .b (tbE h1), .o 19 (fun _ => o_idx_os (enc := (encI .u8)) (l := x1) (fl := true) (n := x0) (s := 1) (k := .i64) (tbE h2)), .o 23 (fun _ => o_idx_os (enc := (encI .u8)) (l := x3) (fl := true) (n := x2) (s := 1) (k := .i64) (tbE h3)), .b (tbE h4)] (by kernel_rfl)

theorem ref03_Same_oo_L0_x1 (x0 : Bool) (x1 : List Int) (x2 : Bool) (x3 : List Int) (x4 : Int) (s0 : ref03_Same_oo_L0_s0) : ref03_Same_oo_L0_sel x1 x3 s0 = false → ref03_Same_oo_L0_c0 x1 x3 s0 = false → ref03_Same_oo_L0_c1 x1 s0 = true → (roundG (runC E0 (cl E0) L35_0) [0, 1, 5] [4] 0) (ref03_Same_oo_L0_enc x0 x1 x2 x3 x4 s0) = some ((.exit 0), ([V.un], [])) := by
  unfold ref03_Same_oo_L0_sel ref03_Same_oo_L0_c0 ref03_Same_oo_L0_c1
  cases h1 : tb (decide (s0.c4 < ((x1.length : Nat) : Int)))
  · intro g0 g1 g2
    exact round_walk [.o 13 (fun _ => o_len_os (enc := (encI .u8)) (l := x1) (fl := true) (n := x0) (s := 1)), .b (tbE h1)] (by kernel_rfl)
  · cases h2 : tb (inb x1.length s0.c4)
    · intro g0 g1 g2
      exact absurd g2 ft
    · cases h3 : tb (inb x3.length s0.c4)
      · intro g0 g1 g2
        exact absurd g2 ft
      · cases h4 : tb (((gt x1 s0.c4) : Int) != (gt x3 s0.c4))
        · intro g0 g1 g2
          exact absurd g0 tf
        · intro g0 g1 g2
          exact absurd g1 tf

theorem ref03_Same_oo_L0_f0_0 (x0 : Bool) (x1 : List Int) (x2 : Bool) (x3 : List Int) (x4 : Int) (s : ref03_Same_oo_L0_s0) (hok : ref03_Same_oo_L0_ok x1 x3 s = true) (c0 : ref03_Same_oo_L0_c0 x1 x3 (ref03_Same_oo_L0_end x1 x3 s) = true) : loopG (roundG (runC E0 (cl E0) L35_0) [0, 1, 5] [4] 0) bound (ref03_Same_oo_L0_enc x0 x1 x2 x3 x4 s) = some (.ret, ([(V.d (.bool false))], [])) := by
  have e : itS (ref03_Same_oo_L0_sel x1 x3) (ref03_Same_oo_L0_nx x1 x3) bound s = some (ref03_Same_oo_L0_end x1 x3 s) := itS_get hok
  have f := itS_false e
  exact loop_it (ref03_Same_oo_L0_go x0 x1 x2 x3 x4) bound s _ _ _ e (fun h => by cases h) (ref03_Same_oo_L0_x0 x0 x1 x2 x3 x4 (ref03_Same_oo_L0_end x1 x3 s) f c0)

theorem ref03_Same_oo_L0_f0_1 (x0 : Bool) (x1 : List Int) (x2 : Bool) (x3 : List Int) (x4 : Int) (s : ref03_Same_oo_L0_s0) (hok : ref03_Same_oo_L0_ok x1 x3 s = true) (c0 : ref03_Same_oo_L0_c0 x1 x3 (ref03_Same_oo_L0_end x1 x3 s) = false) (c1 : ref03_Same_oo_L0_c1 x1 (ref03_Same_oo_L0_end x1 x3 s) = true) : loopG (roundG (runC E0 (cl E0) L35_0) [0, 1, 5] [4] 0) bound (ref03_Same_oo_L0_enc x0 x1 x2 x3 x4 s) = some ((.exit 0), ([V.un], [])) := by
  have e : itS (ref03_Same_oo_L0_sel x1 x3) (ref03_Same_oo_L0_nx x1 x3) bound s = some (ref03_Same_oo_L0_end x1 x3 s) := itS_get hok
  have f := itS_false e
  exact loop_it (ref03_Same_oo_L0_go x0 x1 x2 x3 x4) bound s _ _ _ e (fun h => by cases h) (ref03_Same_oo_L0_x1 x0 x1 x2 x3 x4 (ref03_Same_oo_L0_end x1 x3 s) f c0 c1)

def ref03_Same_oo_c0 (x1 : List Int) (x3 : List Int) : Bool := (bif tb ((((x1.length : Nat) : Int) : Int) != ((x3.length : Nat) : Int)) then true else (bif tb (ref03_Same_oo_L0_ok x1 x3 (⟨0⟩ : ref03_Same_oo_L0_s0)) then (bif tb (ref03_Same_oo_L0_c0 x1 x3 (ref03_Same_oo_L0_end x1 x3 (⟨0⟩ : ref03_Same_oo_L0_s0))) then true else (bif tb (ref03_Same_oo_L0_c1 x1 (ref03_Same_oo_L0_end x1 x3 (⟨0⟩ : ref03_Same_oo_L0_s0))) then true else false)) else false))

def ref03_Same_oo_r0_0 (x1 : List Int) (x3 : List Int) : Bool := (bif tb ((((x1.length : Nat) : Int) : Int) != ((x3.length : Nat) : Int)) then false else (bif tb (ref03_Same_oo_L0_c0 x1 x3 (ref03_Same_oo_L0_end x1 x3 (⟨0⟩ : ref03_Same_oo_L0_s0))) then false else true))

theorem ref03_Same_oo_t0 (x0 : Bool) (x1 : List Int) (x2 : Bool) (x3 : List Int) : ref03_Same_oo_c0 x1 x3 = true → cl E0 35 [(V.d (slD (encI .u8) true 1 x0 x1)), (V.d (slD (encI .u8) true 1 x2 x3))] [] = some ([(V.d (.bool (ref03_Same_oo_r0_0 x1 x3)))], []) := by
  unfold ref03_Same_oo_c0 ref03_Same_oo_r0_0
  cases h1 : tb ((((x1.length : Nat) : Int) : Int) != ((x3.length : Nat) : Int))
  · cases h2 : tb (ref03_Same_oo_L0_ok x1 x3 (⟨0⟩ : ref03_Same_oo_L0_s0))
    · intro g0
      exact absurd g0 ft
    · cases h3 : tb (ref03_Same_oo_L0_c0 x1 x3 (ref03_Same_oo_L0_end x1 x3 (⟨0⟩ : ref03_Same_oo_L0_s0)))
      · cases h4 : tb (ref03_Same_oo_L0_c1 x1 (ref03_Same_oo_L0_end x1 x3 (⟨0⟩ : ref03_Same_oo_L0_s0)))
        · intro g0
          exact absurd g0 ft
        · intro g0
          exact w35 [.o 7 (fun _ => o_len_os (enc := (encI .u8)) (l := x1) (fl := true) (n := x0) (s := 1)), .o 9 (fun _ => o_len_os (enc := (encI .u8)) (l := x3) (fl := true) (n := x2) (s := 1)), .b (tbE h1), .l (ref03_Same_oo_L0_f0_1 x0 x1 x2 x3 0 (⟨0⟩ : ref03_Same_oo_L0_s0) (tbE h2) (tbE h3) (tbE h4))] (by kernel_rfl)
      · intro g0
        exact w35 [.o 7 (fun _ => o_len_os (enc := (encI .u8)) (l := x1) (fl := true) (n := x0) (s := 1)), .o 9 (fun _ => o_len_os (enc := (encI .u8)) (l := x3) (fl := true) (n := x2) (s := 1)), .b (tbE h1), .l (ref03_Same_oo_L0_f0_0 x0 x1 x2 x3 0 (⟨0⟩ : ref03_Same_oo_L0_s0) (tbE h2) (tbE h3))] (by kernel_rfl)
  · intro g0
    exact w35 [.o 7 (fun _ => o_len_os (enc := (encI .u8)) (l := x1) (fl := true) (n := x0) (s := 1)), .o 9 (fun _ => o_len_os (enc := (encI .u8)) (l := x3) (fl := true) (n := x2) (s := 1)), .b (tbE h1)] (by kernel_rfl)

end Go.Proofs.Ytgalchmjpfmemaa.Den

namespace Go.Proofs.Ytgalchmjpfmemaa.Den
open Go Go.Proofs
set_option maxRecDepth 100000
set_option maxHeartbeats 4000000
set_option linter.unusedVariables false
set_option linter.unusedSimpArgs false

def law03_CrcTells_e0 (x1 : List Int) : List Int := [(IntKind.u8.wrap (shrI .i64 (crc_More_io_r0_0 65535 x1) 8)), (IntKind.u8.wrap ((crc_More_io_r0_0 65535 x1)))]

def law03_CrcTells_c0 (x0 : Bool) (x1 : List Int) (x2 : Int) : Bool := (bif tb (decide (300 < ((x1.length : Nat) : Int))) then true else (bif tb (crc_Open_o_c0 x0 x1) then (bif tb (ref03_Open_o_c0 x1) then (bif tb (crc_Seal_o_c0 x0 x1) then (bif tb (ref03_Seal_o_c0 x1) then (bif tb (ref03_Same_oo_c0 (law03_CrcTells_e0 x1) (x1 ++ [(ref03_Seal_o_e0 x1), (ref03_Seal_o_e1 x1)])) then (bif tb (ref03_Same_oo_c0 [] []) then (bif tb (ref03_Same_oo_r0_0 (law03_CrcTells_e0 x1) (x1 ++ [(ref03_Seal_o_e0 x1), (ref03_Seal_o_e1 x1)])) then (bif tb (ref03_Same_oo_r0_0 [] []) then (bif tb (false != ((crc_Open_o_r0_0 x0 x1) == false)) then (bif tb (crc_Sum_o_c0 x1) then (bif tb (ref03_Sum_o_c0 x1) then (bif tb (((crc_More_io_r0_0 65535 x1) : Int) == (ref03_More_io_r0_0 65535 x1)) then (bif tb (crc_More_io_c0 x2 x1) then (bif tb (ref03_More_io_c0 x2 x1) then true else false) else false) else true) else false) else false) else true) else true) else true) else false) else false) else false) else (bif tb (crc_Seal_o_c1 x0 x1) then (bif tb (ref03_Seal_o_c0 x1) then (bif tb (ref03_Same_oo_c0 (crc_Seal_o_e0 x1) (x1 ++ [(ref03_Seal_o_e0 x1), (ref03_Seal_o_e1 x1)])) then (bif tb (ref03_Same_oo_c0 [] []) then (bif tb (ref03_Same_oo_r0_0 (crc_Seal_o_e0 x1) (x1 ++ [(ref03_Seal_o_e0 x1), (ref03_Seal_o_e1 x1)])) then (bif tb (ref03_Same_oo_r0_0 [] []) then (bif tb (false != ((crc_Open_o_r0_0 x0 x1) == false)) then (bif tb (crc_Sum_o_c0 x1) then (bif tb (ref03_Sum_o_c0 x1) then (bif tb (((crc_More_io_r0_0 65535 x1) : Int) == (ref03_More_io_r0_0 65535 x1)) then (bif tb (crc_More_io_c0 x2 x1) then (bif tb (ref03_More_io_c0 x2 x1) then true else false) else false) else true) else false) else false) else true) else true) else true) else false) else false) else false) else false)) else (bif tb (ref03_Open_o_c1 x1) then (bif tb (crc_Seal_o_c0 x0 x1) then (bif tb (ref03_Seal_o_c0 x1) then (bif tb (ref03_Same_oo_c0 (law03_CrcTells_e0 x1) (x1 ++ [(ref03_Seal_o_e0 x1), (ref03_Seal_o_e1 x1)])) then (bif tb (ref03_Same_oo_c0 [] (sub x1 0 (wi (((x1.length : Nat) : Int) - 2)))) then (bif tb (ref03_Same_oo_r0_0 (law03_CrcTells_e0 x1) (x1 ++ [(ref03_Seal_o_e0 x1), (ref03_Seal_o_e1 x1)])) then (bif tb (ref03_Same_oo_r0_0 [] (sub x1 0 (wi (((x1.length : Nat) : Int) - 2)))) then (bif tb (false != ((crc_Open_o_r0_0 x0 x1) == true)) then (bif tb (crc_Sum_o_c0 x1) then (bif tb (ref03_Sum_o_c0 x1) then (bif tb (((crc_More_io_r0_0 65535 x1) : Int) == (ref03_More_io_r0_0 65535 x1)) then (bif tb (crc_More_io_c0 x2 x1) then (bif tb (ref03_More_io_c0 x2 x1) then true else false) else false) else true) else false) else false) else true) else true) else true) else false) else false) else false) else (bif tb (crc_Seal_o_c1 x0 x1) then (bif tb (ref03_Seal_o_c0 x1) then (bif tb (ref03_Same_oo_c0 (crc_Seal_o_e0 x1) (x1 ++ [(ref03_Seal_o_e0 x1), (ref03_Seal_o_e1 x1)])) then (bif tb (ref03_Same_oo_c0 [] (sub x1 0 (wi (((x1.length : Nat) : Int) - 2)))) then (bif tb (ref03_Same_oo_r0_0 (crc_Seal_o_e0 x1) (x1 ++ [(ref03_Seal_o_e0 x1), (ref03_Seal_o_e1 x1)])) then (bif tb (ref03_Same_oo_r0_0 [] (sub x1 0 (wi (((x1.length : Nat) : Int) - 2)))) then (bif tb (false != ((crc_Open_o_r0_0 x0 x1) == true)) then (bif tb (crc_Sum_o_c0 x1) then (bif tb (ref03_Sum_o_c0 x1) then (bif tb (((crc_More_io_r0_0 65535 x1) : Int) == (ref03_More_io_r0_0 65535 x1)) then (bif tb (crc_More_io_c0 x2 x1) then (bif tb (ref03_More_io_c0 x2 x1) then true else false) else false) else true) else false) else false) else true) else true) else true) else false) else false) else false) else false)) else false)) else (bif tb (crc_Open_o_c1 x0 x1) then (bif tb (ref03_Open_o_c0 x1) then (bif tb (crc_Seal_o_c0 x0 x1) then (bif tb (ref03_Seal_o_c0 x1) then (bif tb (ref03_Same_oo_c0 (law03_CrcTells_e0 x1) (x1 ++ [(ref03_Seal_o_e0 x1), (ref03_Seal_o_e1 x1)])) then (bif tb (ref03_Same_oo_c0 (sub x1 0 (wi (((x1.length : Nat) : Int) - 2))) []) then true else false) else false) else false) else (bif tb (crc_Seal_o_c1 x0 x1) then (bif tb (ref03_Seal_o_c0 x1) then (bif tb (ref03_Same_oo_c0 (crc_Seal_o_e0 x1) (x1 ++ [(ref03_Seal_o_e0 x1), (ref03_Seal_o_e1 x1)])) then (bif tb (ref03_Same_oo_c0 (sub x1 0 (wi (((x1.length : Nat) : Int) - 2))) []) then true else false) else false) else false) else false)) else (bif tb (ref03_Open_o_c1 x1) then (bif tb (crc_Seal_o_c0 x0 x1) then (bif tb (ref03_Seal_o_c0 x1) then (bif tb (ref03_Same_oo_c0 (law03_CrcTells_e0 x1) (x1 ++ [(ref03_Seal_o_e0 x1), (ref03_Seal_o_e1 x1)])) then (bif tb (ref03_Same_oo_c0 (sub x1 0 (wi (((x1.length : Nat) : Int) - 2))) (sub x1 0 (wi (((x1.length : Nat) : Int) - 2)))) then (bif tb (ref03_Same_oo_r0_0 (law03_CrcTells_e0 x1) (x1 ++ [(ref03_Seal_o_e0 x1), (ref03_Seal_o_e1 x1)])) then (bif tb (ref03_Same_oo_r0_0 (sub x1 0 (wi (((x1.length : Nat) : Int) - 2))) (sub x1 0 (wi (((x1.length : Nat) : Int) - 2)))) then (bif tb (crc_Sum_o_c0 x1) then (bif tb (ref03_Sum_o_c0 x1) then (bif tb (((crc_More_io_r0_0 65535 x1) : Int) == (ref03_More_io_r0_0 65535 x1)) then (bif tb (crc_More_io_c0 x2 x1) then (bif tb (ref03_More_io_c0 x2 x1) then true else false) else false) else true) else false) else false) else true) else true) else false) else false) else false) else (bif tb (crc_Seal_o_c1 x0 x1) then (bif tb (ref03_Seal_o_c0 x1) then (bif tb (ref03_Same_oo_c0 (crc_Seal_o_e0 x1) (x1 ++ [(ref03_Seal_o_e0 x1), (ref03_Seal_o_e1 x1)])) then (bif tb (ref03_Same_oo_c0 (sub x1 0 (wi (((x1.length : Nat) : Int) - 2))) (sub x1 0 (wi (((x1.length : Nat) : Int) - 2)))) then (bif tb (ref03_Same_oo_r0_0 (crc_Seal_o_e0 x1) (x1 ++ [(ref03_Seal_o_e0 x1), (ref03_Seal_o_e1 x1)])) then (bif tb (ref03_Same_oo_r0_0 (sub x1 0 (wi (((x1.length : Nat) : Int) - 2))) (sub x1 0 (wi (((x1.length : Nat) : Int) - 2)))) then (bif tb (crc_Sum_o_c0 x1) then (bif tb (ref03_Sum_o_c0 x1) then (bif tb (((crc_More_io_r0_0 65535 x1) : Int) == (ref03_More_io_r0_0 65535 x1)) then (bif tb (crc_More_io_c0 x2 x1) then (bif tb (ref03_More_io_c0 x2 x1) then true else false) else false) else true) else false) else false) else true) else true) else false) else false) else false) else false)) else false)) else false)))

def law03_CrcTells_r0_0 (x0 : Bool) (x1 : List Int) (x2 : Int) : Bool := (bif tb (decide (300 < ((x1.length : Nat) : Int))) then true else (bif tb (crc_Open_o_c0 x0 x1) then (bif tb (ref03_Open_o_c0 x1) then (bif tb (crc_Seal_o_c0 x0 x1) then (bif tb (ref03_Same_oo_r0_0 (law03_CrcTells_e0 x1) (x1 ++ [(ref03_Seal_o_e0 x1), (ref03_Seal_o_e1 x1)])) then (bif tb (ref03_Same_oo_r0_0 [] []) then (bif tb (false != ((crc_Open_o_r0_0 x0 x1) == false)) then (bif tb (((crc_More_io_r0_0 65535 x1) : Int) == (ref03_More_io_r0_0 65535 x1)) then (((crc_More_io_r0_0 x2 x1) : Int) == (ref03_More_io_r0_0 x2 x1)) else false) else false) else false) else false) else (bif tb (ref03_Same_oo_r0_0 (crc_Seal_o_e0 x1) (x1 ++ [(ref03_Seal_o_e0 x1), (ref03_Seal_o_e1 x1)])) then (bif tb (ref03_Same_oo_r0_0 [] []) then (bif tb (false != ((crc_Open_o_r0_0 x0 x1) == false)) then (bif tb (((crc_More_io_r0_0 65535 x1) : Int) == (ref03_More_io_r0_0 65535 x1)) then (((crc_More_io_r0_0 x2 x1) : Int) == (ref03_More_io_r0_0 x2 x1)) else false) else false) else false) else false)) else (bif tb (crc_Seal_o_c0 x0 x1) then (bif tb (ref03_Same_oo_r0_0 (law03_CrcTells_e0 x1) (x1 ++ [(ref03_Seal_o_e0 x1), (ref03_Seal_o_e1 x1)])) then (bif tb (ref03_Same_oo_r0_0 [] (sub x1 0 (wi (((x1.length : Nat) : Int) - 2)))) then (bif tb (false != ((crc_Open_o_r0_0 x0 x1) == true)) then (bif tb (((crc_More_io_r0_0 65535 x1) : Int) == (ref03_More_io_r0_0 65535 x1)) then (((crc_More_io_r0_0 x2 x1) : Int) == (ref03_More_io_r0_0 x2 x1)) else false) else false) else false) else false) else (bif tb (ref03_Same_oo_r0_0 (crc_Seal_o_e0 x1) (x1 ++ [(ref03_Seal_o_e0 x1), (ref03_Seal_o_e1 x1)])) then (bif tb (ref03_Same_oo_r0_0 [] (sub x1 0 (wi (((x1.length : Nat) : Int) - 2)))) then (bif tb (false != ((crc_Open_o_r0_0 x0 x1) == true)) then (bif tb (((crc_More_io_r0_0 65535 x1) : Int) == (ref03_More_io_r0_0 65535 x1)) then (((crc_More_io_r0_0 x2 x1) : Int) == (ref03_More_io_r0_0 x2 x1)) else false) else false) else false) else false))) else (bif tb (ref03_Open_o_c0 x1) then false else (bif tb (crc_Seal_o_c0 x0 x1) then (bif tb (ref03_Same_oo_r0_0 (law03_CrcTells_e0 x1) (x1 ++ [(ref03_Seal_o_e0 x1), (ref03_Seal_o_e1 x1)])) then (bif tb (ref03_Same_oo_r0_0 (sub x1 0 (wi (((x1.length : Nat) : Int) - 2))) (sub x1 0 (wi (((x1.length : Nat) : Int) - 2)))) then (bif tb (((crc_More_io_r0_0 65535 x1) : Int) == (ref03_More_io_r0_0 65535 x1)) then (((crc_More_io_r0_0 x2 x1) : Int) == (ref03_More_io_r0_0 x2 x1)) else false) else false) else false) else (bif tb (ref03_Same_oo_r0_0 (crc_Seal_o_e0 x1) (x1 ++ [(ref03_Seal_o_e0 x1), (ref03_Seal_o_e1 x1)])) then (bif tb (ref03_Same_oo_r0_0 (sub x1 0 (wi (((x1.length : Nat) : Int) - 2))) (sub x1 0 (wi (((x1.length : Nat) : Int) - 2)))) then (bif tb (((crc_More_io_r0_0 65535 x1) : Int) == (ref03_More_io_r0_0 65535 x1)) then (((crc_More_io_r0_0 x2 x1) : Int) == (ref03_More_io_r0_0 x2 x1)) else false) else false) else false)))))

theorem law03_CrcTells_t0 (x0 : Bool) (x1 : List Int) (x2 : Int) : law03_CrcTells_c0 x0 x1 x2 = true → cl E0 7 [(V.d (slD (encI .u8) true 1 x0 x1)), (V.d (.int .i64 x2))] [] = some ([(V.d (.bool (law03_CrcTells_r0_0 x0 x1 x2)))], []) := by
  unfold law03_CrcTells_c0 law03_CrcTells_r0_0
  cases h1 : tb (decide (300 < ((x1.length : Nat) : Int)))
  · cases h2 : tb (crc_Open_o_c0 x0 x1)
    · cases h3 : tb (crc_Open_o_c1 x0 x1)
      · intro g0
        exact absurd g0 ft
      · cases h4 : tb (ref03_Open_o_c0 x1)
        · cases h5 : tb (ref03_Open_o_c1 x1)
          · intro g0
            exact absurd g0 ft
          · cases h6 : tb (crc_Seal_o_c0 x0 x1)
            · cases h7 : tb (crc_Seal_o_c1 x0 x1)
              · intro g0
                exact absurd g0 ft
              · cases h8 : tb (ref03_Seal_o_c0 x1)
                · intro g0
                  exact absurd g0 ft
                · cases h9 : tb (ref03_Same_oo_c0 (crc_Seal_o_e0 x1) (x1 ++ [(ref03_Seal_o_e0 x1), (ref03_Seal_o_e1 x1)]))
                  · intro g0
                    exact absurd g0 ft
                  · cases h10 : tb (ref03_Same_oo_c0 (sub x1 0 (wi (((x1.length : Nat) : Int) - 2))) (sub x1 0 (wi (((x1.length : Nat) : Int) - 2))))
                    · intro g0
                      exact absurd g0 ft
                    · cases h11 : tb (ref03_Same_oo_r0_0 (crc_Seal_o_e0 x1) (x1 ++ [(ref03_Seal_o_e0 x1), (ref03_Seal_o_e1 x1)]))
                      · intro g0
                        exact w7 [.o 12 (fun _ => o_len_os (enc := (encI .u8)) (l := x1) (fl := true) (n := x0) (s := 1)), .b (tbE h1), .c (crc_Open_o_t1 x0 x1 (tbE h2) (tbE h3)), .c (ref03_Open_o_t1 x0 x1 (tbE h4) (tbE h5)), .c (crc_Seal_o_t1 x0 x1 (tbE h6) (tbE h7)), .c (ref03_Seal_o_t0 x0 x1 (tbE h8)), .y (mm := [(Blk.flat 5 1 (List.map (encI .u8) (sub x1 0 (wi (((x1.length : Nat) : Int) - 2)))) false), (Blk.flat 5 1 (List.map (encI .u8) (sub x1 0 (wi (((x1.length : Nat) : Int) - 2)))) false), (Blk.flat 5 1 (List.map (encI .u8) (crc_Seal_o_e0 x1)) false), (Blk.flat 5 1 (List.map (encI .u8) (x1 ++ [(ref03_Seal_o_e0 x1), (ref03_Seal_o_e1 x1)])) false)]) (args := [(V.sl 2 (x1.length + [(IntKind.u8.wrap (shrI .i64 (crc_More_io_r0_0 65535 x1) 8)), (IntKind.u8.wrap ((crc_More_io_r0_0 65535 x1)))].length) 0 (x1.length + [(IntKind.u8.wrap (shrI .i64 (crc_More_io_r0_0 65535 x1) 8)), (IntKind.u8.wrap ((crc_More_io_r0_0 65535 x1)))].length)), (V.sl 3 (x1.length + [(ref03_Seal_o_e0 x1), (ref03_Seal_o_e1 x1)].length) 0 (x1.length + [(ref03_Seal_o_e0 x1), (ref03_Seal_o_e1 x1)].length))]) (args1 := [(V.d (.rs true 1 (List.map (encI .u8) (crc_Seal_o_e0 x1)) false)), (V.d (.rs true 1 (List.map (encI .u8) (x1 ++ [(ref03_Seal_o_e0 x1), (ref03_Seal_o_e1 x1)])) false))]) (byvals_cons (byval_sl (enc := (encI .u8)) (l := (crc_Seal_o_e0 x1)) (e := 5) (s := 1) (p := false) (n := (x1.length + [(IntKind.u8.wrap (shrI .i64 (crc_More_io_r0_0 65535 x1) 8)), (IntKind.u8.wrap ((crc_More_io_r0_0 65535 x1)))].length)) (crc_Seal_o_t1_len0 x1) (by kernel_rfl)) (byvals_cons (byval_sl (enc := (encI .u8)) (l := (x1 ++ [(ref03_Seal_o_e0 x1), (ref03_Seal_o_e1 x1)])) (e := 5) (s := 1) (p := false) (n := (x1.length + [(ref03_Seal_o_e0 x1), (ref03_Seal_o_e1 x1)].length)) (ref03_Seal_o_t0_len0 x1) (by kernel_rfl)) (by kernel_rfl))), .c (ref03_Same_oo_t0 false (crc_Seal_o_e0 x1) false (x1 ++ [(ref03_Seal_o_e0 x1), (ref03_Seal_o_e1 x1)]) (tbE h9)), .y (mm := [(Blk.flat 5 1 (List.map (encI .u8) (sub x1 0 (wi (((x1.length : Nat) : Int) - 2)))) false), (Blk.flat 5 1 (List.map (encI .u8) (sub x1 0 (wi (((x1.length : Nat) : Int) - 2)))) false), (Blk.flat 5 1 (List.map (encI .u8) (crc_Seal_o_e0 x1)) false), (Blk.flat 5 1 (List.map (encI .u8) (x1 ++ [(ref03_Seal_o_e0 x1), (ref03_Seal_o_e1 x1)])) false)]) (args := [(V.sl 0 ((sub x1 0 (wi (((x1.length : Nat) : Int) - 2))).length) 0 ((sub x1 0 (wi (((x1.length : Nat) : Int) - 2))).length)), (V.sl 1 ((sub x1 0 (wi (((x1.length : Nat) : Int) - 2))).length) 0 ((sub x1 0 (wi (((x1.length : Nat) : Int) - 2))).length))]) (args1 := [(V.d (.rs true 1 (List.map (encI .u8) (sub x1 0 (wi (((x1.length : Nat) : Int) - 2)))) false)), (V.d (.rs true 1 (List.map (encI .u8) (sub x1 0 (wi (((x1.length : Nat) : Int) - 2)))) false))]) (byvals_cons (byval_sl (enc := (encI .u8)) (l := (sub x1 0 (wi (((x1.length : Nat) : Int) - 2)))) (e := 5) (s := 1) (p := false) (n := ((sub x1 0 (wi (((x1.length : Nat) : Int) - 2))).length)) (Nat.beq_refl _) (by kernel_rfl)) (byvals_cons (byval_sl (enc := (encI .u8)) (l := (sub x1 0 (wi (((x1.length : Nat) : Int) - 2)))) (e := 5) (s := 1) (p := false) (n := ((sub x1 0 (wi (((x1.length : Nat) : Int) - 2))).length)) (Nat.beq_refl _) (by kernel_rfl)) (by kernel_rfl))), .c (ref03_Same_oo_t0 false (sub x1 0 (wi (((x1.length : Nat) : Int) - 2))) false (sub x1 0 (wi (((x1.length : Nat) : Int) - 2))) (tbE h10)), .c (law03_alive_t0), .k true, .b (tbE h11)] (by kernel_rfl)
                      · cases h12 : tb (ref03_Same_oo_r0_0 (sub x1 0 (wi (((x1.length : Nat) : Int) - 2))) (sub x1 0 (wi (((x1.length : Nat) : Int) - 2))))
                        · intro g0
                          exact w7 [.o 12 (fun _ => o_len_os (enc := (encI .u8)) (l := x1) (fl := true) (n := x0) (s := 1)), .b (tbE h1), .c (crc_Open_o_t1 x0 x1 (tbE h2) (tbE h3)), .c (ref03_Open_o_t1 x0 x1 (tbE h4) (tbE h5)), .c (crc_Seal_o_t1 x0 x1 (tbE h6) (tbE h7)), .c (ref03_Seal_o_t0 x0 x1 (tbE h8)), .y (mm := [(Blk.flat 5 1 (List.map (encI .u8) (sub x1 0 (wi (((x1.length : Nat) : Int) - 2)))) false), (Blk.flat 5 1 (List.map (encI .u8) (sub x1 0 (wi (((x1.length : Nat) : Int) - 2)))) false), (Blk.flat 5 1 (List.map (encI .u8) (crc_Seal_o_e0 x1)) false), (Blk.flat 5 1 (List.map (encI .u8) (x1 ++ [(ref03_Seal_o_e0 x1), (ref03_Seal_o_e1 x1)])) false)]) (args := [(V.sl 2 (x1.length + [(IntKind.u8.wrap (shrI .i64 (crc_More_io_r0_0 65535 x1) 8)), (IntKind.u8.wrap ((crc_More_io_r0_0 65535 x1)))].length) 0 (x1.length + [(IntKind.u8.wrap (shrI .i64 (crc_More_io_r0_0 65535 x1) 8)), (IntKind.u8.wrap ((crc_More_io_r0_0 65535 x1)))].length)), (V.sl 3 (x1.length + [(ref03_Seal_o_e0 x1), (ref03_Seal_o_e1 x1)].length) 0 (x1.length + [(ref03_Seal_o_e0 x1), (ref03_Seal_o_e1 x1)].length))]) (args1 := [(V.d (.rs true 1 (List.map (encI .u8) (crc_Seal_o_e0 x1)) false)), (V.d (.rs true 1 (List.map (encI .u8) (x1 ++ [(ref03_Seal_o_e0 x1), (ref03_Seal_o_e1 x1)])) false))]) (byvals_cons (byval_sl (enc := (encI .u8)) (l := (crc_Seal_o_e0 x1)) (e := 5) (s := 1) (p := false) (n := (x1.length + [(IntKind.u8.wrap (shrI .i64 (crc_More_io_r0_0 65535 x1) 8)), (IntKind.u8.wrap ((crc_More_io_r0_0 65535 x1)))].length)) (crc_Seal_o_t1_len0 x1) (by kernel_rfl)) (byvals_cons (byval_sl (enc := (encI .u8)) (l := (x1 ++ [(ref03_Seal_o_e0 x1), (ref03_Seal_o_e1 x1)])) (e := 5) (s := 1) (p := false) (n := (x1.length + [(ref03_Seal_o_e0 x1), (ref03_Seal_o_e1 x1)].length)) (ref03_Seal_o_t0_len0 x1) (by kernel_rfl)) (by kernel_rfl))), .c (ref03_Same_oo_t0 false (crc_Seal_o_e0 x1) false (x1 ++ [(ref03_Seal_o_e0 x1), (ref03_Seal_o_e1 x1)]) (tbE h9)), .y (mm := [(Blk.flat 5 1 (List.map (encI .u8) (sub x1 0 (wi (((x1.length : Nat) : Int) - 2)))) false), (Blk.flat 5 1 (List.map (encI .u8) (sub x1 0 (wi (((x1.length : Nat) : Int) - 2)))) false), (Blk.flat 5 1 (List.map (encI .u8) (crc_Seal_o_e0 x1)) false), (Blk.flat 5 1 (List.map (encI .u8) (x1 ++ [(ref03_Seal_o_e0 x1), (ref03_Seal_o_e1 x1)])) false)]) (args := [(V.sl 0 ((sub x1 0 (wi (((x1.length : Nat) : Int) - 2))).length) 0 ((sub x1 0 (wi (((x1.length : Nat) : Int) - 2))).length)), (V.sl 1 ((sub x1 0 (wi (((x1.length : Nat) : Int) - 2))).length) 0 ((sub x1 0 (wi (((x1.length : Nat) : Int) - 2))).length))]) (args1 := [(V.d (.rs true 1 (List.map (encI .u8) (sub x1 0 (wi (((x1.length : Nat) : Int) - 2)))) false)), (V.d (.rs true 1 (List.map (encI .u8) (sub x1 0 (wi (((x1.length : Nat) : Int) - 2)))) false))]) (byvals_cons (byval_sl (enc := (encI .u8)) (l := (sub x1 0 (wi (((x1.length : Nat) : Int) - 2)))) (e := 5) (s := 1) (p := false) (n := ((sub x1 0 (wi (((x1.length : Nat) : Int) - 2))).length)) (Nat.beq_refl _) (by kernel_rfl)) (byvals_cons (byval_sl (enc := (encI .u8)) (l := (sub x1 0 (wi (((x1.length : Nat) : Int) - 2)))) (e := 5) (s := 1) (p := false) (n := ((sub x1 0 (wi (((x1.length : Nat) : Int) - 2))).length)) (Nat.beq_refl _) (by kernel_rfl)) (by kernel_rfl))), .c (ref03_Same_oo_t0 false (sub x1 0 (wi (((x1.length : Nat) : Int) - 2))) false (sub x1 0 (wi (((x1.length : Nat) : Int) - 2))) (tbE h10)), .c (law03_alive_t0), .k true, .b (tbE h11), .b (tbE h12)] (by kernel_rfl)
                        · cases h13 : tb (crc_Sum_o_c0 x1)
                          · intro g0
                            exact absurd g0 ft
                          · cases h14 : tb (ref03_Sum_o_c0 x1)
                            · intro g0
                              exact absurd g0 ft
                            · cases h15 : tb (((crc_More_io_r0_0 65535 x1) : Int) == (ref03_More_io_r0_0 65535 x1))
                              · intro g0
                                exact w7 [.o 12 (fun _ => o_len_os (enc := (encI .u8)) (l := x1) (fl := true) (n := x0) (s := 1)), .b (tbE h1), .c (crc_Open_o_t1 x0 x1 (tbE h2) (tbE h3)), .c (ref03_Open_o_t1 x0 x1 (tbE h4) (tbE h5)), .c (crc_Seal_o_t1 x0 x1 (tbE h6) (tbE h7)), .c (ref03_Seal_o_t0 x0 x1 (tbE h8)), .y (mm := [(Blk.flat 5 1 (List.map (encI .u8) (sub x1 0 (wi (((x1.length : Nat) : Int) - 2)))) false), (Blk.flat 5 1 (List.map (encI .u8) (sub x1 0 (wi (((x1.length : Nat) : Int) - 2)))) false), (Blk.flat 5 1 (List.map (encI .u8) (crc_Seal_o_e0 x1)) false), (Blk.flat 5 1 (List.map (encI .u8) (x1 ++ [(ref03_Seal_o_e0 x1), (ref03_Seal_o_e1 x1)])) false)]) (args := [(V.sl 2 (x1.length + [(IntKind.u8.wrap (shrI .i64 (crc_More_io_r0_0 65535 x1) 8)), (IntKind.u8.wrap ((crc_More_io_r0_0 65535 x1)))].length) 0 (x1.length + [(IntKind.u8.wrap (shrI .i64 (crc_More_io_r0_0 65535 x1) 8)), (IntKind.u8.wrap ((crc_More_io_r0_0 65535 x1)))].length)), (V.sl 3 (x1.length + [(ref03_Seal_o_e0 x1), (ref03_Seal_o_e1 x1)].length) 0 (x1.length + [(ref03_Seal_o_e0 x1), (ref03_Seal_o_e1 x1)].length))]) (args1 := [(V.d (.rs true 1 (List.map (encI .u8) (crc_Seal_o_e0 x1)) false)), (V.d (.rs true 1 (List.map (encI .u8) (x1 ++ [(ref03_Seal_o_e0 x1), (ref03_Seal_o_e1 x1)])) false))]) (byvals_cons (byval_sl (enc := (encI .u8)) (l := (crc_Seal_o_e0 x1)) (e := 5) (s := 1) (p := false) (n := (x1.length + [(IntKind.u8.wrap (shrI .i64 (crc_More_io_r0_0 65535 x1) 8)), (IntKind.u8.wrap ((crc_More_io_r0_0 65535 x1)))].length)) (crc_Seal_o_t1_len0 x1) (by kernel_rfl)) (byvals_cons (byval_sl (enc := (encI .u8)) (l := (x1 ++ [(ref03_Seal_o_e0 x1), (ref03_Seal_o_e1 x1)])) (e := 5) (s := 1) (p := false) (n := (x1.length + [(ref03_Seal_o_e0 x1), (ref03_Seal_o_e1 x1)].length)) (ref03_Seal_o_t0_len0 x1) (by kernel_rfl)) (by kernel_rfl))), .c (ref03_Same_oo_t0 false (crc_Seal_o_e0 x1) false (x1 ++ [(ref03_Seal_o_e0 x1), (ref03_Seal_o_e1 x1)]) (tbE h9)), .y (mm := [(Blk.flat 5 1 (List.map (encI .u8) (sub x1 0 (wi (((x1.length : Nat) : Int) - 2)))) false), (Blk.flat 5 1 (List.map (encI .u8) (sub x1 0 (wi (((x1.length : Nat) : Int) - 2)))) false), (Blk.flat 5 1 (List.map (encI .u8) (crc_Seal_o_e0 x1)) false), (Blk.flat 5 1 (List.map (encI .u8) (x1 ++ [(ref03_Seal_o_e0 x1), (ref03_Seal_o_e1 x1)])) false)]) (args := [(V.sl 0 ((sub x1 0 (wi (((x1.length : Nat) : Int) - 2))).length) 0 ((sub x1 0 (wi (((x1.length : Nat) : Int) - 2))).length)), (V.sl 1 ((sub x1 0 (wi (((x1.length : Nat) : Int) - 2))).length) 0 ((sub x1 0 (wi (((x1.length : Nat) : Int) - 2))).length))]) (args1 := [(V.d (.rs true 1 (List.map (encI .u8) (sub x1 0 (wi (((x1.length : Nat) : Int) - 2)))) false)), (V.d (.rs true 1 (List.map (encI .u8) (sub x1 0 (wi (((x1.length : Nat) : Int) - 2)))) false))]) (byvals_cons (byval_sl (enc := (encI .u8)) (l := (sub x1 0 (wi (((x1.length : Nat) : Int) - 2)))) (e := 5) (s := 1) (p := false) (n := ((sub x1 0 (wi (((x1.length : Nat) : Int) - 2))).length)) (Nat.beq_refl _) (by kernel_rfl)) (byvals_cons (byval_sl (enc := (encI .u8)) (l := (sub x1 0 (wi (((x1.length : Nat) : Int) - 2)))) (e := 5) (s := 1) (p := false) (n := ((sub x1 0 (wi (((x1.length : Nat) : Int) - 2))).length)) (Nat.beq_refl _) (by kernel_rfl)) (by kernel_rfl))), .c (ref03_Same_oo_t0 false (sub x1 0 (wi (((x1.length : Nat) : Int) - 2))) false (sub x1 0 (wi (((x1.length : Nat) : Int) - 2))) (tbE h10)), .c (law03_alive_t0), .k true, .b (tbE h11), .b (tbE h12), .k true, .c (crc_Sum_o_t0 x0 x1 (tbE h13)), .c (ref03_Sum_o_t0 x0 x1 (tbE h14)), .b (tbE h15)] (by kernel_rfl)
                              · cases h16 : tb (crc_More_io_c0 x2 x1)
                                · intro g0
                                  exact absurd g0 ft
                                · cases h17 : tb (ref03_More_io_c0 x2 x1)
                                  · intro g0
                                    exact absurd g0 ft
                                  · intro g0
                                    exact w7 [.o 12 (fun _ => o_len_os (enc := (encI .u8)) (l := x1) (fl := true) (n := x0) (s := 1)), .b (tbE h1), .c (crc_Open_o_t1 x0 x1 (tbE h2) (tbE h3)), .c (ref03_Open_o_t1 x0 x1 (tbE h4) (tbE h5)), .c (crc_Seal_o_t1 x0 x1 (tbE h6) (tbE h7)), .c (ref03_Seal_o_t0 x0 x1 (tbE h8)), .y (mm := [(Blk.flat 5 1 (List.map (encI .u8) (sub x1 0 (wi (((x1.length : Nat) : Int) - 2)))) false), (Blk.flat 5 1 (List.map (encI .u8) (sub x1 0 (wi (((x1.length : Nat) : Int) - 2)))) false), (Blk.flat 5 1 (List.map (encI .u8) (crc_Seal_o_e0 x1)) false), (Blk.flat 5 1 (List.map (encI .u8) (x1 ++ [(ref03_Seal_o_e0 x1), (ref03_Seal_o_e1 x1)])) false)]) (args := [(V.sl 2 (x1.length + [(IntKind.u8.wrap (shrI .i64 (crc_More_io_r0_0 65535 x1) 8)), (IntKind.u8.wrap ((crc_More_io_r0_0 65535 x1)))].length) 0 (x1.length + [(IntKind.u8.wrap (shrI .i64 (crc_More_io_r0_0 65535 x1) 8)), (IntKind.u8.wrap ((crc_More_io_r0_0 65535 x1)))].length)), (V.sl 3 (x1.length + [(ref03_Seal_o_e0 x1), (ref03_Seal_o_e1 x1)].length) 0 (x1.length + [(ref03_Seal_o_e0 x1), (ref03_Seal_o_e1 x1)].length))]) (args1 := [(V.d (.rs true 1 (List.map (encI .u8) (crc_Seal_o_e0 x1)) false)), (V.d (.rs true 1 (List.map (encI .u8) (x1 ++ [(ref03_Seal_o_e0 x1), (ref03_Seal_o_e1 x1)])) false))]) (byvals_cons (byval_sl (enc := (encI .u8)) (l := (crc_Seal_o_e0 x1)) (e := 5) (s := 1) (p := false) (n := (x1.length + [(IntKind.u8.wrap (shrI .i64 (crc_More_io_r0_0 65535 x1) 8)), (IntKind.u8.wrap ((crc_More_io_r0_0 65535 x1)))].length)) (crc_Seal_o_t1_len0 x1) (by kernel_rfl)) (byvals_cons (byval_sl (enc := (encI .u8)) (l := (x1 ++ [(ref03_Seal_o_e0 x1), (ref03_Seal_o_e1 x1)])) (e := 5) (s := 1) (p := false) (n := (x1.length + [(ref03_Seal_o_e0 x1), (ref03_Seal_o_e1 x1)].length)) (ref03_Seal_o_t0_len0 x1) (by kernel_rfl)) (by kernel_rfl))), .c (ref03_Same_oo_t0 false (crc_Seal_o_e0 x1) false (x1 ++ [(ref03_Seal_o_e0 x1), (ref03_Seal_o_e1 x1)]) (tbE h9)), .y (mm := [(Blk.flat 5 1 (List.map (encI .u8) (sub x1 0 (wi (((x1.length : Nat) : Int) - 2)))) false), (Blk.flat 5 1 (List.map (encI .u8) (sub x1 0 (wi (((x1.length : Nat) : Int) - 2)))) false), (Blk.flat 5 1 (List.map (encI .u8) (crc_Seal_o_e0 x1)) false), (Blk.flat 5 1 (List.map (encI .u8) (x1 ++ [(ref03_Seal_o_e0 x1), (ref03_Seal_o_e1 x1)])) false)]) (args := [(V.sl 0 ((sub x1 0 (wi (((x1.length : Nat) : Int) - 2))).length) 0 ((sub x1 0 (wi (((x1.length : Nat) : Int) - 2))).length)), (V.sl 1 ((sub x1 0 (wi (((x1.length : Nat) : Int) - 2))).length) 0 ((sub x1 0 (wi (((x1.length : Nat) : Int) - 2))).length))]) (args1 := [(V.d (.rs true 1 (List.map (encI .u8) (sub x1 0 (wi (((x1.length : Nat) : Int) - 2)))) false)), (V.d (.rs true 1 (List.map (encI .u8) (sub x1 0 (wi (((x1.length : Nat) : Int) - 2)))) false))]) (byvals_cons (byval_sl (enc := (encI .u8)) (l := (sub x1 0 (wi (((x1.length : Nat) : Int) - 2)))) (e := 5) (s := 1) (p := false) (n := ((sub x1 0 (wi (((x1.length : Nat) : Int) - 2))).length)) (Nat.beq_refl _) (by kernel_rfl)) (byvals_cons (byval_sl (enc := (encI .u8)) (l := (sub x1 0 (wi (((x1.length : Nat) : Int) - 2)))) (e := 5) (s := 1) (p := false) (n := ((sub x1 0 (wi (((x1.length : Nat) : Int) - 2))).length)) (Nat.beq_refl _) (by kernel_rfl)) (by kernel_rfl))), .c (ref03_Same_oo_t0 false (sub x1 0 (wi (((x1.length : Nat) : Int) - 2))) false (sub x1 0 (wi (((x1.length : Nat) : Int) - 2))) (tbE h10)), .c (law03_alive_t0), .k true, .b (tbE h11), .b (tbE h12), .k true, .c (crc_Sum_o_t0 x0 x1 (tbE h13)), .c (ref03_Sum_o_t0 x0 x1 (tbE h14)), .b (tbE h15), .c (crc_More_io_t0 x2 x0 x1 (tbE h16)), .c (ref03_More_io_t0 x2 x0 x1 (tbE h17))] (by kernel_rfl)
            · cases h7 : tb (ref03_Seal_o_c0 x1)
              · intro g0
                exact absurd g0 ft
              · cases h8 : tb (ref03_Same_oo_c0 (law03_CrcTells_e0 x1) (x1 ++ [(ref03_Seal_o_e0 x1), (ref03_Seal_o_e1 x1)]))
                · intro g0
                  exact absurd g0 ft
                · cases h9 : tb (ref03_Same_oo_c0 (sub x1 0 (wi (((x1.length : Nat) : Int) - 2))) (sub x1 0 (wi (((x1.length : Nat) : Int) - 2))))
                  · intro g0
                    exact absurd g0 ft
                  · cases h10 : tb (ref03_Same_oo_r0_0 (law03_CrcTells_e0 x1) (x1 ++ [(ref03_Seal_o_e0 x1), (ref03_Seal_o_e1 x1)]))
                    · intro g0
                      exact w7 [.o 12 (fun _ => o_len_os (enc := (encI .u8)) (l := x1) (fl := true) (n := x0) (s := 1)), .b (tbE h1), .c (crc_Open_o_t1 x0 x1 (tbE h2) (tbE h3)), .c (ref03_Open_o_t1 x0 x1 (tbE h4) (tbE h5)), .c (crc_Seal_o_t0 x0 x1 (tbE h6)), .c (ref03_Seal_o_t0 x0 x1 (tbE h7)), .y (mm := [(Blk.flat 5 1 (List.map (encI .u8) (sub x1 0 (wi (((x1.length : Nat) : Int) - 2)))) false), (Blk.flat 5 1 (List.map (encI .u8) (sub x1 0 (wi (((x1.length : Nat) : Int) - 2)))) false), (Blk.flat 5 1 [[(.int .u8 (IntKind.u8.wrap (shrI .i64 (crc_More_io_r0_0 65535 x1) 8)))], [(.int .u8 (IntKind.u8.wrap ((crc_More_io_r0_0 65535 x1))))]] false), (Blk.flat 5 1 (List.map (encI .u8) (x1 ++ [(ref03_Seal_o_e0 x1), (ref03_Seal_o_e1 x1)])) false)]) (args := [(V.sl 2 2 0 2), (V.sl 3 (x1.length + [(ref03_Seal_o_e0 x1), (ref03_Seal_o_e1 x1)].length) 0 (x1.length + [(ref03_Seal_o_e0 x1), (ref03_Seal_o_e1 x1)].length))]) (args1 := [(V.d (.rs true 1 [[(.int .u8 (IntKind.u8.wrap (shrI .i64 (crc_More_io_r0_0 65535 x1) 8)))], [(.int .u8 (IntKind.u8.wrap ((crc_More_io_r0_0 65535 x1))))]] false)), (V.d (.rs true 1 (List.map (encI .u8) (x1 ++ [(ref03_Seal_o_e0 x1), (ref03_Seal_o_e1 x1)])) false))]) (byvals_cons (by kernel_rfl) (byvals_cons (byval_sl (enc := (encI .u8)) (l := (x1 ++ [(ref03_Seal_o_e0 x1), (ref03_Seal_o_e1 x1)])) (e := 5) (s := 1) (p := false) (n := (x1.length + [(ref03_Seal_o_e0 x1), (ref03_Seal_o_e1 x1)].length)) (ref03_Seal_o_t0_len0 x1) (by kernel_rfl)) (by kernel_rfl))), .c (ref03_Same_oo_t0 false (law03_CrcTells_e0 x1) false (x1 ++ [(ref03_Seal_o_e0 x1), (ref03_Seal_o_e1 x1)]) (tbE h8)), .y (mm := [(Blk.flat 5 1 (List.map (encI .u8) (sub x1 0 (wi (((x1.length : Nat) : Int) - 2)))) false), (Blk.flat 5 1 (List.map (encI .u8) (sub x1 0 (wi (((x1.length : Nat) : Int) - 2)))) false), (Blk.flat 5 1 [[(.int .u8 (IntKind.u8.wrap (shrI .i64 (crc_More_io_r0_0 65535 x1) 8)))], [(.int .u8 (IntKind.u8.wrap ((crc_More_io_r0_0 65535 x1))))]] false), (Blk.flat 5 1 (List.map (encI .u8) (x1 ++ [(ref03_Seal_o_e0 x1), (ref03_Seal_o_e1 x1)])) false)]) (args := [(V.sl 0 ((sub x1 0 (wi (((x1.length : Nat) : Int) - 2))).length) 0 ((sub x1 0 (wi (((x1.length : Nat) : Int) - 2))).length)), (V.sl 1 ((sub x1 0 (wi (((x1.length : Nat) : Int) - 2))).length) 0 ((sub x1 0 (wi (((x1.length : Nat) : Int) - 2))).length))]) (args1 := [(V.d (.rs true 1 (List.map (encI .u8) (sub x1 0 (wi (((x1.length : Nat) : Int) - 2)))) false)), (V.d (.rs true 1 (List.map (encI .u8) (sub x1 0 (wi (((x1.length : Nat) : Int) - 2)))) false))]) (byvals_cons (byval_sl (enc := (encI .u8)) (l := (sub x1 0 (wi (((x1.length : Nat) : Int) - 2)))) (e := 5) (s := 1) (p := false) (n := ((sub x1 0 (wi (((x1.length : Nat) : Int) - 2))).length)) (Nat.beq_refl _) (by kernel_rfl)) (byvals_cons (byval_sl (enc := (encI .u8)) (l := (sub x1 0 (wi (((x1.length : Nat) : Int) - 2)))) (e := 5) (s := 1) (p := false) (n := ((sub x1 0 (wi (((x1.length : Nat) : Int) - 2))).length)) (Nat.beq_refl _) (by kernel_rfl)) (by kernel_rfl))), .c (ref03_Same_oo_t0 false (sub x1 0 (wi (((x1.length : Nat) : Int) - 2))) false (sub x1 0 (wi (((x1.length : Nat) : Int) - 2))) (tbE h9)), .c (law03_alive_t0), .k true, .b (tbE h10)] (by kernel_rfl)
                    · cases h11 : tb (ref03_Same_oo_r0_0 (sub x1 0 (wi (((x1.length : Nat) : Int) - 2))) (sub x1 0 (wi (((x1.length : Nat) : Int) - 2))))
                      · intro g0
                        exact w7 [.o 12 (fun _ => o_len_os (enc := (encI .u8)) (l := x1) (fl := true) (n := x0) (s := 1)), .b (tbE h1), .c (crc_Open_o_t1 x0 x1 (tbE h2) (tbE h3)), .c (ref03_Open_o_t1 x0 x1 (tbE h4) (tbE h5)), .c (crc_Seal_o_t0 x0 x1 (tbE h6)), .c (ref03_Seal_o_t0 x0 x1 (tbE h7)), .y (mm := [(Blk.flat 5 1 (List.map (encI .u8) (sub x1 0 (wi (((x1.length : Nat) : Int) - 2)))) false), (Blk.flat 5 1 (List.map (encI .u8) (sub x1 0 (wi (((x1.length : Nat) : Int) - 2)))) false), (Blk.flat 5 1 [[(.int .u8 (IntKind.u8.wrap (shrI .i64 (crc_More_io_r0_0 65535 x1) 8)))], [(.int .u8 (IntKind.u8.wrap ((crc_More_io_r0_0 65535 x1))))]] false), (Blk.flat 5 1 (List.map (encI .u8) (x1 ++ [(ref03_Seal_o_e0 x1), (ref03_Seal_o_e1 x1)])) false)]) (args := [(V.sl 2 2 0 2), (V.sl 3 (x1.length + [(ref03_Seal_o_e0 x1), (ref03_Seal_o_e1 x1)].length) 0 (x1.length + [(ref03_Seal_o_e0 x1), (ref03_Seal_o_e1 x1)].length))]) (args1 := [(V.d (.rs true 1 [[(.int .u8 (IntKind.u8.wrap (shrI .i64 (crc_More_io_r0_0 65535 x1) 8)))], [(.int .u8 (IntKind.u8.wrap ((crc_More_io_r0_0 65535 x1))))]] false)), (V.d (.rs true 1 (List.map (encI .u8) (x1 ++ [(ref03_Seal_o_e0 x1), (ref03_Seal_o_e1 x1)])) false))]) (byvals_cons (by kernel_rfl) (byvals_cons (byval_sl (enc := (encI .u8)) (l := (x1 ++ [(ref03_Seal_o_e0 x1), (ref03_Seal_o_e1 x1)])) (e := 5) (s := 1) (p := false) (n := (x1.length + [(ref03_Seal_o_e0 x1), (ref03_Seal_o_e1 x1)].length)) (ref03_Seal_o_t0_len0 x1) (by kernel_rfl)) (by kernel_rfl))), .c (ref03_Same_oo_t0 false (law03_CrcTells_e0 x1) false (x1 ++ [(ref03_Seal_o_e0 x1), (ref03_Seal_o_e1 x1)]) (tbE h8)), .y (mm := [(Blk.flat 5 1 (List.map (encI .u8) (sub x1 0 (wi (((x1.length : Nat) : Int) - 2)))) false), (Blk.flat 5 1 (List.map (encI .u8) (sub x1 0 (wi (((x1.length : Nat) : Int) - 2)))) false), (Blk.flat 5 1 [[(.int .u8 (IntKind.u8.wrap (shrI .i64 (crc_More_io_r0_0 65535 x1) 8)))], [(.int .u8 (IntKind.u8.wrap ((crc_More_io_r0_0 65535 x1))))]] false), (Blk.flat 5 1 (List.map (encI .u8) (x1 ++ [(ref03_Seal_o_e0 x1), (ref03_Seal_o_e1 x1)])) false)]) (args := [(V.sl 0 ((sub x1 0 (wi (((x1.length : Nat) : Int) - 2))).length) 0 ((sub x1 0 (wi (((x1.length : Nat) : Int) - 2))).length)), (V.sl 1 ((sub x1 0 (wi (((x1.length : Nat) : Int) - 2))).length) 0 ((sub x1 0 (wi (((x1.length : Nat) : Int) - 2))).length))]) (args1 := [(V.d (.rs true 1 (List.map (encI .u8) (sub x1 0 (wi (((x1.length : Nat) : Int) - 2)))) false)), (V.d (.rs true 1 (List.map (encI .u8) (sub x1 0 (wi (((x1.length : Nat) : Int) - 2)))) false))]) (byvals_cons (byval_sl (enc := (encI .u8)) (l := (sub x1 0 (wi (((x1.length : Nat) : Int) - 2)))) (e := 5) (s := 1) (p := false) (n := ((sub x1 0 (wi (((x1.length : Nat) : Int) - 2))).length)) (Nat.beq_refl _) (by kernel_rfl)) (byvals_cons (byval_sl (enc := (encI .u8)) (l := (sub x1 0 (wi (((x1.length : Nat) : Int) - 2)))) (e := 5) (s := 1) (p := false) (n := ((sub x1 0 (wi (((x1.length : Nat) : Int) - 2))).length)) (Nat.beq_refl _) (by kernel_rfl)) (by kernel_rfl))), .c (ref03_Same_oo_t0 false (sub x1 0 (wi (((x1.length : Nat) : Int) - 2))) false (sub x1 0 (wi (((x1.length : Nat) : Int) - 2))) (tbE h9)), .c (law03_alive_t0), .k true, .b (tbE h10), .b (tbE h11)] (by kernel_rfl)
                      · cases h12 : tb (crc_Sum_o_c0 x1)
                        · intro g0
                          exact absurd g0 ft
                        · cases h13 : tb (ref03_Sum_o_c0 x1)
                          · intro g0
                            exact absurd g0 ft
                          · cases h14 : tb (((crc_More_io_r0_0 65535 x1) : Int) == (ref03_More_io_r0_0 65535 x1))
                            · intro g0
                              exact w7 [.o 12 (fun _ => o_len_os (enc := (encI .u8)) (l := x1) (fl := true) (n := x0) (s := 1)), .b (tbE h1), .c (crc_Open_o_t1 x0 x1 (tbE h2) (tbE h3)), .c (ref03_Open_o_t1 x0 x1 (tbE h4) (tbE h5)), .c (crc_Seal_o_t0 x0 x1 (tbE h6)), .c (ref03_Seal_o_t0 x0 x1 (tbE h7)), .y (mm := [(Blk.flat 5 1 (List.map (encI .u8) (sub x1 0 (wi (((x1.length : Nat) : Int) - 2)))) false), (Blk.flat 5 1 (List.map (encI .u8) (sub x1 0 (wi (((x1.length : Nat) : Int) - 2)))) false), (Blk.flat 5 1 [[(.int .u8 (IntKind.u8.wrap (shrI .i64 (crc_More_io_r0_0 65535 x1) 8)))], [(.int .u8 (IntKind.u8.wrap ((crc_More_io_r0_0 65535 x1))))]] false), (Blk.flat 5 1 (List.map (encI .u8) (x1 ++ [(ref03_Seal_o_e0 x1), (ref03_Seal_o_e1 x1)])) false)]) (args := [(V.sl 2 2 0 2), (V.sl 3 (x1.length + [(ref03_Seal_o_e0 x1), (ref03_Seal_o_e1 x1)].length) 0 (x1.length + [(ref03_Seal_o_e0 x1), (ref03_Seal_o_e1 x1)].length))]) (args1 := [(V.d (.rs true 1 [[(.int .u8 (IntKind.u8.wrap (shrI .i64 (crc_More_io_r0_0 65535 x1) 8)))], [(.int .u8 (IntKind.u8.wrap ((crc_More_io_r0_0 65535 x1))))]] false)), (V.d (.rs true 1 (List.map (encI .u8) (x1 ++ [(ref03_Seal_o_e0 x1), (ref03_Seal_o_e1 x1)])) false))]) (byvals_cons (by kernel_rfl) (byvals_cons (byval_sl (enc := (encI .u8)) (l := (x1 ++ [(ref03_Seal_o_e0 x1), (ref03_Seal_o_e1 x1)])) (e := 5) (s := 1) (p := false) (n := (x1.length + [(ref03_Seal_o_e0 x1), (ref03_Seal_o_e1 x1)].length)) (ref03_Seal_o_t0_len0 x1) (by kernel_rfl)) (by kernel_rfl))), .c (ref03_Same_oo_t0 false (law03_CrcTells_e0 x1) false (x1 ++ [(ref03_Seal_o_e0 x1), (ref03_Seal_o_e1 x1)]) (tbE h8)), .y (mm := [(Blk.flat 5 1 (List.map (encI .u8) (sub x1 0 (wi (((x1.length : Nat) : Int) - 2)))) false), (Blk.flat 5 1 (List.map (encI .u8) (sub x1 0 (wi (((x1.length : Nat) : Int) - 2)))) false), (Blk.flat 5 1 [[(.int .u8 (IntKind.u8.wrap (shrI .i64 (crc_More_io_r0_0 65535 x1) 8)))], [(.int .u8 (IntKind.u8.wrap ((crc_More_io_r0_0 65535 x1))))]] false), (Blk.flat 5 1 (List.map (encI .u8) (x1 ++ [(ref03_Seal_o_e0 x1), (ref03_Seal_o_e1 x1)])) false)]) (args := [(V.sl 0 ((sub x1 0 (wi (((x1.length : Nat) : Int) - 2))).length) 0 ((sub x1 0 (wi (((x1.length : Nat) : Int) - 2))).length)), (V.sl 1 ((sub x1 0 (wi (((x1.length : Nat) : Int) - 2))).length) 0 ((sub x1 0 (wi (((x1.length : Nat) : Int) - 2))).length))]) (args1 := [(V.d (.rs true 1 (List.map (encI .u8) (sub x1 0 (wi (((x1.length : Nat) : Int) - 2)))) false)), (V.d (.rs true 1 (List.map (encI .u8) (sub x1 0 (wi (((x1.length : Nat) : Int) - 2)))) false))]) (byvals_cons (byval_sl (enc := (encI .u8)) (l := (sub x1 0 (wi (((x1.length : Nat) : Int) - 2)))) (e := 5) (s := 1) (p := false) (n := ((sub x1 0 (wi (((x1.length : Nat) : Int) - 2))).length)) (Nat.beq_refl _) (by kernel_rfl)) (byvals_cons (byval_sl (enc := (encI .u8)) (l := (sub x1 0 (wi (((x1.length : Nat) : Int) - 2)))) (e := 5) (s := 1) (p := false) (n := ((sub x1 0 (wi (((x1.length : Nat) : Int) - 2))).length)) (Nat.beq_refl _) (by kernel_rfl)) (by kernel_rfl))), .c (ref03_Same_oo_t0 false (sub x1 0 (wi (((x1.length : Nat) : Int) - 2))) false (sub x1 0 (wi (((x1.length : Nat) : Int) - 2))) (tbE h9)), .c (law03_alive_t0), .k true, .b (tbE h10), .b (tbE h11), .k true, .c (crc_Sum_o_t0 x0 x1 (tbE h12)), .c (ref03_Sum_o_t0 x0 x1 (tbE h13)), .b (tbE h14)] (by kernel_rfl)
                            · cases h15 : tb (crc_More_io_c0 x2 x1)
                              · intro g0
                                exact absurd g0 ft
                              · cases h16 : tb (ref03_More_io_c0 x2 x1)
                                · intro g0
                                  exact absurd g0 ft
                                · intro g0
                                  exact w7 [.o 12 (fun _ => o_len_os (enc := (encI .u8)) (l := x1) (fl := true) (n := x0) (s := 1)), .b (tbE h1), .c (crc_Open_o_t1 x0 x1 (tbE h2) (tbE h3)), .c (ref03_Open_o_t1 x0 x1 (tbE h4) (tbE h5)), .c (crc_Seal_o_t0 x0 x1 (tbE h6)), .c (ref03_Seal_o_t0 x0 x1 (tbE h7)), .y (mm := [(Blk.flat 5 1 (List.map (encI .u8) (sub x1 0 (wi (((x1.length : Nat) : Int) - 2)))) false), (Blk.flat 5 1 (List.map (encI .u8) (sub x1 0 (wi (((x1.length : Nat) : Int) - 2)))) false), (Blk.flat 5 1 [[(.int .u8 (IntKind.u8.wrap (shrI .i64 (crc_More_io_r0_0 65535 x1) 8)))], [(.int .u8 (IntKind.u8.wrap ((crc_More_io_r0_0 65535 x1))))]] false), (Blk.flat 5 1 (List.map (encI .u8) (x1 ++ [(ref03_Seal_o_e0 x1), (ref03_Seal_o_e1 x1)])) false)]) (args := [(V.sl 2 2 0 2), (V.sl 3 (x1.length + [(ref03_Seal_o_e0 x1), (ref03_Seal_o_e1 x1)].length) 0 (x1.length + [(ref03_Seal_o_e0 x1), (ref03_Seal_o_e1 x1)].length))]) (args1 := [(V.d (.rs true 1 [[(.int .u8 (IntKind.u8.wrap (shrI .i64 (crc_More_io_r0_0 65535 x1) 8)))], [(.int .u8 (IntKind.u8.wrap ((crc_More_io_r0_0 65535 x1))))]] false)), (V.d (.rs true 1 (List.map (encI .u8) (x1 ++ [(ref03_Seal_o_e0 x1), (ref03_Seal_o_e1 x1)])) false))]) (byvals_cons (by kernel_rfl) (byvals_cons (byval_sl (enc := (encI .u8)) (l := (x1 ++ [(ref03_Seal_o_e0 x1), (ref03_Seal_o_e1 x1)])) (e := 5) (s := 1) (p := false) (n := (x1.length + [(ref03_Seal_o_e0 x1), (ref03_Seal_o_e1 x1)].length)) (ref03_Seal_o_t0_len0 x1) (by kernel_rfl)) (by kernel_rfl))), .c (ref03_Same_oo_t0 false (law03_CrcTells_e0 x1) false (x1 ++ [(ref03_Seal_o_e0 x1), (ref03_Seal_o_e1 x1)]) (tbE h8)), .y (mm := [(Blk.flat 5 1 (List.map (encI .u8) (sub x1 0 (wi (((x1.length : Nat) : Int) - 2)))) false), (Blk.flat 5 1 (List.map (encI .u8) (sub x1 0 (wi (((x1.length : Nat) : Int) - 2)))) false), (Blk.flat 5 1 [[(.int .u8 (IntKind.u8.wrap (shrI .i64 (crc_More_io_r0_0 65535 x1) 8)))], [(.int .u8 (IntKind.u8.wrap ((crc_More_io_r0_0 65535 x1))))]] false), (Blk.flat 5 1 (List.map (encI .u8) (x1 ++ [(ref03_Seal_o_e0 x1), (ref03_Seal_o_e1 x1)])) false)]) (args := [(V.sl 0 ((sub x1 0 (wi (((x1.length : Nat) : Int) - 2))).length) 0 ((sub x1 0 (wi (((x1.length : Nat) : Int) - 2))).length)), (V.sl 1 ((sub x1 0 (wi (((x1.length : Nat) : Int) - 2))).length) 0 ((sub x1 0 (wi (((x1.length : Nat) : Int) - 2))).length))]) (args1 := [(V.d (.rs true 1 (List.map (encI .u8) (sub x1 0 (wi (((x1.length : Nat) : Int) - 2)))) false)), (V.d (.rs true 1 (List.map (encI .u8) (sub x1 0 (wi (((x1.length : Nat) : Int) - 2)))) false))]) (byvals_cons (byval_sl (enc := (encI .u8)) (l := (sub x1 0 (wi (((x1.length : Nat) : Int) - 2)))) (e := 5) (s := 1) (p := false) (n := ((sub x1 0 (wi (((x1.length : Nat) : Int) - 2))).length)) (Nat.beq_refl _) (by kernel_rfl)) (byvals_cons (byval_sl (enc := (encI .u8)) (l := (sub x1 0 (wi (((x1.length : Nat) : Int) - 2)))) (e := 5) (s := 1) (p := false) (n := ((sub x1 0 (wi (((x1.length : Nat) : Int) - 2))).length)) (Nat.beq_refl _) (by kernel_rfl)) (by kernel_rfl))), .c (ref03_Same_oo_t0 false (sub x1 0 (wi (((x1.length : Nat) : Int) - 2))) false (sub x1 0 (wi (((x1.length : Nat) : Int) - 2))) (tbE h9)), .c (law03_alive_t0), .k true, .b (tbE h10), .b (tbE h11), .k true, .c (crc_Sum_o_t0 x0 x1 (tbE h12)), .c (ref03_Sum_o_t0 x0 x1 (tbE h13)), .b (tbE h14), .c (crc_More_io_t0 x2 x0 x1 (tbE h15)), .c (ref03_More_io_t0 x2 x0 x1 (tbE h16))] (by kernel_rfl)
        · cases h5 : tb (crc_Seal_o_c0 x0 x1)
          · cases h6 : tb (crc_Seal_o_c1 x0 x1)
            · intro g0
              exact absurd g0 ft
            · cases h7 : tb (ref03_Seal_o_c0 x1)
              · intro g0
                exact absurd g0 ft
              · cases h8 : tb (ref03_Same_oo_c0 (crc_Seal_o_e0 x1) (x1 ++ [(ref03_Seal_o_e0 x1), (ref03_Seal_o_e1 x1)]))
                · intro g0
                  exact absurd g0 ft
                · cases h9 : tb (ref03_Same_oo_c0 (sub x1 0 (wi (((x1.length : Nat) : Int) - 2))) [])
                  · intro g0
                    exact absurd g0 ft
                  · cases h10 : tb (ref03_Same_oo_r0_0 (crc_Seal_o_e0 x1) (x1 ++ [(ref03_Seal_o_e0 x1), (ref03_Seal_o_e1 x1)]))
                    · intro g0
                      exact w7 [.o 12 (fun _ => o_len_os (enc := (encI .u8)) (l := x1) (fl := true) (n := x0) (s := 1)), .b (tbE h1), .c (crc_Open_o_t1 x0 x1 (tbE h2) (tbE h3)), .c (ref03_Open_o_t0 x0 x1 (tbE h4)), .c (crc_Seal_o_t1 x0 x1 (tbE h5) (tbE h6)), .c (ref03_Seal_o_t0 x0 x1 (tbE h7)), .y (mm := [(Blk.flat 5 1 (List.map (encI .u8) (sub x1 0 (wi (((x1.length : Nat) : Int) - 2)))) false), (Blk.flat 5 1 (List.map (encI .u8) (crc_Seal_o_e0 x1)) false), (Blk.flat 5 1 (List.map (encI .u8) (x1 ++ [(ref03_Seal_o_e0 x1), (ref03_Seal_o_e1 x1)])) false)]) (args := [(V.sl 1 (x1.length + [(IntKind.u8.wrap (shrI .i64 (crc_More_io_r0_0 65535 x1) 8)), (IntKind.u8.wrap ((crc_More_io_r0_0 65535 x1)))].length) 0 (x1.length + [(IntKind.u8.wrap (shrI .i64 (crc_More_io_r0_0 65535 x1) 8)), (IntKind.u8.wrap ((crc_More_io_r0_0 65535 x1)))].length)), (V.sl 2 (x1.length + [(ref03_Seal_o_e0 x1), (ref03_Seal_o_e1 x1)].length) 0 (x1.length + [(ref03_Seal_o_e0 x1), (ref03_Seal_o_e1 x1)].length))]) (args1 := [(V.d (.rs true 1 (List.map (encI .u8) (crc_Seal_o_e0 x1)) false)), (V.d (.rs true 1 (List.map (encI .u8) (x1 ++ [(ref03_Seal_o_e0 x1), (ref03_Seal_o_e1 x1)])) false))]) (byvals_cons (byval_sl (enc := (encI .u8)) (l := (crc_Seal_o_e0 x1)) (e := 5) (s := 1) (p := false) (n := (x1.length + [(IntKind.u8.wrap (shrI .i64 (crc_More_io_r0_0 65535 x1) 8)), (IntKind.u8.wrap ((crc_More_io_r0_0 65535 x1)))].length)) (crc_Seal_o_t1_len0 x1) (by kernel_rfl)) (byvals_cons (byval_sl (enc := (encI .u8)) (l := (x1 ++ [(ref03_Seal_o_e0 x1), (ref03_Seal_o_e1 x1)])) (e := 5) (s := 1) (p := false) (n := (x1.length + [(ref03_Seal_o_e0 x1), (ref03_Seal_o_e1 x1)].length)) (ref03_Seal_o_t0_len0 x1) (by kernel_rfl)) (by kernel_rfl))), .c (ref03_Same_oo_t0 false (crc_Seal_o_e0 x1) false (x1 ++ [(ref03_Seal_o_e0 x1), (ref03_Seal_o_e1 x1)]) (tbE h8)), .y (mm := [(Blk.flat 5 1 (List.map (encI .u8) (sub x1 0 (wi (((x1.length : Nat) : Int) - 2)))) false), (Blk.flat 5 1 (List.map (encI .u8) (crc_Seal_o_e0 x1)) false), (Blk.flat 5 1 (List.map (encI .u8) (x1 ++ [(ref03_Seal_o_e0 x1), (ref03_Seal_o_e1 x1)])) false)]) (args := [(V.sl 0 ((sub x1 0 (wi (((x1.length : Nat) : Int) - 2))).length) 0 ((sub x1 0 (wi (((x1.length : Nat) : Int) - 2))).length)), (V.d .nils)]) (args1 := [(V.d (.rs true 1 (List.map (encI .u8) (sub x1 0 (wi (((x1.length : Nat) : Int) - 2)))) false)), (V.d .nils)]) (byvals_cons (byval_sl (enc := (encI .u8)) (l := (sub x1 0 (wi (((x1.length : Nat) : Int) - 2)))) (e := 5) (s := 1) (p := false) (n := ((sub x1 0 (wi (((x1.length : Nat) : Int) - 2))).length)) (Nat.beq_refl _) (by kernel_rfl)) (by kernel_rfl)), .c (ref03_Same_oo_t0 false (sub x1 0 (wi (((x1.length : Nat) : Int) - 2))) true [] (tbE h9)), .c (law03_alive_t0), .k true, .b (tbE h10)] (by kernel_rfl)
                    · cases h11 : tb (ref03_Same_oo_r0_0 (sub x1 0 (wi (((x1.length : Nat) : Int) - 2))) [])
                      · intro g0
                        exact w7 [.o 12 (fun _ => o_len_os (enc := (encI .u8)) (l := x1) (fl := true) (n := x0) (s := 1)), .b (tbE h1), .c (crc_Open_o_t1 x0 x1 (tbE h2) (tbE h3)), .c (ref03_Open_o_t0 x0 x1 (tbE h4)), .c (crc_Seal_o_t1 x0 x1 (tbE h5) (tbE h6)), .c (ref03_Seal_o_t0 x0 x1 (tbE h7)), .y (mm := [(Blk.flat 5 1 (List.map (encI .u8) (sub x1 0 (wi (((x1.length : Nat) : Int) - 2)))) false), (Blk.flat 5 1 (List.map (encI .u8) (crc_Seal_o_e0 x1)) false), (Blk.flat 5 1 (List.map (encI .u8) (x1 ++ [(ref03_Seal_o_e0 x1), (ref03_Seal_o_e1 x1)])) false)]) (args := [(V.sl 1 (x1.length + [(IntKind.u8.wrap (shrI .i64 (crc_More_io_r0_0 65535 x1) 8)), (IntKind.u8.wrap ((crc_More_io_r0_0 65535 x1)))].length) 0 (x1.length + [(IntKind.u8.wrap (shrI .i64 (crc_More_io_r0_0 65535 x1) 8)), (IntKind.u8.wrap ((crc_More_io_r0_0 65535 x1)))].length)), (V.sl 2 (x1.length + [(ref03_Seal_o_e0 x1), (ref03_Seal_o_e1 x1)].length) 0 (x1.length + [(ref03_Seal_o_e0 x1), (ref03_Seal_o_e1 x1)].length))]) (args1 := [(V.d (.rs true 1 (List.map (encI .u8) (crc_Seal_o_e0 x1)) false)), (V.d (.rs true 1 (List.map (encI .u8) (x1 ++ [(ref03_Seal_o_e0 x1), (ref03_Seal_o_e1 x1)])) false))]) (byvals_cons (byval_sl (enc := (encI .u8)) (l := (crc_Seal_o_e0 x1)) (e := 5) (s := 1) (p := false) (n := (x1.length + [(IntKind.u8.wrap (shrI .i64 (crc_More_io_r0_0 65535 x1) 8)), (IntKind.u8.wrap ((crc_More_io_r0_0 65535 x1)))].length)) (crc_Seal_o_t1_len0 x1) (by kernel_rfl)) (byvals_cons (byval_sl (enc := (encI .u8)) (l := (x1 ++ [(ref03_Seal_o_e0 x1), (ref03_Seal_o_e1 x1)])) (e := 5) (s := 1) (p := false) (n := (x1.length + [(ref03_Seal_o_e0 x1), (ref03_Seal_o_e1 x1)].length)) (ref03_Seal_o_t0_len0 x1) (by kernel_rfl)) (by kernel_rfl))), .c (ref03_Same_oo_t0 false (crc_Seal_o_e0 x1) false (x1 ++ [(ref03_Seal_o_e0 x1), (ref03_Seal_o_e1 x1)]) (tbE h8)), .y (mm := [(Blk.flat 5 1 (List.map (encI .u8) (sub x1 0 (wi (((x1.length : Nat) : Int) - 2)))) false), (Blk.flat 5 1 (List.map (encI .u8) (crc_Seal_o_e0 x1)) false), (Blk.flat 5 1 (List.map (encI .u8) (x1 ++ [(ref03_Seal_o_e0 x1), (ref03_Seal_o_e1 x1)])) false)]) (args := [(V.sl 0 ((sub x1 0 (wi (((x1.length : Nat) : Int) - 2))).length) 0 ((sub x1 0 (wi (((x1.length : Nat) : Int) - 2))).length)), (V.d .nils)]) (args1 := [(V.d (.rs true 1 (List.map (encI .u8) (sub x1 0 (wi (((x1.length : Nat) : Int) - 2)))) false)), (V.d .nils)]) (byvals_cons (byval_sl (enc := (encI .u8)) (l := (sub x1 0 (wi (((x1.length : Nat) : Int) - 2)))) (e := 5) (s := 1) (p := false) (n := ((sub x1 0 (wi (((x1.length : Nat) : Int) - 2))).length)) (Nat.beq_refl _) (by kernel_rfl)) (by kernel_rfl)), .c (ref03_Same_oo_t0 false (sub x1 0 (wi (((x1.length : Nat) : Int) - 2))) true [] (tbE h9)), .c (law03_alive_t0), .k true, .b (tbE h10), .b (tbE h11)] (by kernel_rfl)
                      · intro g0
                        exact w7 [.o 12 (fun _ => o_len_os (enc := (encI .u8)) (l := x1) (fl := true) (n := x0) (s := 1)), .b (tbE h1), .c (crc_Open_o_t1 x0 x1 (tbE h2) (tbE h3)), .c (ref03_Open_o_t0 x0 x1 (tbE h4)), .c (crc_Seal_o_t1 x0 x1 (tbE h5) (tbE h6)), .c (ref03_Seal_o_t0 x0 x1 (tbE h7)), .y (mm := [(Blk.flat 5 1 (List.map (encI .u8) (sub x1 0 (wi (((x1.length : Nat) : Int) - 2)))) false), (Blk.flat 5 1 (List.map (encI .u8) (crc_Seal_o_e0 x1)) false), (Blk.flat 5 1 (List.map (encI .u8) (x1 ++ [(ref03_Seal_o_e0 x1), (ref03_Seal_o_e1 x1)])) false)]) (args := [(V.sl 1 (x1.length + [(IntKind.u8.wrap (shrI .i64 (crc_More_io_r0_0 65535 x1) 8)), (IntKind.u8.wrap ((crc_More_io_r0_0 65535 x1)))].length) 0 (x1.length + [(IntKind.u8.wrap (shrI .i64 (crc_More_io_r0_0 65535 x1) 8)), (IntKind.u8.wrap ((crc_More_io_r0_0 65535 x1)))].length)), (V.sl 2 (x1.length + [(ref03_Seal_o_e0 x1), (ref03_Seal_o_e1 x1)].length) 0 (x1.length + [(ref03_Seal_o_e0 x1), (ref03_Seal_o_e1 x1)].length))]) (args1 := [(V.d (.rs true 1 (List.map (encI .u8) (crc_Seal_o_e0 x1)) false)), (V.d (.rs true 1 (List.map (encI .u8) (x1 ++ [(ref03_Seal_o_e0 x1), (ref03_Seal_o_e1 x1)])) false))]) (byvals_cons (byval_sl (enc := (encI .u8)) (l := (crc_Seal_o_e0 x1)) (e := 5) (s := 1) (p := false) (n := (x1.length + [(IntKind.u8.wrap (shrI .i64 (crc_More_io_r0_0 65535 x1) 8)), (IntKind.u8.wrap ((crc_More_io_r0_0 65535 x1)))].length)) (crc_Seal_o_t1_len0 x1) (by kernel_rfl)) (byvals_cons (byval_sl (enc := (encI .u8)) (l := (x1 ++ [(ref03_Seal_o_e0 x1), (ref03_Seal_o_e1 x1)])) (e := 5) (s := 1) (p := false) (n := (x1.length + [(ref03_Seal_o_e0 x1), (ref03_Seal_o_e1 x1)].length)) (ref03_Seal_o_t0_len0 x1) (by kernel_rfl)) (by kernel_rfl))), .c (ref03_Same_oo_t0 false (crc_Seal_o_e0 x1) false (x1 ++ [(ref03_Seal_o_e0 x1), (ref03_Seal_o_e1 x1)]) (tbE h8)), .y (mm := [(Blk.flat 5 1 (List.map (encI .u8) (sub x1 0 (wi (((x1.length : Nat) : Int) - 2)))) false), (Blk.flat 5 1 (List.map (encI .u8) (crc_Seal_o_e0 x1)) false), (Blk.flat 5 1 (List.map (encI .u8) (x1 ++ [(ref03_Seal_o_e0 x1), (ref03_Seal_o_e1 x1)])) false)]) (args := [(V.sl 0 ((sub x1 0 (wi (((x1.length : Nat) : Int) - 2))).length) 0 ((sub x1 0 (wi (((x1.length : Nat) : Int) - 2))).length)), (V.d .nils)]) (args1 := [(V.d (.rs true 1 (List.map (encI .u8) (sub x1 0 (wi (((x1.length : Nat) : Int) - 2)))) false)), (V.d .nils)]) (byvals_cons (byval_sl (enc := (encI .u8)) (l := (sub x1 0 (wi (((x1.length : Nat) : Int) - 2)))) (e := 5) (s := 1) (p := false) (n := ((sub x1 0 (wi (((x1.length : Nat) : Int) - 2))).length)) (Nat.beq_refl _) (by kernel_rfl)) (by kernel_rfl)), .c (ref03_Same_oo_t0 false (sub x1 0 (wi (((x1.length : Nat) : Int) - 2))) true [] (tbE h9)), .c (law03_alive_t0), .k true, .b (tbE h10), .b (tbE h11), .k false] (by kernel_rfl)
          · cases h6 : tb (ref03_Seal_o_c0 x1)
            · intro g0
              exact absurd g0 ft
            · cases h7 : tb (ref03_Same_oo_c0 (law03_CrcTells_e0 x1) (x1 ++ [(ref03_Seal_o_e0 x1), (ref03_Seal_o_e1 x1)]))
              · intro g0
                exact absurd g0 ft
              · cases h8 : tb (ref03_Same_oo_c0 (sub x1 0 (wi (((x1.length : Nat) : Int) - 2))) [])
                · intro g0
                  exact absurd g0 ft
                · cases h9 : tb (ref03_Same_oo_r0_0 (law03_CrcTells_e0 x1) (x1 ++ [(ref03_Seal_o_e0 x1), (ref03_Seal_o_e1 x1)]))
                  · intro g0
                    exact w7 [.o 12 (fun _ => o_len_os (enc := (encI .u8)) (l := x1) (fl := true) (n := x0) (s := 1)), .b (tbE h1), .c (crc_Open_o_t1 x0 x1 (tbE h2) (tbE h3)), .c (ref03_Open_o_t0 x0 x1 (tbE h4)), .c (crc_Seal_o_t0 x0 x1 (tbE h5)), .c (ref03_Seal_o_t0 x0 x1 (tbE h6)), .y (mm := [(Blk.flat 5 1 (List.map (encI .u8) (sub x1 0 (wi (((x1.length : Nat) : Int) - 2)))) false), (Blk.flat 5 1 [[(.int .u8 (IntKind.u8.wrap (shrI .i64 (crc_More_io_r0_0 65535 x1) 8)))], [(.int .u8 (IntKind.u8.wrap ((crc_More_io_r0_0 65535 x1))))]] false), (Blk.flat 5 1 (List.map (encI .u8) (x1 ++ [(ref03_Seal_o_e0 x1), (ref03_Seal_o_e1 x1)])) false)]) (args := [(V.sl 1 2 0 2), (V.sl 2 (x1.length + [(ref03_Seal_o_e0 x1), (ref03_Seal_o_e1 x1)].length) 0 (x1.length + [(ref03_Seal_o_e0 x1), (ref03_Seal_o_e1 x1)].length))]) (args1 := [(V.d (.rs true 1 [[(.int .u8 (IntKind.u8.wrap (shrI .i64 (crc_More_io_r0_0 65535 x1) 8)))], [(.int .u8 (IntKind.u8.wrap ((crc_More_io_r0_0 65535 x1))))]] false)), (V.d (.rs true 1 (List.map (encI .u8) (x1 ++ [(ref03_Seal_o_e0 x1), (ref03_Seal_o_e1 x1)])) false))]) (byvals_cons (by kernel_rfl) (byvals_cons (byval_sl (enc := (encI .u8)) (l := (x1 ++ [(ref03_Seal_o_e0 x1), (ref03_Seal_o_e1 x1)])) (e := 5) (s := 1) (p := false) (n := (x1.length + [(ref03_Seal_o_e0 x1), (ref03_Seal_o_e1 x1)].length)) (ref03_Seal_o_t0_len0 x1) (by kernel_rfl)) (by kernel_rfl))), .c (ref03_Same_oo_t0 false (law03_CrcTells_e0 x1) false (x1 ++ [(ref03_Seal_o_e0 x1), (ref03_Seal_o_e1 x1)]) (tbE h7)), .y (mm := [(Blk.flat 5 1 (List.map (encI .u8) (sub x1 0 (wi (((x1.length : Nat) : Int) - 2)))) false), (Blk.flat 5 1 [[(.int .u8 (IntKind.u8.wrap (shrI .i64 (crc_More_io_r0_0 65535 x1) 8)))], [(.int .u8 (IntKind.u8.wrap ((crc_More_io_r0_0 65535 x1))))]] false), (Blk.flat 5 1 (List.map (encI .u8) (x1 ++ [(ref03_Seal_o_e0 x1), (ref03_Seal_o_e1 x1)])) false)]) (args := [(V.sl 0 ((sub x1 0 (wi (((x1.length : Nat) : Int) - 2))).length) 0 ((sub x1 0 (wi (((x1.length : Nat) : Int) - 2))).length)), (V.d .nils)]) (args1 := [(V.d (.rs true 1 (List.map (encI .u8) (sub x1 0 (wi (((x1.length : Nat) : Int) - 2)))) false)), (V.d .nils)]) (byvals_cons (byval_sl (enc := (encI .u8)) (l := (sub x1 0 (wi (((x1.length : Nat) : Int) - 2)))) (e := 5) (s := 1) (p := false) (n := ((sub x1 0 (wi (((x1.length : Nat) : Int) - 2))).length)) (Nat.beq_refl _) (by kernel_rfl)) (by kernel_rfl)), .c (ref03_Same_oo_t0 false (sub x1 0 (wi (((x1.length : Nat) : Int) - 2))) true [] (tbE h8)), .c (law03_alive_t0), .k true, .b (tbE h9)] (by kernel_rfl)
                  · cases h10 : tb (ref03_Same_oo_r0_0 (sub x1 0 (wi (((x1.length : Nat) : Int) - 2))) [])
                    · intro g0
                      exact w7 [.o 12 (fun _ => o_len_os (enc := (encI .u8)) (l := x1) (fl := true) (n := x0) (s := 1)), .b (tbE h1), .c (crc_Open_o_t1 x0 x1 (tbE h2) (tbE h3)), .c (ref03_Open_o_t0 x0 x1 (tbE h4)), .c (crc_Seal_o_t0 x0 x1 (tbE h5)), .c (ref03_Seal_o_t0 x0 x1 (tbE h6)), .y (mm := [(Blk.flat 5 1 (List.map (encI .u8) (sub x1 0 (wi (((x1.length : Nat) : Int) - 2)))) false), (Blk.flat 5 1 [[(.int .u8 (IntKind.u8.wrap (shrI .i64 (crc_More_io_r0_0 65535 x1) 8)))], [(.int .u8 (IntKind.u8.wrap ((crc_More_io_r0_0 65535 x1))))]] false), (Blk.flat 5 1 (List.map (encI .u8) (x1 ++ [(ref03_Seal_o_e0 x1), (ref03_Seal_o_e1 x1)])) false)]) (args := [(V.sl 1 2 0 2), (V.sl 2 (x1.length + [(ref03_Seal_o_e0 x1), (ref03_Seal_o_e1 x1)].length) 0 (x1.length + [(ref03_Seal_o_e0 x1), (ref03_Seal_o_e1 x1)].length))]) (args1 := [(V.d (.rs true 1 [[(.int .u8 (IntKind.u8.wrap (shrI .i64 (crc_More_io_r0_0 65535 x1) 8)))], [(.int .u8 (IntKind.u8.wrap ((crc_More_io_r0_0 65535 x1))))]] false)), (V.d (.rs true 1 (List.map (encI .u8) (x1 ++ [(ref03_Seal_o_e0 x1), (ref03_Seal_o_e1 x1)])) false))]) (byvals_cons (by kernel_rfl) (byvals_cons (byval_sl (enc := (encI .u8)) (l := (x1 ++ [(ref03_Seal_o_e0 x1), (ref03_Seal_o_e1 x1)])) (e := 5) (s := 1) (p := false) (n := (x1.length + [(ref03_Seal_o_e0 x1), (ref03_Seal_o_e1 x1)].length)) (ref03_Seal_o_t0_len0 x1) (by kernel_rfl)) (by kernel_rfl))), .c (ref03_Same_oo_t0 false (law03_CrcTells_e0 x1) false (x1 ++ [(ref03_Seal_o_e0 x1), (ref03_Seal_o_e1 x1)]) (tbE h7)), .y (mm := [(Blk.flat 5 1 (List.map (encI .u8) (sub x1 0 (wi (((x1.length : Nat) : Int) - 2)))) false), (Blk.flat 5 1 [[(.int .u8 (IntKind.u8.wrap (shrI .i64 (crc_More_io_r0_0 65535 x1) 8)))], [(.int .u8 (IntKind.u8.wrap ((crc_More_io_r0_0 65535 x1))))]] false), (Blk.flat 5 1 (List.map (encI .u8) (x1 ++ [(ref03_Seal_o_e0 x1), (ref03_Seal_o_e1 x1)])) false)]) (args := [(V.sl 0 ((sub x1 0 (wi (((x1.length : Nat) : Int) - 2))).length) 0 ((sub x1 0 (wi (((x1.length : Nat) : Int) - 2))).length)), (V.d .nils)]) (args1 := [(V.d (.rs true 1 (List.map (encI .u8) (sub x1 0 (wi (((x1.length : Nat) : Int) - 2)))) false)), (V.d .nils)]) (byvals_cons (byval_sl (enc := (encI .u8)) (l := (sub x1 0 (wi (((x1.length : Nat) : Int) - 2)))) (e := 5) (s := 1) (p := false) (n := ((sub x1 0 (wi (((x1.length : Nat) : Int) - 2))).length)) (Nat.beq_refl _) (by kernel_rfl)) (by kernel_rfl)), .c (ref03_Same_oo_t0 false (sub x1 0 (wi (((x1.length : Nat) : Int) - 2))) true [] (tbE h8)), .c (law03_alive_t0), .k true, .b (tbE h9), .b (tbE h10)] (by kernel_rfl)
                    · intro g0
                      exact w7 [.o 12 (fun _ => o_len_os (enc := (encI .u8)) (l := x1) (fl := true) (n := x0) (s := 1)), .b (tbE h1), .c (crc_Open_o_t1 x0 x1 (tbE h2) (tbE h3)), .c (ref03_Open_o_t0 x0 x1 (tbE h4)), .c (crc_Seal_o_t0 x0 x1 (tbE h5)), .c (ref03_Seal_o_t0 x0 x1 (tbE h6)), .y (mm := [(Blk.flat 5 1 (List.map (encI .u8) (sub x1 0 (wi (((x1.length : Nat) : Int) - 2)))) false), (Blk.flat 5 1 [[(.int .u8 (IntKind.u8.wrap (shrI .i64 (crc_More_io_r0_0 65535 x1) 8)))], [(.int .u8 (IntKind.u8.wrap ((crc_More_io_r0_0 65535 x1))))]] false), (Blk.flat 5 1 (List.map (encI .u8) (x1 ++ [(ref03_Seal_o_e0 x1), (ref03_Seal_o_e1 x1)])) false)]) (args := [(V.sl 1 2 0 2), (V.sl 2 (x1.length + [(ref03_Seal_o_e0 x1), (ref03_Seal_o_e1 x1)].length) 0 (x1.length + [(ref03_Seal_o_e0 x1), (ref03_Seal_o_e1 x1)].length))]) (args1 := [(V.d (.rs true 1 [[(.int .u8 (IntKind.u8.wrap (shrI .i64 (crc_More_io_r0_0 65535 x1) 8)))], [(.int .u8 (IntKind.u8.wrap ((crc_More_io_r0_0 65535 x1))))]] false)), (V.d (.rs true 1 (List.map (encI .u8) (x1 ++ [(ref03_Seal_o_e0 x1), (ref03_Seal_o_e1 x1)])) false))]) (byvals_cons (by kernel_rfl) (byvals_cons (byval_sl (enc := (encI .u8)) (l := (x1 ++ [(ref03_Seal_o_e0 x1), (ref03_Seal_o_e1 x1)])) (e := 5) (s := 1) (p := false) (n := (x1.length + [(ref03_Seal_o_e0 x1), (ref03_Seal_o_e1 x1)].length)) (ref03_Seal_o_t0_len0 x1) (by kernel_rfl)) (by kernel_rfl))), .c (ref03_Same_oo_t0 false (law03_CrcTells_e0 x1) false (x1 ++ [(ref03_Seal_o_e0 x1), (ref03_Seal_o_e1 x1)]) (tbE h7)), .y (mm := [(Blk.flat 5 1 (List.map (encI .u8) (sub x1 0 (wi (((x1.length : Nat) : Int) - 2)))) false), (Blk.flat 5 1 [[(.int .u8 (IntKind.u8.wrap (shrI .i64 (crc_More_io_r0_0 65535 x1) 8)))], [(.int .u8 (IntKind.u8.wrap ((crc_More_io_r0_0 65535 x1))))]] false), (Blk.flat 5 1 (List.map (encI .u8) (x1 ++ [(ref03_Seal_o_e0 x1), (ref03_Seal_o_e1 x1)])) false)]) (args := [(V.sl 0 ((sub x1 0 (wi (((x1.length : Nat) : Int) - 2))).length) 0 ((sub x1 0 (wi (((x1.length : Nat) : Int) - 2))).length)), (V.d .nils)]) (args1 := [(V.d (.rs true 1 (List.map (encI .u8) (sub x1 0 (wi (((x1.length : Nat) : Int) - 2)))) false)), (V.d .nils)]) (byvals_cons (byval_sl (enc := (encI .u8)) (l := (sub x1 0 (wi (((x1.length : Nat) : Int) - 2)))) (e := 5) (s := 1) (p := false) (n := ((sub x1 0 (wi (((x1.length : Nat) : Int) - 2))).length)) (Nat.beq_refl _) (by kernel_rfl)) (by kernel_rfl)), .c (ref03_Same_oo_t0 false (sub x1 0 (wi (((x1.length : Nat) : Int) - 2))) true [] (tbE h8)), .c (law03_alive_t0), .k true, .b (tbE h9), .b (tbE h10), .k false] (by kernel_rfl)
    · cases h3 : tb (ref03_Open_o_c0 x1)
      · cases h4 : tb (ref03_Open_o_c1 x1)
        · intro g0
          exact absurd g0 ft
        · cases h5 : tb (crc_Seal_o_c0 x0 x1)
          · cases h6 : tb (crc_Seal_o_c1 x0 x1)
            · intro g0
              exact absurd g0 ft
            · cases h7 : tb (ref03_Seal_o_c0 x1)
              · intro g0
                exact absurd g0 ft
              · cases h8 : tb (ref03_Same_oo_c0 (crc_Seal_o_e0 x1) (x1 ++ [(ref03_Seal_o_e0 x1), (ref03_Seal_o_e1 x1)]))
                · intro g0
                  exact absurd g0 ft
                · cases h9 : tb (ref03_Same_oo_c0 [] (sub x1 0 (wi (((x1.length : Nat) : Int) - 2))))
                  · intro g0
                    exact absurd g0 ft
                  · cases h10 : tb (ref03_Same_oo_r0_0 (crc_Seal_o_e0 x1) (x1 ++ [(ref03_Seal_o_e0 x1), (ref03_Seal_o_e1 x1)]))
                    · intro g0
                      exact w7 [.o 12 (fun _ => o_len_os (enc := (encI .u8)) (l := x1) (fl := true) (n := x0) (s := 1)), .b (tbE h1), .c (crc_Open_o_t0 x0 x1 (tbE h2)), .c (ref03_Open_o_t1 x0 x1 (tbE h3) (tbE h4)), .c (crc_Seal_o_t1 x0 x1 (tbE h5) (tbE h6)), .c (ref03_Seal_o_t0 x0 x1 (tbE h7)), .y (mm := [(Blk.flat 5 1 (List.map (encI .u8) (sub x1 0 (wi (((x1.length : Nat) : Int) - 2)))) false), (Blk.flat 5 1 (List.map (encI .u8) (crc_Seal_o_e0 x1)) false), (Blk.flat 5 1 (List.map (encI .u8) (x1 ++ [(ref03_Seal_o_e0 x1), (ref03_Seal_o_e1 x1)])) false)]) (args := [(V.sl 1 (x1.length + [(IntKind.u8.wrap (shrI .i64 (crc_More_io_r0_0 65535 x1) 8)), (IntKind.u8.wrap ((crc_More_io_r0_0 65535 x1)))].length) 0 (x1.length + [(IntKind.u8.wrap (shrI .i64 (crc_More_io_r0_0 65535 x1) 8)), (IntKind.u8.wrap ((crc_More_io_r0_0 65535 x1)))].length)), (V.sl 2 (x1.length + [(ref03_Seal_o_e0 x1), (ref03_Seal_o_e1 x1)].length) 0 (x1.length + [(ref03_Seal_o_e0 x1), (ref03_Seal_o_e1 x1)].length))]) (args1 := [(V.d (.rs true 1 (List.map (encI .u8) (crc_Seal_o_e0 x1)) false)), (V.d (.rs true 1 (List.map (encI .u8) (x1 ++ [(ref03_Seal_o_e0 x1), (ref03_Seal_o_e1 x1)])) false))]) (byvals_cons (byval_sl (enc := (encI .u8)) (l := (crc_Seal_o_e0 x1)) (e := 5) (s := 1) (p := false) (n := (x1.length + [(IntKind.u8.wrap (shrI .i64 (crc_More_io_r0_0 65535 x1) 8)), (IntKind.u8.wrap ((crc_More_io_r0_0 65535 x1)))].length)) (crc_Seal_o_t1_len0 x1) (by kernel_rfl)) (byvals_cons (byval_sl (enc := (encI .u8)) (l := (x1 ++ [(ref03_Seal_o_e0 x1), (ref03_Seal_o_e1 x1)])) (e := 5) (s := 1) (p := false) (n := (x1.length + [(ref03_Seal_o_e0 x1), (ref03_Seal_o_e1 x1)].length)) (ref03_Seal_o_t0_len0 x1) (by kernel_rfl)) (by kernel_rfl))), .c (ref03_Same_oo_t0 false (crc_Seal_o_e0 x1) false (x1 ++ [(ref03_Seal_o_e0 x1), (ref03_Seal_o_e1 x1)]) (tbE h8)), .y (mm := [(Blk.flat 5 1 (List.map (encI .u8) (sub x1 0 (wi (((x1.length : Nat) : Int) - 2)))) false), (Blk.flat 5 1 (List.map (encI .u8) (crc_Seal_o_e0 x1)) false), (Blk.flat 5 1 (List.map (encI .u8) (x1 ++ [(ref03_Seal_o_e0 x1), (ref03_Seal_o_e1 x1)])) false)]) (args := [(V.d .nils), (V.sl 0 ((sub x1 0 (wi (((x1.length : Nat) : Int) - 2))).length) 0 ((sub x1 0 (wi (((x1.length : Nat) : Int) - 2))).length))]) (args1 := [(V.d .nils), (V.d (.rs true 1 (List.map (encI .u8) (sub x1 0 (wi (((x1.length : Nat) : Int) - 2)))) false))]) (byvals_cons (by kernel_rfl) (byvals_cons (byval_sl (enc := (encI .u8)) (l := (sub x1 0 (wi (((x1.length : Nat) : Int) - 2)))) (e := 5) (s := 1) (p := false) (n := ((sub x1 0 (wi (((x1.length : Nat) : Int) - 2))).length)) (Nat.beq_refl _) (by kernel_rfl)) (by kernel_rfl))), .c (ref03_Same_oo_t0 true [] false (sub x1 0 (wi (((x1.length : Nat) : Int) - 2))) (tbE h9)), .c (law03_alive_t0), .k true, .b (tbE h10)] (by kernel_rfl)
                    · cases h11 : tb (ref03_Same_oo_r0_0 [] (sub x1 0 (wi (((x1.length : Nat) : Int) - 2))))
                      · intro g0
                        exact w7 [.o 12 (fun _ => o_len_os (enc := (encI .u8)) (l := x1) (fl := true) (n := x0) (s := 1)), .b (tbE h1), .c (crc_Open_o_t0 x0 x1 (tbE h2)), .c (ref03_Open_o_t1 x0 x1 (tbE h3) (tbE h4)), .c (crc_Seal_o_t1 x0 x1 (tbE h5) (tbE h6)), .c (ref03_Seal_o_t0 x0 x1 (tbE h7)), .y (mm := [(Blk.flat 5 1 (List.map (encI .u8) (sub x1 0 (wi (((x1.length : Nat) : Int) - 2)))) false), (Blk.flat 5 1 (List.map (encI .u8) (crc_Seal_o_e0 x1)) false), (Blk.flat 5 1 (List.map (encI .u8) (x1 ++ [(ref03_Seal_o_e0 x1), (ref03_Seal_o_e1 x1)])) false)]) (args := [(V.sl 1 (x1.length + [(IntKind.u8.wrap (shrI .i64 (crc_More_io_r0_0 65535 x1) 8)), (IntKind.u8.wrap ((crc_More_io_r0_0 65535 x1)))].length) 0 (x1.length + [(IntKind.u8.wrap (shrI .i64 (crc_More_io_r0_0 65535 x1) 8)), (IntKind.u8.wrap ((crc_More_io_r0_0 65535 x1)))].length)), (V.sl 2 (x1.length + [(ref03_Seal_o_e0 x1), (ref03_Seal_o_e1 x1)].length) 0 (x1.length + [(ref03_Seal_o_e0 x1), (ref03_Seal_o_e1 x1)].length))]) (args1 := [(V.d (.rs true 1 (List.map (encI .u8) (crc_Seal_o_e0 x1)) false)), (V.d (.rs true 1 (List.map (encI .u8) (x1 ++ [(ref03_Seal_o_e0 x1), (ref03_Seal_o_e1 x1)])) false))]) (byvals_cons (byval_sl (enc := (encI .u8)) (l := (crc_Seal_o_e0 x1)) (e := 5) (s := 1) (p := false) (n := (x1.length + [(IntKind.u8.wrap (shrI .i64 (crc_More_io_r0_0 65535 x1) 8)), (IntKind.u8.wrap ((crc_More_io_r0_0 65535 x1)))].length)) (crc_Seal_o_t1_len0 x1) (by kernel_rfl)) (byvals_cons (byval_sl (enc := (encI .u8)) (l := (x1 ++ [(ref03_Seal_o_e0 x1), (ref03_Seal_o_e1 x1)])) (e := 5) (s := 1) (p := false) (n := (x1.length + [(ref03_Seal_o_e0 x1), (ref03_Seal_o_e1 x1)].length)) (ref03_Seal_o_t0_len0 x1) (by kernel_rfl)) (by kernel_rfl))), .c (ref03_Same_oo_t0 false (crc_Seal_o_e0 x1) false (x1 ++ [(ref03_Seal_o_e0 x1), (ref03_Seal_o_e1 x1)]) (tbE h8)), .y (mm := [(Blk.flat 5 1 (List.map (encI .u8) (sub x1 0 (wi (((x1.length : Nat) : Int) - 2)))) false), (Blk.flat 5 1 (List.map (encI .u8) (crc_Seal_o_e0 x1)) false), (Blk.flat 5 1 (List.map (encI .u8) (x1 ++ [(ref03_Seal_o_e0 x1), (ref03_Seal_o_e1 x1)])) false)]) (args := [(V.d .nils), (V.sl 0 ((sub x1 0 (wi (((x1.length : Nat) : Int) - 2))).length) 0 ((sub x1 0 (wi (((x1.length : Nat) : Int) - 2))).length))]) (args1 := [(V.d .nils), (V.d (.rs true 1 (List.map (encI .u8) (sub x1 0 (wi (((x1.length : Nat) : Int) - 2)))) false))]) (byvals_cons (by kernel_rfl) (byvals_cons (byval_sl (enc := (encI .u8)) (l := (sub x1 0 (wi (((x1.length : Nat) : Int) - 2)))) (e := 5) (s := 1) (p := false) (n := ((sub x1 0 (wi (((x1.length : Nat) : Int) - 2))).length)) (Nat.beq_refl _) (by kernel_rfl)) (by kernel_rfl))), .c (ref03_Same_oo_t0 true [] false (sub x1 0 (wi (((x1.length : Nat) : Int) - 2))) (tbE h9)), .c (law03_alive_t0), .k true, .b (tbE h10), .b (tbE h11)] (by kernel_rfl)
                      · cases h12 : tb (false != ((crc_Open_o_r0_0 x0 x1) == true))
                        · intro g0
                          exact w7 [.o 12 (fun _ => o_len_os (enc := (encI .u8)) (l := x1) (fl := true) (n := x0) (s := 1)), .b (tbE h1), .c (crc_Open_o_t0 x0 x1 (tbE h2)), .c (ref03_Open_o_t1 x0 x1 (tbE h3) (tbE h4)), .c (crc_Seal_o_t1 x0 x1 (tbE h5) (tbE h6)), .c (ref03_Seal_o_t0 x0 x1 (tbE h7)), .y (mm := [(Blk.flat 5 1 (List.map (encI .u8) (sub x1 0 (wi (((x1.length : Nat) : Int) - 2)))) false), (Blk.flat 5 1 (List.map (encI .u8) (crc_Seal_o_e0 x1)) false), (Blk.flat 5 1 (List.map (encI .u8) (x1 ++ [(ref03_Seal_o_e0 x1), (ref03_Seal_o_e1 x1)])) false)]) (args := [(V.sl 1 (x1.length + [(IntKind.u8.wrap (shrI .i64 (crc_More_io_r0_0 65535 x1) 8)), (IntKind.u8.wrap ((crc_More_io_r0_0 65535 x1)))].length) 0 (x1.length + [(IntKind.u8.wrap (shrI .i64 (crc_More_io_r0_0 65535 x1) 8)), (IntKind.u8.wrap ((crc_More_io_r0_0 65535 x1)))].length)), (V.sl 2 (x1.length + [(ref03_Seal_o_e0 x1), (ref03_Seal_o_e1 x1)].length) 0 (x1.length + [(ref03_Seal_o_e0 x1), (ref03_Seal_o_e1 x1)].length))]) (args1 := [(V.d (.rs true 1 (List.map (encI .u8) (crc_Seal_o_e0 x1)) false)), (V.d (.rs true 1 (List.map (encI .u8) (x1 ++ [(ref03_Seal_o_e0 x1), (ref03_Seal_o_e1 x1)])) false))]) (byvals_cons (byval_sl (enc := (encI .u8)) (l := (crc_Seal_o_e0 x1)) (e := 5) (s := 1) (p := false) (n := (x1.length + [(IntKind.u8.wrap (shrI .i64 (crc_More_io_r0_0 65535 x1) 8)), (IntKind.u8.wrap ((crc_More_io_r0_0 65535 x1)))].length)) (crc_Seal_o_t1_len0 x1) (by kernel_rfl)) (byvals_cons (byval_sl (enc := (encI .u8)) (l := (x1 ++ [(ref03_Seal_o_e0 x1), (ref03_Seal_o_e1 x1)])) (e := 5) (s := 1) (p := false) (n := (x1.length + [(ref03_Seal_o_e0 x1), (ref03_Seal_o_e1 x1)].length)) (ref03_Seal_o_t0_len0 x1) (by kernel_rfl)) (by kernel_rfl))), .c (ref03_Same_oo_t0 false (crc_Seal_o_e0 x1) false (x1 ++ [(ref03_Seal_o_e0 x1), (ref03_Seal_o_e1 x1)]) (tbE h8)), .y (mm := [(Blk.flat 5 1 (List.map (encI .u8) (sub x1 0 (wi (((x1.length : Nat) : Int) - 2)))) false), (Blk.flat 5 1 (List.map (encI .u8) (crc_Seal_o_e0 x1)) false), (Blk.flat 5 1 (List.map (encI .u8) (x1 ++ [(ref03_Seal_o_e0 x1), (ref03_Seal_o_e1 x1)])) false)]) (args := [(V.d .nils), (V.sl 0 ((sub x1 0 (wi (((x1.length : Nat) : Int) - 2))).length) 0 ((sub x1 0 (wi (((x1.length : Nat) : Int) - 2))).length))]) (args1 := [(V.d .nils), (V.d (.rs true 1 (List.map (encI .u8) (sub x1 0 (wi (((x1.length : Nat) : Int) - 2)))) false))]) (byvals_cons (by kernel_rfl) (byvals_cons (byval_sl (enc := (encI .u8)) (l := (sub x1 0 (wi (((x1.length : Nat) : Int) - 2)))) (e := 5) (s := 1) (p := false) (n := ((sub x1 0 (wi (((x1.length : Nat) : Int) - 2))).length)) (Nat.beq_refl _) (by kernel_rfl)) (by kernel_rfl))), .c (ref03_Same_oo_t0 true [] false (sub x1 0 (wi (((x1.length : Nat) : Int) - 2))) (tbE h9)), .c (law03_alive_t0), .k true, .b (tbE h10), .b (tbE h11), .b (tbE h12)] (by kernel_rfl)
                        · cases h13 : tb (crc_Sum_o_c0 x1)
                          · intro g0
                            exact absurd g0 ft
                          · cases h14 : tb (ref03_Sum_o_c0 x1)
                            · intro g0
                              exact absurd g0 ft
                            · cases h15 : tb (((crc_More_io_r0_0 65535 x1) : Int) == (ref03_More_io_r0_0 65535 x1))
                              · intro g0
                                exact w7 [.o 12 (fun _ => o_len_os (enc := (encI .u8)) (l := x1) (fl := true) (n := x0) (s := 1)), .b (tbE h1), .c (crc_Open_o_t0 x0 x1 (tbE h2)), .c (ref03_Open_o_t1 x0 x1 (tbE h3) (tbE h4)), .c (crc_Seal_o_t1 x0 x1 (tbE h5) (tbE h6)), .c (ref03_Seal_o_t0 x0 x1 (tbE h7)), .y (mm := [(Blk.flat 5 1 (List.map (encI .u8) (sub x1 0 (wi (((x1.length : Nat) : Int) - 2)))) false), (Blk.flat 5 1 (List.map (encI .u8) (crc_Seal_o_e0 x1)) false), (Blk.flat 5 1 (List.map (encI .u8) (x1 ++ [(ref03_Seal_o_e0 x1), (ref03_Seal_o_e1 x1)])) false)]) (args := [(V.sl 1 (x1.length + [(IntKind.u8.wrap (shrI .i64 (crc_More_io_r0_0 65535 x1) 8)), (IntKind.u8.wrap ((crc_More_io_r0_0 65535 x1)))].length) 0 (x1.length + [(IntKind.u8.wrap (shrI .i64 (crc_More_io_r0_0 65535 x1) 8)), (IntKind.u8.wrap ((crc_More_io_r0_0 65535 x1)))].length)), (V.sl 2 (x1.length + [(ref03_Seal_o_e0 x1), (ref03_Seal_o_e1 x1)].length) 0 (x1.length + [(ref03_Seal_o_e0 x1), (ref03_Seal_o_e1 x1)].length))]) (args1 := [(V.d (.rs true 1 (List.map (encI .u8) (crc_Seal_o_e0 x1)) false)), (V.d (.rs true 1 (List.map (encI .u8) (x1 ++ [(ref03_Seal_o_e0 x1), (ref03_Seal_o_e1 x1)])) false))]) (byvals_cons (byval_sl (enc := (encI .u8)) (l := (crc_Seal_o_e0 x1)) (e := 5) (s := 1) (p := false) (n := (x1.length + [(IntKind.u8.wrap (shrI .i64 (crc_More_io_r0_0 65535 x1) 8)), (IntKind.u8.wrap ((crc_More_io_r0_0 65535 x1)))].length)) (crc_Seal_o_t1_len0 x1) (by kernel_rfl)) (byvals_cons (byval_sl (enc := (encI .u8)) (l := (x1 ++ [(ref03_Seal_o_e0 x1), (ref03_Seal_o_e1 x1)])) (e := 5) (s := 1) (p := false) (n := (x1.length + [(ref03_Seal_o_e0 x1), (ref03_Seal_o_e1 x1)].length)) (ref03_Seal_o_t0_len0 x1) (by kernel_rfl)) (by kernel_rfl))), .c (ref03_Same_oo_t0 false (crc_Seal_o_e0 x1) false (x1 ++ [(ref03_Seal_o_e0 x1), (ref03_Seal_o_e1 x1)]) (tbE h8)), .y (mm := [(Blk.flat 5 1 (List.map (encI .u8) (sub x1 0 (wi (((x1.length : Nat) : Int) - 2)))) false), (Blk.flat 5 1 (List.map (encI .u8) (crc_Seal_o_e0 x1)) false), (Blk.flat 5 1 (List.map (encI .u8) (x1 ++ [(ref03_Seal_o_e0 x1), (ref03_Seal_o_e1 x1)])) false)]) (args := [(V.d .nils), (V.sl 0 ((sub x1 0 (wi (((x1.length : Nat) : Int) - 2))).length) 0 ((sub x1 0 (wi (((x1.length : Nat) : Int) - 2))).length))]) (args1 := [(V.d .nils), (V.d (.rs true 1 (List.map (encI .u8) (sub x1 0 (wi (((x1.length : Nat) : Int) - 2)))) false))]) (byvals_cons (by kernel_rfl) (byvals_cons (byval_sl (enc := (encI .u8)) (l := (sub x1 0 (wi (((x1.length : Nat) : Int) - 2)))) (e := 5) (s := 1) (p := false) (n := ((sub x1 0 (wi (((x1.length : Nat) : Int) - 2))).length)) (Nat.beq_refl _) (by kernel_rfl)) (by kernel_rfl))), .c (ref03_Same_oo_t0 true [] false (sub x1 0 (wi (((x1.length : Nat) : Int) - 2))) (tbE h9)), .c (law03_alive_t0), .k true, .b (tbE h10), .b (tbE h11), .b (tbE h12), .c (crc_Sum_o_t0 x0 x1 (tbE h13)), .c (ref03_Sum_o_t0 x0 x1 (tbE h14)), .b (tbE h15)] (by kernel_rfl)
                              · cases h16 : tb (crc_More_io_c0 x2 x1)
                                · intro g0
                                  exact absurd g0 ft
                                · cases h17 : tb (ref03_More_io_c0 x2 x1)
                                  · intro g0
                                    exact absurd g0 ft
                                  · intro g0
                                    exact w7 [.o 12 (fun _ => o_len_os (enc := (encI .u8)) (l := x1) (fl := true) (n := x0) (s := 1)), .b (tbE h1), .c (crc_Open_o_t0 x0 x1 (tbE h2)), .c (ref03_Open_o_t1 x0 x1 (tbE h3) (tbE h4)), .c (crc_Seal_o_t1 x0 x1 (tbE h5) (tbE h6)), .c (ref03_Seal_o_t0 x0 x1 (tbE h7)), .y (mm := [(Blk.flat 5 1 (List.map (encI .u8) (sub x1 0 (wi (((x1.length : Nat) : Int) - 2)))) false), (Blk.flat 5 1 (List.map (encI .u8) (crc_Seal_o_e0 x1)) false), (Blk.flat 5 1 (List.map (encI .u8) (x1 ++ [(ref03_Seal_o_e0 x1), (ref03_Seal_o_e1 x1)])) false)]) (args := [(V.sl 1 (x1.length + [(IntKind.u8.wrap (shrI .i64 (crc_More_io_r0_0 65535 x1) 8)), (IntKind.u8.wrap ((crc_More_io_r0_0 65535 x1)))].length) 0 (x1.length + [(IntKind.u8.wrap (shrI .i64 (crc_More_io_r0_0 65535 x1) 8)), (IntKind.u8.wrap ((crc_More_io_r0_0 65535 x1)))].length)), (V.sl 2 (x1.length + [(ref03_Seal_o_e0 x1), (ref03_Seal_o_e1 x1)].length) 0 (x1.length + [(ref03_Seal_o_e0 x1), (ref03_Seal_o_e1 x1)].length))]) (args1 := [(V.d (.rs true 1 (List.map (encI .u8) (crc_Seal_o_e0 x1)) false)), (V.d (.rs true 1 (List.map (encI .u8) (x1 ++ [(ref03_Seal_o_e0 x1), (ref03_Seal_o_e1 x1)])) false))]) (byvals_cons (byval_sl (enc := (encI .u8)) (l := (crc_Seal_o_e0 x1)) (e := 5) (s := 1) (p := false) (n := (x1.length + [(IntKind.u8.wrap (shrI .i64 (crc_More_io_r0_0 65535 x1) 8)), (IntKind.u8.wrap ((crc_More_io_r0_0 65535 x1)))].length)) (crc_Seal_o_t1_len0 x1) (by kernel_rfl)) (byvals_cons (byval_sl (enc := (encI .u8)) (l := (x1 ++ [(ref03_Seal_o_e0 x1), (ref03_Seal_o_e1 x1)])) (e := 5) (s := 1) (p := false) (n := (x1.length + [(ref03_Seal_o_e0 x1), (ref03_Seal_o_e1 x1)].length)) (ref03_Seal_o_t0_len0 x1) (by kernel_rfl)) (by kernel_rfl))), .c (ref03_Same_oo_t0 false (crc_Seal_o_e0 x1) false (x1 ++ [(ref03_Seal_o_e0 x1), (ref03_Seal_o_e1 x1)]) (tbE h8)), .y (mm := [(Blk.flat 5 1 (List.map (encI .u8) (sub x1 0 (wi (((x1.length : Nat) : Int) - 2)))) false), (Blk.flat 5 1 (List.map (encI .u8) (crc_Seal_o_e0 x1)) false), (Blk.flat 5 1 (List.map (encI .u8) (x1 ++ [(ref03_Seal_o_e0 x1), (ref03_Seal_o_e1 x1)])) false)]) (args := [(V.d .nils), (V.sl 0 ((sub x1 0 (wi (((x1.length : Nat) : Int) - 2))).length) 0 ((sub x1 0 (wi (((x1.length : Nat) : Int) - 2))).length))]) (args1 := [(V.d .nils), (V.d (.rs true 1 (List.map (encI .u8) (sub x1 0 (wi (((x1.length : Nat) : Int) - 2)))) false))]) (byvals_cons (by kernel_rfl) (byvals_cons (byval_sl (enc := (encI .u8)) (l := (sub x1 0 (wi (((x1.length : Nat) : Int) - 2)))) (e := 5) (s := 1) (p := false) (n := ((sub x1 0 (wi (((x1.length : Nat) : Int) - 2))).length)) (Nat.beq_refl _) (by kernel_rfl)) (by kernel_rfl))), .c (ref03_Same_oo_t0 true [] false (sub x1 0 (wi (((x1.length : Nat) : Int) - 2))) (tbE h9)), .c (law03_alive_t0), .k true, .b (tbE h10), .b (tbE h11), .b (tbE h12), .c (crc_Sum_o_t0 x0 x1 (tbE h13)), .c (ref03_Sum_o_t0 x0 x1 (tbE h14)), .b (tbE h15), .c (crc_More_io_t0 x2 x0 x1 (tbE h16)), .c (ref03_More_io_t0 x2 x0 x1 (tbE h17))] (by kernel_rfl)
          · cases h6 : tb (ref03_Seal_o_c0 x1)
            · intro g0
              exact absurd g0 ft
            · cases h7 : tb (ref03_Same_oo_c0 (law03_CrcTells_e0 x1) (x1 ++ [(ref03_Seal_o_e0 x1), (ref03_Seal_o_e1 x1)]))
              · intro g0
                exact absurd g0 ft
              · cases h8 : tb (ref03_Same_oo_c0 [] (sub x1 0 (wi (((x1.length : Nat) : Int) - 2))))
                · intro g0
                  exact absurd g0 ft
                · cases h9 : tb (ref03_Same_oo_r0_0 (law03_CrcTells_e0 x1) (x1 ++ [(ref03_Seal_o_e0 x1), (ref03_Seal_o_e1 x1)]))
                  · intro g0
                    exact w7 [.o 12 (fun _ => o_len_os (enc := (encI .u8)) (l := x1) (fl := true) (n := x0) (s := 1)), .b (tbE h1), .c (crc_Open_o_t0 x0 x1 (tbE h2)), .c (ref03_Open_o_t1 x0 x1 (tbE h3) (tbE h4)), .c (crc_Seal_o_t0 x0 x1 (tbE h5)), .c (ref03_Seal_o_t0 x0 x1 (tbE h6)), .y (mm := [(Blk.flat 5 1 (List.map (encI .u8) (sub x1 0 (wi (((x1.length : Nat) : Int) - 2)))) false), (Blk.flat 5 1 [[(.int .u8 (IntKind.u8.wrap (shrI .i64 (crc_More_io_r0_0 65535 x1) 8)))], [(.int .u8 (IntKind.u8.wrap ((crc_More_io_r0_0 65535 x1))))]] false), (Blk.flat 5 1 (List.map (encI .u8) (x1 ++ [(ref03_Seal_o_e0 x1), (ref03_Seal_o_e1 x1)])) false)]) (args := [(V.sl 1 2 0 2), (V.sl 2 (x1.length + [(ref03_Seal_o_e0 x1), (ref03_Seal_o_e1 x1)].length) 0 (x1.length + [(ref03_Seal_o_e0 x1), (ref03_Seal_o_e1 x1)].length))]) (args1 := [(V.d (.rs true 1 [[(.int .u8 (IntKind.u8.wrap (shrI .i64 (crc_More_io_r0_0 65535 x1) 8)))], [(.int .u8 (IntKind.u8.wrap ((crc_More_io_r0_0 65535 x1))))]] false)), (V.d (.rs true 1 (List.map (encI .u8) (x1 ++ [(ref03_Seal_o_e0 x1), (ref03_Seal_o_e1 x1)])) false))]) (byvals_cons (by kernel_rfl) (byvals_cons (byval_sl (enc := (encI .u8)) (l := (x1 ++ [(ref03_Seal_o_e0 x1), (ref03_Seal_o_e1 x1)])) (e := 5) (s := 1) (p := false) (n := (x1.length + [(ref03_Seal_o_e0 x1), (ref03_Seal_o_e1 x1)].length)) (ref03_Seal_o_t0_len0 x1) (by kernel_rfl)) (by kernel_rfl))), .c (ref03_Same_oo_t0 false (law03_CrcTells_e0 x1) false (x1 ++ [(ref03_Seal_o_e0 x1), (ref03_Seal_o_e1 x1)]) (tbE h7)), .y (mm := [(Blk.flat 5 1 (List.map (encI .u8) (sub x1 0 (wi (((x1.length : Nat) : Int) - 2)))) false), (Blk.flat 5 1 [[(.int .u8 (IntKind.u8.wrap (shrI .i64 (crc_More_io_r0_0 65535 x1) 8)))], [(.int .u8 (IntKind.u8.wrap ((crc_More_io_r0_0 65535 x1))))]] false), (Blk.flat 5 1 (List.map (encI .u8) (x1 ++ [(ref03_Seal_o_e0 x1), (ref03_Seal_o_e1 x1)])) false)]) (args := [(V.d .nils), (V.sl 0 ((sub x1 0 (wi (((x1.length : Nat) : Int) - 2))).length) 0 ((sub x1 0 (wi (((x1.length : Nat) : Int) - 2))).length))]) (args1 := [(V.d .nils), (V.d (.rs true 1 (List.map (encI .u8) (sub x1 0 (wi (((x1.length : Nat) : Int) - 2)))) false))]) (byvals_cons (by kernel_rfl) (byvals_cons (byval_sl (enc := (encI .u8)) (l := (sub x1 0 (wi (((x1.length : Nat) : Int) - 2)))) (e := 5) (s := 1) (p := false) (n := ((sub x1 0 (wi (((x1.length : Nat) : Int) - 2))).length)) (Nat.beq_refl _) (by kernel_rfl)) (by kernel_rfl))), .c (ref03_Same_oo_t0 true [] false (sub x1 0 (wi (((x1.length : Nat) : Int) - 2))) (tbE h8)), .c (law03_alive_t0), .k true, .b (tbE h9)] (by kernel_rfl)
                  · cases h10 : tb (ref03_Same_oo_r0_0 [] (sub x1 0 (wi (((x1.length : Nat) : Int) - 2))))
                    · intro g0
                      exact w7 [.o 12 (fun _ => o_len_os (enc := (encI .u8)) (l := x1) (fl := true) (n := x0) (s := 1)), .b (tbE h1), .c (crc_Open_o_t0 x0 x1 (tbE h2)), .c (ref03_Open_o_t1 x0 x1 (tbE h3) (tbE h4)), .c (crc_Seal_o_t0 x0 x1 (tbE h5)), .c (ref03_Seal_o_t0 x0 x1 (tbE h6)), .y (mm := [(Blk.flat 5 1 (List.map (encI .u8) (sub x1 0 (wi (((x1.length : Nat) : Int) - 2)))) false), (Blk.flat 5 1 [[(.int .u8 (IntKind.u8.wrap (shrI .i64 (crc_More_io_r0_0 65535 x1) 8)))], [(.int .u8 (IntKind.u8.wrap ((crc_More_io_r0_0 65535 x1))))]] false), (Blk.flat 5 1 (List.map (encI .u8) (x1 ++ [(ref03_Seal_o_e0 x1), (ref03_Seal_o_e1 x1)])) false)]) (args := [(V.sl 1 2 0 2), (V.sl 2 (x1.length + [(ref03_Seal_o_e0 x1), (ref03_Seal_o_e1 x1)].length) 0 (x1.length + [(ref03_Seal_o_e0 x1), (ref03_Seal_o_e1 x1)].length))]) (args1 := [(V.d (.rs true 1 [[(.int .u8 (IntKind.u8.wrap (shrI .i64 (crc_More_io_r0_0 65535 x1) 8)))], [(.int .u8 (IntKind.u8.wrap ((crc_More_io_r0_0 65535 x1))))]] false)), (V.d (.rs true 1 (List.map (encI .u8) (x1 ++ [(ref03_Seal_o_e0 x1), (ref03_Seal_o_e1 x1)])) false))]) (byvals_cons (by kernel_rfl) (byvals_cons (byval_sl (enc := (encI .u8)) (l := (x1 ++ [(ref03_Seal_o_e0 x1), (ref03_Seal_o_e1 x1)])) (e := 5) (s := 1) (p := false) (n := (x1.length + [(ref03_Seal_o_e0 x1), (ref03_Seal_o_e1 x1)].length)) (ref03_Seal_o_t0_len0 x1) (by kernel_rfl)) (by kernel_rfl))), .c (ref03_Same_oo_t0 false (law03_CrcTells_e0 x1) false (x1 ++ [(ref03_Seal_o_e0 x1), (ref03_Seal_o_e1 x1)]) (tbE h7)), .y (mm := [(Blk.flat 5 1 (List.map (encI .u8) (sub x1 0 (wi (((x1.length : Nat) : Int) - 2)))) false), (Blk.flat 5 1 [[(.int .u8 (IntKind.u8.wrap (shrI .i64 (crc_More_io_r0_0 65535 x1) 8)))], [(.int .u8 (IntKind.u8.wrap ((crc_More_io_r0_0 65535 x1))))]] false), (Blk.flat 5 1 (List.map (encI .u8) (x1 ++ [(ref03_Seal_o_e0 x1), (ref03_Seal_o_e1 x1)])) false)]) (args := [(V.d .nils), (V.sl 0 ((sub x1 0 (wi (((x1.length : Nat) : Int) - 2))).length) 0 ((sub x1 0 (wi (((x1.length : Nat) : Int) - 2))).length))]) (args1 := [(V.d .nils), (V.d (.rs true 1 (List.map (encI .u8) (sub x1 0 (wi (((x1.length : Nat) : Int) - 2)))) false))]) (byvals_cons (by kernel_rfl) (byvals_cons (byval_sl (enc := (encI .u8)) (l := (sub x1 0 (wi (((x1.length : Nat) : Int) - 2)))) (e := 5) (s := 1) (p := false) (n := ((sub x1 0 (wi (((x1.length : Nat) : Int) - 2))).length)) (Nat.beq_refl _) (by kernel_rfl)) (by kernel_rfl))), .c (ref03_Same_oo_t0 true [] false (sub x1 0 (wi (((x1.length : Nat) : Int) - 2))) (tbE h8)), .c (law03_alive_t0), .k true, .b (tbE h9), .b (tbE h10)] (by kernel_rfl)
                    · cases h11 : tb (false != ((crc_Open_o_r0_0 x0 x1) == true))
                      · intro g0
                        exact w7 [.o 12 (fun _ => o_len_os (enc := (encI .u8)) (l := x1) (fl := true) (n := x0) (s := 1)), .b (tbE h1), .c (crc_Open_o_t0 x0 x1 (tbE h2)), .c (ref03_Open_o_t1 x0 x1 (tbE h3) (tbE h4)), .c (crc_Seal_o_t0 x0 x1 (tbE h5)), .c (ref03_Seal_o_t0 x0 x1 (tbE h6)), .y (mm := [(Blk.flat 5 1 (List.map (encI .u8) (sub x1 0 (wi (((x1.length : Nat) : Int) - 2)))) false), (Blk.flat 5 1 [[(.int .u8 (IntKind.u8.wrap (shrI .i64 (crc_More_io_r0_0 65535 x1) 8)))], [(.int .u8 (IntKind.u8.wrap ((crc_More_io_r0_0 65535 x1))))]] false), (Blk.flat 5 1 (List.map (encI .u8) (x1 ++ [(ref03_Seal_o_e0 x1), (ref03_Seal_o_e1 x1)])) false)]) (args := [(V.sl 1 2 0 2), (V.sl 2 (x1.length + [(ref03_Seal_o_e0 x1), (ref03_Seal_o_e1 x1)].length) 0 (x1.length + [(ref03_Seal_o_e0 x1), (ref03_Seal_o_e1 x1)].length))]) (args1 := [(V.d (.rs true 1 [[(.int .u8 (IntKind.u8.wrap (shrI .i64 (crc_More_io_r0_0 65535 x1) 8)))], [(.int .u8 (IntKind.u8.wrap ((crc_More_io_r0_0 65535 x1))))]] false)), (V.d (.rs true 1 (List.map (encI .u8) (x1 ++ [(ref03_Seal_o_e0 x1), (ref03_Seal_o_e1 x1)])) false))]) (byvals_cons (by kernel_rfl) (byvals_cons (byval_sl (enc := (encI .u8)) (l := (x1 ++ [(ref03_Seal_o_e0 x1), (ref03_Seal_o_e1 x1)])) (e := 5) (s := 1) (p := false) (n := (x1.length + [(ref03_Seal_o_e0 x1), (ref03_Seal_o_e1 x1)].length)) (ref03_Seal_o_t0_len0 x1) (by kernel_rfl)) (by kernel_rfl))), .c (ref03_Same_oo_t0 false (law03_CrcTells_e0 x1) false (x1 ++ [(ref03_Seal_o_e0 x1), (ref03_Seal_o_e1 x1)]) (tbE h7)), .y (mm := [(Blk.flat 5 1 (List.map (encI .u8) (sub x1 0 (wi (((x1.length : Nat) : Int) - 2)))) false), (Blk.flat 5 1 [[(.int .u8 (IntKind.u8.wrap (shrI .i64 (crc_More_io_r0_0 65535 x1) 8)))], [(.int .u8 (IntKind.u8.wrap ((crc_More_io_r0_0 65535 x1))))]] false), (Blk.flat 5 1 (List.map (encI .u8) (x1 ++ [(ref03_Seal_o_e0 x1), (ref03_Seal_o_e1 x1)])) false)]) (args := [(V.d .nils), (V.sl 0 ((sub x1 0 (wi (((x1.length : Nat) : Int) - 2))).length) 0 ((sub x1 0 (wi (((x1.length : Nat) : Int) - 2))).length))]) (args1 := [(V.d .nils), (V.d (.rs true 1 (List.map (encI .u8) (sub x1 0 (wi (((x1.length : Nat) : Int) - 2)))) false))]) (byvals_cons (by kernel_rfl) (byvals_cons (byval_sl (enc := (encI .u8)) (l := (sub x1 0 (wi (((x1.length : Nat) : Int) - 2)))) (e := 5) (s := 1) (p := false) (n := ((sub x1 0 (wi (((x1.length : Nat) : Int) - 2))).length)) (Nat.beq_refl _) (by kernel_rfl)) (by kernel_rfl))), .c (ref03_Same_oo_t0 true [] false (sub x1 0 (wi (((x1.length : Nat) : Int) - 2))) (tbE h8)), .c (law03_alive_t0), .k true, .b (tbE h9), .b (tbE h10), .b (tbE h11)] (by kernel_rfl)
                      · cases h12 : tb (crc_Sum_o_c0 x1)
                        · intro g0
                          exact absurd g0 ft
                        · cases h13 : tb (ref03_Sum_o_c0 x1)
                          · intro g0
                            exact absurd g0 ft
                          · cases h14 : tb (((crc_More_io_r0_0 65535 x1) : Int) == (ref03_More_io_r0_0 65535 x1))
                            · intro g0
                              exact w7 [.o 12 (fun _ => o_len_os (enc := (encI .u8)) (l := x1) (fl := true) (n := x0) (s := 1)), .b (tbE h1), .c (crc_Open_o_t0 x0 x1 (tbE h2)), .c (ref03_Open_o_t1 x0 x1 (tbE h3) (tbE h4)), .c (crc_Seal_o_t0 x0 x1 (tbE h5)), .c (ref03_Seal_o_t0 x0 x1 (tbE h6)), .y (mm := [(Blk.flat 5 1 (List.map (encI .u8) (sub x1 0 (wi (((x1.length : Nat) : Int) - 2)))) false), (Blk.flat 5 1 [[(.int .u8 (IntKind.u8.wrap (shrI .i64 (crc_More_io_r0_0 65535 x1) 8)))], [(.int .u8 (IntKind.u8.wrap ((crc_More_io_r0_0 65535 x1))))]] false), (Blk.flat 5 1 (List.map (encI .u8) (x1 ++ [(ref03_Seal_o_e0 x1), (ref03_Seal_o_e1 x1)])) false)]) (args := [(V.sl 1 2 0 2), (V.sl 2 (x1.length + [(ref03_Seal_o_e0 x1), (ref03_Seal_o_e1 x1)].length) 0 (x1.length + [(ref03_Seal_o_e0 x1), (ref03_Seal_o_e1 x1)].length))]) (args1 := [(V.d (.rs true 1 [[(.int .u8 (IntKind.u8.wrap (shrI .i64 (crc_More_io_r0_0 65535 x1) 8)))], [(.int .u8 (IntKind.u8.wrap ((crc_More_io_r0_0 65535 x1))))]] false)), (V.d (.rs true 1 (List.map (encI .u8) (x1 ++ [(ref03_Seal_o_e0 x1), (ref03_Seal_o_e1 x1)])) false))]) (byvals_cons (by kernel_rfl) (byvals_cons (byval_sl (enc := (encI .u8)) (l := (x1 ++ [(ref03_Seal_o_e0 x1), (ref03_Seal_o_e1 x1)])) (e := 5) (s := 1) (p := false) (n := (x1.length + [(ref03_Seal_o_e0 x1), (ref03_Seal_o_e1 x1)].length)) (ref03_Seal_o_t0_len0 x1) (by kernel_rfl)) (by kernel_rfl))), .c (ref03_Same_oo_t0 false (law03_CrcTells_e0 x1) false (x1 ++ [(ref03_Seal_o_e0 x1), (ref03_Seal_o_e1 x1)]) (tbE h7)), .y (mm := [(Blk.flat 5 1 (List.map (encI .u8) (sub x1 0 (wi (((x1.length : Nat) : Int) - 2)))) false), (Blk.flat 5 1 [[(.int .u8 (IntKind.u8.wrap (shrI .i64 (crc_More_io_r0_0 65535 x1) 8)))], [(.int .u8 (IntKind.u8.wrap ((crc_More_io_r0_0 65535 x1))))]] false), (Blk.flat 5 1 (List.map (encI .u8) (x1 ++ [(ref03_Seal_o_e0 x1), (ref03_Seal_o_e1 x1)])) false)]) (args := [(V.d .nils), (V.sl 0 ((sub x1 0 (wi (((x1.length : Nat) : Int) - 2))).length) 0 ((sub x1 0 (wi (((x1.length : Nat) : Int) - 2))).length))]) (args1 := [(V.d .nils), (V.d (.rs true 1 (List.map (encI .u8) (sub x1 0 (wi (((x1.length : Nat) : Int) - 2)))) false))]) (byvals_cons (by kernel_rfl) (byvals_cons (byval_sl (enc := (encI .u8)) (l := (sub x1 0 (wi (((x1.length : Nat) : Int) - 2)))) (e := 5) (s := 1) (p := false) (n := ((sub x1 0 (wi (((x1.length : Nat) : Int) - 2))).length)) (Nat.beq_refl _) (by kernel_rfl)) (by kernel_rfl))), .c (ref03_Same_oo_t0 true [] false (sub x1 0 (wi (((x1.length : Nat) : Int) - 2))) (tbE h8)), .c (law03_alive_t0), .k true, .b (tbE h9), .b (tbE h10), .b (tbE h11), .c (crc_Sum_o_t0 x0 x1 (tbE h12)), .c (ref03_Sum_o_t0 x0 x1 (tbE h13)), .b (tbE h14)] (by kernel_rfl)
                            · cases h15 : tb (crc_More_io_c0 x2 x1)
                              · intro g0
                                exact absurd g0 ft
                              · cases h16 : tb (ref03_More_io_c0 x2 x1)
                                · intro g0
                                  exact absurd g0 ft
                                · intro g0
                                  exact w7 [.o 12 (fun _ => o_len_os (enc := (encI .u8)) (l := x1) (fl := true) (n := x0) (s := 1)), .b (tbE h1), .c (crc_Open_o_t0 x0 x1 (tbE h2)), .c (ref03_Open_o_t1 x0 x1 (tbE h3) (tbE h4)), .c (crc_Seal_o_t0 x0 x1 (tbE h5)), .c (ref03_Seal_o_t0 x0 x1 (tbE h6)), .y (mm := [(Blk.flat 5 1 (List.map (encI .u8) (sub x1 0 (wi (((x1.length : Nat) : Int) - 2)))) false), (Blk.flat 5 1 [[(.int .u8 (IntKind.u8.wrap (shrI .i64 (crc_More_io_r0_0 65535 x1) 8)))], [(.int .u8 (IntKind.u8.wrap ((crc_More_io_r0_0 65535 x1))))]] false), (Blk.flat 5 1 (List.map (encI .u8) (x1 ++ [(ref03_Seal_o_e0 x1), (ref03_Seal_o_e1 x1)])) false)]) (args := [(V.sl 1 2 0 2), (V.sl 2 (x1.length + [(ref03_Seal_o_e0 x1), (ref03_Seal_o_e1 x1)].length) 0 (x1.length + [(ref03_Seal_o_e0 x1), (ref03_Seal_o_e1 x1)].length))]) (args1 := [(V.d (.rs true 1 [[(.int .u8 (IntKind.u8.wrap (shrI .i64 (crc_More_io_r0_0 65535 x1) 8)))], [(.int .u8 (IntKind.u8.wrap ((crc_More_io_r0_0 65535 x1))))]] false)), (V.d (.rs true 1 (List.map (encI .u8) (x1 ++ [(ref03_Seal_o_e0 x1), (ref03_Seal_o_e1 x1)])) false))]) (byvals_cons (by kernel_rfl) (byvals_cons (byval_sl (enc := (encI .u8)) (l := (x1 ++ [(ref03_Seal_o_e0 x1), (ref03_Seal_o_e1 x1)])) (e := 5) (s := 1) (p := false) (n := (x1.length + [(ref03_Seal_o_e0 x1), (ref03_Seal_o_e1 x1)].length)) (ref03_Seal_o_t0_len0 x1) (by kernel_rfl)) (by kernel_rfl))), .c (ref03_Same_oo_t0 false (law03_CrcTells_e0 x1) false (x1 ++ [(ref03_Seal_o_e0 x1), (ref03_Seal_o_e1 x1)]) (tbE h7)), .y (mm := [(Blk.flat 5 1 (List.map (encI .u8) (sub x1 0 (wi (((x1.length : Nat) : Int) - 2)))) false), (Blk.flat 5 1 [[(.int .u8 (IntKind.u8.wrap (shrI .i64 (crc_More_io_r0_0 65535 x1) 8)))], [(.int .u8 (IntKind.u8.wrap ((crc_More_io_r0_0 65535 x1))))]] false), (Blk.flat 5 1 (List.map (encI .u8) (x1 ++ [(ref03_Seal_o_e0 x1), (ref03_Seal_o_e1 x1)])) false)]) (args := [(V.d .nils), (V.sl 0 ((sub x1 0 (wi (((x1.length : Nat) : Int) - 2))).length) 0 ((sub x1 0 (wi (((x1.length : Nat) : Int) - 2))).length))]) (args1 := [(V.d .nils), (V.d (.rs true 1 (List.map (encI .u8) (sub x1 0 (wi (((x1.length : Nat) : Int) - 2)))) false))]) (byvals_cons (by kernel_rfl) (byvals_cons (byval_sl (enc := (encI .u8)) (l := (sub x1 0 (wi (((x1.length : Nat) : Int) - 2)))) (e := 5) (s := 1) (p := false) (n := ((sub x1 0 (wi (((x1.length : Nat) : Int) - 2))).length)) (Nat.beq_refl _) (by kernel_rfl)) (by kernel_rfl))), .c (ref03_Same_oo_t0 true [] false (sub x1 0 (wi (((x1.length : Nat) : Int) - 2))) (tbE h8)), .c (law03_alive_t0), .k true, .b (tbE h9), .b (tbE h10), .b (tbE h11), .c (crc_Sum_o_t0 x0 x1 (tbE h12)), .c (ref03_Sum_o_t0 x0 x1 (tbE h13)), .b (tbE h14), .c (crc_More_io_t0 x2 x0 x1 (tbE h15)), .c (ref03_More_io_t0 x2 x0 x1 (tbE h16))] (by kernel_rfl)
      · cases h4 : tb (crc_Seal_o_c0 x0 x1)
        · cases h5 : tb (crc_Seal_o_c1 x0 x1)
          · intro g0
            exact absurd g0 ft
          · cases h6 : tb (ref03_Seal_o_c0 x1)
            · intro g0
              exact absurd g0 ft
            · cases h7 : tb (ref03_Same_oo_c0 (crc_Seal_o_e0 x1) (x1 ++ [(ref03_Seal_o_e0 x1), (ref03_Seal_o_e1 x1)]))
              · intro g0
                exact absurd g0 ft
              · cases h8 : tb (ref03_Same_oo_c0 [] [])
                · intro g0
                  exact absurd g0 ft
                · cases h9 : tb (ref03_Same_oo_r0_0 (crc_Seal_o_e0 x1) (x1 ++ [(ref03_Seal_o_e0 x1), (ref03_Seal_o_e1 x1)]))
                  · intro g0
                    exact w7 [.o 12 (fun _ => o_len_os (enc := (encI .u8)) (l := x1) (fl := true) (n := x0) (s := 1)), .b (tbE h1), .c (crc_Open_o_t0 x0 x1 (tbE h2)), .c (ref03_Open_o_t0 x0 x1 (tbE h3)), .c (crc_Seal_o_t1 x0 x1 (tbE h4) (tbE h5)), .c (ref03_Seal_o_t0 x0 x1 (tbE h6)), .y (mm := [(Blk.flat 5 1 (List.map (encI .u8) (crc_Seal_o_e0 x1)) false), (Blk.flat 5 1 (List.map (encI .u8) (x1 ++ [(ref03_Seal_o_e0 x1), (ref03_Seal_o_e1 x1)])) false)]) (args := [(V.sl 0 (x1.length + [(IntKind.u8.wrap (shrI .i64 (crc_More_io_r0_0 65535 x1) 8)), (IntKind.u8.wrap ((crc_More_io_r0_0 65535 x1)))].length) 0 (x1.length + [(IntKind.u8.wrap (shrI .i64 (crc_More_io_r0_0 65535 x1) 8)), (IntKind.u8.wrap ((crc_More_io_r0_0 65535 x1)))].length)), (V.sl 1 (x1.length + [(ref03_Seal_o_e0 x1), (ref03_Seal_o_e1 x1)].length) 0 (x1.length + [(ref03_Seal_o_e0 x1), (ref03_Seal_o_e1 x1)].length))]) (args1 := [(V.d (.rs true 1 (List.map (encI .u8) (crc_Seal_o_e0 x1)) false)), (V.d (.rs true 1 (List.map (encI .u8) (x1 ++ [(ref03_Seal_o_e0 x1), (ref03_Seal_o_e1 x1)])) false))]) (byvals_cons (byval_sl (enc := (encI .u8)) (l := (crc_Seal_o_e0 x1)) (e := 5) (s := 1) (p := false) (n := (x1.length + [(IntKind.u8.wrap (shrI .i64 (crc_More_io_r0_0 65535 x1) 8)), (IntKind.u8.wrap ((crc_More_io_r0_0 65535 x1)))].length)) (crc_Seal_o_t1_len0 x1) (by kernel_rfl)) (byvals_cons (byval_sl (enc := (encI .u8)) (l := (x1 ++ [(ref03_Seal_o_e0 x1), (ref03_Seal_o_e1 x1)])) (e := 5) (s := 1) (p := false) (n := (x1.length + [(ref03_Seal_o_e0 x1), (ref03_Seal_o_e1 x1)].length)) (ref03_Seal_o_t0_len0 x1) (by kernel_rfl)) (by kernel_rfl))), .c (ref03_Same_oo_t0 false (crc_Seal_o_e0 x1) false (x1 ++ [(ref03_Seal_o_e0 x1), (ref03_Seal_o_e1 x1)]) (tbE h7)), .c (ref03_Same_oo_t0 true [] true [] (tbE h8)), .c (law03_alive_t0), .k true, .b (tbE h9)] (by kernel_rfl)
                  · cases h10 : tb (ref03_Same_oo_r0_0 [] [])
                    · intro g0
                      exact w7 [.o 12 (fun _ => o_len_os (enc := (encI .u8)) (l := x1) (fl := true) (n := x0) (s := 1)), .b (tbE h1), .c (crc_Open_o_t0 x0 x1 (tbE h2)), .c (ref03_Open_o_t0 x0 x1 (tbE h3)), .c (crc_Seal_o_t1 x0 x1 (tbE h4) (tbE h5)), .c (ref03_Seal_o_t0 x0 x1 (tbE h6)), .y (mm := [(Blk.flat 5 1 (List.map (encI .u8) (crc_Seal_o_e0 x1)) false), (Blk.flat 5 1 (List.map (encI .u8) (x1 ++ [(ref03_Seal_o_e0 x1), (ref03_Seal_o_e1 x1)])) false)]) (args := [(V.sl 0 (x1.length + [(IntKind.u8.wrap (shrI .i64 (crc_More_io_r0_0 65535 x1) 8)), (IntKind.u8.wrap ((crc_More_io_r0_0 65535 x1)))].length) 0 (x1.length + [(IntKind.u8.wrap (shrI .i64 (crc_More_io_r0_0 65535 x1) 8)), (IntKind.u8.wrap ((crc_More_io_r0_0 65535 x1)))].length)), (V.sl 1 (x1.length + [(ref03_Seal_o_e0 x1), (ref03_Seal_o_e1 x1)].length) 0 (x1.length + [(ref03_Seal_o_e0 x1), (ref03_Seal_o_e1 x1)].length))]) (args1 := [(V.d (.rs true 1 (List.map (encI .u8) (crc_Seal_o_e0 x1)) false)), (V.d (.rs true 1 (List.map (encI .u8) (x1 ++ [(ref03_Seal_o_e0 x1), (ref03_Seal_o_e1 x1)])) false))]) (byvals_cons (byval_sl (enc := (encI .u8)) (l := (crc_Seal_o_e0 x1)) (e := 5) (s := 1) (p := false) (n := (x1.length + [(IntKind.u8.wrap (shrI .i64 (crc_More_io_r0_0 65535 x1) 8)), (IntKind.u8.wrap ((crc_More_io_r0_0 65535 x1)))].length)) (crc_Seal_o_t1_len0 x1) (by kernel_rfl)) (byvals_cons (byval_sl (enc := (encI .u8)) (l := (x1 ++ [(ref03_Seal_o_e0 x1), (ref03_Seal_o_e1 x1)])) (e := 5) (s := 1) (p := false) (n := (x1.length + [(ref03_Seal_o_e0 x1), (ref03_Seal_o_e1 x1)].length)) (ref03_Seal_o_t0_len0 x1) (by kernel_rfl)) (by kernel_rfl))), .c (ref03_Same_oo_t0 false (crc_Seal_o_e0 x1) false (x1 ++ [(ref03_Seal_o_e0 x1), (ref03_Seal_o_e1 x1)]) (tbE h7)), .c (ref03_Same_oo_t0 true [] true [] (tbE h8)), .c (law03_alive_t0), .k true, .b (tbE h9), .b (tbE h10)] (by kernel_rfl)
                    · cases h11 : tb (false != ((crc_Open_o_r0_0 x0 x1) == false))
                      · intro g0
                        exact w7 [.o 12 (fun _ => o_len_os (enc := (encI .u8)) (l := x1) (fl := true) (n := x0) (s := 1)), .b (tbE h1), .c (crc_Open_o_t0 x0 x1 (tbE h2)), .c (ref03_Open_o_t0 x0 x1 (tbE h3)), .c (crc_Seal_o_t1 x0 x1 (tbE h4) (tbE h5)), .c (ref03_Seal_o_t0 x0 x1 (tbE h6)), .y (mm := [(Blk.flat 5 1 (List.map (encI .u8) (crc_Seal_o_e0 x1)) false), (Blk.flat 5 1 (List.map (encI .u8) (x1 ++ [(ref03_Seal_o_e0 x1), (ref03_Seal_o_e1 x1)])) false)]) (args := [(V.sl 0 (x1.length + [(IntKind.u8.wrap (shrI .i64 (crc_More_io_r0_0 65535 x1) 8)), (IntKind.u8.wrap ((crc_More_io_r0_0 65535 x1)))].length) 0 (x1.length + [(IntKind.u8.wrap (shrI .i64 (crc_More_io_r0_0 65535 x1) 8)), (IntKind.u8.wrap ((crc_More_io_r0_0 65535 x1)))].length)), (V.sl 1 (x1.length + [(ref03_Seal_o_e0 x1), (ref03_Seal_o_e1 x1)].length) 0 (x1.length + [(ref03_Seal_o_e0 x1), (ref03_Seal_o_e1 x1)].length))]) (args1 := [(V.d (.rs true 1 (List.map (encI .u8) (crc_Seal_o_e0 x1)) false)), (V.d (.rs true 1 (List.map (encI .u8) (x1 ++ [(ref03_Seal_o_e0 x1), (ref03_Seal_o_e1 x1)])) false))]) (byvals_cons (byval_sl (enc := (encI .u8)) (l := (crc_Seal_o_e0 x1)) (e := 5) (s := 1) (p := false) (n := (x1.length + [(IntKind.u8.wrap (shrI .i64 (crc_More_io_r0_0 65535 x1) 8)), (IntKind.u8.wrap ((crc_More_io_r0_0 65535 x1)))].length)) (crc_Seal_o_t1_len0 x1) (by kernel_rfl)) (byvals_cons (byval_sl (enc := (encI .u8)) (l := (x1 ++ [(ref03_Seal_o_e0 x1), (ref03_Seal_o_e1 x1)])) (e := 5) (s := 1) (p := false) (n := (x1.length + [(ref03_Seal_o_e0 x1), (ref03_Seal_o_e1 x1)].length)) (ref03_Seal_o_t0_len0 x1) (by kernel_rfl)) (by kernel_rfl))), .c (ref03_Same_oo_t0 false (crc_Seal_o_e0 x1) false (x1 ++ [(ref03_Seal_o_e0 x1), (ref03_Seal_o_e1 x1)]) (tbE h7)), .c (ref03_Same_oo_t0 true [] true [] (tbE h8)), .c (law03_alive_t0), .k true, .b (tbE h9), .b (tbE h10), .b (tbE h11)] (by kernel_rfl)
                      · cases h12 : tb (crc_Sum_o_c0 x1)
                        · intro g0
                          exact absurd g0 ft
                        · cases h13 : tb (ref03_Sum_o_c0 x1)
                          · intro g0
                            exact absurd g0 ft
                          · cases h14 : tb (((crc_More_io_r0_0 65535 x1) : Int) == (ref03_More_io_r0_0 65535 x1))
                            · intro g0
                              exact w7 [.o 12 (fun _ => o_len_os (enc := (encI .u8)) (l := x1) (fl := true) (n := x0) (s := 1)), .b (tbE h1), .c (crc_Open_o_t0 x0 x1 (tbE h2)), .c (ref03_Open_o_t0 x0 x1 (tbE h3)), .c (crc_Seal_o_t1 x0 x1 (tbE h4) (tbE h5)), .c (ref03_Seal_o_t0 x0 x1 (tbE h6)), .y (mm := [(Blk.flat 5 1 (List.map (encI .u8) (crc_Seal_o_e0 x1)) false), (Blk.flat 5 1 (List.map (encI .u8) (x1 ++ [(ref03_Seal_o_e0 x1), (ref03_Seal_o_e1 x1)])) false)]) (args := [(V.sl 0 (x1.length + [(IntKind.u8.wrap (shrI .i64 (crc_More_io_r0_0 65535 x1) 8)), (IntKind.u8.wrap ((crc_More_io_r0_0 65535 x1)))].length) 0 (x1.length + [(IntKind.u8.wrap (shrI .i64 (crc_More_io_r0_0 65535 x1) 8)), (IntKind.u8.wrap ((crc_More_io_r0_0 65535 x1)))].length)), (V.sl 1 (x1.length + [(ref03_Seal_o_e0 x1), (ref03_Seal_o_e1 x1)].length) 0 (x1.length + [(ref03_Seal_o_e0 x1), (ref03_Seal_o_e1 x1)].length))]) (args1 := [(V.d (.rs true 1 (List.map (encI .u8) (crc_Seal_o_e0 x1)) false)), (V.d (.rs true 1 (List.map (encI .u8) (x1 ++ [(ref03_Seal_o_e0 x1), (ref03_Seal_o_e1 x1)])) false))]) (byvals_cons (byval_sl (enc := (encI .u8)) (l := (crc_Seal_o_e0 x1)) (e := 5) (s := 1) (p := false) (n := (x1.length + [(IntKind.u8.wrap (shrI .i64 (crc_More_io_r0_0 65535 x1) 8)), (IntKind.u8.wrap ((crc_More_io_r0_0 65535 x1)))].length)) (crc_Seal_o_t1_len0 x1) (by kernel_rfl)) (byvals_cons (byval_sl (enc := (encI .u8)) (l := (x1 ++ [(ref03_Seal_o_e0 x1), (ref03_Seal_o_e1 x1)])) (e := 5) (s := 1) (p := false) (n := (x1.length + [(ref03_Seal_o_e0 x1), (ref03_Seal_o_e1 x1)].length)) (ref03_Seal_o_t0_len0 x1) (by kernel_rfl)) (by kernel_rfl))), .c (ref03_Same_oo_t0 false (crc_Seal_o_e0 x1) false (x1 ++ [(ref03_Seal_o_e0 x1), (ref03_Seal_o_e1 x1)]) (tbE h7)), .c (ref03_Same_oo_t0 true [] true [] (tbE h8)), .c (law03_alive_t0), .k true, .b (tbE h9), .b (tbE h10), .b (tbE h11), .c (crc_Sum_o_t0 x0 x1 (tbE h12)), .c (ref03_Sum_o_t0 x0 x1 (tbE h13)), .b (tbE h14)] (by kernel_rfl)
                            · cases h15 : tb (crc_More_io_c0 x2 x1)
                              · intro g0
                                exact absurd g0 ft
                              · cases h16 : tb (ref03_More_io_c0 x2 x1)
                                · intro g0
                                  exact absurd g0 ft
                                · intro g0
                                  exact w7 [.o 12 (fun _ => o_len_os (enc := (encI .u8)) (l := x1) (fl := true) (n := x0) (s := 1)), .b (tbE h1), .c (crc_Open_o_t0 x0 x1 (tbE h2)), .c (ref03_Open_o_t0 x0 x1 (tbE h3)), .c (crc_Seal_o_t1 x0 x1 (tbE h4) (tbE h5)), .c (ref03_Seal_o_t0 x0 x1 (tbE h6)), .y (mm := [(Blk.flat 5 1 (List.map (encI .u8) (crc_Seal_o_e0 x1)) false), (Blk.flat 5 1 (List.map (encI .u8) (x1 ++ [(ref03_Seal_o_e0 x1), (ref03_Seal_o_e1 x1)])) false)]) (args := [(V.sl 0 (x1.length + [(IntKind.u8.wrap (shrI .i64 (crc_More_io_r0_0 65535 x1) 8)), (IntKind.u8.wrap ((crc_More_io_r0_0 65535 x1)))].length) 0 (x1.length + [(IntKind.u8.wrap (shrI .i64 (crc_More_io_r0_0 65535 x1) 8)), (IntKind.u8.wrap ((crc_More_io_r0_0 65535 x1)))].length)), (V.sl 1 (x1.length + [(ref03_Seal_o_e0 x1), (ref03_Seal_o_e1 x1)].length) 0 (x1.length + [(ref03_Seal_o_e0 x1), (ref03_Seal_o_e1 x1)].length))]) (args1 := [(V.d (.rs true 1 (List.map (encI .u8) (crc_Seal_o_e0 x1)) false)), (V.d (.rs true 1 (List.map (encI .u8) (x1 ++ [(ref03_Seal_o_e0 x1), (ref03_Seal_o_e1 x1)])) false))]) (byvals_cons (byval_sl (enc := (encI .u8)) (l := (crc_Seal_o_e0 x1)) (e := 5) (s := 1) (p := false) (n := (x1.length + [(IntKind.u8.wrap (shrI .i64 (crc_More_io_r0_0 65535 x1) 8)), (IntKind.u8.wrap ((crc_More_io_r0_0 65535 x1)))].length)) (crc_Seal_o_t1_len0 x1) (by kernel_rfl)) (byvals_cons (byval_sl (enc := (encI .u8)) (l := (x1 ++ [(ref03_Seal_o_e0 x1), (ref03_Seal_o_e1 x1)])) (e := 5) (s := 1) (p := false) (n := (x1.length + [(ref03_Seal_o_e0 x1), (ref03_Seal_o_e1 x1)].length)) (ref03_Seal_o_t0_len0 x1) (by kernel_rfl)) (by kernel_rfl))), .c (ref03_Same_oo_t0 false (crc_Seal_o_e0 x1) false (x1 ++ [(ref03_Seal_o_e0 x1), (ref03_Seal_o_e1 x1)]) (tbE h7)), .c (ref03_Same_oo_t0 true [] true [] (tbE h8)), .c (law03_alive_t0), .k true, .b (tbE h9), .b (tbE h10), .b (tbE h11), .c (crc_Sum_o_t0 x0 x1 (tbE h12)), .c (ref03_Sum_o_t0 x0 x1 (tbE h13)), .b (tbE h14), .c (crc_More_io_t0 x2 x0 x1 (tbE h15)), .c (ref03_More_io_t0 x2 x0 x1 (tbE h16))] (by kernel_rfl)
        · cases h5 : tb (ref03_Seal_o_c0 x1)
          · intro g0
            exact absurd g0 ft
          · cases h6 : tb (ref03_Same_oo_c0 (law03_CrcTells_e0 x1) (x1 ++ [(ref03_Seal_o_e0 x1), (ref03_Seal_o_e1 x1)]))
            · intro g0
              exact absurd g0 ft
            · cases h7 : tb (ref03_Same_oo_c0 [] [])
              · intro g0
                exact absurd g0 ft
              · cases h8 : tb (ref03_Same_oo_r0_0 (law03_CrcTells_e0 x1) (x1 ++ [(ref03_Seal_o_e0 x1), (ref03_Seal_o_e1 x1)]))
                · intro g0
                  exact w7 [.o 12 (fun _ => o_len_os (enc := (encI .u8)) (l := x1) (fl := true) (n := x0) (s := 1)), .b (tbE h1), .c (crc_Open_o_t0 x0 x1 (tbE h2)), .c (ref03_Open_o_t0 x0 x1 (tbE h3)), .c (crc_Seal_o_t0 x0 x1 (tbE h4)), .c (ref03_Seal_o_t0 x0 x1 (tbE h5)), .y (mm := [(Blk.flat 5 1 [[(.int .u8 (IntKind.u8.wrap (shrI .i64 (crc_More_io_r0_0 65535 x1) 8)))], [(.int .u8 (IntKind.u8.wrap ((crc_More_io_r0_0 65535 x1))))]] false), (Blk.flat 5 1 (List.map (encI .u8) (x1 ++ [(ref03_Seal_o_e0 x1), (ref03_Seal_o_e1 x1)])) false)]) (args := [(V.sl 0 2 0 2), (V.sl 1 (x1.length + [(ref03_Seal_o_e0 x1), (ref03_Seal_o_e1 x1)].length) 0 (x1.length + [(ref03_Seal_o_e0 x1), (ref03_Seal_o_e1 x1)].length))]) (args1 := [(V.d (.rs true 1 [[(.int .u8 (IntKind.u8.wrap (shrI .i64 (crc_More_io_r0_0 65535 x1) 8)))], [(.int .u8 (IntKind.u8.wrap ((crc_More_io_r0_0 65535 x1))))]] false)), (V.d (.rs true 1 (List.map (encI .u8) (x1 ++ [(ref03_Seal_o_e0 x1), (ref03_Seal_o_e1 x1)])) false))]) (byvals_cons (by kernel_rfl) (byvals_cons (byval_sl (enc := (encI .u8)) (l := (x1 ++ [(ref03_Seal_o_e0 x1), (ref03_Seal_o_e1 x1)])) (e := 5) (s := 1) (p := false) (n := (x1.length + [(ref03_Seal_o_e0 x1), (ref03_Seal_o_e1 x1)].length)) (ref03_Seal_o_t0_len0 x1) (by kernel_rfl)) (by kernel_rfl))), .c (ref03_Same_oo_t0 false (law03_CrcTells_e0 x1) false (x1 ++ [(ref03_Seal_o_e0 x1), (ref03_Seal_o_e1 x1)]) (tbE h6)), .c (ref03_Same_oo_t0 true [] true [] (tbE h7)), .c (law03_alive_t0), .k true, .b (tbE h8)] (by kernel_rfl)
                · cases h9 : tb (ref03_Same_oo_r0_0 [] [])
                  · intro g0
                    exact w7 [.o 12 (fun _ => o_len_os (enc := (encI .u8)) (l := x1) (fl := true) (n := x0) (s := 1)), .b (tbE h1), .c (crc_Open_o_t0 x0 x1 (tbE h2)), .c (ref03_Open_o_t0 x0 x1 (tbE h3)), .c (crc_Seal_o_t0 x0 x1 (tbE h4)), .c (ref03_Seal_o_t0 x0 x1 (tbE h5)), .y (mm := [(Blk.flat 5 1 [[(.int .u8 (IntKind.u8.wrap (shrI .i64 (crc_More_io_r0_0 65535 x1) 8)))], [(.int .u8 (IntKind.u8.wrap ((crc_More_io_r0_0 65535 x1))))]] false), (Blk.flat 5 1 (List.map (encI .u8) (x1 ++ [(ref03_Seal_o_e0 x1), (ref03_Seal_o_e1 x1)])) false)]) (args := [(V.sl 0 2 0 2), (V.sl 1 (x1.length + [(ref03_Seal_o_e0 x1), (ref03_Seal_o_e1 x1)].length) 0 (x1.length + [(ref03_Seal_o_e0 x1), (ref03_Seal_o_e1 x1)].length))]) (args1 := [(V.d (.rs true 1 [[(.int .u8 (IntKind.u8.wrap (shrI .i64 (crc_More_io_r0_0 65535 x1) 8)))], [(.int .u8 (IntKind.u8.wrap ((crc_More_io_r0_0 65535 x1))))]] false)), (V.d (.rs true 1 (List.map (encI .u8) (x1 ++ [(ref03_Seal_o_e0 x1), (ref03_Seal_o_e1 x1)])) false))]) (byvals_cons (by kernel_rfl) (byvals_cons (byval_sl (enc := (encI .u8)) (l := (x1 ++ [(ref03_Seal_o_e0 x1), (ref03_Seal_o_e1 x1)])) (e := 5) (s := 1) (p := false) (n := (x1.length + [(ref03_Seal_o_e0 x1), (ref03_Seal_o_e1 x1)].length)) (ref03_Seal_o_t0_len0 x1) (by kernel_rfl)) (by kernel_rfl))), .c (ref03_Same_oo_t0 false (law03_CrcTells_e0 x1) false (x1 ++ [(ref03_Seal_o_e0 x1), (ref03_Seal_o_e1 x1)]) (tbE h6)), .c (ref03_Same_oo_t0 true [] true [] (tbE h7)), .c (law03_alive_t0), .k true, .b (tbE h8), .b (tbE h9)] (by kernel_rfl)
                  · cases h10 : tb (false != ((crc_Open_o_r0_0 x0 x1) == false))
                    · intro g0
                      exact w7 [.o 12 (fun _ => o_len_os (enc := (encI .u8)) (l := x1) (fl := true) (n := x0) (s := 1)), .b (tbE h1), .c (crc_Open_o_t0 x0 x1 (tbE h2)), .c (ref03_Open_o_t0 x0 x1 (tbE h3)), .c (crc_Seal_o_t0 x0 x1 (tbE h4)), .c (ref03_Seal_o_t0 x0 x1 (tbE h5)), .y (mm := [(Blk.flat 5 1 [[(.int .u8 (IntKind.u8.wrap (shrI .i64 (crc_More_io_r0_0 65535 x1) 8)))], [(.int .u8 (IntKind.u8.wrap ((crc_More_io_r0_0 65535 x1))))]] false), (Blk.flat 5 1 (List.map (encI .u8) (x1 ++ [(ref03_Seal_o_e0 x1), (ref03_Seal_o_e1 x1)])) false)]) (args := [(V.sl 0 2 0 2), (V.sl 1 (x1.length + [(ref03_Seal_o_e0 x1), (ref03_Seal_o_e1 x1)].length) 0 (x1.length + [(ref03_Seal_o_e0 x1), (ref03_Seal_o_e1 x1)].length))]) (args1 := [(V.d (.rs true 1 [[(.int .u8 (IntKind.u8.wrap (shrI .i64 (crc_More_io_r0_0 65535 x1) 8)))], [(.int .u8 (IntKind.u8.wrap ((crc_More_io_r0_0 65535 x1))))]] false)), (V.d (.rs true 1 (List.map (encI .u8) (x1 ++ [(ref03_Seal_o_e0 x1), (ref03_Seal_o_e1 x1)])) false))]) (byvals_cons (by kernel_rfl) (byvals_cons (byval_sl (enc := (encI .u8)) (l := (x1 ++ [(ref03_Seal_o_e0 x1), (ref03_Seal_o_e1 x1)])) (e := 5) (s := 1) (p := false) (n := (x1.length + [(ref03_Seal_o_e0 x1), (ref03_Seal_o_e1 x1)].length)) (ref03_Seal_o_t0_len0 x1) (by kernel_rfl)) (by kernel_rfl))), .c (ref03_Same_oo_t0 false (law03_CrcTells_e0 x1) false (x1 ++ [(ref03_Seal_o_e0 x1), (ref03_Seal_o_e1 x1)]) (tbE h6)), .c (ref03_Same_oo_t0 true [] true [] (tbE h7)), .c (law03_alive_t0), .k true, .b (tbE h8), .b (tbE h9), .b (tbE h10)] (by kernel_rfl)
                    · cases h11 : tb (crc_Sum_o_c0 x1)
                      · intro g0
                        exact absurd g0 ft
                      · cases h12 : tb (ref03_Sum_o_c0 x1)
                        · intro g0
                          exact absurd g0 ft
                        · cases h13 : tb (((crc_More_io_r0_0 65535 x1) : Int) == (ref03_More_io_r0_0 65535 x1))
                          · intro g0
                            exact w7 [.o 12 (fun _ => o_len_os (enc := (encI .u8)) (l := x1) (fl := true) (n := x0) (s := 1)), .b (tbE h1), .c (crc_Open_o_t0 x0 x1 (tbE h2)), .c (ref03_Open_o_t0 x0 x1 (tbE h3)), .c (crc_Seal_o_t0 x0 x1 (tbE h4)), .c (ref03_Seal_o_t0 x0 x1 (tbE h5)), .y (mm := [(Blk.flat 5 1 [[(.int .u8 (IntKind.u8.wrap (shrI .i64 (crc_More_io_r0_0 65535 x1) 8)))], [(.int .u8 (IntKind.u8.wrap ((crc_More_io_r0_0 65535 x1))))]] false), (Blk.flat 5 1 (List.map (encI .u8) (x1 ++ [(ref03_Seal_o_e0 x1), (ref03_Seal_o_e1 x1)])) false)]) (args := [(V.sl 0 2 0 2), (V.sl 1 (x1.length + [(ref03_Seal_o_e0 x1), (ref03_Seal_o_e1 x1)].length) 0 (x1.length + [(ref03_Seal_o_e0 x1), (ref03_Seal_o_e1 x1)].length))]) (args1 := [(V.d (.rs true 1 [[(.int .u8 (IntKind.u8.wrap (shrI .i64 (crc_More_io_r0_0 65535 x1) 8)))], [(.int .u8 (IntKind.u8.wrap ((crc_More_io_r0_0 65535 x1))))]] false)), (V.d (.rs true 1 (List.map (encI .u8) (x1 ++ [(ref03_Seal_o_e0 x1), (ref03_Seal_o_e1 x1)])) false))]) (byvals_cons (by kernel_rfl) (byvals_cons (byval_sl (enc := (encI .u8)) (l := (x1 ++ [(ref03_Seal_o_e0 x1), (ref03_Seal_o_e1 x1)])) (e := 5) (s := 1) (p := false) (n := (x1.length + [(ref03_Seal_o_e0 x1), (ref03_Seal_o_e1 x1)].length)) (ref03_Seal_o_t0_len0 x1) (by kernel_rfl)) (by kernel_rfl))), .c (ref03_Same_oo_t0 false (law03_CrcTells_e0 x1) false (x1 ++ [(ref03_Seal_o_e0 x1), (ref03_Seal_o_e1 x1)]) (tbE h6)), .c (ref03_Same_oo_t0 true [] true [] (tbE h7)), .c (law03_alive_t0), .k true, .b (tbE h8), .b (tbE h9), .b (tbE h10), .c (crc_Sum_o_t0 x0 x1 (tbE h11)), .c (ref03_Sum_o_t0 x0 x1 (tbE h12)), .b (tbE h13)] (by kernel_rfl)
                          · cases h14 : tb (crc_More_io_c0 x2 x1)
                            · intro g0
                              exact absurd g0 ft
                            · cases h15 : tb (ref03_More_io_c0 x2 x1)
                              · intro g0
                                exact absurd g0 ft
                              · intro g0
                                exact w7 [.o 12 (fun _ => o_len_os (enc := (encI .u8)) (l := x1) (fl := true) (n := x0) (s := 1)), .b (tbE h1), .c (crc_Open_o_t0 x0 x1 (tbE h2)), .c (ref03_Open_o_t0 x0 x1 (tbE h3)), .c (crc_Seal_o_t0 x0 x1 (tbE h4)), .c (ref03_Seal_o_t0 x0 x1 (tbE h5)), .y (mm := [(Blk.flat 5 1 [[(.int .u8 (IntKind.u8.wrap (shrI .i64 (crc_More_io_r0_0 65535 x1) 8)))], [(.int .u8 (IntKind.u8.wrap ((crc_More_io_r0_0 65535 x1))))]] false), (Blk.flat 5 1 (List.map (encI .u8) (x1 ++ [(ref03_Seal_o_e0 x1), (ref03_Seal_o_e1 x1)])) false)]) (args := [(V.sl 0 2 0 2), (V.sl 1 (x1.length + [(ref03_Seal_o_e0 x1), (ref03_Seal_o_e1 x1)].length) 0 (x1.length + [(ref03_Seal_o_e0 x1), (ref03_Seal_o_e1 x1)].length))]) (args1 := [(V.d (.rs true 1 [[(.int .u8 (IntKind.u8.wrap (shrI .i64 (crc_More_io_r0_0 65535 x1) 8)))], [(.int .u8 (IntKind.u8.wrap ((crc_More_io_r0_0 65535 x1))))]] false)), (V.d (.rs true 1 (List.map (encI .u8) (x1 ++ [(ref03_Seal_o_e0 x1), (ref03_Seal_o_e1 x1)])) false))]) (byvals_cons (by kernel_rfl) (byvals_cons (byval_sl (enc := (encI .u8)) (l := (x1 ++ [(ref03_Seal_o_e0 x1), (ref03_Seal_o_e1 x1)])) (e := 5) (s := 1) (p := false) (n := (x1.length + [(ref03_Seal_o_e0 x1), (ref03_Seal_o_e1 x1)].length)) (ref03_Seal_o_t0_len0 x1) (by kernel_rfl)) (by kernel_rfl))), .c (ref03_Same_oo_t0 false (law03_CrcTells_e0 x1) false (x1 ++ [(ref03_Seal_o_e0 x1), (ref03_Seal_o_e1 x1)]) (tbE h6)), .c (ref03_Same_oo_t0 true [] true [] (tbE h7)), .c (law03_alive_t0), .k true, .b (tbE h8), .b (tbE h9), .b (tbE h10), .c (crc_Sum_o_t0 x0 x1 (tbE h11)), .c (ref03_Sum_o_t0 x0 x1 (tbE h12)), .b (tbE h13), .c (crc_More_io_t0 x2 x0 x1 (tbE h14)), .c (ref03_More_io_t0 x2 x0 x1 (tbE h15))] (by kernel_rfl)
  · intro g0
    exact w7 [.o 12 (fun _ => o_len_os (enc := (encI .u8)) (l := x1) (fl := true) (n := x0) (s := 1)), .b (tbE h1), .c (law03_alive_t0)] (by kernel_rfl)

end Go.Proofs.Ytgalchmjpfmemaa.Den

/- A type's data, opened cell by cell. -/
namespace Go.Proofs.Ytgalchmjpfmemaa.Den
open Go
set_option linter.unusedVariables false
set_option linter.unusedSimpArgs false

inductive CK where
  | b
  | i (k : IntKind)
  | s
  | l (e : TypeId)

def flatK (P : Program) : Nat → TypeId → Option (List CK)
  | 0, _ => none
  | n + 1, t => match P.underlying t with
    | some .bool => some [.b]
    | some (.int k) => some [.i k]
    | some .string => some [.s]
    | some (.slice e) => some [.l e]
    | some (.struct fs) => (fs.toList.mapM fun f => flatK P n f.type).map List.flatten
    | some (.array m e) => (flatK P n e).map fun l => (List.replicate m l).flatten
    | _ => none

def WfI (k : IntKind) (z : Int) : Prop := (Lit.int k z).wf = true

def CellK (P : Program) : CK → D → Prop
  | .b, d => ∃ b, d = .bool b
  | .i k, d => ∃ z, d = .int k z ∧ WfI k z
  | .s, d => ∃ s, d = .str s ∧ s.size ≤ maxLen
  | .l e, d => d = .nils ∨ ∃ rows, d = .rs (isFlat P e) (P.cellsOf e) rows false ∧ rows.length ≤ maxLen ∧ ∃ n, ∀ r, r ∈ rows → Ty P n e r

def CellsK (P : Program) : List CK → List D → Prop
  | [], ds => ds = []
  | k :: ks, ds => ∃ d r, ds = d :: r ∧ CellK P k d ∧ CellsK P ks r

theorem CellsK.append {P : Program} : ∀ {a b : List CK} {x y : List D}, CellsK P a x → CellsK P b y → CellsK P (a ++ b) (x ++ y)
  | [], _, _, _, h, h' => by simp only [CellsK] at h; subst h; simpa using h'
  | k :: a, b, x, y, h, h' => by
    simp only [CellsK] at h
    obtain ⟨d, r, rfl, h1, h2⟩ := h
    simp only [List.cons_append, CellsK]
    exact ⟨d, _, rfl, h1, CellsK.append h2 h'⟩

theorem flatK_fs {P : Program} {n : Nat} (ih : ∀ t ks ds, flatK P n t = some ks → Ty P n t ds → CellsK P ks ds) : ∀ (fs : List Field) (l : List (List CK)) (ds : List D), fs.mapM (fun f => flatK P n f.type) = some l → TyFs (Ty P n) fs ds → CellsK P l.flatten ds
  | [], l, ds, h, ht => by
    simp at h; subst h
    obtain rfl := tyfs_nil ht
    simp [CellsK]
  | f :: fs, l, ds, h, ht => by
    rw [List.mapM_cons] at h
    simp only [Option.bind_eq_bind, Option.bind_eq_some_iff, Option.pure_def, Option.some.injEq] at h
    obtain ⟨a, h1, b, h2, rfl⟩ := h
    obtain ⟨x, y, rfl, g1, g2⟩ := tyfs_cons ht
    simp only [List.flatten_cons]
    exact (ih _ _ _ h1 g1).append (flatK_fs ih fs b y h2 g2)

theorem flatK_ok {P : Program} : ∀ (n : Nat) (t : TypeId) (ks : List CK) (ds : List D), flatK P n t = some ks → Ty P n t ds → CellsK P ks ds
  | 0, _, _, _, h, _ => by simp [flatK] at h
  | n + 1, t, ks, ds, h, ht => by
    simp only [flatK] at h
    cases hu : P.underlying t with
    | none => simp [hu] at h
    | some u =>
      rw [hu] at h
      cases u with
      | bool => cases h; obtain ⟨b, rfl⟩ := ty_bool ht hu; exact ⟨_, [], rfl, ⟨b, rfl⟩, rfl⟩
      | int k => cases h; obtain ⟨z, rfl, hz⟩ := ty_int ht hu; exact ⟨_, [], rfl, ⟨z, rfl, hz⟩, rfl⟩
      | string => cases h; obtain ⟨z, rfl, hz⟩ := ty_str ht hu; exact ⟨_, [], rfl, ⟨z, rfl, hz⟩, rfl⟩
      | slice e =>
        cases h
        rcases ty_slice ht hu with rfl | ⟨rows, rfl, h1, h2⟩
        · exact ⟨_, [], rfl, .inl rfl, rfl⟩
        · exact ⟨_, [], rfl, .inr ⟨rows, rfl, h1, n, h2⟩, rfl⟩
      | struct fs =>
        obtain ⟨l, hl, rfl⟩ := Option.map_eq_some_iff.1 h
        exact flatK_fs (fun t ks ds => flatK_ok n t ks ds) fs.toList l ds hl (ty_struct ht hu)
      | array m e =>
        obtain ⟨l, hl, rfl⟩ := Option.map_eq_some_iff.1 h
        obtain ⟨rows, hr, rfl, hall⟩ := ty_arr ht hu
        have key : ∀ (rows : List (List D)), (∀ r, r ∈ rows → Ty P n e r) → CellsK P (List.replicate rows.length l).flatten rows.flatten := by
          intro rows
          induction rows with
          | nil => intro _; simp [CellsK]
          | cons r rows ih =>
            intro hall
            simp only [List.length_cons, List.replicate_succ, List.flatten_cons]
            exact (flatK_ok n e l r hl (hall r (by simp))).append (ih fun x hx => hall x (by simp [hx]))
        rw [← hr]; exact key rows hall
      | _ => simp at h

/-- The rows of a list, told by an encoding. -/
theorem rows_of {α : Type} {enc : α → List D} {wf : α → Prop} {T : List D → Prop} (h : ∀ r, T r → ∃ x, r = enc x ∧ wf x) : ∀ rows : List (List D), (∀ r, r ∈ rows → T r) → ∃ l : List α, rows = l.map enc ∧ ∀ x, x ∈ l → wf x
  | [], _ => ⟨[], rfl, fun _ h => by simp at h⟩
  | r :: rows, hr => by
    obtain ⟨x, rfl, hx⟩ := h r (hr r (by simp))
    obtain ⟨l, rfl, hl⟩ := rows_of h rows fun y hy => hr y (by simp [hy])
    refine ⟨x :: l, rfl, fun y hy => ?_⟩
    rcases List.mem_cons.1 hy with rfl | hy
    · exact hx
    · exact hl y hy

theorem ints_of {P : Program} {n : Nat} {e : TypeId} {k : IntKind} (hu : P.underlying e = some (.int k)) {rows : List (List D)} (h : ∀ r, r ∈ rows → Ty P n e r) : ∃ l : List Int, rows = l.map (encI k) ∧ ∀ z, z ∈ l → WfI k z :=
  rows_of (T := Ty P n e) (fun r hr => by
    cases n with
    | zero => simp [Ty] at hr
    | succ n => obtain ⟨z, rfl, hz⟩ := ty_int hr hu; exact ⟨z, rfl, hz⟩) rows h

theorem bools_of {P : Program} {n : Nat} {e : TypeId} (hu : P.underlying e = some .bool) {rows : List (List D)} (h : ∀ r, r ∈ rows → Ty P n e r) : ∃ l : List Bool, rows = l.map encB ∧ ∀ z, z ∈ l → True :=
  rows_of (T := Ty P n e) (fun r hr => by
    cases n with
    | zero => simp [Ty] at hr
    | succ n => obtain ⟨z, rfl⟩ := ty_bool hr hu; exact ⟨z, rfl, trivial⟩) rows h

theorem tyFs_mono {T T' : TypeId → List D → Prop} (h : ∀ t ds, T t ds → T' t ds) : ∀ (fs : List Field) (ds : List D), TyFs T fs ds → TyFs T' fs ds
  | [], ds, ht => ht
  | f :: fs, ds, ht => by
    obtain ⟨x, y, rfl, g1, g2⟩ := tyfs_cons ht
    simp only [TyFs]
    exact ⟨x, y, rfl, h _ _ g1, tyFs_mono h fs y g2⟩

theorem ty_mono {P : Program} : ∀ (n : Nat) (t : TypeId) (ds : List D), Ty P n t ds → Ty P (n + 1) t ds
  | 0, _, _, h => by simp [Ty] at h
  | n + 1, t, ds, h => by
    rw [Ty] at h ⊢
    cases hu : P.underlying t with
    | none => simp [hu] at h
    | some u =>
      rw [hu] at h
      cases u with
      | slice e =>
        rcases h with rfl | ⟨rows, rfl, h1, h2⟩
        · exact .inl rfl
        · exact .inr ⟨rows, rfl, h1, fun r hr => ty_mono n _ _ (h2 r hr)⟩
      | struct fs => exact tyFs_mono (fun t ds => ty_mono n t ds) _ _ h
      | array m e =>
        obtain ⟨rows, h1, rfl, h2⟩ := h
        exact ⟨rows, h1, rfl, fun r hr => ty_mono n _ _ (h2 r hr)⟩
      | _ => exact h

theorem mapM_mono {α β : Type} {f g : α → Option β} (h : ∀ a b, f a = some b → g a = some b) : ∀ (l : List α) (r : List β), l.mapM f = some r → l.mapM g = some r
  | [], r, hr => by simpa using hr
  | a :: l, r, hr => by
    rw [List.mapM_cons] at hr ⊢
    simp only [Option.bind_eq_bind, Option.bind_eq_some_iff, Option.pure_def, Option.some.injEq] at hr ⊢
    obtain ⟨x, h1, y, h2, rfl⟩ := hr
    exact ⟨x, h a x h1, y, mapM_mono h l y h2, rfl⟩

theorem flatK_mono {P : Program} : ∀ (n : Nat) (t : TypeId) (ks : List CK), flatK P n t = some ks → flatK P (n + 1) t = some ks
  | 0, _, _, h => by simp [flatK] at h
  | n + 1, t, ks, h => by
    rw [flatK] at h ⊢
    cases hu : P.underlying t with
    | none => simp [hu] at h
    | some u =>
      rw [hu] at h
      cases u with
      | struct fs =>
        obtain ⟨l, hl, rfl⟩ := Option.map_eq_some_iff.1 h
        simp only [mapM_mono (fun f b hb => flatK_mono n _ _ hb) _ _ hl, Option.map_some]
      | array m e =>
        obtain ⟨l, hl, rfl⟩ := Option.map_eq_some_iff.1 h
        simp only [flatK_mono n _ _ hl, Option.map_some]
      | _ => exact h

/-- The cells of an element's type, at any depth. -/
theorem flatK_any {P : Program} {k : Nat} {t : TypeId} {ks : List CK} {ds : List D} (h : flatK P k t = some ks) {n : Nat} (ht : Ty P n t ds) : CellsK P ks ds := by
  have h1 : ∀ j, flatK P (k + j) t = some ks := fun j => by
    induction j with
    | zero => exact h
    | succ j ih => exact flatK_mono _ _ _ ih
  have h2 : ∀ j, Ty P (n + j) t ds := fun j => by
    induction j with
    | zero => exact ht
    | succ j ih => exact ty_mono _ _ _ ih
  refine flatK_ok (k + n) t ks ds (h1 n) ?_
  rw [Nat.add_comm]; exact h2 k

theorem wfI_i64 {z : Int} (h : WfI .i64 z) : -9223372036854775808 ≤ z ∧ z ≤ 9223372036854775807 := by
  simp [WfI, Lit.wf, IntKind.min, IntKind.max, IntKind.signed, IntKind.bits] at h
  omega
end Go.Proofs.Ytgalchmjpfmemaa.Den

/- Plain laws on the words of the printed texts. -/
namespace Go.Proofs.Ytgalchmjpfmemaa.Den
open Go
set_option linter.unusedVariables false
set_option linter.unusedSimpArgs false

@[simp] theorem tb_eq (b : Bool) : tb b = b := rfl

theorem wrap64 {x : Int} (h1 : -9223372036854775808 ≤ x) (h2 : x ≤ 9223372036854775807) : IntKind.i64.wrap x = x := by
  unfold IntKind.wrap
  simp [IntKind.bits, IntKind.signed]
  omega

theorem wi_eq {x : Int} (h1 : -9223372036854775808 ≤ x) (h2 : x ≤ 9223372036854775807) : wi x = x := wrap64 h1 h2

theorem wfI_i32 {z : Int} (h : WfI .i32 z) : -2147483648 ≤ z ∧ z ≤ 2147483647 := by
  simp [WfI, Lit.wf, IntKind.min, IntKind.max, IntKind.signed, IntKind.bits] at h
  omega
theorem wfI_i16 {z : Int} (h : WfI .i16 z) : -32768 ≤ z ∧ z ≤ 32767 := by
  simp [WfI, Lit.wf, IntKind.min, IntKind.max, IntKind.signed, IntKind.bits] at h
  omega
theorem wfI_u8 {z : Int} (h : WfI .u8 z) : 0 ≤ z ∧ z ≤ 255 := by
  simp [WfI, Lit.wf, IntKind.min, IntKind.max, IntKind.signed, IntKind.bits] at h
  omega
theorem wfI_u16 {z : Int} (h : WfI .u16 z) : 0 ≤ z ∧ z ≤ 65535 := by
  simp [WfI, Lit.wf, IntKind.min, IntKind.max, IntKind.signed, IntKind.bits] at h
  omega
theorem wfI_u32 {z : Int} (h : WfI .u32 z) : 0 ≤ z ∧ z ≤ 4294967295 := by
  simp [WfI, Lit.wf, IntKind.min, IntKind.max, IntKind.signed, IntKind.bits] at h
  omega

theorem mxI_eq (a b : Int) : mxI a b = max a b := by unfold mxI; split <;> omega
theorem mnI_eq (a b : Int) : mnI a b = min a b := by unfold mnI; split <;> omega

theorem inb_iff {n : Nat} {i : Int} : inb n i = true ↔ 0 ≤ i ∧ i < n := by simp [inb]
theorem inb_of {n : Nat} {i : Int} (h1 : 0 ≤ i) (h2 : i < n) : inb n i = true := inb_iff.2 ⟨h1, h2⟩

theorem loop_inv {S : Type} {sel : S → Bool} {nx : S → S} (J : S → Prop) (μ : S → Nat) {s0 : S} (h0 : J s0) (hb : μ s0 < 1152921504606846976) (hn : ∀ s, J s → sel s = true → J (nx s) ∧ μ (nx s) < μ s) :
    ∃ s1, itS sel nx bound s0 = some s1 ∧ J s1 ∧ sel s1 = false := itS_inv J μ hn bound s0 h0 hb

/-- A loop told by a function of its states. -/
theorem loop_fun {S : Type} {sel : S → Bool} {nx : S → S} (J : S → Prop) (μ : S → Nat) (g : S → S) {s0 : S} (h0 : J s0) (hb : μ s0 < 1152921504606846976) (hs : ∀ s, J s → sel s = false → g s = s) (hn : ∀ s, J s → sel s = true → J (nx s) ∧ μ (nx s) < μ s ∧ g (nx s) = g s) :
    itS sel nx bound s0 = some (g s0) := itS_eq J μ g hs hn bound s0 h0 hb

theorem gt_mem {α : Type} [Inhabited α] {l : List α} {i : Int} (h1 : 0 ≤ i) (h2 : i < l.length) : gt l i ∈ l := by
  have h : i.toNat < l.length := by omega
  have : gt l i = l[i.toNat] := by simp [gt, List.getD, h]
  rw [this]; exact List.getElem_mem h

theorem gt_nat {α : Type} [Inhabited α] {l : List α} {k : Nat} (h : k < l.length) : gt l (k : Int) = l[k] := by simp [gt, List.getD, h]

theorem gt_getElem {α : Type} [Inhabited α] {l : List α} {i : Int} (h1 : 0 ≤ i) (h2 : i.toNat < l.length) : gt l i = l[i.toNat] := by simp [gt, List.getD, h2]

/-- A loop over a list by an index, that stops where a test fails. -/
theorem all_loop {S α : Type} [Inhabited α] {sel : S → Bool} {nx : S → S} {s0 : S} (l : List α) (ix : S → Int) (p : α → Bool) (J : S → Prop) (hl : l.length < 1152921504606846976) (h0 : ix s0 = 0) (hJ0 : J s0)
    (hnx : ∀ s, J s → 0 ≤ ix s → ix s < l.length → sel s = true → ix (nx s) = ix s + 1 ∧ J (nx s)) (hsel : ∀ s, J s → 0 ≤ ix s → ix s ≤ l.length → sel s = (decide (ix s < l.length) && p (gt l (ix s)))) :
    ∃ s1, itS sel nx bound s0 = some s1 ∧ J s1 ∧ 0 ≤ ix s1 ∧ ((ix s1 = l.length ∧ l.all p = true) ∨ (ix s1 < l.length ∧ p (gt l (ix s1)) = false ∧ l.all p = false)) := by
  obtain ⟨s1, e, ⟨hJ, a1, a2, a3⟩, hs⟩ := loop_inv (sel := sel) (nx := nx) (fun s => J s ∧ 0 ≤ ix s ∧ ix s ≤ l.length ∧ ∀ j : Nat, (j : Int) < ix s → p (gt l j) = true) (fun s => (l.length - ix s).toNat) (s0 := s0)
    ⟨hJ0, by omega, by omega, fun j hj => by omega⟩ (by omega) (fun s ⟨hJ, b1, b2, b3⟩ hs => by
      have h1 := hsel s hJ b1 b2
      rw [hs] at h1
      have h2 := (Bool.and_eq_true _ _).mp h1.symm
      have h3 : ix s < l.length := by simpa using h2.1
      obtain ⟨h4, h5⟩ := hnx s hJ b1 h3 hs
      refine ⟨⟨h5, by omega, by omega, fun j hj => ?_⟩, by omega⟩
      by_cases hjj : (j : Int) < ix s
      · exact b3 j hjj
      · have : (j : Int) = ix s := by omega
        rw [this]; exact h2.2)
  refine ⟨s1, e, hJ, a1, ?_⟩
  rcases Int.lt_or_eq_of_le a2 with h | h
  · have h1 := hsel s1 hJ a1 a2
    rw [hs] at h1
    have hp : p (gt l (ix s1)) = false := by simpa [h] using h1.symm
    refine .inr ⟨h, hp, ?_⟩
    rw [List.all_eq_false]
    exact ⟨_, gt_mem a1 h, by simp [hp]⟩
  · refine .inl ⟨h, ?_⟩
    rw [List.all_eq_true]
    intro x hx
    obtain ⟨j, hj, rfl⟩ := List.getElem_of_mem hx
    have := a3 j (by omega)
    rwa [gt_nat hj] at this

/-- A loop by an index that goes to its end. -/
theorem idx_loop {S : Type} {sel : S → Bool} {nx : S → S} {s0 : S} (n : Int) (ix : S → Int) (J : S → Prop) (hn : n < 1152921504606846976) (h0 : J s0) (h1 : 0 ≤ ix s0) (h2 : ix s0 ≤ n)
    (hr : ∀ s, J s → 0 ≤ ix s → ix s < n → sel s = true ∧ J (nx s) ∧ ix (nx s) = ix s + 1) (he : ∀ s, J s → ix s = n → sel s = false) : ∃ s1, itS sel nx bound s0 = some s1 ∧ J s1 ∧ ix s1 = n := by
  obtain ⟨s1, e, ⟨hJ, a1, a2⟩, hs⟩ := loop_inv (sel := sel) (nx := nx) (fun s => J s ∧ 0 ≤ ix s ∧ ix s ≤ n) (fun s => (n - ix s).toNat) (s0 := s0) ⟨h0, h1, h2⟩ (by omega) (fun s ⟨hJ, b1, b2⟩ hs => by
    by_cases h : ix s = n
    · rw [he s hJ h] at hs; cases hs
    · obtain ⟨_, g1, g2⟩ := hr s hJ b1 (by omega)
      exact ⟨⟨g1, by omega, by omega⟩, by omega⟩)
  refine ⟨s1, e, hJ, ?_⟩
  by_cases h : ix s1 = n
  · exact h
  · rw [(hr s1 hJ a1 (by omega)).1] at hs; cases hs

end Go.Proofs.Ytgalchmjpfmemaa.Den

/- The sum of bytes, told on whole numbers. -/
namespace Go.Proofs.Ytgalchmjpfmemaa.Den
open Go
set_option linter.unusedVariables false
set_option linter.unusedSimpArgs false

theorem xor_mul_pow (a b i : Nat) : (2 ^ i * a) ^^^ (2 ^ i * b) = 2 ^ i * (a ^^^ b) := by
  have h := Nat.shiftLeft_xor_distrib (i := i) (a := a) (b := b)
  simp only [Nat.shiftLeft_eq] at h
  rw [Nat.mul_comm (2 ^ i) a, Nat.mul_comm (2 ^ i) b, Nat.mul_comm (2 ^ i) (a ^^^ b), h]

theorem xor_low {a b i : Nat} (hb : b < 2 ^ i) : (2 ^ i * a) ^^^ b = 2 ^ i * a + b := by
  apply Nat.eq_of_testBit_eq
  intro j
  rw [Nat.testBit_xor, Nat.testBit_two_pow_mul_add a hb, Nat.testBit_two_pow_mul]
  by_cases h : j < i
  · have : ¬ i ≤ j := by omega
    simp [h, this]
  · have h1 : i ≤ j := by omega
    have : b.testBit j = false := Nat.testBit_lt_two_pow (Nat.lt_of_lt_of_le hb (Nat.pow_le_pow_right (by omega) h1))
    simp [h, h1, this]

theorem eq_of_xor {a b : Nat} (h : a ^^^ b = 0) : a = b := by
  have : (a ^^^ b) ^^^ b = a := by rw [Nat.xor_assoc, Nat.xor_self, Nat.xor_zero]
  rw [h, Nat.zero_xor] at this
  exact this.symm

theorem xor16 {a b : Nat} (h1 : a < 65536) (h2 : b < 65536) : a ^^^ b < 65536 := Nat.xor_lt_two_pow (n := 16) h1 h2

/-- The highest bit of sixteen. -/
def topN (n : Nat) : Nat := n / 32768 % 2
def stepN (n : Nat) : Nat := if topN n = 1 then (2 * n % 65536) ^^^ 4129 else 2 * n % 65536

theorem stepN_lt (n : Nat) : stepN n < 65536 := by
  unfold stepN
  split
  · exact xor16 (by omega) (by omega)
  · omega

theorem topN_xor (a b : Nat) : topN (a ^^^ b) = 1 ↔ ¬ (topN a = 1 ↔ topN b = 1) := by
  unfold topN
  rw [show (32768 : Nat) = 2 ^ 15 from rfl, Nat.xor_div_two_pow]
  exact Nat.xor_mod_two_eq_one

theorem dbl_xor (a b : Nat) : 2 * (a ^^^ b) % 65536 = (2 * a % 65536) ^^^ (2 * b % 65536) := by
  have h := xor_mul_pow a b 1
  rw [show (65536 : Nat) = 2 ^ 16 from rfl, ← Nat.xor_mod_two_pow]
  simp only [Nat.pow_one] at h
  rw [h]

theorem stepN_xor (a b : Nat) : stepN (a ^^^ b) = stepN a ^^^ stepN b := by
  have h := topN_xor a b
  unfold stepN
  rw [dbl_xor]
  generalize 2 * a % 65536 = x
  generalize 2 * b % 65536 = y
  by_cases h1 : topN a = 1 <;> by_cases h2 : topN b = 1
  · have : ¬ topN (a ^^^ b) = 1 := by rw [h]; simp [h1, h2]
    simp only [h1, h2, this, if_true, if_false]
    rw [Nat.xor_assoc x, Nat.xor_comm 4129, Nat.xor_assoc y, Nat.xor_self, Nat.xor_zero]
  · have : topN (a ^^^ b) = 1 := by rw [h]; simp [h1, h2]
    simp only [h1, h2, this, if_true, if_false]
    rw [Nat.xor_assoc x, Nat.xor_assoc x, Nat.xor_comm y]
  · have : topN (a ^^^ b) = 1 := by rw [h]; simp [h1, h2]
    simp only [h1, h2, this, if_true, if_false]
    rw [Nat.xor_assoc x]
  · have : ¬ topN (a ^^^ b) = 1 := by rw [h]; simp [h1, h2]
    simp only [h1, h2, this, if_true, if_false]

theorem stepN_zero : stepN 0 = 0 := by decide

theorem stepN_inj {n : Nat} (hn : n < 65536) (h : stepN n = 0) : n = 0 := by
  unfold stepN topN at h
  split at h
  · have := eq_of_xor h; omega
  · omega

theorem stepN_small {n : Nat} (hn : n < 32768) : stepN n = 2 * n := by
  unfold stepN topN
  split <;> omega

def itN : Nat → Nat → Nat
  | 0, c => c
  | k + 1, c => stepN (itN k c)

theorem itN_lt (k : Nat) {c : Nat} (h : c < 65536) : itN k c < 65536 := by
  cases k with
  | zero => exact h
  | succ k => exact stepN_lt _

theorem itN_xor (k a b : Nat) : itN k (a ^^^ b) = itN k a ^^^ itN k b := by
  induction k with
  | zero => rfl
  | succ k ih => simp only [itN, ih, stepN_xor]

theorem itN_zero (k : Nat) : itN k 0 = 0 := by
  induction k with
  | zero => rfl
  | succ k ih => simp only [itN, ih, stepN_zero]

theorem itN_inj (k : Nat) {c : Nat} (hc : c < 65536) (h : itN k c = 0) : c = 0 := by
  induction k with
  | zero => exact h
  | succ k ih => exact ih (stepN_inj (itN_lt k hc) h)

theorem itN_add (a b c : Nat) : itN a (itN b c) = itN (a + b) c := by
  induction a with
  | zero => simp [itN]
  | succ a ih => rw [show a + 1 + b = (a + b) + 1 by omega]; simp only [itN, ih]

theorem itN_small {v : Nat} (hv : v < 256) : itN 8 v = 256 * v := by
  simp only [itN]
  have d : ∀ n m : Nat, n = 2 * m → n ≤ 65535 → stepN m = n := fun n m h1 h2 => by rw [stepN_small (by omega)]; exact h1.symm
  rw [d (2 * v) v rfl (by omega), d (4 * v) (2 * v) (by omega) (by omega), d (8 * v) (4 * v) (by omega) (by omega), d (16 * v) (8 * v) (by omega) (by omega), d (32 * v) (16 * v) (by omega) (by omega), d (64 * v) (32 * v) (by omega) (by omega), d (128 * v) (64 * v) (by omega) (by omega), d (256 * v) (128 * v) (by omega) (by omega)]

def byteN (c b : Nat) : Nat := itN 8 (c ^^^ (256 * b))

theorem byteN_lt {c b : Nat} (hc : c < 65536) (hb : b < 256) : byteN c b < 65536 := itN_lt 8 (xor16 hc (by omega))

theorem byteN_xor (c d a b : Nat) : byteN (c ^^^ d) (a ^^^ b) = byteN c a ^^^ byteN d b := by
  have h := xor_mul_pow a b 8
  unfold byteN
  rw [← itN_xor, show (256 : Nat) = 2 ^ 8 from rfl, ← h]
  congr 1
  rw [Nat.xor_assoc, Nat.xor_assoc, ← Nat.xor_assoc d, Nat.xor_comm d, Nat.xor_assoc]

def crcN (c : Nat) (l : List Nat) : Nat := l.foldl byteN c

theorem crcN_lt {l : List Nat} : ∀ {c : Nat}, c < 65536 → (∀ b ∈ l, b < 256) → crcN c l < 65536 := by
  induction l with
  | nil => intro c h _; exact h
  | cons b l ih => intro c h hl; exact ih (byteN_lt h (hl b (by simp))) (fun x hx => hl x (by simp [hx]))

theorem crcN_app (c : Nat) (l k : List Nat) : crcN c (l ++ k) = crcN (crcN c l) k := by simp [crcN]

theorem two_bytes {c u v : Nat} (hc : c < 65536) (hu : u < 256) (hv : v < 256) : crcN c [u, v] = itN 16 (c ^^^ (256 * u + v)) := by
  simp only [crcN, List.foldl, byteN]
  rw [← itN_small hv, ← itN_xor, itN_add, Nat.xor_assoc]
  congr 2
  exact xor_low (i := 8) hv

theorem two_zero {c u v : Nat} (hc : c < 65536) (hu : u < 256) (hv : v < 256) : crcN c [u, v] = 0 ↔ c = 256 * u + v := by
  rw [two_bytes hc hu hv]
  constructor
  · intro h; exact eq_of_xor (itN_inj 16 (xor16 hc (by omega)) h)
  · rintro rfl; rw [Nat.xor_self, itN_zero]

theorem byteN_inj {c d b : Nat} (hc : c < 65536) (hd : d < 65536) (h : byteN c b = byteN d b) : c = d := by
  have h1 := byteN_xor c d b b
  rw [h, Nat.xor_self, Nat.xor_self] at h1
  exact eq_of_xor (itN_inj 8 (xor16 hc hd) (by simpa [byteN] using h1))

theorem crcN_inj {l : List Nat} : ∀ {c d : Nat}, c < 65536 → d < 65536 → (∀ b ∈ l, b < 256) → crcN c l = crcN d l → c = d := by
  induction l with
  | nil => intro c d _ _ _ h; exact h
  | cons b l ih =>
    intro c d hc hd hl h
    have hb := hl b (by simp)
    exact byteN_inj hc hd (ih (byteN_lt hc hb) (byteN_lt hd hb) (fun x hx => hl x (by simp [hx])) h)

/-- Two bytes next to one another that are changed are seen. -/
theorem crcN_seen {c : Nat} {p q : List Nat} {u v u' v' : Nat} (hc : c < 65536) (hp : ∀ b ∈ p, b < 256) (hq : ∀ b ∈ q, b < 256) (hu : u < 256) (hv : v < 256) (hu' : u' < 256) (hv' : v' < 256)
    (h : crcN c (p ++ u :: v :: q) = crcN c (p ++ u' :: v' :: q)) : u = u' ∧ v = v' := by
  have hx := crcN_lt hc hp
  have e : ∀ a b : Nat, p ++ a :: b :: q = (p ++ [a, b]) ++ q := by simp
  rw [e, e, crcN_app c (p ++ [u, v]), crcN_app c (p ++ [u', v']), crcN_app c p, crcN_app c p] at h
  generalize crcN c p = x at h hx
  have b2 : ∀ {a b : Nat}, a < 256 → b < 256 → ∀ z ∈ [a, b], z < 256 := by
    intro a b ha hb z hz
    simp only [List.mem_cons, List.not_mem_nil, or_false] at hz
    omega
  have h2 := crcN_inj (crcN_lt hx (b2 hu hv)) (crcN_lt hx (b2 hu' hv')) hq h
  rw [two_bytes hx hu hv, two_bytes hx hu' hv'] at h2
  have h3 := itN_xor 16 (x ^^^ (256 * u + v)) (x ^^^ (256 * u' + v'))
  rw [h2, Nat.xor_self] at h3
  have h4 := itN_inj 16 (xor16 (xor16 hx (by omega)) (xor16 hx (by omega))) h3
  have h5 := eq_of_xor h4
  have h6 : (256 * u + v) = (256 * u' + v') := by
    have g : ∀ y, x ^^^ (x ^^^ y) = y := fun y => by rw [← Nat.xor_assoc, Nat.xor_self, Nat.zero_xor]
    rw [← g (256 * u + v), h5, g]
  omega

/-! ### whole numbers -/

theorem bv_nat {a : Nat} (h : a < 9223372036854775808) : BitVec.ofInt 64 (a : Int) = BitVec.ofNat 64 a := by
  apply BitVec.eq_of_toNat_eq
  rw [BitVec.toNat_ofInt, BitVec.toNat_ofNat]
  omega

theorem andI_nat {a b : Nat} (ha : a < 9223372036854775808) (hb : b < 9223372036854775808) : andI .i64 (a : Int) (b : Int) = ((a &&& b : Nat) : Int) := by
  show IntKind.i64.wrap ((BitVec.ofInt 64 (a : Int) &&& BitVec.ofInt 64 (b : Int)).toNat : Int) = _
  rw [bv_nat ha, bv_nat hb, BitVec.toNat_and, BitVec.toNat_ofNat, BitVec.toNat_ofNat, Nat.mod_eq_of_lt (a := a) (by omega), Nat.mod_eq_of_lt (a := b) (by omega)]
  have := @Nat.and_le_left a b
  exact wrap64 (by omega) (by omega)

theorem xorI_nat {a b : Nat} (ha : a < 9223372036854775808) (hb : b < 9223372036854775808) : xorI .i64 (a : Int) (b : Int) = ((a ^^^ b : Nat) : Int) := by
  show IntKind.i64.wrap ((BitVec.ofInt 64 (a : Int) ^^^ BitVec.ofInt 64 (b : Int)).toNat : Int) = _
  rw [bv_nat ha, bv_nat hb, BitVec.toNat_xor, BitVec.toNat_ofNat, BitVec.toNat_ofNat, Nat.mod_eq_of_lt (a := a) (by omega), Nat.mod_eq_of_lt (a := b) (by omega)]
  have : a ^^^ b < 2 ^ 63 := Nat.xor_lt_two_pow (by omega) (by omega)
  exact wrap64 (by omega) (by omega)

theorem and_top (n : Nat) : n &&& 32768 = 32768 * topN n := by
  apply Nat.eq_of_testBit_eq
  intro j
  rw [Nat.testBit_and, show (32768 : Nat) = 2 ^ 15 from rfl, Nat.testBit_two_pow, Nat.testBit_two_pow_mul]
  by_cases h : 15 = j
  · subst h
    simp [topN, Nat.testBit_eq_decide_div_mod_eq]
  · simp only [h, decide_false, Bool.and_false]
    by_cases h2 : 15 ≤ j
    · have h3 : topN n < 2 ^ (j - 15) := by
        have : topN n < 2 ^ 1 := by unfold topN; omega
        exact Nat.lt_of_lt_of_le this (Nat.pow_le_pow_right (by omega) (by omega))
      rw [Nat.testBit_lt_two_pow h3]; simp
    · simp [h2]

theorem and_mask (n : Nat) : n &&& 65535 = n % 65536 := Nat.and_two_pow_sub_one_eq_mod n 16

/-- The bytes of a list. -/
def nats (l : List Int) : List Nat := l.map Int.toNat

theorem nats_lt {l : List Int} (h : ∀ z ∈ l, WfI .u8 z) : ∀ b ∈ nats l, b < 256 := by
  intro b hb
  obtain ⟨z, hz, rfl⟩ := List.mem_map.1 hb
  have := wfI_u8 (h z hz)
  omega

def crcI (c : Nat) (l : List Int) : Nat := crcN c (nats l)

end Go.Proofs.Ytgalchmjpfmemaa.Den
