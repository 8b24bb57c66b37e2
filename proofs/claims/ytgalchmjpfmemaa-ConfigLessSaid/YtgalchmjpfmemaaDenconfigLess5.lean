/- ConfigLess: part 5 of what its proof rests on: an evaluator of the program's code, proved sound; plain functions printed from the code by a program of this session, with proofs; plain laws. No condition. -/
import Derived.Test.YtgalchmjpfmemaaDenconfigLess4

/- Facts for walks: single instructions on lists and numbers that stand open; loops told by a step on plain states. -/
namespace Go.Proofs.Ytgalchmjpfmemaa.Den
open Go
set_option linter.unusedVariables false
set_option linter.unusedSimpArgs false

/-! ### words of the printed texts -/

abbrev wi (x : Int) : Int := IntKind.i64.wrap x

def encI (k : IntKind) (z : Int) : List D := [.int k z]
def encB (b : Bool) : List D := [.bool b]
def encS (s : ByteArray) : List D := [.str s]

/-- The element at a whole number. -/
def gt {α : Type} [Inhabited α] (l : List α) (i : Int) : α := l.getD i.toNat default
def st {α : Type} (l : List α) (i : Int) (x : α) : List α := l.set i.toNat x
/-- Is a whole number a place? -/
def inb (n : Nat) (i : Int) : Bool := decide (0 ≤ i) && decide (i < (n : Int))
def shrI (k : IntKind) (x y : Int) : Int := x.fdiv (2 ^ (min y.toNat k.bits))
def shlI (k : IntKind) (x y : Int) : Int := k.wrap (x * 2 ^ (min y.toNat k.bits))
def andI (k : IntKind) (x y : Int) : Int := k.wrap (BitVec.ofInt k.bits x &&& BitVec.ofInt k.bits y).toNat
def orI (k : IntKind) (x y : Int) : Int := k.wrap (BitVec.ofInt k.bits x ||| BitVec.ofInt k.bits y).toNat
def xorI (k : IntKind) (x y : Int) : Int := k.wrap (BitVec.ofInt k.bits x ^^^ BitVec.ofInt k.bits y).toNat
def andNotI (k : IntKind) (x y : Int) : Int := k.wrap (BitVec.ofInt k.bits x &&& ~~~BitVec.ofInt k.bits y).toNat
def quoI (k : IntKind) (x y : Int) : Int := k.wrap (x.tdiv y)
def remI (k : IntKind) (x y : Int) : Int := x.tmod y
def mxI (x y : Int) : Int := if y > x then y else x
def mnI (x y : Int) : Int := if y < x then y else x

/-- A slice by value, that is nil, or not. -/
def slD {α : Type} (enc : α → List D) (fl : Bool) (s : Nat) (n : Bool) (l : List α) : D :=
  match n, l with
  | true, [] => .nils
  | _, _ => .rs fl s (l.map enc) false

theorem slD_nil {α : Type} (enc : α → List D) (fl : Bool) (s : Nat) : D.nils = slD enc fl s true ([] : List α) := rfl
theorem slD_rs {α : Type} (enc : α → List D) (fl : Bool) (s : Nat) (l : List α) : D.rs fl s (l.map enc) false = slD enc fl s false l := by cases l <;> rfl

/-- A test (a word that keeps it from being taken for its like elsewhere). -/
def tb (b : Bool) : Bool := b

theorem tbE {b c : Bool} (h : tb b = c) : b = c := h

theorem notT {b : Bool} (h : b = true) : (!b) = false := by rw [h]; rfl
theorem notF {b : Bool} (h : b = false) : (!b) = true := by rw [h]; rfl
theorem tf : ¬ (true = false) := Bool.noConfusion
theorem ft : ¬ (false = true) := Bool.noConfusion

/-! ### loops on plain states -/

def itS {S : Type} (sel : S → Bool) (nx : S → S) : Nat → S → Option S
  | 0, _ => none
  | n + 1, s => match sel s with | true => itS sel nx n (nx s) | false => some s

theorem loop_it {S : Type} {g : List V × Mem → Option (X × (List V × Mem))} {enc : S → List V × Mem} {sel : S → Bool} {nx : S → S} (hn : ∀ s, sel s = true → g (enc s) = some (.normal, enc (nx s))) :
    ∀ (n : Nat) (s0 s1 : S) (x : X) (h : List V × Mem), itS sel nx n s0 = some s1 → x ≠ .normal → g (enc s1) = some (x, h) → loopG g n (enc s0) = some (x, h)
  | 0, s0, s1, x, h, hi, _, _ => by simp [itS] at hi
  | n + 1, s0, s1, x, h, hi, hx, hg => by
    simp only [itS] at hi
    simp only [loopG]
    split at hi
    · rename_i hs
      rw [hn s0 hs]
      exact loop_it hn n (nx s0) s1 x h hi hx hg
    · cases hi
      rw [hg]
      cases x with
      | normal => exact absurd rfl hx
      | exit i => rfl
      | ret => rfl

theorem itS_false {S : Type} {sel : S → Bool} {nx : S → S} : ∀ {n : Nat} {s0 s1 : S}, itS sel nx n s0 = some s1 → sel s1 = false
  | 0, _, _, h => by simp [itS] at h
  | n + 1, s0, s1, h => by
    simp only [itS] at h
    split at h
    · exact itS_false h
    · rename_i hs; cases h; exact hs

theorem itS_get {S : Type} {sel : S → Bool} {nx : S → S} {n : Nat} {s0 d : S} (h : (itS sel nx n s0).isSome = true) : itS sel nx n s0 = some ((itS sel nx n s0).getD d) := by
  cases hi : itS sel nx n s0 with
  | none => rw [hi] at h; cases h
  | some s => rfl

/-- What a loop comes to, by a measure. -/
theorem itS_eq {S : Type} {sel : S → Bool} {nx : S → S} (J : S → Prop) (μ : S → Nat) (g : S → S) (hs : ∀ s, J s → sel s = false → g s = s) (hn : ∀ s, J s → sel s = true → J (nx s) ∧ μ (nx s) < μ s ∧ g (nx s) = g s) :
    ∀ (n : Nat) (s : S), J s → μ s < n → itS sel nx n s = some (g s)
  | 0, s, _, h => by omega
  | n + 1, s, hJ, h => by
    simp only [itS]
    cases hc : sel s with
    | true =>
      obtain ⟨h1, h2, h3⟩ := hn s hJ hc
      simp only
      rw [itS_eq J μ g hs hn n (nx s) h1 (by omega), h3]
    | false => simp only; rw [hs s hJ hc]

/-- What holds where a loop ends. -/
theorem itS_inv {S : Type} {sel : S → Bool} {nx : S → S} (J : S → Prop) (μ : S → Nat) (hn : ∀ s, J s → sel s = true → J (nx s) ∧ μ (nx s) < μ s) :
    ∀ (n : Nat) (s : S), J s → μ s < n → ∃ s1, itS sel nx n s = some s1 ∧ J s1 ∧ sel s1 = false
  | 0, s, _, h => by omega
  | n + 1, s, hJ, h => by
    simp only [itS]
    cases hc : sel s with
    | true =>
      obtain ⟨h1, h2⟩ := hn s hJ hc
      exact itS_inv J μ hn n (nx s) h1 (by omega)
    | false => exact ⟨s, rfl, hJ, hc⟩

theorem itS_step {S : Type} {sel : S → Bool} {nx : S → S} {n : Nat} {s : S} (h : sel s = true) : itS sel nx (n + 1) s = itS sel nx n (nx s) := by simp only [itS, h]
theorem itS_stop {S : Type} {sel : S → Bool} {nx : S → S} {n : Nat} {s : S} (h : sel s = false) : itS sel nx (n + 1) s = some s := by simp only [itS, h]

/-! ### single instructions -/

section
variable {E : Env} {c : CallT} {t : Nat → V} {m : Mem}

theorem inb_spec {n : Nat} {i : Int} (h : inb n i = true) : 0 ≤ i ∧ i.toNat < n := by
  simp only [inb, Bool.and_eq_true, decide_eq_true_eq] at h
  omega

theorem asNat_inb {k : IntKind} {i : Int} (h : 0 ≤ i) : asNat (.d (.int k i)) = some i.toNat := by simp [asNat, h]

/-- Reading a slice by value at an open place. -/
theorem o_idx_rs {α : Type} [Inhabited α] {enc : α → List D} {l : List α} {fl tg : Bool} {s : Nat} {k : IntKind} {i : Int} (h : inb l.length i = true) :
    doI E c (.idxA s (.v (.d (.rs fl s (l.map enc) tg))) (.v (.d (.int k i)))) t m = some (.d (.rp (enc (gt l i))), m) := by
  obtain ⟨h1, h2⟩ := inb_spec h
  have hl : l[i.toNat]? = some l[i.toNat] := List.getElem?_eq_getElem h2
  simp [doI, ev, sizeOk, asNat_inb h1, idxSV, List.getElem?_map, hl, gt, List.getD]

theorem o_len_rs {α : Type} {enc : α → List D} {l : List α} {fl tg : Bool} {s : Nat} :
    doI E c (.len (.v (.d (.rs fl s (l.map enc) tg)))) t m = some (.d (.int .i64 ((l.length : Nat) : Int)), m) := by
  simp [doI, ev, lenV]

theorem o_len_os {α : Type} {enc : α → List D} {fl : Bool} {s : Nat} {n : Bool} {l : List α} :
    doI E c (.len (.v (.d (slD enc fl s n l)))) t m = some (.d (.int .i64 ((l.length : Nat) : Int)), m) := by
  cases n <;> cases l <;> simp [doI, ev, lenV, slD]

theorem o_idx_os {α : Type} [Inhabited α] {enc : α → List D} {l : List α} {fl n : Bool} {s : Nat} {k : IntKind} {i : Int} (h : inb l.length i = true) :
    doI E c (.idxA s (.v (.d (slD enc fl s n l))) (.v (.d (.int k i)))) t m = some (.d (.rp (enc (gt l i))), m) := by
  have key : slD enc fl s n l = .rs fl s (l.map enc) false := by
    cases n <;> cases l <;> first | rfl | (obtain ⟨_, h2⟩ := inb_spec h; simp at h2)
  rw [key]; exact o_idx_rs h

theorem o_nil_os {α : Type} {enc : α → List D} {l : List α} {fl n neg : Bool} {s : Nat} :
    doI E c (.beq .slc neg (.v (.d (slD enc fl s n l))) (.v (.d .nils))) t m = some (.d (.bool (neg != (n && l.isEmpty))), m) := by
  cases n <;> cases l <;> simp [doI, ev, eqV, isSlc, slD]

theorem o_shr {k k2 : IntKind} {x y : Int} (h : decide (0 ≤ y) = true) : doI E c (.bin .shr (.v (.d (.int k x))) (.v (.d (.int k2 y)))) t m = some (.d (.int k (shrI k x y)), m) := by
  have h1 : 0 ≤ y := of_decide_eq_true h
  have h2 : ¬ (y < 0) := by omega
  simp [doI, ev, binV, shiftInt, h2, shrI]

theorem o_shl {k k2 : IntKind} {x y : Int} (h : decide (0 ≤ y) = true) : doI E c (.bin .shl (.v (.d (.int k x))) (.v (.d (.int k2 y)))) t m = some (.d (.int k (shlI k x y)), m) := by
  have h1 : 0 ≤ y := of_decide_eq_true h
  have h2 : ¬ (y < 0) := by omega
  simp [doI, ev, binV, shiftInt, h2, shlI]

theorem o_quo {k : IntKind} {x y : Int} (h : ((y : Int) == 0) = false) : doI E c (.bin .quo (.v (.d (.int k x))) (.v (.d (.int k y)))) t m = some (.d (.int k (quoI k x y)), m) := by
  have h1 : ¬ (y = 0) := by simpa using h
  simp [doI, ev, binV, binInt, h1, quoI]

theorem o_rem {k : IntKind} {x y : Int} (h : ((y : Int) == 0) = false) : doI E c (.bin .rem (.v (.d (.int k x))) (.v (.d (.int k y)))) t m = some (.d (.int k (remI k x y)), m) := by
  have h1 : ¬ (y = 0) := by simpa using h
  simp [doI, ev, binV, binInt, h1, remI]
/-! ### parts of lists -/

/-- What stands for a bound that may be missing. -/
def opt (x : Option (IntKind × Int)) : Option O := x.map fun p => .v (.d (.int p.1 p.2))
def lo0 (x : Option (IntKind × Int)) : Int := match x with | some p => p.2 | none => 0
def hi0 (n : Nat) (x : Option (IntKind × Int)) : Int := match x with | some p => p.2 | none => (n : Int)
def ins (n : Nat) (lo hi : Int) : Bool := decide (0 ≤ lo) && decide (lo ≤ hi) && decide (hi ≤ (n : Int))
def sub {α : Type} (l : List α) (lo hi : Int) : List α := (l.drop lo.toNat).take (hi - lo).toNat

theorem ins_spec {n : Nat} {lo hi : Int} (h : ins n lo hi = true) : 0 ≤ lo ∧ lo ≤ hi ∧ hi ≤ n ∧ lo.toNat ≤ hi.toNat ∧ hi.toNat ≤ n ∧ hi.toNat - lo.toNat = (hi - lo).toNat := by
  simp only [ins, Bool.and_eq_true, decide_eq_true_eq] at h
  omega

theorem optNat_lo {x : Option (IntKind × Int)} (h : 0 ≤ lo0 x) : optNat E t (opt x) 0 = some (lo0 x).toNat := by
  cases x with
  | none => rfl
  | some p => simp only [lo0] at h ⊢; simp [optNat, opt, ev, asNat, h]

theorem optNat_hi {n : Nat} {x : Option (IntKind × Int)} (h : 0 ≤ hi0 n x) : optNat E t (opt x) n = some (hi0 n x).toNat := by
  cases x with
  | none => simp [optNat, opt, hi0]
  | some p => simp only [hi0] at h ⊢; simp [optNat, opt, ev, asNat, h]

theorem map_sub {α β : Type} (f : α → β) (l : List α) (lo hi : Int) : ((l.map f).drop lo.toNat).take (hi - lo).toNat = (sub l lo hi).map f := by
  unfold sub; rw [← List.map_drop, ← List.map_take]

theorem o_slice_rs {α : Type} {enc : α → List D} {l : List α} {fl tg : Bool} {s : Nat} (lo hi : Option (IntKind × Int)) (h : ins l.length (lo0 lo) (hi0 l.length hi) = true) :
    doI E c (.slice s (.v (.d (.rs fl s (l.map enc) tg))) (opt lo) (opt hi) none) t m = some (.d (.rs fl s ((sub l (lo0 lo) (hi0 l.length hi)).map enc) (tg && (hi0 l.length hi).toNat == l.length)), m) := by
  obtain ⟨h1, h2, h3, h4, h5, h6⟩ := ins_spec h
  have e1 : optNat E t (opt lo) 0 = some (lo0 lo).toNat := optNat_lo h1
  have e2 : optNat E t (opt hi) l.length = some (hi0 l.length hi).toNat := optNat_hi (by omega)
  simp [doI, ev, sizeOk, lenV, e1, e2, sliceV, h4, h5, h6, ← map_sub] <;> omega

theorem o_slice_os {α : Type} {enc : α → List D} {l : List α} {fl n : Bool} {s : Nat} (lo hi : Option (IntKind × Int)) (h : ins l.length (lo0 lo) (hi0 l.length hi) = true) :
    doI E c (.slice s (.v (.d (slD enc fl s n l))) (opt lo) (opt hi) none) t m = some (.d (slD enc fl s (n && l.isEmpty) (sub l (lo0 lo) (hi0 l.length hi))), m) := by
  have rs : ∀ (l : List α), ins l.length (lo0 lo) (hi0 l.length hi) = true → doI E c (.slice s (.v (.d (.rs fl s (l.map enc) false))) (opt lo) (opt hi) none) t m = some (.d (slD enc fl s false (sub l (lo0 lo) (hi0 l.length hi))), m) := fun l h => by
    rw [o_slice_rs lo hi h, Bool.false_and, slD_rs]
  cases n with
  | false => rw [← slD_rs]; exact rs l h
  | true =>
    cases l with
    | nil =>
      obtain ⟨h1, h2, h3, h4, h5, h6⟩ := ins_spec h
      have e1 : optNat E t (opt lo) 0 = some (lo0 lo).toNat := optNat_lo h1
      have e2 : optNat E t (opt hi) 0 = some (hi0 0 hi).toNat := optNat_hi (by simpa using (show 0 ≤ hi0 ([] : List α).length hi by omega))
      have z2 : (hi0 0 hi).toNat = 0 := by simpa using h5
      have z1 : (lo0 lo).toNat = 0 := by simp only [List.length_nil] at h4; omega
      simp [doI, ev, sizeOk, lenV, e1, e2, sliceV, z1, z2, sub, slD]
    | cons a l => exact rs (a :: l) h

theorem o_slice_mx {α : Type} {enc : α → List D} {l : List α} {fl n : Bool} {s : Nat} {kl kh kx : IntKind} {hi : Int} (h : ins l.length 0 hi = true) (hp : decide (0 < hi) = true) :
    doI E c (.slice s (.v (.d (slD enc fl s n l))) none (some (.v (.d (.int kh hi)))) (some (.v (.d (.int kx hi))))) t m = some (.d (.rs fl s ((sub l 0 hi).map enc) true), m) := by
  obtain ⟨h1, h2, h3, h4, h5, h6⟩ := ins_spec h
  have hp := of_decide_eq_true hp
  have key : slD enc fl s n l = .rs fl s (l.map enc) false := by
    cases n <;> cases l <;> first | rfl | (simp at h5; omega)
  have h7 : hi.toNat = (hi - 0).toNat := by omega
  have h8 : 0 ≤ hi := by omega
  rw [key]
  simp [doI, ev, sizeOk, lenV, optNat, asNat, h8, sliceV, h5, ← map_sub] <;> omega

theorem flatRowsOf_os {α : Type} {enc : α → List D} {l : List α} {n : Bool} {s : Nat} : flatRowsOf m (.d (slD enc true s n l)) = some (l.map enc) := by
  cases n <;> cases l <;> simp [flatRowsOf, slD]

theorem sizeOk_os {α : Type} {enc : α → List D} {l : List α} {n fl : Bool} {s : Nat} : sizeOk m s (.d (slD enc fl s n l)) = true := by
  cases n <;> cases l <;> simp [sizeOk, slD]

theorem beq_len {n k : Nat} (h : Nat.beq n k = true) : n = k := Nat.eq_of_beq_eq_true h
theorem st_len {α : Type} {l : List α} {i : Int} {x : α} {n : Nat} (h : Nat.beq n l.length = true) : Nat.beq n (st l i x).length = true := by
  rw [beq_len h]; simp [st]
theorem app_len {α : Type} {l k : List α} {n : Nat} (h : Nat.beq n l.length = true) : Nat.beq (n + k.length) (l ++ k).length = true := by
  rw [beq_len h]; simp

theorem flatRowsOf_sl {α : Type} {enc : α → List D} {l : List α} {id e s n : Nat} {p : Bool} (hn : Nat.beq n l.length = true) (hm : m[id]? = some (.flat e s (l.map enc) p)) : flatRowsOf m (.sl id n 0 n) = some (l.map enc) := by
  rw [beq_len hn]
  simp only [flatRowsOf, hm, Option.bind_some, List.length_map, Nat.zero_add, Nat.le_refl, and_self, if_true, List.drop_zero]
  rw [List.take_of_length_le (by simp)]

theorem byval_sl {α : Type} {enc : α → List D} {l : List α} {id e s n : Nat} {p : Bool} (hn : Nat.beq n l.length = true) (hm : m[id]? = some (.flat e s (l.map enc) p)) : V.byval m (.sl id n 0 n) = .d (.rs true s (l.map enc) false) := by
  rw [beq_len hn]
  simp only [V.byval, byvalS, hm, List.length_map, Nat.zero_add, Nat.le_refl, and_self, if_true, List.drop_zero]
  rw [List.take_of_length_le (by simp)]

theorem byvals_cons {v v1 : V} {l l1 : List V} (h : V.byval m v = v1) (h2 : V.byvals m l = l1) : V.byvals m (v :: l) = v1 :: l1 := by
  rw [V.byvals, h, h2]

theorem byval_agg {l l1 : List V} (h : V.byvals m l = l1) : V.byval m (.agg l) = .agg l1 := by rw [V.byval, h]

theorem set_self {α : Type} : ∀ {l : List α} {i : Nat} {x : α}, l[i]? = some x → l.set i x = l
  | [], _, _, h => by simp at h
  | a :: l, 0, x, h => by simp at h; simp [h]
  | a :: l, i + 1, x, h => by simp at h; simp [set_self h]

/-- Rows appended to a list of our own. -/
theorem o_app {α : Type} {enc : α → List D} {l0 l1 : List α} {id e s bytes n : Nat} {x : V} (hn : Nat.beq n l0.length = true) (hm : m[id]? = some (.flat e s (l0.map enc) false)) (hx : flatRowsOf m x = some (l1.map enc)) (hs : sizeOk m s x = true)
    (h : decide ((l0.length + l1.length) * bytes ≤ 140737488355328) = true) :
    doI E c (.append e true s bytes (.v (.sl id n 0 n)) (.v x)) t m = some (.sl id (n + l1.length) 0 (n + l1.length), m.set id (.flat e s ((l0 ++ l1).map enc) false)) := by
  rw [beq_len hn]
  have h := of_decide_eq_true h
  simp only [doI, ev, appendV, hs, hm, hx, Option.bind_some, List.length_map, true_and, if_true]
  rw [if_pos h]
  cases l1 with
  | nil => simp; exact (set_self hm).symm
  | cons a l1 => simp

theorem o_app0 {α : Type} {enc : α → List D} {l1 : List α} {id e s bytes : Nat} {x : V} (hm : m[id]? = some (.flat e s [] false)) (hx : flatRowsOf m x = some (l1.map enc)) (hs : sizeOk m s x = true)
    (h : decide (l1.length * bytes ≤ 140737488355328) = true) :
    doI E c (.append e true s bytes (.v (.sl id 0 0 0)) (.v x)) t m = some (.sl id l1.length 0 l1.length, m.set id (.flat e s (l1.map enc) false)) := by
  have := o_app (E := E) (c := c) (t := t) (m := m) (enc := enc) (l0 := []) (l1 := l1) (id := id) (e := e) (s := s) (bytes := bytes) (x := x) (n := 0) rfl hm hx hs (by simpa using h)
  simpa using this

theorem o_app_nil {α : Type} {enc : α → List D} {l1 : List α} {e s bytes : Nat} {x : V} (hx : flatRowsOf m x = some (l1.map enc)) (hs : sizeOk m s x = true) (he : l1.isEmpty = false)
    (h : decide (l1.length * bytes ≤ 140737488355328) = true) :
    doI E c (.append e true s bytes (.v (.d .nils)) (.v x)) t m = some (.sl m.length l1.length 0 l1.length, m ++ [.flat e s (l1.map enc) false]) := by
  have h := of_decide_eq_true h
  have he : ¬ (l1 = []) := by cases l1 <;> simp_all
  simp [doI, ev, appendV, hs, hx, h, he]

theorem o_app_none {α : Type} {enc : α → List D} {l1 : List α} {e s bytes : Nat} {x : V} (hx : flatRowsOf m x = some (l1.map enc)) (hs : sizeOk m s x = true) (he : l1.isEmpty = true) :
    doI E c (.append e true s bytes (.v (.d .nils)) (.v x)) t m = some (.d .nils, m) := by
  have he : l1 = [] := by cases l1 <;> simp_all
  subst he
  simp [doI, ev, appendV, hs, hx]

/-- Places of lists of our own. -/
theorem o_idx_sl {id n : Nat} {s : Nat} {k : IntKind} {i : Int} (hs : sizeOk m s (.sl id n 0 n) = true) (h : inb n i = true) :
    doI E c (.idxA s (.v (.sl id n 0 n)) (.v (.d (.int k i)))) t m = some (.ptr id n i.toNat 0, m) := by
  obtain ⟨h1, h2⟩ := inb_spec h
  simp [doI, ev, hs, asNat_inb h1, idxSV, h2]

theorem o_load_L {α : Type} [Inhabited α] {enc : α → List D} {l : List α} {id e s off size : Nat} {p agg : Bool} {i : Int} {v : V} {n : Nat} (hn : Nat.beq n l.length = true) (hm : m[id]? = some (.flat e s (l.map enc) p)) (h : inb n i = true)
    (hv : part agg ((enc (gt l i)).map V.d) off size = some v) : doI E c (.load agg size (.v (.ptr id n i.toNat off))) t m = some (v, m) := by
  rw [beq_len hn] at h ⊢
  obtain ⟨h1, h2⟩ := inb_spec h
  have hl : l[i.toNat]? = some l[i.toNat] := List.getElem?_eq_getElem h2
  have hg : gt l i = l[i.toNat] := by simp [gt, List.getD, hl]
  rw [hg] at hv
  simp [doI, ev, loadV, hm, Blk.row?, List.getElem?_map, hl, hv]

theorem o_store_L {α : Type} [Inhabited α] {enc : α → List D} {l : List α} {id e s size off : Nat} {i : Int} {v : V} {x : α} {ys : List D} {n : Nat} (hn : Nat.beq n l.length = true) (hm : m[id]? = some (.flat e s (l.map enc) false)) (h : inb n i = true)
    (hc : v.cells.length = size ∧ v.cellsOk = true) (hy : toSs v.cells = some ys) (hx : (if off + ys.length ≤ (enc (gt l i)).length then some ((enc (gt l i)).take off ++ ys ++ (enc (gt l i)).drop (off + ys.length)) else none) = some (enc x)) :
    doI E c (.store size (.v (.ptr id n i.toNat off)) (.v v)) t m = some (.tup [], m.set id (.flat e s ((st l i x).map enc) false)) := by
  rw [beq_len hn] at h ⊢
  obtain ⟨h1, h2⟩ := inb_spec h
  have hl : l[i.toNat]? = some l[i.toNat] := List.getElem?_eq_getElem h2
  have hg : gt l i = l[i.toNat] := by simp [gt, List.getD, hl]
  rw [hg] at hx
  have hset : ∀ ys : List D, ys.length = ys.length → True := fun _ _ => trivial
  by_cases hle : off + ys.length ≤ (enc l[i.toNat]).length
  · rw [if_pos hle] at hx
    have hx := Option.some.inj hx
    have hrow : setRow (l.map enc) i.toNat off ys = some ((st l i x).map enc) := by
      simp only [setRow, List.getElem?_map, hl, Option.map_some, hle, if_true, st, List.map_set]
      rw [← hx]
    simp [doI, ev, storeV, hc.1, hc.2, hm, Blk.put?, hy, hrow]
  · rw [if_neg hle] at hx; cases hx

theorem o_mksl {α : Type} {enc : α → List D} {z : α} {e bytes : Nat} {zero : List D} {k k2 : IntKind} {n : Int} (hz : zero = enc z) (hs : allSs [zero.map V.d] = some [zero]) (h : (decide (0 ≤ n) && decide (n * bytes ≤ 140737488355328)) = true) :
    doI E c (.mksl e true zero bytes (.v (.d (.int k n))) (.v (.d (.int k2 n)))) t m = some (.sl m.length (List.replicate n.toNat z).length 0 (List.replicate n.toNat z).length, m ++ [.flat e zero.length ((List.replicate n.toNat z).map enc) false]) := by
  subst hz
  simp only [Bool.and_eq_true, decide_eq_true_eq] at h
  have h0 : n.toNat * bytes ≤ 140737488355328 := by
    have e1 : ((n.toNat * bytes : Nat) : Int) = n * bytes := by rw [Int.natCast_mul, Int.toNat_of_nonneg h.1]
    omega
  have all : ∀ k : Nat, allSs (List.replicate k ((enc z).map V.d)) = some (List.replicate k (enc z)) := fun k => by
    induction k with
    | zero => rfl
    | succ k ih =>
      simp only [List.replicate_succ, allSs, ih]
      simp only [allSs] at hs
      cases ht : toSs (List.map V.d (enc z)) with
      | none => simp [ht] at hs
      | some y => simp [ht] at hs; simp [hs]
  simp [doI, ev, asNat, h.1, h0, mkBlk, all]
end

end Go.Proofs.Ytgalchmjpfmemaa.Den

namespace Go.Proofs.Ytgalchmjpfmemaa.Den
open Go Go.Proofs
set_option maxRecDepth 100000
set_option maxHeartbeats 4000000
set_option linter.unusedVariables false
set_option linter.unusedSimpArgs false

structure R_bool_i64 where
  c0 : Bool
  c1 : Int
  deriving Inhabited

def enc_R_bool_i64 (p : R_bool_i64) : List D := [(.bool p.c0), (.int .i64 p.c1)]

structure R_str_bool where
  c0 : ByteArray
  c1 : Bool
  deriving Inhabited

def enc_R_str_bool (p : R_str_bool) : List D := [(.str p.c0), (.bool p.c1)]

structure R_i64_i64 where
  c0 : Int
  c1 : Int
  deriving Inhabited

def enc_R_i64_i64 (p : R_i64_i64) : List D := [(.int .i64 p.c0), (.int .i64 p.c1)]

end Go.Proofs.Ytgalchmjpfmemaa.Den

namespace Go.Proofs.Ytgalchmjpfmemaa.Den
open Go Go.Proofs
set_option maxRecDepth 100000
set_option maxHeartbeats 4000000
set_option linter.unusedVariables false
set_option linter.unusedSimpArgs false

def config_within_iii_r0_0 (x0 : Int) (x1 : Int) (x2 : Int) : Bool := (bif tb (decide (x1 ≤ x0)) then (decide (x0 ≤ x2)) else false)

theorem config_within_iii_t0 (x0 : Int) (x1 : Int) (x2 : Int) : cl E0 71 [(V.d (.int .i64 x0)), (V.d (.int .i64 x1)), (V.d (.int .i64 x2))] [] = some ([(V.d (.bool (config_within_iii_r0_0 x0 x1 x2)))], []) := by
  unfold config_within_iii_r0_0
  cases h1 : tb (decide (x1 ≤ x0))
  · exact w71 [.b (tbE h1)] (by kernel_rfl)
  · exact w71 [.b (tbE h1)] (by kernel_rfl)

structure config_Default_i_L0_1_s0 where mk ::
  deriving Inhabited

structure config_Default_i_L0_1_s1 where mk ::
  deriving Inhabited

structure config_Default_i_L0_1_s2 where mk ::
  deriving Inhabited

structure config_Default_i_L0_1_s3 where mk ::
  deriving Inhabited

structure config_Default_i_L0_1_s4 where mk ::
  deriving Inhabited

inductive config_Default_i_L0_1_S where
  | h0 (v : config_Default_i_L0_1_s0)
  | h1 (v : config_Default_i_L0_1_s1)
  | h2 (v : config_Default_i_L0_1_s2)
  | h3 (v : config_Default_i_L0_1_s3)
  | h4 (v : config_Default_i_L0_1_s4)
  deriving Inhabited

def config_Default_i_L0_1_is0 : config_Default_i_L0_1_S → Bool
  | .h0 _ => true
  | _ => false

def config_Default_i_L0_1_get0 : config_Default_i_L0_1_S → config_Default_i_L0_1_s0
  | .h0 v => v
  | _ => default

theorem config_Default_i_L0_1_at0 {s : config_Default_i_L0_1_S} (h : config_Default_i_L0_1_is0 s = true) : s = .h0 (config_Default_i_L0_1_get0 s) := by cases s <;> first | rfl | cases h

def config_Default_i_L0_1_is1 : config_Default_i_L0_1_S → Bool
  | .h1 _ => true
  | _ => false

def config_Default_i_L0_1_get1 : config_Default_i_L0_1_S → config_Default_i_L0_1_s1
  | .h1 v => v
  | _ => default

theorem config_Default_i_L0_1_at1 {s : config_Default_i_L0_1_S} (h : config_Default_i_L0_1_is1 s = true) : s = .h1 (config_Default_i_L0_1_get1 s) := by cases s <;> first | rfl | cases h

def config_Default_i_L0_1_is2 : config_Default_i_L0_1_S → Bool
  | .h2 _ => true
  | _ => false

def config_Default_i_L0_1_get2 : config_Default_i_L0_1_S → config_Default_i_L0_1_s2
  | .h2 v => v
  | _ => default

theorem config_Default_i_L0_1_at2 {s : config_Default_i_L0_1_S} (h : config_Default_i_L0_1_is2 s = true) : s = .h2 (config_Default_i_L0_1_get2 s) := by cases s <;> first | rfl | cases h

def config_Default_i_L0_1_is3 : config_Default_i_L0_1_S → Bool
  | .h3 _ => true
  | _ => false

def config_Default_i_L0_1_get3 : config_Default_i_L0_1_S → config_Default_i_L0_1_s3
  | .h3 v => v
  | _ => default

theorem config_Default_i_L0_1_at3 {s : config_Default_i_L0_1_S} (h : config_Default_i_L0_1_is3 s = true) : s = .h3 (config_Default_i_L0_1_get3 s) := by cases s <;> first | rfl | cases h

def config_Default_i_L0_1_is4 : config_Default_i_L0_1_S → Bool
  | .h4 _ => true
  | _ => false

def config_Default_i_L0_1_get4 : config_Default_i_L0_1_S → config_Default_i_L0_1_s4
  | .h4 v => v
  | _ => default

theorem config_Default_i_L0_1_at4 {s : config_Default_i_L0_1_S} (h : config_Default_i_L0_1_is4 s = true) : s = .h4 (config_Default_i_L0_1_get4 s) := by cases s <;> first | rfl | cases h

def config_Default_i_L0_1_enc (x0 : Int) (x1 : Bool) (x2 : Bool) (x3 : Int) : config_Default_i_L0_1_S → List V × Mem
  | .h0 s0 => ([(V.ptr 0 1 0 0), (V.ptr 1 1 0 0), (V.d (.int .i64 x3)), (V.d (.int .i64 0))], [(Blk.flat 69 21 [[(.int .i64 0), (.int .i64 0), (.int .i64 0), (.int .i64 0), (.int .i64 0), (.int .i64 0), (.int .i64 0), (.int .i64 0), (.int .i64 0), (.int .i64 0), (.int .i64 0), (.int .i64 0), (.int .i64 0), (.int .i64 0), (.int .i64 0), (.int .i64 0), (.int .i64 0), (.int .i64 0), (.int .i64 0), (.int .i64 0), (.int .i64 0)]] x1), (Blk.flat 69 21 [[(.int .i64 x0), (.int .i64 (-1000000)), (.int .i64 1000000), (.int .i64 0), (.int .i64 400), (.int .i64 600), (.int .i64 8), (.int .i64 150), (.int .i64 4), (.int .i64 300), (.int .i64 40), (.int .i64 5), (.int .i64 60), (.int .i64 3), (.int .i64 10), (.int .i64 2), (.int .i64 4), (.int .i64 0), (.int .i64 0), (.int .i64 0), (.int .i64 0)]] false)])
  | .h1 s0 => ([(V.ptr 0 1 0 0), (V.ptr 1 1 0 0), (V.d (.int .i64 x3)), (V.d (.int .i64 1))], [(Blk.flat 69 21 [[(.int .i64 0), (.int .i64 0), (.int .i64 0), (.int .i64 0), (.int .i64 0), (.int .i64 0), (.int .i64 0), (.int .i64 0), (.int .i64 0), (.int .i64 0), (.int .i64 0), (.int .i64 0), (.int .i64 0), (.int .i64 0), (.int .i64 0), (.int .i64 0), (.int .i64 0), (.int .i64 0), (.int .i64 0), (.int .i64 0), (.int .i64 0)]] x1), (Blk.flat 69 21 [[(.int .i64 x0), (.int .i64 (-1000000)), (.int .i64 1000000), (.int .i64 0), (.int .i64 400), (.int .i64 600), (.int .i64 8), (.int .i64 150), (.int .i64 4), (.int .i64 300), (.int .i64 40), (.int .i64 5), (.int .i64 60), (.int .i64 3), (.int .i64 10), (.int .i64 2), (.int .i64 4), (.int .i64 1), (.int .i64 0), (.int .i64 0), (.int .i64 0)]] false)])
  | .h2 s0 => ([(V.ptr 0 1 0 0), (V.ptr 1 1 0 0), (V.d (.int .i64 x3)), (V.d (.int .i64 2))], [(Blk.flat 69 21 [[(.int .i64 0), (.int .i64 0), (.int .i64 0), (.int .i64 0), (.int .i64 0), (.int .i64 0), (.int .i64 0), (.int .i64 0), (.int .i64 0), (.int .i64 0), (.int .i64 0), (.int .i64 0), (.int .i64 0), (.int .i64 0), (.int .i64 0), (.int .i64 0), (.int .i64 0), (.int .i64 0), (.int .i64 0), (.int .i64 0), (.int .i64 0)]] x1), (Blk.flat 69 21 [[(.int .i64 x0), (.int .i64 (-1000000)), (.int .i64 1000000), (.int .i64 0), (.int .i64 400), (.int .i64 600), (.int .i64 8), (.int .i64 150), (.int .i64 4), (.int .i64 300), (.int .i64 40), (.int .i64 5), (.int .i64 60), (.int .i64 3), (.int .i64 10), (.int .i64 2), (.int .i64 4), (.int .i64 1), (.int .i64 1), (.int .i64 0), (.int .i64 0)]] false)])
  | .h3 s0 => ([(V.ptr 0 1 0 0), (V.ptr 1 1 0 0), (V.d (.int .i64 x3)), (V.d (.int .i64 3))], [(Blk.flat 69 21 [[(.int .i64 0), (.int .i64 0), (.int .i64 0), (.int .i64 0), (.int .i64 0), (.int .i64 0), (.int .i64 0), (.int .i64 0), (.int .i64 0), (.int .i64 0), (.int .i64 0), (.int .i64 0), (.int .i64 0), (.int .i64 0), (.int .i64 0), (.int .i64 0), (.int .i64 0), (.int .i64 0), (.int .i64 0), (.int .i64 0), (.int .i64 0)]] x1), (Blk.flat 69 21 [[(.int .i64 x0), (.int .i64 (-1000000)), (.int .i64 1000000), (.int .i64 0), (.int .i64 400), (.int .i64 600), (.int .i64 8), (.int .i64 150), (.int .i64 4), (.int .i64 300), (.int .i64 40), (.int .i64 5), (.int .i64 60), (.int .i64 3), (.int .i64 10), (.int .i64 2), (.int .i64 4), (.int .i64 1), (.int .i64 1), (.int .i64 1), (.int .i64 0)]] false)])
  | .h4 s0 => ([(V.ptr 0 1 0 0), (V.ptr 1 1 0 0), (V.d (.int .i64 x3)), (V.d (.int .i64 4))], [(Blk.flat 69 21 [[(.int .i64 0), (.int .i64 0), (.int .i64 0), (.int .i64 0), (.int .i64 0), (.int .i64 0), (.int .i64 0), (.int .i64 0), (.int .i64 0), (.int .i64 0), (.int .i64 0), (.int .i64 0), (.int .i64 0), (.int .i64 0), (.int .i64 0), (.int .i64 0), (.int .i64 0), (.int .i64 0), (.int .i64 0), (.int .i64 0), (.int .i64 0)]] x1), (Blk.flat 69 21 [[(.int .i64 x0), (.int .i64 (-1000000)), (.int .i64 1000000), (.int .i64 0), (.int .i64 400), (.int .i64 600), (.int .i64 8), (.int .i64 150), (.int .i64 4), (.int .i64 300), (.int .i64 40), (.int .i64 5), (.int .i64 60), (.int .i64 3), (.int .i64 10), (.int .i64 2), (.int .i64 4), (.int .i64 1), (.int .i64 1), (.int .i64 1), (.int .i64 1)]] false)])

def config_Default_i_L0_1_h0_sel (x3 : Int) (s0 : config_Default_i_L0_1_s0) : Bool := (bif tb (decide (0 < x3)) then true else false)

def config_Default_i_L0_1_h0_nx (x3 : Int) (s0 : config_Default_i_L0_1_s0) : config_Default_i_L0_1_S := .h1 ⟨⟩

def config_Default_i_L0_1_h1_sel (x3 : Int) (s0 : config_Default_i_L0_1_s1) : Bool := (bif tb (decide (1 < x3)) then true else false)

def config_Default_i_L0_1_h1_nx (x3 : Int) (s0 : config_Default_i_L0_1_s1) : config_Default_i_L0_1_S := .h2 ⟨⟩

def config_Default_i_L0_1_h2_sel (x3 : Int) (s0 : config_Default_i_L0_1_s2) : Bool := (bif tb (decide (2 < x3)) then true else false)

def config_Default_i_L0_1_h2_nx (x3 : Int) (s0 : config_Default_i_L0_1_s2) : config_Default_i_L0_1_S := .h3 ⟨⟩

def config_Default_i_L0_1_h3_sel (x3 : Int) (s0 : config_Default_i_L0_1_s3) : Bool := (bif tb (decide (3 < x3)) then true else false)

def config_Default_i_L0_1_h3_nx (x3 : Int) (s0 : config_Default_i_L0_1_s3) : config_Default_i_L0_1_S := .h4 ⟨⟩

def config_Default_i_L0_1_h4_sel (x3 : Int) (s0 : config_Default_i_L0_1_s4) : Bool := false

def config_Default_i_L0_1_h4_nx (x3 : Int) (s0 : config_Default_i_L0_1_s4) : config_Default_i_L0_1_S := default

def config_Default_i_L0_1_sel (x3 : Int) : config_Default_i_L0_1_S → Bool
  | .h0 v => config_Default_i_L0_1_h0_sel x3 v
  | .h1 v => config_Default_i_L0_1_h1_sel x3 v
  | .h2 v => config_Default_i_L0_1_h2_sel x3 v
  | .h3 v => config_Default_i_L0_1_h3_sel x3 v
  | .h4 v => config_Default_i_L0_1_h4_sel x3 v

def config_Default_i_L0_1_nx (x3 : Int) : config_Default_i_L0_1_S → config_Default_i_L0_1_S
  | .h0 v => config_Default_i_L0_1_h0_nx x3 v
  | .h1 v => config_Default_i_L0_1_h1_nx x3 v
  | .h2 v => config_Default_i_L0_1_h2_nx x3 v
  | .h3 v => config_Default_i_L0_1_h3_nx x3 v
  | .h4 v => config_Default_i_L0_1_h4_nx x3 v

def config_Default_i_L0_1_ok (x3 : Int) (s0 : config_Default_i_L0_1_S) : Bool := (itS (config_Default_i_L0_1_sel x3) (config_Default_i_L0_1_nx x3) bound s0).isSome
def config_Default_i_L0_1_end (x3 : Int) (s0 : config_Default_i_L0_1_S) : config_Default_i_L0_1_S := (itS (config_Default_i_L0_1_sel x3) (config_Default_i_L0_1_nx x3) bound s0).getD default

theorem config_Default_i_L0_1_h0_go (x0 : Int) (x1 : Bool) (x2 : Bool) (x3 : Int) (s0 : config_Default_i_L0_1_s0) : config_Default_i_L0_1_h0_sel x3 s0 = true → (roundG (runC E0 (cl E0) L42_0) [2, 4, 12, 13] [2, 4] 2) (config_Default_i_L0_1_enc x0 x1 x2 x3 (.h0 s0)) = some (.normal, config_Default_i_L0_1_enc x0 x1 x2 x3 (config_Default_i_L0_1_h0_nx x3 s0)) := by
  unfold config_Default_i_L0_1_h0_sel config_Default_i_L0_1_h0_nx
  cases h1 : tb (decide (0 < x3))
  · intro g0
    exact absurd g0 ft
  · intro _
    exact round_walk [.b (tbE h1)] (by kernel_rfl)

theorem config_Default_i_L0_1_h0_x0 (x0 : Int) (x1 : Bool) (x2 : Bool) (x3 : Int) (s0 : config_Default_i_L0_1_s0) : config_Default_i_L0_1_h0_sel x3 s0 = false → (roundG (runC E0 (cl E0) L42_0) [2, 4, 12, 13] [2, 4] 2) (config_Default_i_L0_1_enc x0 x1 x2 x3 (.h0 s0)) = some ((.exit 0), ([(V.ptr 0 1 0 0), (V.ptr 1 1 0 0)], [(Blk.flat 69 21 [[(.int .i64 0), (.int .i64 0), (.int .i64 0), (.int .i64 0), (.int .i64 0), (.int .i64 0), (.int .i64 0), (.int .i64 0), (.int .i64 0), (.int .i64 0), (.int .i64 0), (.int .i64 0), (.int .i64 0), (.int .i64 0), (.int .i64 0), (.int .i64 0), (.int .i64 0), (.int .i64 0), (.int .i64 0), (.int .i64 0), (.int .i64 0)]] x1), (Blk.flat 69 21 [[(.int .i64 x0), (.int .i64 (-1000000)), (.int .i64 1000000), (.int .i64 0), (.int .i64 400), (.int .i64 600), (.int .i64 8), (.int .i64 150), (.int .i64 4), (.int .i64 300), (.int .i64 40), (.int .i64 5), (.int .i64 60), (.int .i64 3), (.int .i64 10), (.int .i64 2), (.int .i64 4), (.int .i64 0), (.int .i64 0), (.int .i64 0), (.int .i64 0)]] false)])) := by
  unfold config_Default_i_L0_1_h0_sel
  cases h1 : tb (decide (0 < x3))
  · intro g0
    exact round_walk [.b (tbE h1)] (by kernel_rfl)
  · intro g0
    exact absurd g0 tf

theorem config_Default_i_L0_1_h1_go (x0 : Int) (x1 : Bool) (x2 : Bool) (x3 : Int) (s0 : config_Default_i_L0_1_s1) : config_Default_i_L0_1_h1_sel x3 s0 = true → (roundG (runC E0 (cl E0) L42_0) [2, 4, 12, 13] [2, 4] 2) (config_Default_i_L0_1_enc x0 x1 x2 x3 (.h1 s0)) = some (.normal, config_Default_i_L0_1_enc x0 x1 x2 x3 (config_Default_i_L0_1_h1_nx x3 s0)) := by
  unfold config_Default_i_L0_1_h1_sel config_Default_i_L0_1_h1_nx
  cases h1 : tb (decide (1 < x3))
  · intro g0
    exact absurd g0 ft
  · intro _
    exact round_walk [.b (tbE h1)] (by kernel_rfl)

theorem config_Default_i_L0_1_h1_x0 (x0 : Int) (x1 : Bool) (x2 : Bool) (x3 : Int) (s0 : config_Default_i_L0_1_s1) : config_Default_i_L0_1_h1_sel x3 s0 = false → (roundG (runC E0 (cl E0) L42_0) [2, 4, 12, 13] [2, 4] 2) (config_Default_i_L0_1_enc x0 x1 x2 x3 (.h1 s0)) = some ((.exit 0), ([(V.ptr 0 1 0 0), (V.ptr 1 1 0 0)], [(Blk.flat 69 21 [[(.int .i64 0), (.int .i64 0), (.int .i64 0), (.int .i64 0), (.int .i64 0), (.int .i64 0), (.int .i64 0), (.int .i64 0), (.int .i64 0), (.int .i64 0), (.int .i64 0), (.int .i64 0), (.int .i64 0), (.int .i64 0), (.int .i64 0), (.int .i64 0), (.int .i64 0), (.int .i64 0), (.int .i64 0), (.int .i64 0), (.int .i64 0)]] x1), (Blk.flat 69 21 [[(.int .i64 x0), (.int .i64 (-1000000)), (.int .i64 1000000), (.int .i64 0), (.int .i64 400), (.int .i64 600), (.int .i64 8), (.int .i64 150), (.int .i64 4), (.int .i64 300), (.int .i64 40), (.int .i64 5), (.int .i64 60), (.int .i64 3), (.int .i64 10), (.int .i64 2), (.int .i64 4), (.int .i64 1), (.int .i64 0), (.int .i64 0), (.int .i64 0)]] false)])) := by
  unfold config_Default_i_L0_1_h1_sel
  cases h1 : tb (decide (1 < x3))
  · intro g0
    exact round_walk [.b (tbE h1)] (by kernel_rfl)
  · intro g0
    exact absurd g0 tf

theorem config_Default_i_L0_1_h2_go (x0 : Int) (x1 : Bool) (x2 : Bool) (x3 : Int) (s0 : config_Default_i_L0_1_s2) : config_Default_i_L0_1_h2_sel x3 s0 = true → (roundG (runC E0 (cl E0) L42_0) [2, 4, 12, 13] [2, 4] 2) (config_Default_i_L0_1_enc x0 x1 x2 x3 (.h2 s0)) = some (.normal, config_Default_i_L0_1_enc x0 x1 x2 x3 (config_Default_i_L0_1_h2_nx x3 s0)) := by
  unfold config_Default_i_L0_1_h2_sel config_Default_i_L0_1_h2_nx
  cases h1 : tb (decide (2 < x3))
  · intro g0
    exact absurd g0 ft
  · intro _
    exact round_walk [.b (tbE h1)] (by kernel_rfl)

theorem config_Default_i_L0_1_h2_x0 (x0 : Int) (x1 : Bool) (x2 : Bool) (x3 : Int) (s0 : config_Default_i_L0_1_s2) : config_Default_i_L0_1_h2_sel x3 s0 = false → (roundG (runC E0 (cl E0) L42_0) [2, 4, 12, 13] [2, 4] 2) (config_Default_i_L0_1_enc x0 x1 x2 x3 (.h2 s0)) = some ((.exit 0), ([(V.ptr 0 1 0 0), (V.ptr 1 1 0 0)], [(Blk.flat 69 21 [[(.int .i64 0), (.int .i64 0), (.int .i64 0), (.int .i64 0), (.int .i64 0), (.int .i64 0), (.int .i64 0), (.int .i64 0), (.int .i64 0), (.int .i64 0), (.int .i64 0), (.int .i64 0), (.int .i64 0), (.int .i64 0), (.int .i64 0), (.int .i64 0), (.int .i64 0), (.int .i64 0), (.int .i64 0), (.int .i64 0), (.int .i64 0)]] x1), (Blk.flat 69 21 [[(.int .i64 x0), (.int .i64 (-1000000)), (.int .i64 1000000), (.int .i64 0), (.int .i64 400), (.int .i64 600), (.int .i64 8), (.int .i64 150), (.int .i64 4), (.int .i64 300), (.int .i64 40), (.int .i64 5), (.int .i64 60), (.int .i64 3), (.int .i64 10), (.int .i64 2), (.int .i64 4), (.int .i64 1), (.int .i64 1), (.int .i64 0), (.int .i64 0)]] false)])) := by
  unfold config_Default_i_L0_1_h2_sel
  cases h1 : tb (decide (2 < x3))
  · intro g0
    exact round_walk [.b (tbE h1)] (by kernel_rfl)
  · intro g0
    exact absurd g0 tf

theorem config_Default_i_L0_1_h3_go (x0 : Int) (x1 : Bool) (x2 : Bool) (x3 : Int) (s0 : config_Default_i_L0_1_s3) : config_Default_i_L0_1_h3_sel x3 s0 = true → (roundG (runC E0 (cl E0) L42_0) [2, 4, 12, 13] [2, 4] 2) (config_Default_i_L0_1_enc x0 x1 x2 x3 (.h3 s0)) = some (.normal, config_Default_i_L0_1_enc x0 x1 x2 x3 (config_Default_i_L0_1_h3_nx x3 s0)) := by
  unfold config_Default_i_L0_1_h3_sel config_Default_i_L0_1_h3_nx
  cases h1 : tb (decide (3 < x3))
  · intro g0
    exact absurd g0 ft
  · intro _
    exact round_walk [.b (tbE h1)] (by kernel_rfl)

theorem config_Default_i_L0_1_h3_x0 (x0 : Int) (x1 : Bool) (x2 : Bool) (x3 : Int) (s0 : config_Default_i_L0_1_s3) : config_Default_i_L0_1_h3_sel x3 s0 = false → (roundG (runC E0 (cl E0) L42_0) [2, 4, 12, 13] [2, 4] 2) (config_Default_i_L0_1_enc x0 x1 x2 x3 (.h3 s0)) = some ((.exit 0), ([(V.ptr 0 1 0 0), (V.ptr 1 1 0 0)], [(Blk.flat 69 21 [[(.int .i64 0), (.int .i64 0), (.int .i64 0), (.int .i64 0), (.int .i64 0), (.int .i64 0), (.int .i64 0), (.int .i64 0), (.int .i64 0), (.int .i64 0), (.int .i64 0), (.int .i64 0), (.int .i64 0), (.int .i64 0), (.int .i64 0), (.int .i64 0), (.int .i64 0), (.int .i64 0), (.int .i64 0), (.int .i64 0), (.int .i64 0)]] x1), (Blk.flat 69 21 [[(.int .i64 x0), (.int .i64 (-1000000)), (.int .i64 1000000), (.int .i64 0), (.int .i64 400), (.int .i64 600), (.int .i64 8), (.int .i64 150), (.int .i64 4), (.int .i64 300), (.int .i64 40), (.int .i64 5), (.int .i64 60), (.int .i64 3), (.int .i64 10), (.int .i64 2), (.int .i64 4), (.int .i64 1), (.int .i64 1), (.int .i64 1), (.int .i64 0)]] false)])) := by
  unfold config_Default_i_L0_1_h3_sel
  cases h1 : tb (decide (3 < x3))
  · intro g0
    exact round_walk [.b (tbE h1)] (by kernel_rfl)
  · intro g0
    exact absurd g0 tf

theorem config_Default_i_L0_1_h4_go (x0 : Int) (x1 : Bool) (x2 : Bool) (x3 : Int) (s0 : config_Default_i_L0_1_s4) : config_Default_i_L0_1_h4_sel x3 s0 = true → (roundG (runC E0 (cl E0) L42_0) [2, 4, 12, 13] [2, 4] 2) (config_Default_i_L0_1_enc x0 x1 x2 x3 (.h4 s0)) = some (.normal, config_Default_i_L0_1_enc x0 x1 x2 x3 (config_Default_i_L0_1_h4_nx x3 s0)) := by
  unfold config_Default_i_L0_1_h4_sel config_Default_i_L0_1_h4_nx
  cases h1 : tb (decide (4 < x3))
  · intro g0
    exact absurd g0 ft
  · intro g0
    exact absurd g0 ft

def config_Default_i_L0_1_h4_c0 (x3 : Int) : Bool := (bif tb (decide (4 < x3)) then false else true)

theorem config_Default_i_L0_1_h4_x0 (x0 : Int) (x1 : Bool) (x2 : Bool) (x3 : Int) (s0 : config_Default_i_L0_1_s4) : config_Default_i_L0_1_h4_sel x3 s0 = false → config_Default_i_L0_1_h4_c0 x3 = true → (roundG (runC E0 (cl E0) L42_0) [2, 4, 12, 13] [2, 4] 2) (config_Default_i_L0_1_enc x0 x1 x2 x3 (.h4 s0)) = some ((.exit 0), ([(V.ptr 0 1 0 0), (V.ptr 1 1 0 0)], [(Blk.flat 69 21 [[(.int .i64 0), (.int .i64 0), (.int .i64 0), (.int .i64 0), (.int .i64 0), (.int .i64 0), (.int .i64 0), (.int .i64 0), (.int .i64 0), (.int .i64 0), (.int .i64 0), (.int .i64 0), (.int .i64 0), (.int .i64 0), (.int .i64 0), (.int .i64 0), (.int .i64 0), (.int .i64 0), (.int .i64 0), (.int .i64 0), (.int .i64 0)]] x1), (Blk.flat 69 21 [[(.int .i64 x0), (.int .i64 (-1000000)), (.int .i64 1000000), (.int .i64 0), (.int .i64 400), (.int .i64 600), (.int .i64 8), (.int .i64 150), (.int .i64 4), (.int .i64 300), (.int .i64 40), (.int .i64 5), (.int .i64 60), (.int .i64 3), (.int .i64 10), (.int .i64 2), (.int .i64 4), (.int .i64 1), (.int .i64 1), (.int .i64 1), (.int .i64 1)]] false)])) := by
  unfold config_Default_i_L0_1_h4_sel config_Default_i_L0_1_h4_c0
  cases h1 : tb (decide (4 < x3))
  · intro g0 g1
    exact round_walk [.b (tbE h1)] (by kernel_rfl)
  · intro g0 g1
    exact absurd g1 ft

theorem config_Default_i_L0_1_go (x0 : Int) (x1 : Bool) (x2 : Bool) (x3 : Int) : ∀ s, config_Default_i_L0_1_sel x3 s = true → (roundG (runC E0 (cl E0) L42_0) [2, 4, 12, 13] [2, 4] 2) (config_Default_i_L0_1_enc x0 x1 x2 x3 s) = some (.normal, config_Default_i_L0_1_enc x0 x1 x2 x3 (config_Default_i_L0_1_nx x3 s))
  | .h0 s0, h => config_Default_i_L0_1_h0_go x0 x1 x2 x3 s0 h
  | .h1 s0, h => config_Default_i_L0_1_h1_go x0 x1 x2 x3 s0 h
  | .h2 s0, h => config_Default_i_L0_1_h2_go x0 x1 x2 x3 s0 h
  | .h3 s0, h => config_Default_i_L0_1_h3_go x0 x1 x2 x3 s0 h
  | .h4 s0, h => config_Default_i_L0_1_h4_go x0 x1 x2 x3 s0 h

theorem config_Default_i_L0_1_f0_0 (x0 : Int) (x1 : Bool) (x2 : Bool) (x3 : Int) (s : config_Default_i_L0_1_S) (hok : config_Default_i_L0_1_ok x3 s = true) (k0 : config_Default_i_L0_1_is0 (config_Default_i_L0_1_end x3 s) = true) : loopG (roundG (runC E0 (cl E0) L42_0) [2, 4, 12, 13] [2, 4] 2) bound (config_Default_i_L0_1_enc x0 x1 x2 x3 s) = some ((.exit 0), ([(V.ptr 0 1 0 0), (V.ptr 1 1 0 0)], [(Blk.flat 69 21 [[(.int .i64 0), (.int .i64 0), (.int .i64 0), (.int .i64 0), (.int .i64 0), (.int .i64 0), (.int .i64 0), (.int .i64 0), (.int .i64 0), (.int .i64 0), (.int .i64 0), (.int .i64 0), (.int .i64 0), (.int .i64 0), (.int .i64 0), (.int .i64 0), (.int .i64 0), (.int .i64 0), (.int .i64 0), (.int .i64 0), (.int .i64 0)]] x1), (Blk.flat 69 21 [[(.int .i64 x0), (.int .i64 (-1000000)), (.int .i64 1000000), (.int .i64 0), (.int .i64 400), (.int .i64 600), (.int .i64 8), (.int .i64 150), (.int .i64 4), (.int .i64 300), (.int .i64 40), (.int .i64 5), (.int .i64 60), (.int .i64 3), (.int .i64 10), (.int .i64 2), (.int .i64 4), (.int .i64 0), (.int .i64 0), (.int .i64 0), (.int .i64 0)]] false)])) := by
  have e : itS (config_Default_i_L0_1_sel x3) (config_Default_i_L0_1_nx x3) bound s = some (config_Default_i_L0_1_end x3 s) := itS_get hok
  have f := itS_false e
  have a := config_Default_i_L0_1_at0 k0
  have g := config_Default_i_L0_1_h0_x0 x0 x1 x2 x3 (config_Default_i_L0_1_get0 (config_Default_i_L0_1_end x3 s)) (by rw [a] at f; exact f) 
  exact loop_it (config_Default_i_L0_1_go x0 x1 x2 x3) bound s _ _ _ e (fun h => by cases h) (by rw [a]; exact g)

theorem config_Default_i_L0_1_f1_0 (x0 : Int) (x1 : Bool) (x2 : Bool) (x3 : Int) (s : config_Default_i_L0_1_S) (hok : config_Default_i_L0_1_ok x3 s = true) (k0 : config_Default_i_L0_1_is0 (config_Default_i_L0_1_end x3 s) = false) (k1 : config_Default_i_L0_1_is1 (config_Default_i_L0_1_end x3 s) = true) : loopG (roundG (runC E0 (cl E0) L42_0) [2, 4, 12, 13] [2, 4] 2) bound (config_Default_i_L0_1_enc x0 x1 x2 x3 s) = some ((.exit 0), ([(V.ptr 0 1 0 0), (V.ptr 1 1 0 0)], [(Blk.flat 69 21 [[(.int .i64 0), (.int .i64 0), (.int .i64 0), (.int .i64 0), (.int .i64 0), (.int .i64 0), (.int .i64 0), (.int .i64 0), (.int .i64 0), (.int .i64 0), (.int .i64 0), (.int .i64 0), (.int .i64 0), (.int .i64 0), (.int .i64 0), (.int .i64 0), (.int .i64 0), (.int .i64 0), (.int .i64 0), (.int .i64 0), (.int .i64 0)]] x1), (Blk.flat 69 21 [[(.int .i64 x0), (.int .i64 (-1000000)), (.int .i64 1000000), (.int .i64 0), (.int .i64 400), (.int .i64 600), (.int .i64 8), (.int .i64 150), (.int .i64 4), (.int .i64 300), (.int .i64 40), (.int .i64 5), (.int .i64 60), (.int .i64 3), (.int .i64 10), (.int .i64 2), (.int .i64 4), (.int .i64 1), (.int .i64 0), (.int .i64 0), (.int .i64 0)]] false)])) := by
  have e : itS (config_Default_i_L0_1_sel x3) (config_Default_i_L0_1_nx x3) bound s = some (config_Default_i_L0_1_end x3 s) := itS_get hok
  have f := itS_false e
  have a := config_Default_i_L0_1_at1 k1
  have g := config_Default_i_L0_1_h1_x0 x0 x1 x2 x3 (config_Default_i_L0_1_get1 (config_Default_i_L0_1_end x3 s)) (by rw [a] at f; exact f) 
  exact loop_it (config_Default_i_L0_1_go x0 x1 x2 x3) bound s _ _ _ e (fun h => by cases h) (by rw [a]; exact g)

theorem config_Default_i_L0_1_f2_0 (x0 : Int) (x1 : Bool) (x2 : Bool) (x3 : Int) (s : config_Default_i_L0_1_S) (hok : config_Default_i_L0_1_ok x3 s = true) (k0 : config_Default_i_L0_1_is0 (config_Default_i_L0_1_end x3 s) = false) (k1 : config_Default_i_L0_1_is1 (config_Default_i_L0_1_end x3 s) = false) (k2 : config_Default_i_L0_1_is2 (config_Default_i_L0_1_end x3 s) = true) : loopG (roundG (runC E0 (cl E0) L42_0) [2, 4, 12, 13] [2, 4] 2) bound (config_Default_i_L0_1_enc x0 x1 x2 x3 s) = some ((.exit 0), ([(V.ptr 0 1 0 0), (V.ptr 1 1 0 0)], [(Blk.flat 69 21 [[(.int .i64 0), (.int .i64 0), (.int .i64 0), (.int .i64 0), (.int .i64 0), (.int .i64 0), (.int .i64 0), (.int .i64 0), (.int .i64 0), (.int .i64 0), (.int .i64 0), (.int .i64 0), (.int .i64 0), (.int .i64 0), (.int .i64 0), (.int .i64 0), (.int .i64 0), (.int .i64 0), (.int .i64 0), (.int .i64 0), (.int .i64 0)]] x1), (Blk.flat 69 21 [[(.int .i64 x0), (.int .i64 (-1000000)), (.int .i64 1000000), (.int .i64 0), (.int .i64 400), (.int .i64 600), (.int .i64 8), (.int .i64 150), (.int .i64 4), (.int .i64 300), (.int .i64 40), (.int .i64 5), (.int .i64 60), (.int .i64 3), (.int .i64 10), (.int .i64 2), (.int .i64 4), (.int .i64 1), (.int .i64 1), (.int .i64 0), (.int .i64 0)]] false)])) := by
  have e : itS (config_Default_i_L0_1_sel x3) (config_Default_i_L0_1_nx x3) bound s = some (config_Default_i_L0_1_end x3 s) := itS_get hok
  have f := itS_false e
  have a := config_Default_i_L0_1_at2 k2
  have g := config_Default_i_L0_1_h2_x0 x0 x1 x2 x3 (config_Default_i_L0_1_get2 (config_Default_i_L0_1_end x3 s)) (by rw [a] at f; exact f) 
  exact loop_it (config_Default_i_L0_1_go x0 x1 x2 x3) bound s _ _ _ e (fun h => by cases h) (by rw [a]; exact g)

theorem config_Default_i_L0_1_f3_0 (x0 : Int) (x1 : Bool) (x2 : Bool) (x3 : Int) (s : config_Default_i_L0_1_S) (hok : config_Default_i_L0_1_ok x3 s = true) (k0 : config_Default_i_L0_1_is0 (config_Default_i_L0_1_end x3 s) = false) (k1 : config_Default_i_L0_1_is1 (config_Default_i_L0_1_end x3 s) = false) (k2 : config_Default_i_L0_1_is2 (config_Default_i_L0_1_end x3 s) = false) (k3 : config_Default_i_L0_1_is3 (config_Default_i_L0_1_end x3 s) = true) : loopG (roundG (runC E0 (cl E0) L42_0) [2, 4, 12, 13] [2, 4] 2) bound (config_Default_i_L0_1_enc x0 x1 x2 x3 s) = some ((.exit 0), ([(V.ptr 0 1 0 0), (V.ptr 1 1 0 0)], [(Blk.flat 69 21 [[(.int .i64 0), (.int .i64 0), (.int .i64 0), (.int .i64 0), (.int .i64 0), (.int .i64 0), (.int .i64 0), (.int .i64 0), (.int .i64 0), (.int .i64 0), (.int .i64 0), (.int .i64 0), (.int .i64 0), (.int .i64 0), (.int .i64 0), (.int .i64 0), (.int .i64 0), (.int .i64 0), (.int .i64 0), (.int .i64 0), (.int .i64 0)]] x1), (Blk.flat 69 21 [[(.int .i64 x0), (.int .i64 (-1000000)), (.int .i64 1000000), (.int .i64 0), (.int .i64 400), (.int .i64 600), (.int .i64 8), (.int .i64 150), (.int .i64 4), (.int .i64 300), (.int .i64 40), (.int .i64 5), (.int .i64 60), (.int .i64 3), (.int .i64 10), (.int .i64 2), (.int .i64 4), (.int .i64 1), (.int .i64 1), (.int .i64 1), (.int .i64 0)]] false)])) := by
  have e : itS (config_Default_i_L0_1_sel x3) (config_Default_i_L0_1_nx x3) bound s = some (config_Default_i_L0_1_end x3 s) := itS_get hok
  have f := itS_false e
  have a := config_Default_i_L0_1_at3 k3
  have g := config_Default_i_L0_1_h3_x0 x0 x1 x2 x3 (config_Default_i_L0_1_get3 (config_Default_i_L0_1_end x3 s)) (by rw [a] at f; exact f) 
  exact loop_it (config_Default_i_L0_1_go x0 x1 x2 x3) bound s _ _ _ e (fun h => by cases h) (by rw [a]; exact g)

theorem config_Default_i_L0_1_f4_0 (x0 : Int) (x1 : Bool) (x2 : Bool) (x3 : Int) (s : config_Default_i_L0_1_S) (hok : config_Default_i_L0_1_ok x3 s = true) (k0 : config_Default_i_L0_1_is0 (config_Default_i_L0_1_end x3 s) = false) (k1 : config_Default_i_L0_1_is1 (config_Default_i_L0_1_end x3 s) = false) (k2 : config_Default_i_L0_1_is2 (config_Default_i_L0_1_end x3 s) = false) (k3 : config_Default_i_L0_1_is3 (config_Default_i_L0_1_end x3 s) = false) (c0 : config_Default_i_L0_1_h4_c0 x3 = true) : loopG (roundG (runC E0 (cl E0) L42_0) [2, 4, 12, 13] [2, 4] 2) bound (config_Default_i_L0_1_enc x0 x1 x2 x3 s) = some ((.exit 0), ([(V.ptr 0 1 0 0), (V.ptr 1 1 0 0)], [(Blk.flat 69 21 [[(.int .i64 0), (.int .i64 0), (.int .i64 0), (.int .i64 0), (.int .i64 0), (.int .i64 0), (.int .i64 0), (.int .i64 0), (.int .i64 0), (.int .i64 0), (.int .i64 0), (.int .i64 0), (.int .i64 0), (.int .i64 0), (.int .i64 0), (.int .i64 0), (.int .i64 0), (.int .i64 0), (.int .i64 0), (.int .i64 0), (.int .i64 0)]] x1), (Blk.flat 69 21 [[(.int .i64 x0), (.int .i64 (-1000000)), (.int .i64 1000000), (.int .i64 0), (.int .i64 400), (.int .i64 600), (.int .i64 8), (.int .i64 150), (.int .i64 4), (.int .i64 300), (.int .i64 40), (.int .i64 5), (.int .i64 60), (.int .i64 3), (.int .i64 10), (.int .i64 2), (.int .i64 4), (.int .i64 1), (.int .i64 1), (.int .i64 1), (.int .i64 1)]] false)])) := by
  have e : itS (config_Default_i_L0_1_sel x3) (config_Default_i_L0_1_nx x3) bound s = some (config_Default_i_L0_1_end x3 s) := itS_get hok
  have f := itS_false e
  have a : (config_Default_i_L0_1_end x3 s) = .h4 (config_Default_i_L0_1_get4 (config_Default_i_L0_1_end x3 s)) := by
    revert k0 k1 k2 k3
    cases (config_Default_i_L0_1_end x3 s) with
    | h0 w => intros; contradiction
    | h1 w => intros; contradiction
    | h2 w => intros; contradiction
    | h3 w => intros; contradiction
    | h4 w => intros; rfl
  have g := config_Default_i_L0_1_h4_x0 x0 x1 x2 x3 (config_Default_i_L0_1_get4 (config_Default_i_L0_1_end x3 s)) (by rw [a] at f; exact f) c0
  exact loop_it (config_Default_i_L0_1_go x0 x1 x2 x3) bound s _ _ _ e (fun h => by cases h) (by rw [a]; exact g)

def config_Default_i_e0 (x0 : Int) : config_Default_i_L0_1_S := config_Default_i_L0_1_end x0 (.h0 ⟨⟩ : config_Default_i_L0_1_S)

def config_Default_i_c0 (x0 : Int) : Bool := (bif tb (config_within_iii_r0_0 x0 3 4) then (bif tb (config_Default_i_L0_1_ok x0 (.h0 ⟨⟩ : config_Default_i_L0_1_S)) then (bif tb (config_Default_i_L0_1_is0 (config_Default_i_e0 x0)) then true else (bif tb (config_Default_i_L0_1_is1 (config_Default_i_e0 x0)) then true else (bif tb (config_Default_i_L0_1_is2 (config_Default_i_e0 x0)) then true else (bif tb (config_Default_i_L0_1_is3 (config_Default_i_e0 x0)) then true else (bif tb (config_Default_i_L0_1_h4_c0 x0) then true else false))))) else false) else true)

def config_Default_i_r0_0 (x0 : Int) : Int := (bif tb (config_within_iii_r0_0 x0 3 4) then x0 else 0)

def config_Default_i_r0_1 (x0 : Int) : Int := (bif tb (config_within_iii_r0_0 x0 3 4) then (-1000000) else 0)

def config_Default_i_r0_2 (x0 : Int) : Int := (bif tb (config_within_iii_r0_0 x0 3 4) then 1000000 else 0)

def config_Default_i_r0_4 (x0 : Int) : Int := (bif tb (config_within_iii_r0_0 x0 3 4) then 400 else 0)

def config_Default_i_r0_5 (x0 : Int) : Int := (bif tb (config_within_iii_r0_0 x0 3 4) then 600 else 0)

def config_Default_i_r0_6 (x0 : Int) : Int := (bif tb (config_within_iii_r0_0 x0 3 4) then 8 else 0)

def config_Default_i_r0_7 (x0 : Int) : Int := (bif tb (config_within_iii_r0_0 x0 3 4) then 150 else 0)

def config_Default_i_r0_8 (x0 : Int) : Int := (bif tb (config_within_iii_r0_0 x0 3 4) then 4 else 0)

def config_Default_i_r0_9 (x0 : Int) : Int := (bif tb (config_within_iii_r0_0 x0 3 4) then 300 else 0)

def config_Default_i_r0_10 (x0 : Int) : Int := (bif tb (config_within_iii_r0_0 x0 3 4) then 40 else 0)

def config_Default_i_r0_11 (x0 : Int) : Int := (bif tb (config_within_iii_r0_0 x0 3 4) then 5 else 0)

def config_Default_i_r0_12 (x0 : Int) : Int := (bif tb (config_within_iii_r0_0 x0 3 4) then 60 else 0)

def config_Default_i_r0_13 (x0 : Int) : Int := (bif tb (config_within_iii_r0_0 x0 3 4) then 3 else 0)

def config_Default_i_r0_14 (x0 : Int) : Int := (bif tb (config_within_iii_r0_0 x0 3 4) then 10 else 0)

def config_Default_i_r0_15 (x0 : Int) : Int := (bif tb (config_within_iii_r0_0 x0 3 4) then 2 else 0)

def config_Default_i_r0_16 (x0 : Int) : Int := (bif tb (config_within_iii_r0_0 x0 3 4) then 4 else 0)

def config_Default_i_r0_17 (x0 : Int) : Int := (bif tb (config_within_iii_r0_0 x0 3 4) then (bif tb (config_Default_i_L0_1_is0 (config_Default_i_e0 x0)) then 0 else 1) else 0)

def config_Default_i_r0_18 (x0 : Int) : Int := (bif tb (config_within_iii_r0_0 x0 3 4) then (bif tb (config_Default_i_L0_1_is0 (config_Default_i_e0 x0)) then 0 else (bif tb (config_Default_i_L0_1_is1 (config_Default_i_e0 x0)) then 0 else 1)) else 0)

def config_Default_i_r0_19 (x0 : Int) : Int := (bif tb (config_within_iii_r0_0 x0 3 4) then (bif tb (config_Default_i_L0_1_is0 (config_Default_i_e0 x0)) then 0 else (bif tb (config_Default_i_L0_1_is1 (config_Default_i_e0 x0)) then 0 else (bif tb (config_Default_i_L0_1_is2 (config_Default_i_e0 x0)) then 0 else 1))) else 0)

def config_Default_i_r0_20 (x0 : Int) : Int := (bif tb (config_within_iii_r0_0 x0 3 4) then (bif tb (config_Default_i_L0_1_is0 (config_Default_i_e0 x0)) then 0 else (bif tb (config_Default_i_L0_1_is1 (config_Default_i_e0 x0)) then 0 else (bif tb (config_Default_i_L0_1_is2 (config_Default_i_e0 x0)) then 0 else (bif tb (config_Default_i_L0_1_is3 (config_Default_i_e0 x0)) then 0 else 1)))) else 0)

def config_Default_i_r0_21 (x0 : Int) : Int := (bif tb (config_within_iii_r0_0 x0 3 4) then 0 else 1)

theorem config_Default_i_t0 (x0 : Int) : config_Default_i_c0 x0 = true → cl E0 42 [(V.d (.int .i64 x0))] [] = some ([(V.agg [(V.d (.int .i64 (config_Default_i_r0_0 x0))), (V.d (.int .i64 (config_Default_i_r0_1 x0))), (V.d (.int .i64 (config_Default_i_r0_2 x0))), (V.d (.int .i64 0)), (V.d (.int .i64 (config_Default_i_r0_4 x0))), (V.d (.int .i64 (config_Default_i_r0_5 x0))), (V.d (.int .i64 (config_Default_i_r0_6 x0))), (V.d (.int .i64 (config_Default_i_r0_7 x0))), (V.d (.int .i64 (config_Default_i_r0_8 x0))), (V.d (.int .i64 (config_Default_i_r0_9 x0))), (V.d (.int .i64 (config_Default_i_r0_10 x0))), (V.d (.int .i64 (config_Default_i_r0_11 x0))), (V.d (.int .i64 (config_Default_i_r0_12 x0))), (V.d (.int .i64 (config_Default_i_r0_13 x0))), (V.d (.int .i64 (config_Default_i_r0_14 x0))), (V.d (.int .i64 (config_Default_i_r0_15 x0))), (V.d (.int .i64 (config_Default_i_r0_16 x0))), (V.d (.int .i64 (config_Default_i_r0_17 x0))), (V.d (.int .i64 (config_Default_i_r0_18 x0))), (V.d (.int .i64 (config_Default_i_r0_19 x0))), (V.d (.int .i64 (config_Default_i_r0_20 x0)))]), (V.d (.int .i64 (config_Default_i_r0_21 x0)))], []) := by
  unfold config_Default_i_c0 config_Default_i_r0_0 config_Default_i_r0_1 config_Default_i_r0_2 config_Default_i_r0_4 config_Default_i_r0_5 config_Default_i_r0_6 config_Default_i_r0_7 config_Default_i_r0_8 config_Default_i_r0_9 config_Default_i_r0_10 config_Default_i_r0_11 config_Default_i_r0_12 config_Default_i_r0_13 config_Default_i_r0_14 config_Default_i_r0_15 config_Default_i_r0_16 config_Default_i_r0_17 config_Default_i_r0_18 config_Default_i_r0_19 config_Default_i_r0_20 config_Default_i_r0_21
  cases h1 : tb (config_within_iii_r0_0 x0 3 4)
  · intro g0
    exact w42 [.c (config_within_iii_t0 x0 3 4), .b (notF (tbE h1))] (by kernel_rfl)
  · cases h2 : tb (config_Default_i_L0_1_ok x0 (.h0 ⟨⟩ : config_Default_i_L0_1_S))
    · intro g0
      exact absurd g0 ft
    · cases h3 : tb (config_Default_i_L0_1_is0 (config_Default_i_e0 x0))
      · cases h4 : tb (config_Default_i_L0_1_is1 (config_Default_i_e0 x0))
        · cases h5 : tb (config_Default_i_L0_1_is2 (config_Default_i_e0 x0))
          · cases h6 : tb (config_Default_i_L0_1_is3 (config_Default_i_e0 x0))
            · cases h7 : tb (config_Default_i_L0_1_h4_c0 x0)
              · intro g0
                exact absurd g0 ft
              · intro g0
                exact w42 [.c (config_within_iii_t0 x0 3 4), .b (notT (tbE h1)), .l (config_Default_i_L0_1_f4_0 x0 false false x0 (.h0 ⟨⟩ : config_Default_i_L0_1_S) (tbE h2) (tbE h3) (tbE h4) (tbE h5) (tbE h6) (tbE h7))] (by kernel_rfl)
            · intro g0
              exact w42 [.c (config_within_iii_t0 x0 3 4), .b (notT (tbE h1)), .l (config_Default_i_L0_1_f3_0 x0 false false x0 (.h0 ⟨⟩ : config_Default_i_L0_1_S) (tbE h2) (tbE h3) (tbE h4) (tbE h5) (tbE h6))] (by kernel_rfl)
          · intro g0
            exact w42 [.c (config_within_iii_t0 x0 3 4), .b (notT (tbE h1)), .l (config_Default_i_L0_1_f2_0 x0 false false x0 (.h0 ⟨⟩ : config_Default_i_L0_1_S) (tbE h2) (tbE h3) (tbE h4) (tbE h5))] (by kernel_rfl)
        · intro g0
          exact w42 [.c (config_within_iii_t0 x0 3 4), .b (notT (tbE h1)), .l (config_Default_i_L0_1_f1_0 x0 false false x0 (.h0 ⟨⟩ : config_Default_i_L0_1_S) (tbE h2) (tbE h3) (tbE h4))] (by kernel_rfl)
      · intro g0
        exact w42 [.c (config_within_iii_t0 x0 3 4), .b (notT (tbE h1)), .l (config_Default_i_L0_1_f0_0 x0 false false x0 (.h0 ⟨⟩ : config_Default_i_L0_1_S) (tbE h2) (tbE h3))] (by kernel_rfl)

theorem config_fields_c1_i_t0 (x0 : Int) : cl E0 81 [(V.d (.int .i64 x0))] [] = some ([(V.d (.bool (config_within_iii_r0_0 x0 0 2147483647)))], []) := by
  exact w81 [.c (config_within_iii_t0 x0 0 2147483647)] (by kernel_rfl)

structure config_weights_ai21_L0_1_s0 where mk ::
  deriving Inhabited

structure config_weights_ai21_L0_1_s1 where mk ::
  deriving Inhabited

structure config_weights_ai21_L0_1_s2 where mk ::
  deriving Inhabited

structure config_weights_ai21_L0_1_s3 where mk ::
  deriving Inhabited

structure config_weights_ai21_L0_1_s4 where mk ::
  deriving Inhabited

inductive config_weights_ai21_L0_1_S where
  | h0 (v : config_weights_ai21_L0_1_s0)
  | h1 (v : config_weights_ai21_L0_1_s1)
  | h2 (v : config_weights_ai21_L0_1_s2)
  | h3 (v : config_weights_ai21_L0_1_s3)
  | h4 (v : config_weights_ai21_L0_1_s4)
  deriving Inhabited

def config_weights_ai21_L0_1_is0 : config_weights_ai21_L0_1_S → Bool
  | .h0 _ => true
  | _ => false

def config_weights_ai21_L0_1_get0 : config_weights_ai21_L0_1_S → config_weights_ai21_L0_1_s0
  | .h0 v => v
  | _ => default

theorem config_weights_ai21_L0_1_at0 {s : config_weights_ai21_L0_1_S} (h : config_weights_ai21_L0_1_is0 s = true) : s = .h0 (config_weights_ai21_L0_1_get0 s) := by cases s <;> first | rfl | cases h

def config_weights_ai21_L0_1_is1 : config_weights_ai21_L0_1_S → Bool
  | .h1 _ => true
  | _ => false

def config_weights_ai21_L0_1_get1 : config_weights_ai21_L0_1_S → config_weights_ai21_L0_1_s1
  | .h1 v => v
  | _ => default

theorem config_weights_ai21_L0_1_at1 {s : config_weights_ai21_L0_1_S} (h : config_weights_ai21_L0_1_is1 s = true) : s = .h1 (config_weights_ai21_L0_1_get1 s) := by cases s <;> first | rfl | cases h

def config_weights_ai21_L0_1_is2 : config_weights_ai21_L0_1_S → Bool
  | .h2 _ => true
  | _ => false

def config_weights_ai21_L0_1_get2 : config_weights_ai21_L0_1_S → config_weights_ai21_L0_1_s2
  | .h2 v => v
  | _ => default

theorem config_weights_ai21_L0_1_at2 {s : config_weights_ai21_L0_1_S} (h : config_weights_ai21_L0_1_is2 s = true) : s = .h2 (config_weights_ai21_L0_1_get2 s) := by cases s <;> first | rfl | cases h

def config_weights_ai21_L0_1_is3 : config_weights_ai21_L0_1_S → Bool
  | .h3 _ => true
  | _ => false

def config_weights_ai21_L0_1_get3 : config_weights_ai21_L0_1_S → config_weights_ai21_L0_1_s3
  | .h3 v => v
  | _ => default

theorem config_weights_ai21_L0_1_at3 {s : config_weights_ai21_L0_1_S} (h : config_weights_ai21_L0_1_is3 s = true) : s = .h3 (config_weights_ai21_L0_1_get3 s) := by cases s <;> first | rfl | cases h

def config_weights_ai21_L0_1_is4 : config_weights_ai21_L0_1_S → Bool
  | .h4 _ => true
  | _ => false

def config_weights_ai21_L0_1_get4 : config_weights_ai21_L0_1_S → config_weights_ai21_L0_1_s4
  | .h4 v => v
  | _ => default

theorem config_weights_ai21_L0_1_at4 {s : config_weights_ai21_L0_1_S} (h : config_weights_ai21_L0_1_is4 s = true) : s = .h4 (config_weights_ai21_L0_1_get4 s) := by cases s <;> first | rfl | cases h

def config_weights_ai21_L0_1_enc (x0 : Int) (x1 : Int) (x2 : Int) (x3 : Int) (x4 : Int) (x5 : Int) (x6 : Int) (x7 : Int) (x8 : Int) (x9 : Int) (x10 : Int) (x11 : Int) (x12 : Int) (x13 : Int) (x14 : Int) (x15 : Int) (x16 : Int) (x17 : Int) (x18 : Int) (x19 : Int) (x20 : Int) (x21 : Bool) (x22 : Int) (x23 : Int) (x24 : Int) (x25 : Int) : config_weights_ai21_L0_1_S → List V × Mem
  | .h0 s0 => ([(V.ptr 0 1 0 0), (V.agg [(V.d (.int .i64 x22)), (V.d (.int .i64 x23)), (V.d (.int .i64 x24)), (V.d (.int .i64 x25))]), (V.d (.int .i64 0))], [(Blk.flat 69 21 [[(.int .i64 x0), (.int .i64 x1), (.int .i64 x2), (.int .i64 x3), (.int .i64 x4), (.int .i64 x5), (.int .i64 x6), (.int .i64 x7), (.int .i64 x8), (.int .i64 x9), (.int .i64 x10), (.int .i64 x11), (.int .i64 x12), (.int .i64 x13), (.int .i64 x14), (.int .i64 x15), (.int .i64 x16), (.int .i64 x17), (.int .i64 x18), (.int .i64 x19), (.int .i64 x20)]] x21)])
  | .h1 s0 => ([(V.ptr 0 1 0 0), (V.agg [(V.d (.int .i64 x22)), (V.d (.int .i64 x23)), (V.d (.int .i64 x24)), (V.d (.int .i64 x25))]), (V.d (.int .i64 1))], [(Blk.flat 69 21 [[(.int .i64 x0), (.int .i64 x1), (.int .i64 x2), (.int .i64 x3), (.int .i64 x4), (.int .i64 x5), (.int .i64 x6), (.int .i64 x7), (.int .i64 x8), (.int .i64 x9), (.int .i64 x10), (.int .i64 x11), (.int .i64 x12), (.int .i64 x13), (.int .i64 x14), (.int .i64 x15), (.int .i64 x16), (.int .i64 x17), (.int .i64 x18), (.int .i64 x19), (.int .i64 x20)]] x21)])
  | .h2 s0 => ([(V.ptr 0 1 0 0), (V.agg [(V.d (.int .i64 x22)), (V.d (.int .i64 x23)), (V.d (.int .i64 x24)), (V.d (.int .i64 x25))]), (V.d (.int .i64 2))], [(Blk.flat 69 21 [[(.int .i64 x0), (.int .i64 x1), (.int .i64 x2), (.int .i64 x3), (.int .i64 x4), (.int .i64 x5), (.int .i64 x6), (.int .i64 x7), (.int .i64 x8), (.int .i64 x9), (.int .i64 x10), (.int .i64 x11), (.int .i64 x12), (.int .i64 x13), (.int .i64 x14), (.int .i64 x15), (.int .i64 x16), (.int .i64 x17), (.int .i64 x18), (.int .i64 x19), (.int .i64 x20)]] x21)])
  | .h3 s0 => ([(V.ptr 0 1 0 0), (V.agg [(V.d (.int .i64 x22)), (V.d (.int .i64 x23)), (V.d (.int .i64 x24)), (V.d (.int .i64 x25))]), (V.d (.int .i64 3))], [(Blk.flat 69 21 [[(.int .i64 x0), (.int .i64 x1), (.int .i64 x2), (.int .i64 x3), (.int .i64 x4), (.int .i64 x5), (.int .i64 x6), (.int .i64 x7), (.int .i64 x8), (.int .i64 x9), (.int .i64 x10), (.int .i64 x11), (.int .i64 x12), (.int .i64 x13), (.int .i64 x14), (.int .i64 x15), (.int .i64 x16), (.int .i64 x17), (.int .i64 x18), (.int .i64 x19), (.int .i64 x20)]] x21)])
  | .h4 s0 => ([(V.ptr 0 1 0 0), (V.agg [(V.d (.int .i64 x22)), (V.d (.int .i64 x23)), (V.d (.int .i64 x24)), (V.d (.int .i64 x25))]), (V.d (.int .i64 4))], [(Blk.flat 69 21 [[(.int .i64 x0), (.int .i64 x1), (.int .i64 x2), (.int .i64 x3), (.int .i64 x4), (.int .i64 x5), (.int .i64 x6), (.int .i64 x7), (.int .i64 x8), (.int .i64 x9), (.int .i64 x10), (.int .i64 x11), (.int .i64 x12), (.int .i64 x13), (.int .i64 x14), (.int .i64 x15), (.int .i64 x16), (.int .i64 x17), (.int .i64 x18), (.int .i64 x19), (.int .i64 x20)]] x21)])

def config_weights_ai21_L0_1_h0_sel (x0 : Int) (x22 : Int) (x23 : Int) (x24 : Int) (x25 : Int) (s0 : config_weights_ai21_L0_1_s0) : Bool := (bif tb (decide (0 < x0)) then (bif tb (config_within_iii_r0_0 x22 1 16) then (bif tb (decide (x0 ≤ 0)) then (bif tb ((x22 : Int) != 0) then false else true) else true) else false) else (bif tb (decide (x0 ≤ 0)) then (bif tb ((x22 : Int) != 0) then false else true) else true))

def config_weights_ai21_L0_1_h0_nx (x0 : Int) (x22 : Int) (x23 : Int) (x24 : Int) (x25 : Int) (s0 : config_weights_ai21_L0_1_s0) : config_weights_ai21_L0_1_S := .h1 ⟨⟩

def config_weights_ai21_L0_1_h1_sel (x0 : Int) (x22 : Int) (x23 : Int) (x24 : Int) (x25 : Int) (s0 : config_weights_ai21_L0_1_s1) : Bool := (bif tb (decide (1 < x0)) then (bif tb (config_within_iii_r0_0 x23 1 16) then (bif tb (decide (x0 ≤ 1)) then (bif tb ((x23 : Int) != 0) then false else true) else true) else false) else (bif tb (decide (x0 ≤ 1)) then (bif tb ((x23 : Int) != 0) then false else true) else true))

def config_weights_ai21_L0_1_h1_nx (x0 : Int) (x22 : Int) (x23 : Int) (x24 : Int) (x25 : Int) (s0 : config_weights_ai21_L0_1_s1) : config_weights_ai21_L0_1_S := .h2 ⟨⟩

def config_weights_ai21_L0_1_h2_sel (x0 : Int) (x22 : Int) (x23 : Int) (x24 : Int) (x25 : Int) (s0 : config_weights_ai21_L0_1_s2) : Bool := (bif tb (decide (2 < x0)) then (bif tb (config_within_iii_r0_0 x24 1 16) then (bif tb (decide (x0 ≤ 2)) then (bif tb ((x24 : Int) != 0) then false else true) else true) else false) else (bif tb (decide (x0 ≤ 2)) then (bif tb ((x24 : Int) != 0) then false else true) else true))

def config_weights_ai21_L0_1_h2_nx (x0 : Int) (x22 : Int) (x23 : Int) (x24 : Int) (x25 : Int) (s0 : config_weights_ai21_L0_1_s2) : config_weights_ai21_L0_1_S := .h3 ⟨⟩

def config_weights_ai21_L0_1_h3_sel (x0 : Int) (x22 : Int) (x23 : Int) (x24 : Int) (x25 : Int) (s0 : config_weights_ai21_L0_1_s3) : Bool := (bif tb (decide (3 < x0)) then (bif tb (config_within_iii_r0_0 x25 1 16) then (bif tb (decide (x0 ≤ 3)) then (bif tb ((x25 : Int) != 0) then false else true) else true) else false) else (bif tb (decide (x0 ≤ 3)) then (bif tb ((x25 : Int) != 0) then false else true) else true))

def config_weights_ai21_L0_1_h3_nx (x0 : Int) (x22 : Int) (x23 : Int) (x24 : Int) (x25 : Int) (s0 : config_weights_ai21_L0_1_s3) : config_weights_ai21_L0_1_S := .h4 ⟨⟩

def config_weights_ai21_L0_1_h4_sel (x0 : Int) (x22 : Int) (x23 : Int) (x24 : Int) (x25 : Int) (s0 : config_weights_ai21_L0_1_s4) : Bool := false

def config_weights_ai21_L0_1_h4_nx (x0 : Int) (x22 : Int) (x23 : Int) (x24 : Int) (x25 : Int) (s0 : config_weights_ai21_L0_1_s4) : config_weights_ai21_L0_1_S := default

def config_weights_ai21_L0_1_sel (x0 : Int) (x22 : Int) (x23 : Int) (x24 : Int) (x25 : Int) : config_weights_ai21_L0_1_S → Bool
  | .h0 v => config_weights_ai21_L0_1_h0_sel x0 x22 x23 x24 x25 v
  | .h1 v => config_weights_ai21_L0_1_h1_sel x0 x22 x23 x24 x25 v
  | .h2 v => config_weights_ai21_L0_1_h2_sel x0 x22 x23 x24 x25 v
  | .h3 v => config_weights_ai21_L0_1_h3_sel x0 x22 x23 x24 x25 v
  | .h4 v => config_weights_ai21_L0_1_h4_sel x0 x22 x23 x24 x25 v

def config_weights_ai21_L0_1_nx (x0 : Int) (x22 : Int) (x23 : Int) (x24 : Int) (x25 : Int) : config_weights_ai21_L0_1_S → config_weights_ai21_L0_1_S
  | .h0 v => config_weights_ai21_L0_1_h0_nx x0 x22 x23 x24 x25 v
  | .h1 v => config_weights_ai21_L0_1_h1_nx x0 x22 x23 x24 x25 v
  | .h2 v => config_weights_ai21_L0_1_h2_nx x0 x22 x23 x24 x25 v
  | .h3 v => config_weights_ai21_L0_1_h3_nx x0 x22 x23 x24 x25 v
  | .h4 v => config_weights_ai21_L0_1_h4_nx x0 x22 x23 x24 x25 v

def config_weights_ai21_L0_1_ok (x0 : Int) (x22 : Int) (x23 : Int) (x24 : Int) (x25 : Int) (s0 : config_weights_ai21_L0_1_S) : Bool := (itS (config_weights_ai21_L0_1_sel x0 x22 x23 x24 x25) (config_weights_ai21_L0_1_nx x0 x22 x23 x24 x25) bound s0).isSome
def config_weights_ai21_L0_1_end (x0 : Int) (x22 : Int) (x23 : Int) (x24 : Int) (x25 : Int) (s0 : config_weights_ai21_L0_1_S) : config_weights_ai21_L0_1_S := (itS (config_weights_ai21_L0_1_sel x0 x22 x23 x24 x25) (config_weights_ai21_L0_1_nx x0 x22 x23 x24 x25) bound s0).getD default

theorem config_weights_ai21_L0_1_h0_go (x0 : Int) (x1 : Int) (x2 : Int) (x3 : Int) (x4 : Int) (x5 : Int) (x6 : Int) (x7 : Int) (x8 : Int) (x9 : Int) (x10 : Int) (x11 : Int) (x12 : Int) (x13 : Int) (x14 : Int) (x15 : Int) (x16 : Int) (x17 : Int) (x18 : Int) (x19 : Int) (x20 : Int) (x21 : Bool) (x22 : Int) (x23 : Int) (x24 : Int) (x25 : Int) (s0 : config_weights_ai21_L0_1_s0) : config_weights_ai21_L0_1_h0_sel x0 x22 x23 x24 x25 s0 = true → (roundG (runC E0 (cl E0) L82_0) [1, 6, 7] [2] 1) (config_weights_ai21_L0_1_enc x0 x1 x2 x3 x4 x5 x6 x7 x8 x9 x10 x11 x12 x13 x14 x15 x16 x17 x18 x19 x20 x21 x22 x23 x24 x25 (.h0 s0)) = some (.normal, config_weights_ai21_L0_1_enc x0 x1 x2 x3 x4 x5 x6 x7 x8 x9 x10 x11 x12 x13 x14 x15 x16 x17 x18 x19 x20 x21 x22 x23 x24 x25 (config_weights_ai21_L0_1_h0_nx x0 x22 x23 x24 x25 s0)) := by
  unfold config_weights_ai21_L0_1_h0_sel config_weights_ai21_L0_1_h0_nx
  cases h1 : tb (decide (0 < x0))
  · cases h2 : tb (decide (x0 ≤ 0))
    · intro _
      exact round_walk [.k true, .b (tbE h1), .b (tbE h2)] (by kernel_rfl)
    · cases h3 : tb ((x22 : Int) != 0)
      · intro _
        exact round_walk [.k true, .b (tbE h1), .b (tbE h2), .b (tbE h3)] (by kernel_rfl)
      · intro g0
        exact absurd g0 ft
  · cases h2 : tb (config_within_iii_r0_0 x22 1 16)
    · intro g0
      exact absurd g0 ft
    · cases h3 : tb (decide (x0 ≤ 0))
      · intro _
        exact round_walk [.k true, .b (tbE h1), .c (config_within_iii_t0 x22 1 16), .b (notT (tbE h2)), .b (tbE h3)] (by kernel_rfl)
      · cases h4 : tb ((x22 : Int) != 0)
        · intro _
          exact round_walk [.k true, .b (tbE h1), .c (config_within_iii_t0 x22 1 16), .b (notT (tbE h2)), .b (tbE h3), .b (tbE h4)] (by kernel_rfl)
        · intro g0
          exact absurd g0 ft

theorem config_weights_ai21_L0_1_h0_x0 (x0 : Int) (x1 : Int) (x2 : Int) (x3 : Int) (x4 : Int) (x5 : Int) (x6 : Int) (x7 : Int) (x8 : Int) (x9 : Int) (x10 : Int) (x11 : Int) (x12 : Int) (x13 : Int) (x14 : Int) (x15 : Int) (x16 : Int) (x17 : Int) (x18 : Int) (x19 : Int) (x20 : Int) (x21 : Bool) (x22 : Int) (x23 : Int) (x24 : Int) (x25 : Int) (s0 : config_weights_ai21_L0_1_s0) : config_weights_ai21_L0_1_h0_sel x0 x22 x23 x24 x25 s0 = false → (roundG (runC E0 (cl E0) L82_0) [1, 6, 7] [2] 1) (config_weights_ai21_L0_1_enc x0 x1 x2 x3 x4 x5 x6 x7 x8 x9 x10 x11 x12 x13 x14 x15 x16 x17 x18 x19 x20 x21 x22 x23 x24 x25 (.h0 s0)) = some (.ret, ([(V.d (.bool false))], [(Blk.flat 69 21 [[(.int .i64 x0), (.int .i64 x1), (.int .i64 x2), (.int .i64 x3), (.int .i64 x4), (.int .i64 x5), (.int .i64 x6), (.int .i64 x7), (.int .i64 x8), (.int .i64 x9), (.int .i64 x10), (.int .i64 x11), (.int .i64 x12), (.int .i64 x13), (.int .i64 x14), (.int .i64 x15), (.int .i64 x16), (.int .i64 x17), (.int .i64 x18), (.int .i64 x19), (.int .i64 x20)]] x21)])) := by
  unfold config_weights_ai21_L0_1_h0_sel
  cases h1 : tb (decide (0 < x0))
  · cases h2 : tb (decide (x0 ≤ 0))
    · intro g0
      exact absurd g0 tf
    · cases h3 : tb ((x22 : Int) != 0)
      · intro g0
        exact absurd g0 tf
      · intro g0
        exact round_walk [.k true, .b (tbE h1), .b (tbE h2), .b (tbE h3)] (by kernel_rfl)
  · cases h2 : tb (config_within_iii_r0_0 x22 1 16)
    · intro g0
      exact round_walk [.k true, .b (tbE h1), .c (config_within_iii_t0 x22 1 16), .b (notF (tbE h2))] (by kernel_rfl)
    · cases h3 : tb (decide (x0 ≤ 0))
      · intro g0
        exact absurd g0 tf
      · cases h4 : tb ((x22 : Int) != 0)
        · intro g0
          exact absurd g0 tf
        · intro g0
          exact round_walk [.k true, .b (tbE h1), .c (config_within_iii_t0 x22 1 16), .b (notT (tbE h2)), .b (tbE h3), .b (tbE h4)] (by kernel_rfl)

theorem config_weights_ai21_L0_1_h1_go (x0 : Int) (x1 : Int) (x2 : Int) (x3 : Int) (x4 : Int) (x5 : Int) (x6 : Int) (x7 : Int) (x8 : Int) (x9 : Int) (x10 : Int) (x11 : Int) (x12 : Int) (x13 : Int) (x14 : Int) (x15 : Int) (x16 : Int) (x17 : Int) (x18 : Int) (x19 : Int) (x20 : Int) (x21 : Bool) (x22 : Int) (x23 : Int) (x24 : Int) (x25 : Int) (s0 : config_weights_ai21_L0_1_s1) : config_weights_ai21_L0_1_h1_sel x0 x22 x23 x24 x25 s0 = true → (roundG (runC E0 (cl E0) L82_0) [1, 6, 7] [2] 1) (config_weights_ai21_L0_1_enc x0 x1 x2 x3 x4 x5 x6 x7 x8 x9 x10 x11 x12 x13 x14 x15 x16 x17 x18 x19 x20 x21 x22 x23 x24 x25 (.h1 s0)) = some (.normal, config_weights_ai21_L0_1_enc x0 x1 x2 x3 x4 x5 x6 x7 x8 x9 x10 x11 x12 x13 x14 x15 x16 x17 x18 x19 x20 x21 x22 x23 x24 x25 (config_weights_ai21_L0_1_h1_nx x0 x22 x23 x24 x25 s0)) := by
  unfold config_weights_ai21_L0_1_h1_sel config_weights_ai21_L0_1_h1_nx
  cases h1 : tb (decide (1 < x0))
  · cases h2 : tb (decide (x0 ≤ 1))
    · intro _
      exact round_walk [.k true, .b (tbE h1), .b (tbE h2)] (by kernel_rfl)
    · cases h3 : tb ((x23 : Int) != 0)
      · intro _
        exact round_walk [.k true, .b (tbE h1), .b (tbE h2), .b (tbE h3)] (by kernel_rfl)
      · intro g0
        exact absurd g0 ft
  · cases h2 : tb (config_within_iii_r0_0 x23 1 16)
    · intro g0
      exact absurd g0 ft
    · cases h3 : tb (decide (x0 ≤ 1))
      · intro _
        exact round_walk [.k true, .b (tbE h1), .c (config_within_iii_t0 x23 1 16), .b (notT (tbE h2)), .b (tbE h3)] (by kernel_rfl)
      · cases h4 : tb ((x23 : Int) != 0)
        · intro _
          exact round_walk [.k true, .b (tbE h1), .c (config_within_iii_t0 x23 1 16), .b (notT (tbE h2)), .b (tbE h3), .b (tbE h4)] (by kernel_rfl)
        · intro g0
          exact absurd g0 ft

theorem config_weights_ai21_L0_1_h1_x0 (x0 : Int) (x1 : Int) (x2 : Int) (x3 : Int) (x4 : Int) (x5 : Int) (x6 : Int) (x7 : Int) (x8 : Int) (x9 : Int) (x10 : Int) (x11 : Int) (x12 : Int) (x13 : Int) (x14 : Int) (x15 : Int) (x16 : Int) (x17 : Int) (x18 : Int) (x19 : Int) (x20 : Int) (x21 : Bool) (x22 : Int) (x23 : Int) (x24 : Int) (x25 : Int) (s0 : config_weights_ai21_L0_1_s1) : config_weights_ai21_L0_1_h1_sel x0 x22 x23 x24 x25 s0 = false → (roundG (runC E0 (cl E0) L82_0) [1, 6, 7] [2] 1) (config_weights_ai21_L0_1_enc x0 x1 x2 x3 x4 x5 x6 x7 x8 x9 x10 x11 x12 x13 x14 x15 x16 x17 x18 x19 x20 x21 x22 x23 x24 x25 (.h1 s0)) = some (.ret, ([(V.d (.bool false))], [(Blk.flat 69 21 [[(.int .i64 x0), (.int .i64 x1), (.int .i64 x2), (.int .i64 x3), (.int .i64 x4), (.int .i64 x5), (.int .i64 x6), (.int .i64 x7), (.int .i64 x8), (.int .i64 x9), (.int .i64 x10), (.int .i64 x11), (.int .i64 x12), (.int .i64 x13), (.int .i64 x14), (.int .i64 x15), (.int .i64 x16), (.int .i64 x17), (.int .i64 x18), (.int .i64 x19), (.int .i64 x20)]] x21)])) := by
  unfold config_weights_ai21_L0_1_h1_sel
  cases h1 : tb (decide (1 < x0))
  · cases h2 : tb (decide (x0 ≤ 1))
    · intro g0
      exact absurd g0 tf
    · cases h3 : tb ((x23 : Int) != 0)
      · intro g0
        exact absurd g0 tf
      · intro g0
        exact round_walk [.k true, .b (tbE h1), .b (tbE h2), .b (tbE h3)] (by kernel_rfl)
  · cases h2 : tb (config_within_iii_r0_0 x23 1 16)
    · intro g0
      exact round_walk [.k true, .b (tbE h1), .c (config_within_iii_t0 x23 1 16), .b (notF (tbE h2))] (by kernel_rfl)
    · cases h3 : tb (decide (x0 ≤ 1))
      · intro g0
        exact absurd g0 tf
      · cases h4 : tb ((x23 : Int) != 0)
        · intro g0
          exact absurd g0 tf
        · intro g0
          exact round_walk [.k true, .b (tbE h1), .c (config_within_iii_t0 x23 1 16), .b (notT (tbE h2)), .b (tbE h3), .b (tbE h4)] (by kernel_rfl)

theorem config_weights_ai21_L0_1_h2_go (x0 : Int) (x1 : Int) (x2 : Int) (x3 : Int) (x4 : Int) (x5 : Int) (x6 : Int) (x7 : Int) (x8 : Int) (x9 : Int) (x10 : Int) (x11 : Int) (x12 : Int) (x13 : Int) (x14 : Int) (x15 : Int) (x16 : Int) (x17 : Int) (x18 : Int) (x19 : Int) (x20 : Int) (x21 : Bool) (x22 : Int) (x23 : Int) (x24 : Int) (x25 : Int) (s0 : config_weights_ai21_L0_1_s2) : config_weights_ai21_L0_1_h2_sel x0 x22 x23 x24 x25 s0 = true → (roundG (runC E0 (cl E0) L82_0) [1, 6, 7] [2] 1) (config_weights_ai21_L0_1_enc x0 x1 x2 x3 x4 x5 x6 x7 x8 x9 x10 x11 x12 x13 x14 x15 x16 x17 x18 x19 x20 x21 x22 x23 x24 x25 (.h2 s0)) = some (.normal, config_weights_ai21_L0_1_enc x0 x1 x2 x3 x4 x5 x6 x7 x8 x9 x10 x11 x12 x13 x14 x15 x16 x17 x18 x19 x20 x21 x22 x23 x24 x25 (config_weights_ai21_L0_1_h2_nx x0 x22 x23 x24 x25 s0)) := by
  unfold config_weights_ai21_L0_1_h2_sel config_weights_ai21_L0_1_h2_nx
  cases h1 : tb (decide (2 < x0))
  · cases h2 : tb (decide (x0 ≤ 2))
    · intro _
      exact round_walk [.k true, .b (tbE h1), .b (tbE h2)] (by kernel_rfl)
    · cases h3 : tb ((x24 : Int) != 0)
      · intro _
        exact round_walk [.k true, .b (tbE h1), .b (tbE h2), .b (tbE h3)] (by kernel_rfl)
      · intro g0
        exact absurd g0 ft
  · cases h2 : tb (config_within_iii_r0_0 x24 1 16)
    · intro g0
      exact absurd g0 ft
    · cases h3 : tb (decide (x0 ≤ 2))
      · intro _
        exact round_walk [.k true, .b (tbE h1), .c (config_within_iii_t0 x24 1 16), .b (notT (tbE h2)), .b (tbE h3)] (by kernel_rfl)
      · cases h4 : tb ((x24 : Int) != 0)
        · intro _
          exact round_walk [.k true, .b (tbE h1), .c (config_within_iii_t0 x24 1 16), .b (notT (tbE h2)), .b (tbE h3), .b (tbE h4)] (by kernel_rfl)
        · intro g0
          exact absurd g0 ft

theorem config_weights_ai21_L0_1_h2_x0 (x0 : Int) (x1 : Int) (x2 : Int) (x3 : Int) (x4 : Int) (x5 : Int) (x6 : Int) (x7 : Int) (x8 : Int) (x9 : Int) (x10 : Int) (x11 : Int) (x12 : Int) (x13 : Int) (x14 : Int) (x15 : Int) (x16 : Int) (x17 : Int) (x18 : Int) (x19 : Int) (x20 : Int) (x21 : Bool) (x22 : Int) (x23 : Int) (x24 : Int) (x25 : Int) (s0 : config_weights_ai21_L0_1_s2) : config_weights_ai21_L0_1_h2_sel x0 x22 x23 x24 x25 s0 = false → (roundG (runC E0 (cl E0) L82_0) [1, 6, 7] [2] 1) (config_weights_ai21_L0_1_enc x0 x1 x2 x3 x4 x5 x6 x7 x8 x9 x10 x11 x12 x13 x14 x15 x16 x17 x18 x19 x20 x21 x22 x23 x24 x25 (.h2 s0)) = some (.ret, ([(V.d (.bool false))], [(Blk.flat 69 21 [[(.int .i64 x0), (.int .i64 x1), (.int .i64 x2), (.int .i64 x3), (.int .i64 x4), (.int .i64 x5), (.int .i64 x6), (.int .i64 x7), (.int .i64 x8), (.int .i64 x9), (.int .i64 x10), (.int .i64 x11), (.int .i64 x12), (.int .i64 x13), (.int .i64 x14), (.int .i64 x15), (.int .i64 x16), (.int .i64 x17), (.int .i64 x18), (.int .i64 x19), (.int .i64 x20)]] x21)])) := by
  unfold config_weights_ai21_L0_1_h2_sel
  cases h1 : tb (decide (2 < x0))
  · cases h2 : tb (decide (x0 ≤ 2))
    · intro g0
      exact absurd g0 tf
    · cases h3 : tb ((x24 : Int) != 0)
      · intro g0
        exact absurd g0 tf
      · intro g0
        exact round_walk [.k true, .b (tbE h1), .b (tbE h2), .b (tbE h3)] (by kernel_rfl)
  · cases h2 : tb (config_within_iii_r0_0 x24 1 16)
    · intro g0
      exact round_walk [.k true, .b (tbE h1), .c (config_within_iii_t0 x24 1 16), .b (notF (tbE h2))] (by kernel_rfl)
    · cases h3 : tb (decide (x0 ≤ 2))
      · intro g0
        exact absurd g0 tf
      · cases h4 : tb ((x24 : Int) != 0)
        · intro g0
          exact absurd g0 tf
        · intro g0
          exact round_walk [.k true, .b (tbE h1), .c (config_within_iii_t0 x24 1 16), .b (notT (tbE h2)), .b (tbE h3), .b (tbE h4)] (by kernel_rfl)

theorem config_weights_ai21_L0_1_h3_go (x0 : Int) (x1 : Int) (x2 : Int) (x3 : Int) (x4 : Int) (x5 : Int) (x6 : Int) (x7 : Int) (x8 : Int) (x9 : Int) (x10 : Int) (x11 : Int) (x12 : Int) (x13 : Int) (x14 : Int) (x15 : Int) (x16 : Int) (x17 : Int) (x18 : Int) (x19 : Int) (x20 : Int) (x21 : Bool) (x22 : Int) (x23 : Int) (x24 : Int) (x25 : Int) (s0 : config_weights_ai21_L0_1_s3) : config_weights_ai21_L0_1_h3_sel x0 x22 x23 x24 x25 s0 = true → (roundG (runC E0 (cl E0) L82_0) [1, 6, 7] [2] 1) (config_weights_ai21_L0_1_enc x0 x1 x2 x3 x4 x5 x6 x7 x8 x9 x10 x11 x12 x13 x14 x15 x16 x17 x18 x19 x20 x21 x22 x23 x24 x25 (.h3 s0)) = some (.normal, config_weights_ai21_L0_1_enc x0 x1 x2 x3 x4 x5 x6 x7 x8 x9 x10 x11 x12 x13 x14 x15 x16 x17 x18 x19 x20 x21 x22 x23 x24 x25 (config_weights_ai21_L0_1_h3_nx x0 x22 x23 x24 x25 s0)) := by
  unfold config_weights_ai21_L0_1_h3_sel config_weights_ai21_L0_1_h3_nx
  cases h1 : tb (decide (3 < x0))
  · cases h2 : tb (decide (x0 ≤ 3))
    · intro _
      exact round_walk [.k true, .b (tbE h1), .b (tbE h2)] (by kernel_rfl)
    · cases h3 : tb ((x25 : Int) != 0)
      · intro _
        exact round_walk [.k true, .b (tbE h1), .b (tbE h2), .b (tbE h3)] (by kernel_rfl)
      · intro g0
        exact absurd g0 ft
  · cases h2 : tb (config_within_iii_r0_0 x25 1 16)
    · intro g0
      exact absurd g0 ft
    · cases h3 : tb (decide (x0 ≤ 3))
      · intro _
        exact round_walk [.k true, .b (tbE h1), .c (config_within_iii_t0 x25 1 16), .b (notT (tbE h2)), .b (tbE h3)] (by kernel_rfl)
      · cases h4 : tb ((x25 : Int) != 0)
        · intro _
          exact round_walk [.k true, .b (tbE h1), .c (config_within_iii_t0 x25 1 16), .b (notT (tbE h2)), .b (tbE h3), .b (tbE h4)] (by kernel_rfl)
        · intro g0
          exact absurd g0 ft

theorem config_weights_ai21_L0_1_h3_x0 (x0 : Int) (x1 : Int) (x2 : Int) (x3 : Int) (x4 : Int) (x5 : Int) (x6 : Int) (x7 : Int) (x8 : Int) (x9 : Int) (x10 : Int) (x11 : Int) (x12 : Int) (x13 : Int) (x14 : Int) (x15 : Int) (x16 : Int) (x17 : Int) (x18 : Int) (x19 : Int) (x20 : Int) (x21 : Bool) (x22 : Int) (x23 : Int) (x24 : Int) (x25 : Int) (s0 : config_weights_ai21_L0_1_s3) : config_weights_ai21_L0_1_h3_sel x0 x22 x23 x24 x25 s0 = false → (roundG (runC E0 (cl E0) L82_0) [1, 6, 7] [2] 1) (config_weights_ai21_L0_1_enc x0 x1 x2 x3 x4 x5 x6 x7 x8 x9 x10 x11 x12 x13 x14 x15 x16 x17 x18 x19 x20 x21 x22 x23 x24 x25 (.h3 s0)) = some (.ret, ([(V.d (.bool false))], [(Blk.flat 69 21 [[(.int .i64 x0), (.int .i64 x1), (.int .i64 x2), (.int .i64 x3), (.int .i64 x4), (.int .i64 x5), (.int .i64 x6), (.int .i64 x7), (.int .i64 x8), (.int .i64 x9), (.int .i64 x10), (.int .i64 x11), (.int .i64 x12), (.int .i64 x13), (.int .i64 x14), (.int .i64 x15), (.int .i64 x16), (.int .i64 x17), (.int .i64 x18), (.int .i64 x19), (.int .i64 x20)]] x21)])) := by
  unfold config_weights_ai21_L0_1_h3_sel
  cases h1 : tb (decide (3 < x0))
  · cases h2 : tb (decide (x0 ≤ 3))
    · intro g0
      exact absurd g0 tf
    · cases h3 : tb ((x25 : Int) != 0)
      · intro g0
        exact absurd g0 tf
      · intro g0
        exact round_walk [.k true, .b (tbE h1), .b (tbE h2), .b (tbE h3)] (by kernel_rfl)
  · cases h2 : tb (config_within_iii_r0_0 x25 1 16)
    · intro g0
      exact round_walk [.k true, .b (tbE h1), .c (config_within_iii_t0 x25 1 16), .b (notF (tbE h2))] (by kernel_rfl)
    · cases h3 : tb (decide (x0 ≤ 3))
      · intro g0
        exact absurd g0 tf
      · cases h4 : tb ((x25 : Int) != 0)
        · intro g0
          exact absurd g0 tf
        · intro g0
          exact round_walk [.k true, .b (tbE h1), .c (config_within_iii_t0 x25 1 16), .b (notT (tbE h2)), .b (tbE h3), .b (tbE h4)] (by kernel_rfl)

theorem config_weights_ai21_L0_1_h4_go (x0 : Int) (x1 : Int) (x2 : Int) (x3 : Int) (x4 : Int) (x5 : Int) (x6 : Int) (x7 : Int) (x8 : Int) (x9 : Int) (x10 : Int) (x11 : Int) (x12 : Int) (x13 : Int) (x14 : Int) (x15 : Int) (x16 : Int) (x17 : Int) (x18 : Int) (x19 : Int) (x20 : Int) (x21 : Bool) (x22 : Int) (x23 : Int) (x24 : Int) (x25 : Int) (s0 : config_weights_ai21_L0_1_s4) : config_weights_ai21_L0_1_h4_sel x0 x22 x23 x24 x25 s0 = true → (roundG (runC E0 (cl E0) L82_0) [1, 6, 7] [2] 1) (config_weights_ai21_L0_1_enc x0 x1 x2 x3 x4 x5 x6 x7 x8 x9 x10 x11 x12 x13 x14 x15 x16 x17 x18 x19 x20 x21 x22 x23 x24 x25 (.h4 s0)) = some (.normal, config_weights_ai21_L0_1_enc x0 x1 x2 x3 x4 x5 x6 x7 x8 x9 x10 x11 x12 x13 x14 x15 x16 x17 x18 x19 x20 x21 x22 x23 x24 x25 (config_weights_ai21_L0_1_h4_nx x0 x22 x23 x24 x25 s0)) := by
  unfold config_weights_ai21_L0_1_h4_sel config_weights_ai21_L0_1_h4_nx
  intro g0
  exact absurd g0 ft

theorem config_weights_ai21_L0_1_h4_x0 (x0 : Int) (x1 : Int) (x2 : Int) (x3 : Int) (x4 : Int) (x5 : Int) (x6 : Int) (x7 : Int) (x8 : Int) (x9 : Int) (x10 : Int) (x11 : Int) (x12 : Int) (x13 : Int) (x14 : Int) (x15 : Int) (x16 : Int) (x17 : Int) (x18 : Int) (x19 : Int) (x20 : Int) (x21 : Bool) (x22 : Int) (x23 : Int) (x24 : Int) (x25 : Int) (s0 : config_weights_ai21_L0_1_s4) : config_weights_ai21_L0_1_h4_sel x0 x22 x23 x24 x25 s0 = false → (roundG (runC E0 (cl E0) L82_0) [1, 6, 7] [2] 1) (config_weights_ai21_L0_1_enc x0 x1 x2 x3 x4 x5 x6 x7 x8 x9 x10 x11 x12 x13 x14 x15 x16 x17 x18 x19 x20 x21 x22 x23 x24 x25 (.h4 s0)) = some ((.exit 0), ([V.un], [(Blk.flat 69 21 [[(.int .i64 x0), (.int .i64 x1), (.int .i64 x2), (.int .i64 x3), (.int .i64 x4), (.int .i64 x5), (.int .i64 x6), (.int .i64 x7), (.int .i64 x8), (.int .i64 x9), (.int .i64 x10), (.int .i64 x11), (.int .i64 x12), (.int .i64 x13), (.int .i64 x14), (.int .i64 x15), (.int .i64 x16), (.int .i64 x17), (.int .i64 x18), (.int .i64 x19), (.int .i64 x20)]] x21)])) := by
  unfold config_weights_ai21_L0_1_h4_sel
  intro g0
  exact round_walk [.k false] (by kernel_rfl)

theorem config_weights_ai21_L0_1_go (x0 : Int) (x1 : Int) (x2 : Int) (x3 : Int) (x4 : Int) (x5 : Int) (x6 : Int) (x7 : Int) (x8 : Int) (x9 : Int) (x10 : Int) (x11 : Int) (x12 : Int) (x13 : Int) (x14 : Int) (x15 : Int) (x16 : Int) (x17 : Int) (x18 : Int) (x19 : Int) (x20 : Int) (x21 : Bool) (x22 : Int) (x23 : Int) (x24 : Int) (x25 : Int) : ∀ s, config_weights_ai21_L0_1_sel x0 x22 x23 x24 x25 s = true → (roundG (runC E0 (cl E0) L82_0) [1, 6, 7] [2] 1) (config_weights_ai21_L0_1_enc x0 x1 x2 x3 x4 x5 x6 x7 x8 x9 x10 x11 x12 x13 x14 x15 x16 x17 x18 x19 x20 x21 x22 x23 x24 x25 s) = some (.normal, config_weights_ai21_L0_1_enc x0 x1 x2 x3 x4 x5 x6 x7 x8 x9 x10 x11 x12 x13 x14 x15 x16 x17 x18 x19 x20 x21 x22 x23 x24 x25 (config_weights_ai21_L0_1_nx x0 x22 x23 x24 x25 s))
  | .h0 s0, h => config_weights_ai21_L0_1_h0_go x0 x1 x2 x3 x4 x5 x6 x7 x8 x9 x10 x11 x12 x13 x14 x15 x16 x17 x18 x19 x20 x21 x22 x23 x24 x25 s0 h
  | .h1 s0, h => config_weights_ai21_L0_1_h1_go x0 x1 x2 x3 x4 x5 x6 x7 x8 x9 x10 x11 x12 x13 x14 x15 x16 x17 x18 x19 x20 x21 x22 x23 x24 x25 s0 h
  | .h2 s0, h => config_weights_ai21_L0_1_h2_go x0 x1 x2 x3 x4 x5 x6 x7 x8 x9 x10 x11 x12 x13 x14 x15 x16 x17 x18 x19 x20 x21 x22 x23 x24 x25 s0 h
  | .h3 s0, h => config_weights_ai21_L0_1_h3_go x0 x1 x2 x3 x4 x5 x6 x7 x8 x9 x10 x11 x12 x13 x14 x15 x16 x17 x18 x19 x20 x21 x22 x23 x24 x25 s0 h
  | .h4 s0, h => config_weights_ai21_L0_1_h4_go x0 x1 x2 x3 x4 x5 x6 x7 x8 x9 x10 x11 x12 x13 x14 x15 x16 x17 x18 x19 x20 x21 x22 x23 x24 x25 s0 h

theorem config_weights_ai21_L0_1_f0_0 (x0 : Int) (x1 : Int) (x2 : Int) (x3 : Int) (x4 : Int) (x5 : Int) (x6 : Int) (x7 : Int) (x8 : Int) (x9 : Int) (x10 : Int) (x11 : Int) (x12 : Int) (x13 : Int) (x14 : Int) (x15 : Int) (x16 : Int) (x17 : Int) (x18 : Int) (x19 : Int) (x20 : Int) (x21 : Bool) (x22 : Int) (x23 : Int) (x24 : Int) (x25 : Int) (s : config_weights_ai21_L0_1_S) (hok : config_weights_ai21_L0_1_ok x0 x22 x23 x24 x25 s = true) (k0 : config_weights_ai21_L0_1_is0 (config_weights_ai21_L0_1_end x0 x22 x23 x24 x25 s) = true) : loopG (roundG (runC E0 (cl E0) L82_0) [1, 6, 7] [2] 1) bound (config_weights_ai21_L0_1_enc x0 x1 x2 x3 x4 x5 x6 x7 x8 x9 x10 x11 x12 x13 x14 x15 x16 x17 x18 x19 x20 x21 x22 x23 x24 x25 s) = some (.ret, ([(V.d (.bool false))], [(Blk.flat 69 21 [[(.int .i64 x0), (.int .i64 x1), (.int .i64 x2), (.int .i64 x3), (.int .i64 x4), (.int .i64 x5), (.int .i64 x6), (.int .i64 x7), (.int .i64 x8), (.int .i64 x9), (.int .i64 x10), (.int .i64 x11), (.int .i64 x12), (.int .i64 x13), (.int .i64 x14), (.int .i64 x15), (.int .i64 x16), (.int .i64 x17), (.int .i64 x18), (.int .i64 x19), (.int .i64 x20)]] x21)])) := by
  have e : itS (config_weights_ai21_L0_1_sel x0 x22 x23 x24 x25) (config_weights_ai21_L0_1_nx x0 x22 x23 x24 x25) bound s = some (config_weights_ai21_L0_1_end x0 x22 x23 x24 x25 s) := itS_get hok
  have f := itS_false e
  have a := config_weights_ai21_L0_1_at0 k0
  have g := config_weights_ai21_L0_1_h0_x0 x0 x1 x2 x3 x4 x5 x6 x7 x8 x9 x10 x11 x12 x13 x14 x15 x16 x17 x18 x19 x20 x21 x22 x23 x24 x25 (config_weights_ai21_L0_1_get0 (config_weights_ai21_L0_1_end x0 x22 x23 x24 x25 s)) (by rw [a] at f; exact f) 
  exact loop_it (config_weights_ai21_L0_1_go x0 x1 x2 x3 x4 x5 x6 x7 x8 x9 x10 x11 x12 x13 x14 x15 x16 x17 x18 x19 x20 x21 x22 x23 x24 x25) bound s _ _ _ e (fun h => by cases h) (by rw [a]; exact g)

theorem config_weights_ai21_L0_1_f1_0 (x0 : Int) (x1 : Int) (x2 : Int) (x3 : Int) (x4 : Int) (x5 : Int) (x6 : Int) (x7 : Int) (x8 : Int) (x9 : Int) (x10 : Int) (x11 : Int) (x12 : Int) (x13 : Int) (x14 : Int) (x15 : Int) (x16 : Int) (x17 : Int) (x18 : Int) (x19 : Int) (x20 : Int) (x21 : Bool) (x22 : Int) (x23 : Int) (x24 : Int) (x25 : Int) (s : config_weights_ai21_L0_1_S) (hok : config_weights_ai21_L0_1_ok x0 x22 x23 x24 x25 s = true) (k0 : config_weights_ai21_L0_1_is0 (config_weights_ai21_L0_1_end x0 x22 x23 x24 x25 s) = false) (k1 : config_weights_ai21_L0_1_is1 (config_weights_ai21_L0_1_end x0 x22 x23 x24 x25 s) = true) : loopG (roundG (runC E0 (cl E0) L82_0) [1, 6, 7] [2] 1) bound (config_weights_ai21_L0_1_enc x0 x1 x2 x3 x4 x5 x6 x7 x8 x9 x10 x11 x12 x13 x14 x15 x16 x17 x18 x19 x20 x21 x22 x23 x24 x25 s) = some (.ret, ([(V.d (.bool false))], [(Blk.flat 69 21 [[(.int .i64 x0), (.int .i64 x1), (.int .i64 x2), (.int .i64 x3), (.int .i64 x4), (.int .i64 x5), (.int .i64 x6), (.int .i64 x7), (.int .i64 x8), (.int .i64 x9), (.int .i64 x10), (.int .i64 x11), (.int .i64 x12), (.int .i64 x13), (.int .i64 x14), (.int .i64 x15), (.int .i64 x16), (.int .i64 x17), (.int .i64 x18), (.int .i64 x19), (.int .i64 x20)]] x21)])) := by
  have e : itS (config_weights_ai21_L0_1_sel x0 x22 x23 x24 x25) (config_weights_ai21_L0_1_nx x0 x22 x23 x24 x25) bound s = some (config_weights_ai21_L0_1_end x0 x22 x23 x24 x25 s) := itS_get hok
  have f := itS_false e
  have a := config_weights_ai21_L0_1_at1 k1
  have g := config_weights_ai21_L0_1_h1_x0 x0 x1 x2 x3 x4 x5 x6 x7 x8 x9 x10 x11 x12 x13 x14 x15 x16 x17 x18 x19 x20 x21 x22 x23 x24 x25 (config_weights_ai21_L0_1_get1 (config_weights_ai21_L0_1_end x0 x22 x23 x24 x25 s)) (by rw [a] at f; exact f) 
  exact loop_it (config_weights_ai21_L0_1_go x0 x1 x2 x3 x4 x5 x6 x7 x8 x9 x10 x11 x12 x13 x14 x15 x16 x17 x18 x19 x20 x21 x22 x23 x24 x25) bound s _ _ _ e (fun h => by cases h) (by rw [a]; exact g)

theorem config_weights_ai21_L0_1_f2_0 (x0 : Int) (x1 : Int) (x2 : Int) (x3 : Int) (x4 : Int) (x5 : Int) (x6 : Int) (x7 : Int) (x8 : Int) (x9 : Int) (x10 : Int) (x11 : Int) (x12 : Int) (x13 : Int) (x14 : Int) (x15 : Int) (x16 : Int) (x17 : Int) (x18 : Int) (x19 : Int) (x20 : Int) (x21 : Bool) (x22 : Int) (x23 : Int) (x24 : Int) (x25 : Int) (s : config_weights_ai21_L0_1_S) (hok : config_weights_ai21_L0_1_ok x0 x22 x23 x24 x25 s = true) (k0 : config_weights_ai21_L0_1_is0 (config_weights_ai21_L0_1_end x0 x22 x23 x24 x25 s) = false) (k1 : config_weights_ai21_L0_1_is1 (config_weights_ai21_L0_1_end x0 x22 x23 x24 x25 s) = false) (k2 : config_weights_ai21_L0_1_is2 (config_weights_ai21_L0_1_end x0 x22 x23 x24 x25 s) = true) : loopG (roundG (runC E0 (cl E0) L82_0) [1, 6, 7] [2] 1) bound (config_weights_ai21_L0_1_enc x0 x1 x2 x3 x4 x5 x6 x7 x8 x9 x10 x11 x12 x13 x14 x15 x16 x17 x18 x19 x20 x21 x22 x23 x24 x25 s) = some (.ret, ([(V.d (.bool false))], [(Blk.flat 69 21 [[(.int .i64 x0), (.int .i64 x1), (.int .i64 x2), (.int .i64 x3), (.int .i64 x4), (.int .i64 x5), (.int .i64 x6), (.int .i64 x7), (.int .i64 x8), (.int .i64 x9), (.int .i64 x10), (.int .i64 x11), (.int .i64 x12), (.int .i64 x13), (.int .i64 x14), (.int .i64 x15), (.int .i64 x16), (.int .i64 x17), (.int .i64 x18), (.int .i64 x19), (.int .i64 x20)]] x21)])) := by
  have e : itS (config_weights_ai21_L0_1_sel x0 x22 x23 x24 x25) (config_weights_ai21_L0_1_nx x0 x22 x23 x24 x25) bound s = some (config_weights_ai21_L0_1_end x0 x22 x23 x24 x25 s) := itS_get hok
  have f := itS_false e
  have a := config_weights_ai21_L0_1_at2 k2
  have g := config_weights_ai21_L0_1_h2_x0 x0 x1 x2 x3 x4 x5 x6 x7 x8 x9 x10 x11 x12 x13 x14 x15 x16 x17 x18 x19 x20 x21 x22 x23 x24 x25 (config_weights_ai21_L0_1_get2 (config_weights_ai21_L0_1_end x0 x22 x23 x24 x25 s)) (by rw [a] at f; exact f) 
  exact loop_it (config_weights_ai21_L0_1_go x0 x1 x2 x3 x4 x5 x6 x7 x8 x9 x10 x11 x12 x13 x14 x15 x16 x17 x18 x19 x20 x21 x22 x23 x24 x25) bound s _ _ _ e (fun h => by cases h) (by rw [a]; exact g)

theorem config_weights_ai21_L0_1_f3_0 (x0 : Int) (x1 : Int) (x2 : Int) (x3 : Int) (x4 : Int) (x5 : Int) (x6 : Int) (x7 : Int) (x8 : Int) (x9 : Int) (x10 : Int) (x11 : Int) (x12 : Int) (x13 : Int) (x14 : Int) (x15 : Int) (x16 : Int) (x17 : Int) (x18 : Int) (x19 : Int) (x20 : Int) (x21 : Bool) (x22 : Int) (x23 : Int) (x24 : Int) (x25 : Int) (s : config_weights_ai21_L0_1_S) (hok : config_weights_ai21_L0_1_ok x0 x22 x23 x24 x25 s = true) (k0 : config_weights_ai21_L0_1_is0 (config_weights_ai21_L0_1_end x0 x22 x23 x24 x25 s) = false) (k1 : config_weights_ai21_L0_1_is1 (config_weights_ai21_L0_1_end x0 x22 x23 x24 x25 s) = false) (k2 : config_weights_ai21_L0_1_is2 (config_weights_ai21_L0_1_end x0 x22 x23 x24 x25 s) = false) (k3 : config_weights_ai21_L0_1_is3 (config_weights_ai21_L0_1_end x0 x22 x23 x24 x25 s) = true) : loopG (roundG (runC E0 (cl E0) L82_0) [1, 6, 7] [2] 1) bound (config_weights_ai21_L0_1_enc x0 x1 x2 x3 x4 x5 x6 x7 x8 x9 x10 x11 x12 x13 x14 x15 x16 x17 x18 x19 x20 x21 x22 x23 x24 x25 s) = some (.ret, ([(V.d (.bool false))], [(Blk.flat 69 21 [[(.int .i64 x0), (.int .i64 x1), (.int .i64 x2), (.int .i64 x3), (.int .i64 x4), (.int .i64 x5), (.int .i64 x6), (.int .i64 x7), (.int .i64 x8), (.int .i64 x9), (.int .i64 x10), (.int .i64 x11), (.int .i64 x12), (.int .i64 x13), (.int .i64 x14), (.int .i64 x15), (.int .i64 x16), (.int .i64 x17), (.int .i64 x18), (.int .i64 x19), (.int .i64 x20)]] x21)])) := by
  have e : itS (config_weights_ai21_L0_1_sel x0 x22 x23 x24 x25) (config_weights_ai21_L0_1_nx x0 x22 x23 x24 x25) bound s = some (config_weights_ai21_L0_1_end x0 x22 x23 x24 x25 s) := itS_get hok
  have f := itS_false e
  have a := config_weights_ai21_L0_1_at3 k3
  have g := config_weights_ai21_L0_1_h3_x0 x0 x1 x2 x3 x4 x5 x6 x7 x8 x9 x10 x11 x12 x13 x14 x15 x16 x17 x18 x19 x20 x21 x22 x23 x24 x25 (config_weights_ai21_L0_1_get3 (config_weights_ai21_L0_1_end x0 x22 x23 x24 x25 s)) (by rw [a] at f; exact f) 
  exact loop_it (config_weights_ai21_L0_1_go x0 x1 x2 x3 x4 x5 x6 x7 x8 x9 x10 x11 x12 x13 x14 x15 x16 x17 x18 x19 x20 x21 x22 x23 x24 x25) bound s _ _ _ e (fun h => by cases h) (by rw [a]; exact g)

theorem config_weights_ai21_L0_1_f4_0 (x0 : Int) (x1 : Int) (x2 : Int) (x3 : Int) (x4 : Int) (x5 : Int) (x6 : Int) (x7 : Int) (x8 : Int) (x9 : Int) (x10 : Int) (x11 : Int) (x12 : Int) (x13 : Int) (x14 : Int) (x15 : Int) (x16 : Int) (x17 : Int) (x18 : Int) (x19 : Int) (x20 : Int) (x21 : Bool) (x22 : Int) (x23 : Int) (x24 : Int) (x25 : Int) (s : config_weights_ai21_L0_1_S) (hok : config_weights_ai21_L0_1_ok x0 x22 x23 x24 x25 s = true) (k0 : config_weights_ai21_L0_1_is0 (config_weights_ai21_L0_1_end x0 x22 x23 x24 x25 s) = false) (k1 : config_weights_ai21_L0_1_is1 (config_weights_ai21_L0_1_end x0 x22 x23 x24 x25 s) = false) (k2 : config_weights_ai21_L0_1_is2 (config_weights_ai21_L0_1_end x0 x22 x23 x24 x25 s) = false) (k3 : config_weights_ai21_L0_1_is3 (config_weights_ai21_L0_1_end x0 x22 x23 x24 x25 s) = false) : loopG (roundG (runC E0 (cl E0) L82_0) [1, 6, 7] [2] 1) bound (config_weights_ai21_L0_1_enc x0 x1 x2 x3 x4 x5 x6 x7 x8 x9 x10 x11 x12 x13 x14 x15 x16 x17 x18 x19 x20 x21 x22 x23 x24 x25 s) = some ((.exit 0), ([V.un], [(Blk.flat 69 21 [[(.int .i64 x0), (.int .i64 x1), (.int .i64 x2), (.int .i64 x3), (.int .i64 x4), (.int .i64 x5), (.int .i64 x6), (.int .i64 x7), (.int .i64 x8), (.int .i64 x9), (.int .i64 x10), (.int .i64 x11), (.int .i64 x12), (.int .i64 x13), (.int .i64 x14), (.int .i64 x15), (.int .i64 x16), (.int .i64 x17), (.int .i64 x18), (.int .i64 x19), (.int .i64 x20)]] x21)])) := by
  have e : itS (config_weights_ai21_L0_1_sel x0 x22 x23 x24 x25) (config_weights_ai21_L0_1_nx x0 x22 x23 x24 x25) bound s = some (config_weights_ai21_L0_1_end x0 x22 x23 x24 x25 s) := itS_get hok
  have f := itS_false e
  have a : (config_weights_ai21_L0_1_end x0 x22 x23 x24 x25 s) = .h4 (config_weights_ai21_L0_1_get4 (config_weights_ai21_L0_1_end x0 x22 x23 x24 x25 s)) := by
    revert k0 k1 k2 k3
    cases (config_weights_ai21_L0_1_end x0 x22 x23 x24 x25 s) with
    | h0 w => intros; contradiction
    | h1 w => intros; contradiction
    | h2 w => intros; contradiction
    | h3 w => intros; contradiction
    | h4 w => intros; rfl
  have g := config_weights_ai21_L0_1_h4_x0 x0 x1 x2 x3 x4 x5 x6 x7 x8 x9 x10 x11 x12 x13 x14 x15 x16 x17 x18 x19 x20 x21 x22 x23 x24 x25 (config_weights_ai21_L0_1_get4 (config_weights_ai21_L0_1_end x0 x22 x23 x24 x25 s)) (by rw [a] at f; exact f) 
  exact loop_it (config_weights_ai21_L0_1_go x0 x1 x2 x3 x4 x5 x6 x7 x8 x9 x10 x11 x12 x13 x14 x15 x16 x17 x18 x19 x20 x21 x22 x23 x24 x25) bound s _ _ _ e (fun h => by cases h) (by rw [a]; exact g)

def config_weights_ai21_e0 (x0 : Int) (x17 : Int) (x18 : Int) (x19 : Int) (x20 : Int) : config_weights_ai21_L0_1_S := config_weights_ai21_L0_1_end x0 x17 x18 x19 x20 (.h0 ⟨⟩ : config_weights_ai21_L0_1_S)

def config_weights_ai21_e1 (x0 : Int) (x17 : Int) (x18 : Int) (x19 : Int) (x20 : Int) : config_weights_ai21_L0_1_s0 := config_weights_ai21_L0_1_get0 (config_weights_ai21_e0 x0 x17 x18 x19 x20)

def config_weights_ai21_e2 (x0 : Int) (x17 : Int) (x18 : Int) (x19 : Int) (x20 : Int) : config_weights_ai21_L0_1_s1 := config_weights_ai21_L0_1_get1 (config_weights_ai21_e0 x0 x17 x18 x19 x20)

def config_weights_ai21_e3 (x0 : Int) (x17 : Int) (x18 : Int) (x19 : Int) (x20 : Int) : config_weights_ai21_L0_1_s2 := config_weights_ai21_L0_1_get2 (config_weights_ai21_e0 x0 x17 x18 x19 x20)

def config_weights_ai21_e4 (x0 : Int) (x17 : Int) (x18 : Int) (x19 : Int) (x20 : Int) : config_weights_ai21_L0_1_s3 := config_weights_ai21_L0_1_get3 (config_weights_ai21_e0 x0 x17 x18 x19 x20)

def config_weights_ai21_e5 (x0 : Int) (x17 : Int) (x18 : Int) (x19 : Int) (x20 : Int) : config_weights_ai21_L0_1_s4 := config_weights_ai21_L0_1_get4 (config_weights_ai21_e0 x0 x17 x18 x19 x20)

def config_weights_ai21_c0 (x0 : Int) (x17 : Int) (x18 : Int) (x19 : Int) (x20 : Int) : Bool := (bif tb (config_weights_ai21_L0_1_ok x0 x17 x18 x19 x20 (.h0 ⟨⟩ : config_weights_ai21_L0_1_S)) then true else false)

def config_weights_ai21_r0_0 (x0 : Int) (x17 : Int) (x18 : Int) (x19 : Int) (x20 : Int) : Bool := (bif tb (config_weights_ai21_L0_1_is0 (config_weights_ai21_e0 x0 x17 x18 x19 x20)) then false else (bif tb (config_weights_ai21_L0_1_is1 (config_weights_ai21_e0 x0 x17 x18 x19 x20)) then false else (bif tb (config_weights_ai21_L0_1_is2 (config_weights_ai21_e0 x0 x17 x18 x19 x20)) then false else (bif tb (config_weights_ai21_L0_1_is3 (config_weights_ai21_e0 x0 x17 x18 x19 x20)) then false else true))))

theorem config_weights_ai21_t0 (x0 : Int) (x1 : Int) (x2 : Int) (x3 : Int) (x4 : Int) (x5 : Int) (x6 : Int) (x7 : Int) (x8 : Int) (x9 : Int) (x10 : Int) (x11 : Int) (x12 : Int) (x13 : Int) (x14 : Int) (x15 : Int) (x16 : Int) (x17 : Int) (x18 : Int) (x19 : Int) (x20 : Int) : config_weights_ai21_c0 x0 x17 x18 x19 x20 = true → cl E0 82 [(V.agg [(V.d (.int .i64 x0)), (V.d (.int .i64 x1)), (V.d (.int .i64 x2)), (V.d (.int .i64 x3)), (V.d (.int .i64 x4)), (V.d (.int .i64 x5)), (V.d (.int .i64 x6)), (V.d (.int .i64 x7)), (V.d (.int .i64 x8)), (V.d (.int .i64 x9)), (V.d (.int .i64 x10)), (V.d (.int .i64 x11)), (V.d (.int .i64 x12)), (V.d (.int .i64 x13)), (V.d (.int .i64 x14)), (V.d (.int .i64 x15)), (V.d (.int .i64 x16)), (V.d (.int .i64 x17)), (V.d (.int .i64 x18)), (V.d (.int .i64 x19)), (V.d (.int .i64 x20))])] [] = some ([(V.d (.bool (config_weights_ai21_r0_0 x0 x17 x18 x19 x20)))], []) := by
  unfold config_weights_ai21_c0 config_weights_ai21_r0_0
  cases h1 : tb (config_weights_ai21_L0_1_ok x0 x17 x18 x19 x20 (.h0 ⟨⟩ : config_weights_ai21_L0_1_S))
  · intro g0
    exact absurd g0 ft
  · cases h2 : tb (config_weights_ai21_L0_1_is0 (config_weights_ai21_e0 x0 x17 x18 x19 x20))
    · cases h3 : tb (config_weights_ai21_L0_1_is1 (config_weights_ai21_e0 x0 x17 x18 x19 x20))
      · cases h4 : tb (config_weights_ai21_L0_1_is2 (config_weights_ai21_e0 x0 x17 x18 x19 x20))
        · cases h5 : tb (config_weights_ai21_L0_1_is3 (config_weights_ai21_e0 x0 x17 x18 x19 x20))
          · intro g0
            exact w82 [.l (config_weights_ai21_L0_1_f4_0 x0 x1 x2 x3 x4 x5 x6 x7 x8 x9 x10 x11 x12 x13 x14 x15 x16 x17 x18 x19 x20 false x17 x18 x19 x20 (.h0 ⟨⟩ : config_weights_ai21_L0_1_S) (tbE h1) (tbE h2) (tbE h3) (tbE h4) (tbE h5))] (by kernel_rfl)
          · intro g0
            exact w82 [.l (config_weights_ai21_L0_1_f3_0 x0 x1 x2 x3 x4 x5 x6 x7 x8 x9 x10 x11 x12 x13 x14 x15 x16 x17 x18 x19 x20 false x17 x18 x19 x20 (.h0 ⟨⟩ : config_weights_ai21_L0_1_S) (tbE h1) (tbE h2) (tbE h3) (tbE h4) (tbE h5))] (by kernel_rfl)
        · intro g0
          exact w82 [.l (config_weights_ai21_L0_1_f2_0 x0 x1 x2 x3 x4 x5 x6 x7 x8 x9 x10 x11 x12 x13 x14 x15 x16 x17 x18 x19 x20 false x17 x18 x19 x20 (.h0 ⟨⟩ : config_weights_ai21_L0_1_S) (tbE h1) (tbE h2) (tbE h3) (tbE h4))] (by kernel_rfl)
      · intro g0
        exact w82 [.l (config_weights_ai21_L0_1_f1_0 x0 x1 x2 x3 x4 x5 x6 x7 x8 x9 x10 x11 x12 x13 x14 x15 x16 x17 x18 x19 x20 false x17 x18 x19 x20 (.h0 ⟨⟩ : config_weights_ai21_L0_1_S) (tbE h1) (tbE h2) (tbE h3))] (by kernel_rfl)
    · intro g0
      exact w82 [.l (config_weights_ai21_L0_1_f0_0 x0 x1 x2 x3 x4 x5 x6 x7 x8 x9 x10 x11 x12 x13 x14 x15 x16 x17 x18 x19 x20 false x17 x18 x19 x20 (.h0 ⟨⟩ : config_weights_ai21_L0_1_S) (tbE h1) (tbE h2))] (by kernel_rfl)

def config_fields_ai21_c0 (x0 : Int) (x17 : Int) (x18 : Int) (x19 : Int) (x20 : Int) : Bool := (bif tb (config_weights_ai21_c0 x0 x17 x18 x19 x20) then true else false)

theorem config_fields_ai21_t0 (x0 : Int) (x1 : Int) (x2 : Int) (x3 : Int) (x4 : Int) (x5 : Int) (x6 : Int) (x7 : Int) (x8 : Int) (x9 : Int) (x10 : Int) (x11 : Int) (x12 : Int) (x13 : Int) (x14 : Int) (x15 : Int) (x16 : Int) (x17 : Int) (x18 : Int) (x19 : Int) (x20 : Int) : config_fields_ai21_c0 x0 x17 x18 x19 x20 = true → cl E0 72 [(V.agg [(V.d (.int .i64 x0)), (V.d (.int .i64 x1)), (V.d (.int .i64 x2)), (V.d (.int .i64 x3)), (V.d (.int .i64 x4)), (V.d (.int .i64 x5)), (V.d (.int .i64 x6)), (V.d (.int .i64 x7)), (V.d (.int .i64 x8)), (V.d (.int .i64 x9)), (V.d (.int .i64 x10)), (V.d (.int .i64 x11)), (V.d (.int .i64 x12)), (V.d (.int .i64 x13)), (V.d (.int .i64 x14)), (V.d (.int .i64 x15)), (V.d (.int .i64 x16)), (V.d (.int .i64 x17)), (V.d (.int .i64 x18)), (V.d (.int .i64 x19)), (V.d (.int .i64 x20))])] [] = some ([(V.sl 0 18 0 18)], [(Blk.flat 105 2 [[(.str ⟨#[78]⟩), (.bool (config_within_iii_r0_0 x0 3 4))], [(.str ⟨#[76, 111]⟩), (.bool (config_within_iii_r0_0 x1 (-2147483648) 2147483647))], [(.str ⟨#[72, 105]⟩), (.bool (config_within_iii_r0_0 x2 (mxI x1 (-2147483648)) 2147483647))], [(.str ⟨#[83, 97, 102, 101]⟩), (.bool (config_within_iii_r0_0 x3 x1 x2))], [(.str ⟨#[83, 116, 101, 112]⟩), (.bool (config_within_iii_r0_0 x4 0 2147483647))], [(.str ⟨#[83, 116, 117, 99, 107]⟩), (.bool (config_within_iii_r0_0 x5 0 2147483647))], [(.str ⟨#[87, 105, 110, 100, 111, 119]⟩), (.bool (config_within_iii_r0_0 x6 2 16))], [(.str ⟨#[68, 114, 105, 102, 116]⟩), (.bool (config_within_iii_r0_0 x7 0 2147483647))], [(.str ⟨#[76, 97, 103]⟩), (.bool (config_within_iii_r0_0 x8 0 8))], [(.str ⟨#[77, 105, 115]⟩), (.bool (config_within_iii_r0_0 x9 0 2147483647))], [(.str ⟨#[65, 117, 116, 104]⟩), (.bool (config_within_iii_r0_0 x10 0 2147483647))], [(.str ⟨#[71, 97, 105, 110]⟩), (.bool (config_within_iii_r0_0 x11 0 8))], [(.str ⟨#[67, 108, 105, 112]⟩), (.bool (config_within_iii_r0_0 x12 0 2147483647))], [(.str ⟨#[76, 97, 116, 99, 104]⟩), (.bool (config_within_iii_r0_0 x13 1 100))], [(.str ⟨#[67, 108, 101, 97, 110]⟩), (.bool (config_within_iii_r0_0 x14 1 1000))], [(.str ⟨#[66, 117, 100, 103, 101, 116]⟩), (.bool (config_within_iii_r0_0 x15 0 10))], [(.str ⟨#[76, 105, 109, 105, 116]⟩), (.bool (config_within_iii_r0_0 x16 1 8))], [(.str ⟨#[87, 101, 105, 103, 104, 116, 115]⟩), (.bool (config_weights_ai21_r0_0 x0 x17 x18 x19 x20))]] false)]) := by
  unfold config_fields_ai21_c0
  cases h1 : tb (config_weights_ai21_c0 x0 x17 x18 x19 x20)
  · intro g0
    exact absurd g0 ft
  · intro g0
    exact w72 [.c (config_within_iii_t0 x0 3 4), .c (config_within_iii_t0 x1 (-2147483648) 2147483647), .c (config_within_iii_t0 x2 (mxI x1 (-2147483648)) 2147483647), .c (config_within_iii_t0 x3 x1 x2), .c (config_fields_c1_i_t0 x4), .c (config_fields_c1_i_t0 x5), .c (config_within_iii_t0 x6 2 16), .c (config_fields_c1_i_t0 x7), .c (config_within_iii_t0 x8 0 8), .c (config_fields_c1_i_t0 x9), .c (config_fields_c1_i_t0 x10), .c (config_within_iii_t0 x11 0 8), .c (config_fields_c1_i_t0 x12), .c (config_within_iii_t0 x13 1 100), .c (config_within_iii_t0 x14 1 1000), .c (config_within_iii_t0 x15 0 10), .c (config_within_iii_t0 x16 1 8), .c (config_weights_ai21_t0 x0 x1 x2 x3 x4 x5 x6 x7 x8 x9 x10 x11 x12 x13 x14 x15 x16 x17 x18 x19 x20 (tbE h1))] (by kernel_rfl)

structure config_Fault_ai21_L0_s0 where
  c3 : Int
  deriving Inhabited

def config_Fault_ai21_L0_enc (x0 : Int) (x1 : Int) (x2 : Int) (x3 : Int) (x4 : Int) (x5 : Int) (x6 : Int) (x7 : Int) (x8 : Int) (x9 : Int) (x10 : Int) (x11 : Int) (x12 : Int) (x13 : Int) (x14 : Int) (x15 : Int) (x16 : Int) (x17 : Int) (x18 : Int) (x19 : Int) (x20 : Int) (x21 : List R_str_bool) (x22 : Bool) (x23 : Bool) (x24 : ByteArray) (x25 : Nat) (x26 : Int) (x27 : Int) (s0 : config_Fault_ai21_L0_s0) : List V × Mem := ([(V.d (.str x24)), (V.sl 1 x25 0 x25), (V.d (.int .i64 x26)), (V.d (.int .i64 s0.c3))], [(Blk.flat 69 21 [[(.int .i64 x0), (.int .i64 x1), (.int .i64 x2), (.int .i64 x3), (.int .i64 x4), (.int .i64 x5), (.int .i64 x6), (.int .i64 x7), (.int .i64 x8), (.int .i64 x9), (.int .i64 x10), (.int .i64 x11), (.int .i64 x12), (.int .i64 x13), (.int .i64 x14), (.int .i64 x15), (.int .i64 x16), (.int .i64 x17), (.int .i64 x18), (.int .i64 x19), (.int .i64 x20)]] x22), (Blk.flat 105 2 (List.map enc_R_str_bool x21) x23)])

def config_Fault_ai21_L0_sel (x21 : List R_str_bool) (x25 : Nat) (x26 : Int) (s0 : config_Fault_ai21_L0_s0) : Bool := (bif tb (decide (s0.c3 < x26)) then (bif tb (inb x25 s0.c3) then (bif tb (Nat.beq x25 x21.length) then (bif tb ((gt x21 s0.c3).c1) then true else false) else false) else false) else false)

def config_Fault_ai21_L0_nx (x21 : List R_str_bool) (x25 : Nat) (x26 : Int) (s0 : config_Fault_ai21_L0_s0) : config_Fault_ai21_L0_s0 := ⟨(wi (s0.c3 + 1))⟩

def config_Fault_ai21_L0_ok (x21 : List R_str_bool) (x25 : Nat) (x26 : Int) (s0 : config_Fault_ai21_L0_s0) : Bool := (itS (config_Fault_ai21_L0_sel x21 x25 x26) (config_Fault_ai21_L0_nx x21 x25 x26) bound s0).isSome
def config_Fault_ai21_L0_end (x21 : List R_str_bool) (x25 : Nat) (x26 : Int) (s0 : config_Fault_ai21_L0_s0) : config_Fault_ai21_L0_s0 := (itS (config_Fault_ai21_L0_sel x21 x25 x26) (config_Fault_ai21_L0_nx x21 x25 x26) bound s0).getD default

theorem config_Fault_ai21_L0_go (x0 : Int) (x1 : Int) (x2 : Int) (x3 : Int) (x4 : Int) (x5 : Int) (x6 : Int) (x7 : Int) (x8 : Int) (x9 : Int) (x10 : Int) (x11 : Int) (x12 : Int) (x13 : Int) (x14 : Int) (x15 : Int) (x16 : Int) (x17 : Int) (x18 : Int) (x19 : Int) (x20 : Int) (x21 : List R_str_bool) (x22 : Bool) (x23 : Bool) (x24 : ByteArray) (x25 : Nat) (x26 : Int) (x27 : Int) (s0 : config_Fault_ai21_L0_s0) : config_Fault_ai21_L0_sel x21 x25 x26 s0 = true → (roundG (runC E0 (cl E0) L45_0) [3, 7, 8, 9] [3] 2) (config_Fault_ai21_L0_enc x0 x1 x2 x3 x4 x5 x6 x7 x8 x9 x10 x11 x12 x13 x14 x15 x16 x17 x18 x19 x20 x21 x22 x23 x24 x25 x26 x27 s0) = some (.normal, config_Fault_ai21_L0_enc x0 x1 x2 x3 x4 x5 x6 x7 x8 x9 x10 x11 x12 x13 x14 x15 x16 x17 x18 x19 x20 x21 x22 x23 x24 x25 x26 x27 (config_Fault_ai21_L0_nx x21 x25 x26 s0)) := by
  unfold config_Fault_ai21_L0_sel config_Fault_ai21_L0_nx
  cases h1 : tb (decide (s0.c3 < x26))
  · intro g0
    exact absurd g0 ft
  · cases h2 : tb (inb x25 s0.c3)
    · intro g0
      exact absurd g0 ft
    · cases h3 : tb (Nat.beq x25 x21.length)
      · intro g0
        exact absurd g0 ft
      · cases h4 : tb ((gt x21 s0.c3).c1)
        · intro g0
          exact absurd g0 ft
        · intro _
          exact round_walk [.b (tbE h1), .m 11 (o_idx_sl (m := [(Blk.flat 69 21 [[(.int .i64 x0), (.int .i64 x1), (.int .i64 x2), (.int .i64 x3), (.int .i64 x4), (.int .i64 x5), (.int .i64 x6), (.int .i64 x7), (.int .i64 x8), (.int .i64 x9), (.int .i64 x10), (.int .i64 x11), (.int .i64 x12), (.int .i64 x13), (.int .i64 x14), (.int .i64 x15), (.int .i64 x16), (.int .i64 x17), (.int .i64 x18), (.int .i64 x19), (.int .i64 x20)]] x22), (Blk.flat 105 2 (List.map enc_R_str_bool x21) x23)]) (id := 1) (n := x25) (s := 2) (k := .i64) (by kernel_rfl) (tbE h2)), .m 12 (o_load_L (m := [(Blk.flat 69 21 [[(.int .i64 x0), (.int .i64 x1), (.int .i64 x2), (.int .i64 x3), (.int .i64 x4), (.int .i64 x5), (.int .i64 x6), (.int .i64 x7), (.int .i64 x8), (.int .i64 x9), (.int .i64 x10), (.int .i64 x11), (.int .i64 x12), (.int .i64 x13), (.int .i64 x14), (.int .i64 x15), (.int .i64 x16), (.int .i64 x17), (.int .i64 x18), (.int .i64 x19), (.int .i64 x20)]] x22), (Blk.flat 105 2 (List.map enc_R_str_bool x21) x23)]) (enc := enc_R_str_bool) (l := x21) (id := 1) (e := 105) (s := 2) (off := 0) (size := 2) (p := x23) (agg := true) (i := s0.c3) (v := (V.agg [(V.d (.str ((gt x21 s0.c3).c0))), (V.d (.bool ((gt x21 s0.c3).c1)))])) (n := x25) (tbE h3) (by kernel_rfl) (tbE h2) (by kernel_rfl)), .b (tbE h4)] (by kernel_rfl)

def config_Fault_ai21_L0_c0 (x21 : List R_str_bool) (x25 : Nat) (x26 : Int) (s0 : config_Fault_ai21_L0_s0) : Bool := (bif tb (decide (s0.c3 < x26)) then (bif tb (inb x25 s0.c3) then (bif tb (Nat.beq x25 x21.length) then true else false) else false) else true)

def config_Fault_ai21_L0_r0_0 (x21 : List R_str_bool) (x24 : ByteArray) (x26 : Int) (s0 : config_Fault_ai21_L0_s0) : ByteArray := (bif tb (decide (s0.c3 < x26)) then ((gt x21 s0.c3).c0) else x24)

theorem config_Fault_ai21_L0_x0 (x0 : Int) (x1 : Int) (x2 : Int) (x3 : Int) (x4 : Int) (x5 : Int) (x6 : Int) (x7 : Int) (x8 : Int) (x9 : Int) (x10 : Int) (x11 : Int) (x12 : Int) (x13 : Int) (x14 : Int) (x15 : Int) (x16 : Int) (x17 : Int) (x18 : Int) (x19 : Int) (x20 : Int) (x21 : List R_str_bool) (x22 : Bool) (x23 : Bool) (x24 : ByteArray) (x25 : Nat) (x26 : Int) (x27 : Int) (s0 : config_Fault_ai21_L0_s0) : config_Fault_ai21_L0_sel x21 x25 x26 s0 = false → config_Fault_ai21_L0_c0 x21 x25 x26 s0 = true → (roundG (runC E0 (cl E0) L45_0) [3, 7, 8, 9] [3] 2) (config_Fault_ai21_L0_enc x0 x1 x2 x3 x4 x5 x6 x7 x8 x9 x10 x11 x12 x13 x14 x15 x16 x17 x18 x19 x20 x21 x22 x23 x24 x25 x26 x27 s0) = some ((.exit 0), ([(V.d (.str (config_Fault_ai21_L0_r0_0 x21 x24 x26 s0)))], [(Blk.flat 69 21 [[(.int .i64 x0), (.int .i64 x1), (.int .i64 x2), (.int .i64 x3), (.int .i64 x4), (.int .i64 x5), (.int .i64 x6), (.int .i64 x7), (.int .i64 x8), (.int .i64 x9), (.int .i64 x10), (.int .i64 x11), (.int .i64 x12), (.int .i64 x13), (.int .i64 x14), (.int .i64 x15), (.int .i64 x16), (.int .i64 x17), (.int .i64 x18), (.int .i64 x19), (.int .i64 x20)]] x22), (Blk.flat 105 2 (List.map enc_R_str_bool x21) x23)])) := by
  unfold config_Fault_ai21_L0_sel config_Fault_ai21_L0_c0 config_Fault_ai21_L0_r0_0
  cases h1 : tb (decide (s0.c3 < x26))
  · intro g0 g1
    exact round_walk [.b (tbE h1)] (by kernel_rfl)
  · cases h2 : tb (inb x25 s0.c3)
    · intro g0 g1
      exact absurd g1 ft
    · cases h3 : tb (Nat.beq x25 x21.length)
      · intro g0 g1
        exact absurd g1 ft
      · cases h4 : tb ((gt x21 s0.c3).c1)
        · intro g0 g1
          exact round_walk [.b (tbE h1), .m 11 (o_idx_sl (m := [(Blk.flat 69 21 [[(.int .i64 x0), (.int .i64 x1), (.int .i64 x2), (.int .i64 x3), (.int .i64 x4), (.int .i64 x5), (.int .i64 x6), (.int .i64 x7), (.int .i64 x8), (.int .i64 x9), (.int .i64 x10), (.int .i64 x11), (.int .i64 x12), (.int .i64 x13), (.int .i64 x14), (.int .i64 x15), (.int .i64 x16), (.int .i64 x17), (.int .i64 x18), (.int .i64 x19), (.int .i64 x20)]] x22), (Blk.flat 105 2 (List.map enc_R_str_bool x21) x23)]) (id := 1) (n := x25) (s := 2) (k := .i64) (by kernel_rfl) (tbE h2)), .m 12 (o_load_L (m := [(Blk.flat 69 21 [[(.int .i64 x0), (.int .i64 x1), (.int .i64 x2), (.int .i64 x3), (.int .i64 x4), (.int .i64 x5), (.int .i64 x6), (.int .i64 x7), (.int .i64 x8), (.int .i64 x9), (.int .i64 x10), (.int .i64 x11), (.int .i64 x12), (.int .i64 x13), (.int .i64 x14), (.int .i64 x15), (.int .i64 x16), (.int .i64 x17), (.int .i64 x18), (.int .i64 x19), (.int .i64 x20)]] x22), (Blk.flat 105 2 (List.map enc_R_str_bool x21) x23)]) (enc := enc_R_str_bool) (l := x21) (id := 1) (e := 105) (s := 2) (off := 0) (size := 2) (p := x23) (agg := true) (i := s0.c3) (v := (V.agg [(V.d (.str ((gt x21 s0.c3).c0))), (V.d (.bool ((gt x21 s0.c3).c1)))])) (n := x25) (tbE h3) (by kernel_rfl) (tbE h2) (by kernel_rfl)), .b (tbE h4)] (by kernel_rfl)
        · intro g0 g1
          exact absurd g0 tf

theorem config_Fault_ai21_L0_f0_0 (x0 : Int) (x1 : Int) (x2 : Int) (x3 : Int) (x4 : Int) (x5 : Int) (x6 : Int) (x7 : Int) (x8 : Int) (x9 : Int) (x10 : Int) (x11 : Int) (x12 : Int) (x13 : Int) (x14 : Int) (x15 : Int) (x16 : Int) (x17 : Int) (x18 : Int) (x19 : Int) (x20 : Int) (x21 : List R_str_bool) (x22 : Bool) (x23 : Bool) (x24 : ByteArray) (x25 : Nat) (x26 : Int) (x27 : Int) (s : config_Fault_ai21_L0_s0) (hok : config_Fault_ai21_L0_ok x21 x25 x26 s = true) (c0 : config_Fault_ai21_L0_c0 x21 x25 x26 (config_Fault_ai21_L0_end x21 x25 x26 s) = true) : loopG (roundG (runC E0 (cl E0) L45_0) [3, 7, 8, 9] [3] 2) bound (config_Fault_ai21_L0_enc x0 x1 x2 x3 x4 x5 x6 x7 x8 x9 x10 x11 x12 x13 x14 x15 x16 x17 x18 x19 x20 x21 x22 x23 x24 x25 x26 x27 s) = some ((.exit 0), ([(V.d (.str (config_Fault_ai21_L0_r0_0 x21 x24 x26 (config_Fault_ai21_L0_end x21 x25 x26 s))))], [(Blk.flat 69 21 [[(.int .i64 x0), (.int .i64 x1), (.int .i64 x2), (.int .i64 x3), (.int .i64 x4), (.int .i64 x5), (.int .i64 x6), (.int .i64 x7), (.int .i64 x8), (.int .i64 x9), (.int .i64 x10), (.int .i64 x11), (.int .i64 x12), (.int .i64 x13), (.int .i64 x14), (.int .i64 x15), (.int .i64 x16), (.int .i64 x17), (.int .i64 x18), (.int .i64 x19), (.int .i64 x20)]] x22), (Blk.flat 105 2 (List.map enc_R_str_bool x21) x23)])) := by
  have e : itS (config_Fault_ai21_L0_sel x21 x25 x26) (config_Fault_ai21_L0_nx x21 x25 x26) bound s = some (config_Fault_ai21_L0_end x21 x25 x26 s) := itS_get hok
  have f := itS_false e
  exact loop_it (config_Fault_ai21_L0_go x0 x1 x2 x3 x4 x5 x6 x7 x8 x9 x10 x11 x12 x13 x14 x15 x16 x17 x18 x19 x20 x21 x22 x23 x24 x25 x26 x27) bound s _ _ _ e (fun h => by cases h) (config_Fault_ai21_L0_x0 x0 x1 x2 x3 x4 x5 x6 x7 x8 x9 x10 x11 x12 x13 x14 x15 x16 x17 x18 x19 x20 x21 x22 x23 x24 x25 x26 x27 (config_Fault_ai21_L0_end x21 x25 x26 s) f c0)

def config_Fault_ai21_e0 (x0 : Int) (x1 : Int) (x2 : Int) (x3 : Int) (x4 : Int) (x5 : Int) (x6 : Int) (x7 : Int) (x8 : Int) (x9 : Int) (x10 : Int) (x11 : Int) (x12 : Int) (x13 : Int) (x14 : Int) (x15 : Int) (x16 : Int) (x17 : Int) (x18 : Int) (x19 : Int) (x20 : Int) : List R_str_bool := [⟨⟨#[78]⟩, (config_within_iii_r0_0 x0 3 4)⟩, ⟨⟨#[76, 111]⟩, (config_within_iii_r0_0 x1 (-2147483648) 2147483647)⟩, ⟨⟨#[72, 105]⟩, (config_within_iii_r0_0 x2 (mxI x1 (-2147483648)) 2147483647)⟩, ⟨⟨#[83, 97, 102, 101]⟩, (config_within_iii_r0_0 x3 x1 x2)⟩, ⟨⟨#[83, 116, 101, 112]⟩, (config_within_iii_r0_0 x4 0 2147483647)⟩, ⟨⟨#[83, 116, 117, 99, 107]⟩, (config_within_iii_r0_0 x5 0 2147483647)⟩, ⟨⟨#[87, 105, 110, 100, 111, 119]⟩, (config_within_iii_r0_0 x6 2 16)⟩, ⟨⟨#[68, 114, 105, 102, 116]⟩, (config_within_iii_r0_0 x7 0 2147483647)⟩, ⟨⟨#[76, 97, 103]⟩, (config_within_iii_r0_0 x8 0 8)⟩, ⟨⟨#[77, 105, 115]⟩, (config_within_iii_r0_0 x9 0 2147483647)⟩, ⟨⟨#[65, 117, 116, 104]⟩, (config_within_iii_r0_0 x10 0 2147483647)⟩, ⟨⟨#[71, 97, 105, 110]⟩, (config_within_iii_r0_0 x11 0 8)⟩, ⟨⟨#[67, 108, 105, 112]⟩, (config_within_iii_r0_0 x12 0 2147483647)⟩, ⟨⟨#[76, 97, 116, 99, 104]⟩, (config_within_iii_r0_0 x13 1 100)⟩, ⟨⟨#[67, 108, 101, 97, 110]⟩, (config_within_iii_r0_0 x14 1 1000)⟩, ⟨⟨#[66, 117, 100, 103, 101, 116]⟩, (config_within_iii_r0_0 x15 0 10)⟩, ⟨⟨#[76, 105, 109, 105, 116]⟩, (config_within_iii_r0_0 x16 1 8)⟩, ⟨⟨#[87, 101, 105, 103, 104, 116, 115]⟩, (config_weights_ai21_r0_0 x0 x17 x18 x19 x20)⟩]

def config_Fault_ai21_e1 (x0 : Int) (x1 : Int) (x2 : Int) (x3 : Int) (x4 : Int) (x5 : Int) (x6 : Int) (x7 : Int) (x8 : Int) (x9 : Int) (x10 : Int) (x11 : Int) (x12 : Int) (x13 : Int) (x14 : Int) (x15 : Int) (x16 : Int) (x17 : Int) (x18 : Int) (x19 : Int) (x20 : Int) : config_Fault_ai21_L0_s0 := config_Fault_ai21_L0_end (config_Fault_ai21_e0 x0 x1 x2 x3 x4 x5 x6 x7 x8 x9 x10 x11 x12 x13 x14 x15 x16 x17 x18 x19 x20) 18 18 (⟨0⟩ : config_Fault_ai21_L0_s0)

def config_Fault_ai21_c0 (x0 : Int) (x1 : Int) (x2 : Int) (x3 : Int) (x4 : Int) (x5 : Int) (x6 : Int) (x7 : Int) (x8 : Int) (x9 : Int) (x10 : Int) (x11 : Int) (x12 : Int) (x13 : Int) (x14 : Int) (x15 : Int) (x16 : Int) (x17 : Int) (x18 : Int) (x19 : Int) (x20 : Int) : Bool := (bif tb (config_fields_ai21_c0 x0 x17 x18 x19 x20) then (bif tb (config_Fault_ai21_L0_ok (config_Fault_ai21_e0 x0 x1 x2 x3 x4 x5 x6 x7 x8 x9 x10 x11 x12 x13 x14 x15 x16 x17 x18 x19 x20) 18 18 (⟨0⟩ : config_Fault_ai21_L0_s0)) then (bif tb (config_Fault_ai21_L0_c0 (config_Fault_ai21_e0 x0 x1 x2 x3 x4 x5 x6 x7 x8 x9 x10 x11 x12 x13 x14 x15 x16 x17 x18 x19 x20) 18 18 (config_Fault_ai21_e1 x0 x1 x2 x3 x4 x5 x6 x7 x8 x9 x10 x11 x12 x13 x14 x15 x16 x17 x18 x19 x20)) then true else false) else false) else false)

theorem config_Fault_ai21_t0 (x0 : Int) (x1 : Int) (x2 : Int) (x3 : Int) (x4 : Int) (x5 : Int) (x6 : Int) (x7 : Int) (x8 : Int) (x9 : Int) (x10 : Int) (x11 : Int) (x12 : Int) (x13 : Int) (x14 : Int) (x15 : Int) (x16 : Int) (x17 : Int) (x18 : Int) (x19 : Int) (x20 : Int) : config_Fault_ai21_c0 x0 x1 x2 x3 x4 x5 x6 x7 x8 x9 x10 x11 x12 x13 x14 x15 x16 x17 x18 x19 x20 = true → cl E0 45 [(V.agg [(V.d (.int .i64 x0)), (V.d (.int .i64 x1)), (V.d (.int .i64 x2)), (V.d (.int .i64 x3)), (V.d (.int .i64 x4)), (V.d (.int .i64 x5)), (V.d (.int .i64 x6)), (V.d (.int .i64 x7)), (V.d (.int .i64 x8)), (V.d (.int .i64 x9)), (V.d (.int .i64 x10)), (V.d (.int .i64 x11)), (V.d (.int .i64 x12)), (V.d (.int .i64 x13)), (V.d (.int .i64 x14)), (V.d (.int .i64 x15)), (V.d (.int .i64 x16)), (V.d (.int .i64 x17)), (V.d (.int .i64 x18)), (V.d (.int .i64 x19)), (V.d (.int .i64 x20))])] [] = some ([(V.d (.str (config_Fault_ai21_L0_r0_0 (config_Fault_ai21_e0 x0 x1 x2 x3 x4 x5 x6 x7 x8 x9 x10 x11 x12 x13 x14 x15 x16 x17 x18 x19 x20) ⟨#[]⟩ 18 (config_Fault_ai21_e1 x0 x1 x2 x3 x4 x5 x6 x7 x8 x9 x10 x11 x12 x13 x14 x15 x16 x17 x18 x19 x20))))], []) := by
  unfold config_Fault_ai21_c0
  cases h1 : tb (config_fields_ai21_c0 x0 x17 x18 x19 x20)
  · intro g0
    exact absurd g0 ft
  · cases h2 : tb (config_Fault_ai21_L0_ok (config_Fault_ai21_e0 x0 x1 x2 x3 x4 x5 x6 x7 x8 x9 x10 x11 x12 x13 x14 x15 x16 x17 x18 x19 x20) 18 18 (⟨0⟩ : config_Fault_ai21_L0_s0))
    · intro g0
      exact absurd g0 ft
    · cases h3 : tb (config_Fault_ai21_L0_c0 (config_Fault_ai21_e0 x0 x1 x2 x3 x4 x5 x6 x7 x8 x9 x10 x11 x12 x13 x14 x15 x16 x17 x18 x19 x20) 18 18 (config_Fault_ai21_e1 x0 x1 x2 x3 x4 x5 x6 x7 x8 x9 x10 x11 x12 x13 x14 x15 x16 x17 x18 x19 x20))
      · intro g0
        exact absurd g0 ft
      · intro g0
        exact w45 [.c (config_fields_ai21_t0 x0 x1 x2 x3 x4 x5 x6 x7 x8 x9 x10 x11 x12 x13 x14 x15 x16 x17 x18 x19 x20 (tbE h1)), .l (config_Fault_ai21_L0_f0_0 x0 x1 x2 x3 x4 x5 x6 x7 x8 x9 x10 x11 x12 x13 x14 x15 x16 x17 x18 x19 x20 (config_Fault_ai21_e0 x0 x1 x2 x3 x4 x5 x6 x7 x8 x9 x10 x11 x12 x13 x14 x15 x16 x17 x18 x19 x20) false false ⟨#[]⟩ 18 18 0 (⟨0⟩ : config_Fault_ai21_L0_s0) (tbE h2) (tbE h3))] (by kernel_rfl)

def config_Right_ai21_c0 (x0 : Int) (x1 : Int) (x2 : Int) (x3 : Int) (x4 : Int) (x5 : Int) (x6 : Int) (x7 : Int) (x8 : Int) (x9 : Int) (x10 : Int) (x11 : Int) (x12 : Int) (x13 : Int) (x14 : Int) (x15 : Int) (x16 : Int) (x17 : Int) (x18 : Int) (x19 : Int) (x20 : Int) : Bool := (bif tb (config_Fault_ai21_c0 x0 x1 x2 x3 x4 x5 x6 x7 x8 x9 x10 x11 x12 x13 x14 x15 x16 x17 x18 x19 x20) then true else false)

theorem config_Right_ai21_t0 (x0 : Int) (x1 : Int) (x2 : Int) (x3 : Int) (x4 : Int) (x5 : Int) (x6 : Int) (x7 : Int) (x8 : Int) (x9 : Int) (x10 : Int) (x11 : Int) (x12 : Int) (x13 : Int) (x14 : Int) (x15 : Int) (x16 : Int) (x17 : Int) (x18 : Int) (x19 : Int) (x20 : Int) : config_Right_ai21_c0 x0 x1 x2 x3 x4 x5 x6 x7 x8 x9 x10 x11 x12 x13 x14 x15 x16 x17 x18 x19 x20 = true → cl E0 47 [(V.agg [(V.d (.int .i64 x0)), (V.d (.int .i64 x1)), (V.d (.int .i64 x2)), (V.d (.int .i64 x3)), (V.d (.int .i64 x4)), (V.d (.int .i64 x5)), (V.d (.int .i64 x6)), (V.d (.int .i64 x7)), (V.d (.int .i64 x8)), (V.d (.int .i64 x9)), (V.d (.int .i64 x10)), (V.d (.int .i64 x11)), (V.d (.int .i64 x12)), (V.d (.int .i64 x13)), (V.d (.int .i64 x14)), (V.d (.int .i64 x15)), (V.d (.int .i64 x16)), (V.d (.int .i64 x17)), (V.d (.int .i64 x18)), (V.d (.int .i64 x19)), (V.d (.int .i64 x20))])] [] = some ([(V.d (.bool ((config_Fault_ai21_L0_r0_0 (config_Fault_ai21_e0 x0 x1 x2 x3 x4 x5 x6 x7 x8 x9 x10 x11 x12 x13 x14 x15 x16 x17 x18 x19 x20) ⟨#[]⟩ 18 (config_Fault_ai21_e1 x0 x1 x2 x3 x4 x5 x6 x7 x8 x9 x10 x11 x12 x13 x14 x15 x16 x17 x18 x19 x20)).toList == (⟨#[]⟩ : ByteArray).toList)))], []) := by
  unfold config_Right_ai21_c0
  cases h1 : tb (config_Fault_ai21_c0 x0 x1 x2 x3 x4 x5 x6 x7 x8 x9 x10 x11 x12 x13 x14 x15 x16 x17 x18 x19 x20)
  · intro g0
    exact absurd g0 ft
  · intro g0
    exact w47 [.c (config_Fault_ai21_t0 x0 x1 x2 x3 x4 x5 x6 x7 x8 x9 x10 x11 x12 x13 x14 x15 x16 x17 x18 x19 x20 (tbE h1))] (by kernel_rfl)

def config_Most_ai21i_e0 (x1 : Int) (x2 : Int) (x4 : Int) (x7 : Int) (x9 : Int) (x10 : Int) (x12 : Int) (x21 : Int) : Int := mnI (mnI (mnI (wi ((wi (x9 - (wi (2 * x10)))) - x12)) (wi (x4 - x21))) x7) (wi (x2 - x1))

def config_Most_ai21i_e1 (x1 : Int) (x2 : Int) (x4 : Int) (x7 : Int) (x9 : Int) (x10 : Int) (x12 : Int) (x21 : Int) : Int := quoI .i64 (config_Most_ai21i_e0 x1 x2 x4 x7 x9 x10 x12 x21) 2

def config_Most_ai21i_e2 (x5 : Int) (x10 : Int) (x12 : Int) : Int := quoI .i64 (wi ((wi (x5 - (wi (2 * x10)))) - (wi (2 * x12)))) 4

def config_Most_ai21i_e3 (x1 : Int) (x2 : Int) (x4 : Int) (x5 : Int) (x7 : Int) (x9 : Int) (x10 : Int) (x12 : Int) (x21 : Int) : Int := mnI (mnI (config_Most_ai21i_e1 x1 x2 x4 x7 x9 x10 x12 x21) (config_Most_ai21i_e2 x5 x10 x12)) 1073741824

def config_Most_ai21i_c0 (x0 : Int) (x1 : Int) (x2 : Int) (x3 : Int) (x4 : Int) (x5 : Int) (x6 : Int) (x7 : Int) (x8 : Int) (x9 : Int) (x10 : Int) (x11 : Int) (x12 : Int) (x13 : Int) (x14 : Int) (x15 : Int) (x16 : Int) (x17 : Int) (x18 : Int) (x19 : Int) (x20 : Int) : Bool := (bif tb (config_Right_ai21_c0 x0 x1 x2 x3 x4 x5 x6 x7 x8 x9 x10 x11 x12 x13 x14 x15 x16 x17 x18 x19 x20) then true else false)

def config_Most_ai21i_r0_0 (x0 : Int) (x1 : Int) (x2 : Int) (x3 : Int) (x4 : Int) (x5 : Int) (x6 : Int) (x7 : Int) (x8 : Int) (x9 : Int) (x10 : Int) (x11 : Int) (x12 : Int) (x13 : Int) (x14 : Int) (x15 : Int) (x16 : Int) (x17 : Int) (x18 : Int) (x19 : Int) (x20 : Int) (x21 : Int) : Int := (bif tb ((config_Fault_ai21_L0_r0_0 (config_Fault_ai21_e0 x0 x1 x2 x3 x4 x5 x6 x7 x8 x9 x10 x11 x12 x13 x14 x15 x16 x17 x18 x19 x20) ⟨#[]⟩ 18 (config_Fault_ai21_e1 x0 x1 x2 x3 x4 x5 x6 x7 x8 x9 x10 x11 x12 x13 x14 x15 x16 x17 x18 x19 x20)).toList == (⟨#[]⟩ : ByteArray).toList) then (bif tb (config_within_iii_r0_0 x21 0 1073741824) then (bif tb (decide ((config_Most_ai21i_e0 x1 x2 x4 x7 x9 x10 x12 x21) < 0)) then (-1) else (bif tb (decide ((wi ((wi (x5 - (wi (2 * x10)))) - (wi (2 * x12)))) < 0)) then (-1) else (config_Most_ai21i_e3 x1 x2 x4 x5 x7 x9 x10 x12 x21))) else (-1)) else (-1))

theorem config_Most_ai21i_t0 (x0 : Int) (x1 : Int) (x2 : Int) (x3 : Int) (x4 : Int) (x5 : Int) (x6 : Int) (x7 : Int) (x8 : Int) (x9 : Int) (x10 : Int) (x11 : Int) (x12 : Int) (x13 : Int) (x14 : Int) (x15 : Int) (x16 : Int) (x17 : Int) (x18 : Int) (x19 : Int) (x20 : Int) (x21 : Int) : config_Most_ai21i_c0 x0 x1 x2 x3 x4 x5 x6 x7 x8 x9 x10 x11 x12 x13 x14 x15 x16 x17 x18 x19 x20 = true → cl E0 51 [(V.agg [(V.d (.int .i64 x0)), (V.d (.int .i64 x1)), (V.d (.int .i64 x2)), (V.d (.int .i64 x3)), (V.d (.int .i64 x4)), (V.d (.int .i64 x5)), (V.d (.int .i64 x6)), (V.d (.int .i64 x7)), (V.d (.int .i64 x8)), (V.d (.int .i64 x9)), (V.d (.int .i64 x10)), (V.d (.int .i64 x11)), (V.d (.int .i64 x12)), (V.d (.int .i64 x13)), (V.d (.int .i64 x14)), (V.d (.int .i64 x15)), (V.d (.int .i64 x16)), (V.d (.int .i64 x17)), (V.d (.int .i64 x18)), (V.d (.int .i64 x19)), (V.d (.int .i64 x20))]), (V.d (.int .i64 x21))] [] = some ([(V.d (.int .i64 (config_Most_ai21i_r0_0 x0 x1 x2 x3 x4 x5 x6 x7 x8 x9 x10 x11 x12 x13 x14 x15 x16 x17 x18 x19 x20 x21)))], []) := by
  unfold config_Most_ai21i_c0 config_Most_ai21i_r0_0
  cases h1 : tb (config_Right_ai21_c0 x0 x1 x2 x3 x4 x5 x6 x7 x8 x9 x10 x11 x12 x13 x14 x15 x16 x17 x18 x19 x20)
  · intro g0
    exact absurd g0 ft
  · cases h2 : tb ((config_Fault_ai21_L0_r0_0 (config_Fault_ai21_e0 x0 x1 x2 x3 x4 x5 x6 x7 x8 x9 x10 x11 x12 x13 x14 x15 x16 x17 x18 x19 x20) ⟨#[]⟩ 18 (config_Fault_ai21_e1 x0 x1 x2 x3 x4 x5 x6 x7 x8 x9 x10 x11 x12 x13 x14 x15 x16 x17 x18 x19 x20)).toList == (⟨#[]⟩ : ByteArray).toList)
    · intro g0
      exact w51 [.c (config_Right_ai21_t0 x0 x1 x2 x3 x4 x5 x6 x7 x8 x9 x10 x11 x12 x13 x14 x15 x16 x17 x18 x19 x20 (tbE h1)), .b (notF (tbE h2))] (by kernel_rfl)
    · cases h3 : tb (config_within_iii_r0_0 x21 0 1073741824)
      · intro g0
        exact w51 [.c (config_Right_ai21_t0 x0 x1 x2 x3 x4 x5 x6 x7 x8 x9 x10 x11 x12 x13 x14 x15 x16 x17 x18 x19 x20 (tbE h1)), .b (notT (tbE h2)), .c (config_within_iii_t0 x21 0 1073741824), .b (notF (tbE h3))] (by kernel_rfl)
      · cases h4 : tb (decide ((config_Most_ai21i_e0 x1 x2 x4 x7 x9 x10 x12 x21) < 0))
        · cases h5 : tb (decide ((wi ((wi (x5 - (wi (2 * x10)))) - (wi (2 * x12)))) < 0))
          · intro g0
            exact w51 [.c (config_Right_ai21_t0 x0 x1 x2 x3 x4 x5 x6 x7 x8 x9 x10 x11 x12 x13 x14 x15 x16 x17 x18 x19 x20 (tbE h1)), .b (notT (tbE h2)), .c (config_within_iii_t0 x21 0 1073741824), .b (notT (tbE h3)), .b (tbE h4), .b (tbE h5)] (by kernel_rfl)
          · intro g0
            exact w51 [.c (config_Right_ai21_t0 x0 x1 x2 x3 x4 x5 x6 x7 x8 x9 x10 x11 x12 x13 x14 x15 x16 x17 x18 x19 x20 (tbE h1)), .b (notT (tbE h2)), .c (config_within_iii_t0 x21 0 1073741824), .b (notT (tbE h3)), .b (tbE h4), .b (tbE h5)] (by kernel_rfl)
        · intro g0
          exact w51 [.c (config_Right_ai21_t0 x0 x1 x2 x3 x4 x5 x6 x7 x8 x9 x10 x11 x12 x13 x14 x15 x16 x17 x18 x19 x20 (tbE h1)), .b (notT (tbE h2)), .c (config_within_iii_t0 x21 0 1073741824), .b (notT (tbE h3)), .b (tbE h4)] (by kernel_rfl)

def config_Covers_ai21ii_c0 (x0 : Int) (x1 : Int) (x2 : Int) (x3 : Int) (x4 : Int) (x5 : Int) (x6 : Int) (x7 : Int) (x8 : Int) (x9 : Int) (x10 : Int) (x11 : Int) (x12 : Int) (x13 : Int) (x14 : Int) (x15 : Int) (x16 : Int) (x17 : Int) (x18 : Int) (x19 : Int) (x20 : Int) (x21 : Int) : Bool := (bif tb (decide (0 ≤ x21)) then (bif tb (config_Most_ai21i_c0 x0 x1 x2 x3 x4 x5 x6 x7 x8 x9 x10 x11 x12 x13 x14 x15 x16 x17 x18 x19 x20) then true else false) else true)

def config_Covers_ai21ii_r0_0 (x0 : Int) (x1 : Int) (x2 : Int) (x3 : Int) (x4 : Int) (x5 : Int) (x6 : Int) (x7 : Int) (x8 : Int) (x9 : Int) (x10 : Int) (x11 : Int) (x12 : Int) (x13 : Int) (x14 : Int) (x15 : Int) (x16 : Int) (x17 : Int) (x18 : Int) (x19 : Int) (x20 : Int) (x21 : Int) (x22 : Int) : Bool := (bif tb (decide (0 ≤ x21)) then (decide (x21 ≤ (config_Most_ai21i_r0_0 x0 x1 x2 x3 x4 x5 x6 x7 x8 x9 x10 x11 x12 x13 x14 x15 x16 x17 x18 x19 x20 x22))) else false)

theorem config_Covers_ai21ii_t0 (x0 : Int) (x1 : Int) (x2 : Int) (x3 : Int) (x4 : Int) (x5 : Int) (x6 : Int) (x7 : Int) (x8 : Int) (x9 : Int) (x10 : Int) (x11 : Int) (x12 : Int) (x13 : Int) (x14 : Int) (x15 : Int) (x16 : Int) (x17 : Int) (x18 : Int) (x19 : Int) (x20 : Int) (x21 : Int) (x22 : Int) : config_Covers_ai21ii_c0 x0 x1 x2 x3 x4 x5 x6 x7 x8 x9 x10 x11 x12 x13 x14 x15 x16 x17 x18 x19 x20 x21 = true → cl E0 49 [(V.agg [(V.d (.int .i64 x0)), (V.d (.int .i64 x1)), (V.d (.int .i64 x2)), (V.d (.int .i64 x3)), (V.d (.int .i64 x4)), (V.d (.int .i64 x5)), (V.d (.int .i64 x6)), (V.d (.int .i64 x7)), (V.d (.int .i64 x8)), (V.d (.int .i64 x9)), (V.d (.int .i64 x10)), (V.d (.int .i64 x11)), (V.d (.int .i64 x12)), (V.d (.int .i64 x13)), (V.d (.int .i64 x14)), (V.d (.int .i64 x15)), (V.d (.int .i64 x16)), (V.d (.int .i64 x17)), (V.d (.int .i64 x18)), (V.d (.int .i64 x19)), (V.d (.int .i64 x20))]), (V.d (.int .i64 x21)), (V.d (.int .i64 x22))] [] = some ([(V.d (.bool (config_Covers_ai21ii_r0_0 x0 x1 x2 x3 x4 x5 x6 x7 x8 x9 x10 x11 x12 x13 x14 x15 x16 x17 x18 x19 x20 x21 x22)))], []) := by
  unfold config_Covers_ai21ii_c0 config_Covers_ai21ii_r0_0
  cases h1 : tb (decide (0 ≤ x21))
  · intro g0
    exact w49 [.b (tbE h1)] (by kernel_rfl)
  · cases h2 : tb (config_Most_ai21i_c0 x0 x1 x2 x3 x4 x5 x6 x7 x8 x9 x10 x11 x12 x13 x14 x15 x16 x17 x18 x19 x20)
    · intro g0
      exact absurd g0 ft
    · intro g0
      exact w49 [.b (tbE h1), .c (config_Most_ai21i_t0 x0 x1 x2 x3 x4 x5 x6 x7 x8 x9 x10 x11 x12 x13 x14 x15 x16 x17 x18 x19 x20 x22 (tbE h2))] (by kernel_rfl)

end Go.Proofs.Ytgalchmjpfmemaa.Den

namespace Go.Proofs.Ytgalchmjpfmemaa.Den
open Go Go.Proofs
set_option maxRecDepth 100000
set_option maxHeartbeats 4000000
set_option linter.unusedVariables false
set_option linter.unusedSimpArgs false

theorem law07_alive_t0 : cl E0 44 [] [] = some ([(V.d (.bool true))], []) := cl_of (n := 60) (by kernel_rfl)

end Go.Proofs.Ytgalchmjpfmemaa.Den

namespace Go.Proofs.Ytgalchmjpfmemaa.Den
open Go Go.Proofs
set_option maxRecDepth 100000
set_option maxHeartbeats 4000000
set_option linter.unusedVariables false
set_option linter.unusedSimpArgs false

def law07_ConfigLess_c0 (x0 : Int) (x1 : Int) (x2 : Int) (x3 : Int) (x4 : Int) (x5 : Int) (x6 : Int) (x7 : Int) (x8 : Int) (x9 : Int) (x10 : Int) (x11 : Int) (x12 : Int) (x13 : Int) (x14 : Int) (x15 : Int) (x16 : Int) (x17 : Int) (x18 : Int) (x19 : Int) (x20 : Int) (x21 : Int) (x22 : Int) (x23 : Int) : Bool := (bif tb (config_Covers_ai21ii_c0 x0 x1 x2 x3 x4 x5 x6 x7 x8 x9 x10 x11 x12 x13 x14 x15 x16 x17 x18 x19 x20 x21) then (bif tb (config_Covers_ai21ii_r0_0 x0 x1 x2 x3 x4 x5 x6 x7 x8 x9 x10 x11 x12 x13 x14 x15 x16 x17 x18 x19 x20 x21 x22) then (bif tb (((remI .i64 (wi (IntKind.u16.wrap (x23))) 4) : Int) == 0) then (bif tb (config_Right_ai21_c0 x0 x1 x2 x3 x4 x5 x6 x7 x8 x9 x10 x11 x12 x13 x14 x15 x16 x17 x18 x19 x20) then (bif tb ((config_Fault_ai21_L0_r0_0 (config_Fault_ai21_e0 x0 x1 x2 x3 x4 x5 x6 x7 x8 x9 x10 x11 x12 x13 x14 x15 x16 x17 x18 x19 x20) ⟨#[]⟩ 18 (config_Fault_ai21_e1 x0 x1 x2 x3 x4 x5 x6 x7 x8 x9 x10 x11 x12 x13 x14 x15 x16 x17 x18 x19 x20)).toList == (⟨#[]⟩ : ByteArray).toList) then (bif tb (config_Fault_ai21_c0 x0 x1 x2 x3 x4 x5 x6 x7 x8 x9 x10 x11 x12 x13 x14 x15 x16 x17 x18 x19 x20) then (bif tb (config_Covers_ai21ii_c0 x0 x1 x2 x3 x4 x5 x6 x7 x8 x9 x10 x11 x12 x13 x14 x15 x16 x17 x18 x19 x20 (mxI 0 (wi (x21 - (wi (IntKind.u16.wrap (x23))))))) then (bif tb (config_Covers_ai21ii_r0_0 x0 x1 x2 x3 x4 x5 x6 x7 x8 x9 x10 x11 x12 x13 x14 x15 x16 x17 x18 x19 x20 (mxI 0 (wi (x21 - (wi (IntKind.u16.wrap (x23)))))) (mxI 0 (wi (x22 - (wi (IntKind.u16.wrap (x23))))))) then (bif tb (config_Covers_ai21ii_c0 x0 x1 x2 x3 x4 x5 x6 x7 x8 (mnI (wi (x9 + (wi (IntKind.u16.wrap (x23))))) 2147483647) x10 x11 x12 x13 x14 x15 x16 x17 x18 x19 x20 x21) then (bif tb (config_Covers_ai21ii_r0_0 x0 x1 x2 x3 x4 x5 x6 x7 x8 (mnI (wi (x9 + (wi (IntKind.u16.wrap (x23))))) 2147483647) x10 x11 x12 x13 x14 x15 x16 x17 x18 x19 x20 x21 x22) then (bif tb (decide ((wi (x1 + x21)) ≤ (wi (x2 - x21)))) then (bif tb (config_Most_ai21i_c0 x0 x1 x2 x3 x4 x5 x6 x7 x8 x9 x10 x11 x12 x13 x14 x15 x16 x17 x18 x19 x20) then true else false) else true) else true) else false) else true) else false) else false) else true) else false) else (bif tb (((remI .i64 (wi (IntKind.u16.wrap (x23))) 4) : Int) == 1) then (bif tb (config_Right_ai21_c0 x0 x1 x2 x3 x4 x5 x6 x7 x8 x9 x10 x11 x12 x13 x14 x15 x16 x17 x18 x19 x20) then (bif tb ((config_Fault_ai21_L0_r0_0 (config_Fault_ai21_e0 x0 x1 x2 x3 x4 x5 x6 x7 x8 x9 x10 x11 x12 x13 x14 x15 x16 x17 x18 x19 x20) ⟨#[]⟩ 18 (config_Fault_ai21_e1 x0 x1 x2 x3 x4 x5 x6 x7 x8 x9 x10 x11 x12 x13 x14 x15 x16 x17 x18 x19 x20)).toList == (⟨#[]⟩ : ByteArray).toList) then (bif tb (config_Fault_ai21_c0 x0 x1 x2 x3 x4 x5 x6 x7 x8 x9 x10 x11 x12 x13 x14 x15 x16 x17 x18 x19 x20) then (bif tb (config_Covers_ai21ii_c0 x0 x1 x2 x3 x4 x5 x6 x7 x8 x9 x10 x11 x12 x13 x14 x15 x16 x17 x18 x19 x20 (mxI 0 (wi (x21 - (wi (IntKind.u16.wrap (x23))))))) then (bif tb (config_Covers_ai21ii_r0_0 x0 x1 x2 x3 x4 x5 x6 x7 x8 x9 x10 x11 x12 x13 x14 x15 x16 x17 x18 x19 x20 (mxI 0 (wi (x21 - (wi (IntKind.u16.wrap (x23)))))) (mxI 0 (wi (x22 - (wi (IntKind.u16.wrap (x23))))))) then (bif tb (config_Covers_ai21ii_c0 x0 x1 x2 x3 (mnI (wi (x4 + (wi (IntKind.u16.wrap (x23))))) 2147483647) x5 x6 x7 x8 x9 x10 x11 x12 x13 x14 x15 x16 x17 x18 x19 x20 x21) then (bif tb (config_Covers_ai21ii_r0_0 x0 x1 x2 x3 (mnI (wi (x4 + (wi (IntKind.u16.wrap (x23))))) 2147483647) x5 x6 x7 x8 x9 x10 x11 x12 x13 x14 x15 x16 x17 x18 x19 x20 x21 x22) then (bif tb (decide ((wi (x1 + x21)) ≤ (wi (x2 - x21)))) then (bif tb (config_Most_ai21i_c0 x0 x1 x2 x3 x4 x5 x6 x7 x8 x9 x10 x11 x12 x13 x14 x15 x16 x17 x18 x19 x20) then true else false) else true) else true) else false) else true) else false) else false) else true) else false) else (bif tb (((remI .i64 (wi (IntKind.u16.wrap (x23))) 4) : Int) == 2) then (bif tb (config_Right_ai21_c0 x0 x1 x2 x3 x4 x5 x6 x7 x8 x9 x10 x11 x12 x13 x14 x15 x16 x17 x18 x19 x20) then (bif tb ((config_Fault_ai21_L0_r0_0 (config_Fault_ai21_e0 x0 x1 x2 x3 x4 x5 x6 x7 x8 x9 x10 x11 x12 x13 x14 x15 x16 x17 x18 x19 x20) ⟨#[]⟩ 18 (config_Fault_ai21_e1 x0 x1 x2 x3 x4 x5 x6 x7 x8 x9 x10 x11 x12 x13 x14 x15 x16 x17 x18 x19 x20)).toList == (⟨#[]⟩ : ByteArray).toList) then (bif tb (config_Fault_ai21_c0 x0 x1 x2 x3 x4 x5 x6 x7 x8 x9 x10 x11 x12 x13 x14 x15 x16 x17 x18 x19 x20) then (bif tb (config_Covers_ai21ii_c0 x0 x1 x2 x3 x4 x5 x6 x7 x8 x9 x10 x11 x12 x13 x14 x15 x16 x17 x18 x19 x20 (mxI 0 (wi (x21 - (wi (IntKind.u16.wrap (x23))))))) then (bif tb (config_Covers_ai21ii_r0_0 x0 x1 x2 x3 x4 x5 x6 x7 x8 x9 x10 x11 x12 x13 x14 x15 x16 x17 x18 x19 x20 (mxI 0 (wi (x21 - (wi (IntKind.u16.wrap (x23)))))) (mxI 0 (wi (x22 - (wi (IntKind.u16.wrap (x23))))))) then (bif tb (config_Covers_ai21ii_c0 x0 x1 x2 x3 x4 x5 x6 (mnI (wi (x7 + (wi (IntKind.u16.wrap (x23))))) 2147483647) x8 x9 x10 x11 x12 x13 x14 x15 x16 x17 x18 x19 x20 x21) then (bif tb (config_Covers_ai21ii_r0_0 x0 x1 x2 x3 x4 x5 x6 (mnI (wi (x7 + (wi (IntKind.u16.wrap (x23))))) 2147483647) x8 x9 x10 x11 x12 x13 x14 x15 x16 x17 x18 x19 x20 x21 x22) then (bif tb (decide ((wi (x1 + x21)) ≤ (wi (x2 - x21)))) then (bif tb (config_Most_ai21i_c0 x0 x1 x2 x3 x4 x5 x6 x7 x8 x9 x10 x11 x12 x13 x14 x15 x16 x17 x18 x19 x20) then true else false) else true) else true) else false) else true) else false) else false) else true) else false) else (bif tb (config_Right_ai21_c0 x0 x1 x2 x3 x4 x5 x6 x7 x8 x9 x10 x11 x12 x13 x14 x15 x16 x17 x18 x19 x20) then (bif tb ((config_Fault_ai21_L0_r0_0 (config_Fault_ai21_e0 x0 x1 x2 x3 x4 x5 x6 x7 x8 x9 x10 x11 x12 x13 x14 x15 x16 x17 x18 x19 x20) ⟨#[]⟩ 18 (config_Fault_ai21_e1 x0 x1 x2 x3 x4 x5 x6 x7 x8 x9 x10 x11 x12 x13 x14 x15 x16 x17 x18 x19 x20)).toList == (⟨#[]⟩ : ByteArray).toList) then (bif tb (config_Fault_ai21_c0 x0 x1 x2 x3 x4 x5 x6 x7 x8 x9 x10 x11 x12 x13 x14 x15 x16 x17 x18 x19 x20) then (bif tb (config_Covers_ai21ii_c0 x0 x1 x2 x3 x4 x5 x6 x7 x8 x9 x10 x11 x12 x13 x14 x15 x16 x17 x18 x19 x20 (mxI 0 (wi (x21 - (wi (IntKind.u16.wrap (x23))))))) then (bif tb (config_Covers_ai21ii_r0_0 x0 x1 x2 x3 x4 x5 x6 x7 x8 x9 x10 x11 x12 x13 x14 x15 x16 x17 x18 x19 x20 (mxI 0 (wi (x21 - (wi (IntKind.u16.wrap (x23)))))) (mxI 0 (wi (x22 - (wi (IntKind.u16.wrap (x23))))))) then (bif tb (config_Covers_ai21ii_c0 x0 x1 x2 x3 x4 (mnI (wi (x5 + (wi (IntKind.u16.wrap (x23))))) 2147483647) x6 x7 x8 x9 x10 x11 x12 x13 x14 x15 x16 x17 x18 x19 x20 x21) then (bif tb (config_Covers_ai21ii_r0_0 x0 x1 x2 x3 x4 (mnI (wi (x5 + (wi (IntKind.u16.wrap (x23))))) 2147483647) x6 x7 x8 x9 x10 x11 x12 x13 x14 x15 x16 x17 x18 x19 x20 x21 x22) then (bif tb (decide ((wi (x1 + x21)) ≤ (wi (x2 - x21)))) then (bif tb (config_Most_ai21i_c0 x0 x1 x2 x3 x4 x5 x6 x7 x8 x9 x10 x11 x12 x13 x14 x15 x16 x17 x18 x19 x20) then true else false) else true) else true) else false) else true) else false) else false) else true) else false)))) else true) else false)

def law07_ConfigLess_r0_0 (x0 : Int) (x1 : Int) (x2 : Int) (x3 : Int) (x4 : Int) (x5 : Int) (x6 : Int) (x7 : Int) (x8 : Int) (x9 : Int) (x10 : Int) (x11 : Int) (x12 : Int) (x13 : Int) (x14 : Int) (x15 : Int) (x16 : Int) (x17 : Int) (x18 : Int) (x19 : Int) (x20 : Int) (x21 : Int) (x22 : Int) (x23 : Int) : Bool := (bif tb (config_Covers_ai21ii_r0_0 x0 x1 x2 x3 x4 x5 x6 x7 x8 x9 x10 x11 x12 x13 x14 x15 x16 x17 x18 x19 x20 x21 x22) then (bif tb (((remI .i64 (wi (IntKind.u16.wrap (x23))) 4) : Int) == 0) then (bif tb ((config_Fault_ai21_L0_r0_0 (config_Fault_ai21_e0 x0 x1 x2 x3 x4 x5 x6 x7 x8 x9 x10 x11 x12 x13 x14 x15 x16 x17 x18 x19 x20) ⟨#[]⟩ 18 (config_Fault_ai21_e1 x0 x1 x2 x3 x4 x5 x6 x7 x8 x9 x10 x11 x12 x13 x14 x15 x16 x17 x18 x19 x20)).toList == (⟨#[]⟩ : ByteArray).toList) then (bif tb (config_Covers_ai21ii_r0_0 x0 x1 x2 x3 x4 x5 x6 x7 x8 x9 x10 x11 x12 x13 x14 x15 x16 x17 x18 x19 x20 (mxI 0 (wi (x21 - (wi (IntKind.u16.wrap (x23)))))) (mxI 0 (wi (x22 - (wi (IntKind.u16.wrap (x23))))))) then (bif tb (config_Covers_ai21ii_r0_0 x0 x1 x2 x3 x4 x5 x6 x7 x8 (mnI (wi (x9 + (wi (IntKind.u16.wrap (x23))))) 2147483647) x10 x11 x12 x13 x14 x15 x16 x17 x18 x19 x20 x21 x22) then (bif tb (decide ((wi (x1 + x21)) ≤ (wi (x2 - x21)))) then (decide (x21 ≤ (config_Most_ai21i_r0_0 x0 x1 x2 x3 x4 x5 x6 x7 x8 x9 x10 x11 x12 x13 x14 x15 x16 x17 x18 x19 x20 x22))) else false) else false) else false) else false) else (bif tb (((remI .i64 (wi (IntKind.u16.wrap (x23))) 4) : Int) == 1) then (bif tb ((config_Fault_ai21_L0_r0_0 (config_Fault_ai21_e0 x0 x1 x2 x3 x4 x5 x6 x7 x8 x9 x10 x11 x12 x13 x14 x15 x16 x17 x18 x19 x20) ⟨#[]⟩ 18 (config_Fault_ai21_e1 x0 x1 x2 x3 x4 x5 x6 x7 x8 x9 x10 x11 x12 x13 x14 x15 x16 x17 x18 x19 x20)).toList == (⟨#[]⟩ : ByteArray).toList) then (bif tb (config_Covers_ai21ii_r0_0 x0 x1 x2 x3 x4 x5 x6 x7 x8 x9 x10 x11 x12 x13 x14 x15 x16 x17 x18 x19 x20 (mxI 0 (wi (x21 - (wi (IntKind.u16.wrap (x23)))))) (mxI 0 (wi (x22 - (wi (IntKind.u16.wrap (x23))))))) then (bif tb (config_Covers_ai21ii_r0_0 x0 x1 x2 x3 (mnI (wi (x4 + (wi (IntKind.u16.wrap (x23))))) 2147483647) x5 x6 x7 x8 x9 x10 x11 x12 x13 x14 x15 x16 x17 x18 x19 x20 x21 x22) then (bif tb (decide ((wi (x1 + x21)) ≤ (wi (x2 - x21)))) then (decide (x21 ≤ (config_Most_ai21i_r0_0 x0 x1 x2 x3 x4 x5 x6 x7 x8 x9 x10 x11 x12 x13 x14 x15 x16 x17 x18 x19 x20 x22))) else false) else false) else false) else false) else (bif tb (((remI .i64 (wi (IntKind.u16.wrap (x23))) 4) : Int) == 2) then (bif tb ((config_Fault_ai21_L0_r0_0 (config_Fault_ai21_e0 x0 x1 x2 x3 x4 x5 x6 x7 x8 x9 x10 x11 x12 x13 x14 x15 x16 x17 x18 x19 x20) ⟨#[]⟩ 18 (config_Fault_ai21_e1 x0 x1 x2 x3 x4 x5 x6 x7 x8 x9 x10 x11 x12 x13 x14 x15 x16 x17 x18 x19 x20)).toList == (⟨#[]⟩ : ByteArray).toList) then (bif tb (config_Covers_ai21ii_r0_0 x0 x1 x2 x3 x4 x5 x6 x7 x8 x9 x10 x11 x12 x13 x14 x15 x16 x17 x18 x19 x20 (mxI 0 (wi (x21 - (wi (IntKind.u16.wrap (x23)))))) (mxI 0 (wi (x22 - (wi (IntKind.u16.wrap (x23))))))) then (bif tb (config_Covers_ai21ii_r0_0 x0 x1 x2 x3 x4 x5 x6 (mnI (wi (x7 + (wi (IntKind.u16.wrap (x23))))) 2147483647) x8 x9 x10 x11 x12 x13 x14 x15 x16 x17 x18 x19 x20 x21 x22) then (bif tb (decide ((wi (x1 + x21)) ≤ (wi (x2 - x21)))) then (decide (x21 ≤ (config_Most_ai21i_r0_0 x0 x1 x2 x3 x4 x5 x6 x7 x8 x9 x10 x11 x12 x13 x14 x15 x16 x17 x18 x19 x20 x22))) else false) else false) else false) else false) else (bif tb ((config_Fault_ai21_L0_r0_0 (config_Fault_ai21_e0 x0 x1 x2 x3 x4 x5 x6 x7 x8 x9 x10 x11 x12 x13 x14 x15 x16 x17 x18 x19 x20) ⟨#[]⟩ 18 (config_Fault_ai21_e1 x0 x1 x2 x3 x4 x5 x6 x7 x8 x9 x10 x11 x12 x13 x14 x15 x16 x17 x18 x19 x20)).toList == (⟨#[]⟩ : ByteArray).toList) then (bif tb (config_Covers_ai21ii_r0_0 x0 x1 x2 x3 x4 x5 x6 x7 x8 x9 x10 x11 x12 x13 x14 x15 x16 x17 x18 x19 x20 (mxI 0 (wi (x21 - (wi (IntKind.u16.wrap (x23)))))) (mxI 0 (wi (x22 - (wi (IntKind.u16.wrap (x23))))))) then (bif tb (config_Covers_ai21ii_r0_0 x0 x1 x2 x3 x4 (mnI (wi (x5 + (wi (IntKind.u16.wrap (x23))))) 2147483647) x6 x7 x8 x9 x10 x11 x12 x13 x14 x15 x16 x17 x18 x19 x20 x21 x22) then (bif tb (decide ((wi (x1 + x21)) ≤ (wi (x2 - x21)))) then (decide (x21 ≤ (config_Most_ai21i_r0_0 x0 x1 x2 x3 x4 x5 x6 x7 x8 x9 x10 x11 x12 x13 x14 x15 x16 x17 x18 x19 x20 x22))) else false) else false) else false) else false)))) else true)

theorem law07_ConfigLess_t0 (x0 : Int) (x1 : Int) (x2 : Int) (x3 : Int) (x4 : Int) (x5 : Int) (x6 : Int) (x7 : Int) (x8 : Int) (x9 : Int) (x10 : Int) (x11 : Int) (x12 : Int) (x13 : Int) (x14 : Int) (x15 : Int) (x16 : Int) (x17 : Int) (x18 : Int) (x19 : Int) (x20 : Int) (x21 : Int) (x22 : Int) (x23 : Int) : law07_ConfigLess_c0 x0 x1 x2 x3 x4 x5 x6 x7 x8 x9 x10 x11 x12 x13 x14 x15 x16 x17 x18 x19 x20 x21 x22 x23 = true → cl E0 12 [(V.agg [(V.d (.int .i64 x0)), (V.d (.int .i64 x1)), (V.d (.int .i64 x2)), (V.d (.int .i64 x3)), (V.d (.int .i64 x4)), (V.d (.int .i64 x5)), (V.d (.int .i64 x6)), (V.d (.int .i64 x7)), (V.d (.int .i64 x8)), (V.d (.int .i64 x9)), (V.d (.int .i64 x10)), (V.d (.int .i64 x11)), (V.d (.int .i64 x12)), (V.d (.int .i64 x13)), (V.d (.int .i64 x14)), (V.d (.int .i64 x15)), (V.d (.int .i64 x16)), (V.d (.int .i64 x17)), (V.d (.int .i64 x18)), (V.d (.int .i64 x19)), (V.d (.int .i64 x20))]), (V.agg [(V.d (.int .i64 x21)), (V.d (.int .i64 x22)), (V.d (.int .i64 x23))])] [] = some ([(V.d (.bool (law07_ConfigLess_r0_0 x0 x1 x2 x3 x4 x5 x6 x7 x8 x9 x10 x11 x12 x13 x14 x15 x16 x17 x18 x19 x20 x21 x22 x23)))], []) := by
  unfold law07_ConfigLess_c0 law07_ConfigLess_r0_0
  cases h1 : tb (config_Covers_ai21ii_c0 x0 x1 x2 x3 x4 x5 x6 x7 x8 x9 x10 x11 x12 x13 x14 x15 x16 x17 x18 x19 x20 x21)
  · intro g0
    exact absurd g0 ft
  · cases h2 : tb (config_Covers_ai21ii_r0_0 x0 x1 x2 x3 x4 x5 x6 x7 x8 x9 x10 x11 x12 x13 x14 x15 x16 x17 x18 x19 x20 x21 x22)
    · intro g0
      exact w12 [.c (config_Covers_ai21ii_t0 x0 x1 x2 x3 x4 x5 x6 x7 x8 x9 x10 x11 x12 x13 x14 x15 x16 x17 x18 x19 x20 x21 x22 (tbE h1)), .b (notF (tbE h2)), .c (law07_alive_t0)] (by kernel_rfl)
    · cases h3 : tb (((remI .i64 (wi (IntKind.u16.wrap (x23))) 4) : Int) == 0)
      · cases h4 : tb (((remI .i64 (wi (IntKind.u16.wrap (x23))) 4) : Int) == 1)
        · cases h5 : tb (((remI .i64 (wi (IntKind.u16.wrap (x23))) 4) : Int) == 2)
          · cases h6 : tb (config_Right_ai21_c0 x0 x1 x2 x3 x4 x5 x6 x7 x8 x9 x10 x11 x12 x13 x14 x15 x16 x17 x18 x19 x20)
            · intro g0
              exact absurd g0 ft
            · cases h7 : tb ((config_Fault_ai21_L0_r0_0 (config_Fault_ai21_e0 x0 x1 x2 x3 x4 x5 x6 x7 x8 x9 x10 x11 x12 x13 x14 x15 x16 x17 x18 x19 x20) ⟨#[]⟩ 18 (config_Fault_ai21_e1 x0 x1 x2 x3 x4 x5 x6 x7 x8 x9 x10 x11 x12 x13 x14 x15 x16 x17 x18 x19 x20)).toList == (⟨#[]⟩ : ByteArray).toList)
              · intro g0
                exact w12 [.c (config_Covers_ai21ii_t0 x0 x1 x2 x3 x4 x5 x6 x7 x8 x9 x10 x11 x12 x13 x14 x15 x16 x17 x18 x19 x20 x21 x22 (tbE h1)), .b (notT (tbE h2)), .b (tbE h3), .b (tbE h4), .b (tbE h5), .c (law07_alive_t0), .k true, .c (config_Right_ai21_t0 x0 x1 x2 x3 x4 x5 x6 x7 x8 x9 x10 x11 x12 x13 x14 x15 x16 x17 x18 x19 x20 (tbE h6)), .b (tbE h7)] (by kernel_rfl)
              · cases h8 : tb (config_Fault_ai21_c0 x0 x1 x2 x3 x4 x5 x6 x7 x8 x9 x10 x11 x12 x13 x14 x15 x16 x17 x18 x19 x20)
                · intro g0
                  exact absurd g0 ft
                · cases h9 : tb (config_Covers_ai21ii_c0 x0 x1 x2 x3 x4 x5 x6 x7 x8 x9 x10 x11 x12 x13 x14 x15 x16 x17 x18 x19 x20 (mxI 0 (wi (x21 - (wi (IntKind.u16.wrap (x23)))))))
                  · intro g0
                    exact absurd g0 ft
                  · cases h10 : tb (config_Covers_ai21ii_r0_0 x0 x1 x2 x3 x4 x5 x6 x7 x8 x9 x10 x11 x12 x13 x14 x15 x16 x17 x18 x19 x20 (mxI 0 (wi (x21 - (wi (IntKind.u16.wrap (x23)))))) (mxI 0 (wi (x22 - (wi (IntKind.u16.wrap (x23)))))))
                    · intro g0
                      exact w12 [.c (config_Covers_ai21ii_t0 x0 x1 x2 x3 x4 x5 x6 x7 x8 x9 x10 x11 x12 x13 x14 x15 x16 x17 x18 x19 x20 x21 x22 (tbE h1)), .b (notT (tbE h2)), .b (tbE h3), .b (tbE h4), .b (tbE h5), .c (law07_alive_t0), .k true, .c (config_Right_ai21_t0 x0 x1 x2 x3 x4 x5 x6 x7 x8 x9 x10 x11 x12 x13 x14 x15 x16 x17 x18 x19 x20 (tbE h6)), .b (tbE h7), .c (config_Fault_ai21_t0 x0 x1 x2 x3 x4 x5 x6 x7 x8 x9 x10 x11 x12 x13 x14 x15 x16 x17 x18 x19 x20 (tbE h8)), .b (tbE h7), .c (config_Covers_ai21ii_t0 x0 x1 x2 x3 x4 x5 x6 x7 x8 x9 x10 x11 x12 x13 x14 x15 x16 x17 x18 x19 x20 (mxI 0 (wi (x21 - (wi (IntKind.u16.wrap (x23)))))) (mxI 0 (wi (x22 - (wi (IntKind.u16.wrap (x23)))))) (tbE h9)), .b (tbE h10)] (by kernel_rfl)
                    · cases h11 : tb (config_Covers_ai21ii_c0 x0 x1 x2 x3 x4 (mnI (wi (x5 + (wi (IntKind.u16.wrap (x23))))) 2147483647) x6 x7 x8 x9 x10 x11 x12 x13 x14 x15 x16 x17 x18 x19 x20 x21)
                      · intro g0
                        exact absurd g0 ft
                      · cases h12 : tb (config_Covers_ai21ii_r0_0 x0 x1 x2 x3 x4 (mnI (wi (x5 + (wi (IntKind.u16.wrap (x23))))) 2147483647) x6 x7 x8 x9 x10 x11 x12 x13 x14 x15 x16 x17 x18 x19 x20 x21 x22)
                        · intro g0
                          exact w12 [.c (config_Covers_ai21ii_t0 x0 x1 x2 x3 x4 x5 x6 x7 x8 x9 x10 x11 x12 x13 x14 x15 x16 x17 x18 x19 x20 x21 x22 (tbE h1)), .b (notT (tbE h2)), .b (tbE h3), .b (tbE h4), .b (tbE h5), .c (law07_alive_t0), .k true, .c (config_Right_ai21_t0 x0 x1 x2 x3 x4 x5 x6 x7 x8 x9 x10 x11 x12 x13 x14 x15 x16 x17 x18 x19 x20 (tbE h6)), .b (tbE h7), .c (config_Fault_ai21_t0 x0 x1 x2 x3 x4 x5 x6 x7 x8 x9 x10 x11 x12 x13 x14 x15 x16 x17 x18 x19 x20 (tbE h8)), .b (tbE h7), .c (config_Covers_ai21ii_t0 x0 x1 x2 x3 x4 x5 x6 x7 x8 x9 x10 x11 x12 x13 x14 x15 x16 x17 x18 x19 x20 (mxI 0 (wi (x21 - (wi (IntKind.u16.wrap (x23)))))) (mxI 0 (wi (x22 - (wi (IntKind.u16.wrap (x23)))))) (tbE h9)), .b (tbE h10), .c (config_Covers_ai21ii_t0 x0 x1 x2 x3 x4 (mnI (wi (x5 + (wi (IntKind.u16.wrap (x23))))) 2147483647) x6 x7 x8 x9 x10 x11 x12 x13 x14 x15 x16 x17 x18 x19 x20 x21 x22 (tbE h11)), .b (tbE h12)] (by kernel_rfl)
                        · cases h13 : tb (decide ((wi (x1 + x21)) ≤ (wi (x2 - x21))))
                          · intro g0
                            exact w12 [.c (config_Covers_ai21ii_t0 x0 x1 x2 x3 x4 x5 x6 x7 x8 x9 x10 x11 x12 x13 x14 x15 x16 x17 x18 x19 x20 x21 x22 (tbE h1)), .b (notT (tbE h2)), .b (tbE h3), .b (tbE h4), .b (tbE h5), .c (law07_alive_t0), .k true, .c (config_Right_ai21_t0 x0 x1 x2 x3 x4 x5 x6 x7 x8 x9 x10 x11 x12 x13 x14 x15 x16 x17 x18 x19 x20 (tbE h6)), .b (tbE h7), .c (config_Fault_ai21_t0 x0 x1 x2 x3 x4 x5 x6 x7 x8 x9 x10 x11 x12 x13 x14 x15 x16 x17 x18 x19 x20 (tbE h8)), .b (tbE h7), .c (config_Covers_ai21ii_t0 x0 x1 x2 x3 x4 x5 x6 x7 x8 x9 x10 x11 x12 x13 x14 x15 x16 x17 x18 x19 x20 (mxI 0 (wi (x21 - (wi (IntKind.u16.wrap (x23)))))) (mxI 0 (wi (x22 - (wi (IntKind.u16.wrap (x23)))))) (tbE h9)), .b (tbE h10), .c (config_Covers_ai21ii_t0 x0 x1 x2 x3 x4 (mnI (wi (x5 + (wi (IntKind.u16.wrap (x23))))) 2147483647) x6 x7 x8 x9 x10 x11 x12 x13 x14 x15 x16 x17 x18 x19 x20 x21 x22 (tbE h11)), .b (tbE h12), .b (tbE h13)] (by kernel_rfl)
                          · cases h14 : tb (config_Most_ai21i_c0 x0 x1 x2 x3 x4 x5 x6 x7 x8 x9 x10 x11 x12 x13 x14 x15 x16 x17 x18 x19 x20)
                            · intro g0
                              exact absurd g0 ft
                            · intro g0
                              exact w12 [.c (config_Covers_ai21ii_t0 x0 x1 x2 x3 x4 x5 x6 x7 x8 x9 x10 x11 x12 x13 x14 x15 x16 x17 x18 x19 x20 x21 x22 (tbE h1)), .b (notT (tbE h2)), .b (tbE h3), .b (tbE h4), .b (tbE h5), .c (law07_alive_t0), .k true, .c (config_Right_ai21_t0 x0 x1 x2 x3 x4 x5 x6 x7 x8 x9 x10 x11 x12 x13 x14 x15 x16 x17 x18 x19 x20 (tbE h6)), .b (tbE h7), .c (config_Fault_ai21_t0 x0 x1 x2 x3 x4 x5 x6 x7 x8 x9 x10 x11 x12 x13 x14 x15 x16 x17 x18 x19 x20 (tbE h8)), .b (tbE h7), .c (config_Covers_ai21ii_t0 x0 x1 x2 x3 x4 x5 x6 x7 x8 x9 x10 x11 x12 x13 x14 x15 x16 x17 x18 x19 x20 (mxI 0 (wi (x21 - (wi (IntKind.u16.wrap (x23)))))) (mxI 0 (wi (x22 - (wi (IntKind.u16.wrap (x23)))))) (tbE h9)), .b (tbE h10), .c (config_Covers_ai21ii_t0 x0 x1 x2 x3 x4 (mnI (wi (x5 + (wi (IntKind.u16.wrap (x23))))) 2147483647) x6 x7 x8 x9 x10 x11 x12 x13 x14 x15 x16 x17 x18 x19 x20 x21 x22 (tbE h11)), .b (tbE h12), .b (tbE h13), .c (config_Most_ai21i_t0 x0 x1 x2 x3 x4 x5 x6 x7 x8 x9 x10 x11 x12 x13 x14 x15 x16 x17 x18 x19 x20 x22 (tbE h14))] (by kernel_rfl)
          · cases h6 : tb (config_Right_ai21_c0 x0 x1 x2 x3 x4 x5 x6 x7 x8 x9 x10 x11 x12 x13 x14 x15 x16 x17 x18 x19 x20)
            · intro g0
              exact absurd g0 ft
            · cases h7 : tb ((config_Fault_ai21_L0_r0_0 (config_Fault_ai21_e0 x0 x1 x2 x3 x4 x5 x6 x7 x8 x9 x10 x11 x12 x13 x14 x15 x16 x17 x18 x19 x20) ⟨#[]⟩ 18 (config_Fault_ai21_e1 x0 x1 x2 x3 x4 x5 x6 x7 x8 x9 x10 x11 x12 x13 x14 x15 x16 x17 x18 x19 x20)).toList == (⟨#[]⟩ : ByteArray).toList)
              · intro g0
                exact w12 [.c (config_Covers_ai21ii_t0 x0 x1 x2 x3 x4 x5 x6 x7 x8 x9 x10 x11 x12 x13 x14 x15 x16 x17 x18 x19 x20 x21 x22 (tbE h1)), .b (notT (tbE h2)), .b (tbE h3), .b (tbE h4), .b (tbE h5), .c (law07_alive_t0), .k true, .c (config_Right_ai21_t0 x0 x1 x2 x3 x4 x5 x6 x7 x8 x9 x10 x11 x12 x13 x14 x15 x16 x17 x18 x19 x20 (tbE h6)), .b (tbE h7)] (by kernel_rfl)
              · cases h8 : tb (config_Fault_ai21_c0 x0 x1 x2 x3 x4 x5 x6 x7 x8 x9 x10 x11 x12 x13 x14 x15 x16 x17 x18 x19 x20)
                · intro g0
                  exact absurd g0 ft
                · cases h9 : tb (config_Covers_ai21ii_c0 x0 x1 x2 x3 x4 x5 x6 x7 x8 x9 x10 x11 x12 x13 x14 x15 x16 x17 x18 x19 x20 (mxI 0 (wi (x21 - (wi (IntKind.u16.wrap (x23)))))))
                  · intro g0
                    exact absurd g0 ft
                  · cases h10 : tb (config_Covers_ai21ii_r0_0 x0 x1 x2 x3 x4 x5 x6 x7 x8 x9 x10 x11 x12 x13 x14 x15 x16 x17 x18 x19 x20 (mxI 0 (wi (x21 - (wi (IntKind.u16.wrap (x23)))))) (mxI 0 (wi (x22 - (wi (IntKind.u16.wrap (x23)))))))
                    · intro g0
                      exact w12 [.c (config_Covers_ai21ii_t0 x0 x1 x2 x3 x4 x5 x6 x7 x8 x9 x10 x11 x12 x13 x14 x15 x16 x17 x18 x19 x20 x21 x22 (tbE h1)), .b (notT (tbE h2)), .b (tbE h3), .b (tbE h4), .b (tbE h5), .c (law07_alive_t0), .k true, .c (config_Right_ai21_t0 x0 x1 x2 x3 x4 x5 x6 x7 x8 x9 x10 x11 x12 x13 x14 x15 x16 x17 x18 x19 x20 (tbE h6)), .b (tbE h7), .c (config_Fault_ai21_t0 x0 x1 x2 x3 x4 x5 x6 x7 x8 x9 x10 x11 x12 x13 x14 x15 x16 x17 x18 x19 x20 (tbE h8)), .b (tbE h7), .c (config_Covers_ai21ii_t0 x0 x1 x2 x3 x4 x5 x6 x7 x8 x9 x10 x11 x12 x13 x14 x15 x16 x17 x18 x19 x20 (mxI 0 (wi (x21 - (wi (IntKind.u16.wrap (x23)))))) (mxI 0 (wi (x22 - (wi (IntKind.u16.wrap (x23)))))) (tbE h9)), .b (tbE h10)] (by kernel_rfl)
                    · cases h11 : tb (config_Covers_ai21ii_c0 x0 x1 x2 x3 x4 x5 x6 (mnI (wi (x7 + (wi (IntKind.u16.wrap (x23))))) 2147483647) x8 x9 x10 x11 x12 x13 x14 x15 x16 x17 x18 x19 x20 x21)
                      · intro g0
                        exact absurd g0 ft
                      · cases h12 : tb (config_Covers_ai21ii_r0_0 x0 x1 x2 x3 x4 x5 x6 (mnI (wi (x7 + (wi (IntKind.u16.wrap (x23))))) 2147483647) x8 x9 x10 x11 x12 x13 x14 x15 x16 x17 x18 x19 x20 x21 x22)
                        · intro g0
                          exact w12 [.c (config_Covers_ai21ii_t0 x0 x1 x2 x3 x4 x5 x6 x7 x8 x9 x10 x11 x12 x13 x14 x15 x16 x17 x18 x19 x20 x21 x22 (tbE h1)), .b (notT (tbE h2)), .b (tbE h3), .b (tbE h4), .b (tbE h5), .c (law07_alive_t0), .k true, .c (config_Right_ai21_t0 x0 x1 x2 x3 x4 x5 x6 x7 x8 x9 x10 x11 x12 x13 x14 x15 x16 x17 x18 x19 x20 (tbE h6)), .b (tbE h7), .c (config_Fault_ai21_t0 x0 x1 x2 x3 x4 x5 x6 x7 x8 x9 x10 x11 x12 x13 x14 x15 x16 x17 x18 x19 x20 (tbE h8)), .b (tbE h7), .c (config_Covers_ai21ii_t0 x0 x1 x2 x3 x4 x5 x6 x7 x8 x9 x10 x11 x12 x13 x14 x15 x16 x17 x18 x19 x20 (mxI 0 (wi (x21 - (wi (IntKind.u16.wrap (x23)))))) (mxI 0 (wi (x22 - (wi (IntKind.u16.wrap (x23)))))) (tbE h9)), .b (tbE h10), .c (config_Covers_ai21ii_t0 x0 x1 x2 x3 x4 x5 x6 (mnI (wi (x7 + (wi (IntKind.u16.wrap (x23))))) 2147483647) x8 x9 x10 x11 x12 x13 x14 x15 x16 x17 x18 x19 x20 x21 x22 (tbE h11)), .b (tbE h12)] (by kernel_rfl)
                        · cases h13 : tb (decide ((wi (x1 + x21)) ≤ (wi (x2 - x21))))
                          · intro g0
                            exact w12 [.c (config_Covers_ai21ii_t0 x0 x1 x2 x3 x4 x5 x6 x7 x8 x9 x10 x11 x12 x13 x14 x15 x16 x17 x18 x19 x20 x21 x22 (tbE h1)), .b (notT (tbE h2)), .b (tbE h3), .b (tbE h4), .b (tbE h5), .c (law07_alive_t0), .k true, .c (config_Right_ai21_t0 x0 x1 x2 x3 x4 x5 x6 x7 x8 x9 x10 x11 x12 x13 x14 x15 x16 x17 x18 x19 x20 (tbE h6)), .b (tbE h7), .c (config_Fault_ai21_t0 x0 x1 x2 x3 x4 x5 x6 x7 x8 x9 x10 x11 x12 x13 x14 x15 x16 x17 x18 x19 x20 (tbE h8)), .b (tbE h7), .c (config_Covers_ai21ii_t0 x0 x1 x2 x3 x4 x5 x6 x7 x8 x9 x10 x11 x12 x13 x14 x15 x16 x17 x18 x19 x20 (mxI 0 (wi (x21 - (wi (IntKind.u16.wrap (x23)))))) (mxI 0 (wi (x22 - (wi (IntKind.u16.wrap (x23)))))) (tbE h9)), .b (tbE h10), .c (config_Covers_ai21ii_t0 x0 x1 x2 x3 x4 x5 x6 (mnI (wi (x7 + (wi (IntKind.u16.wrap (x23))))) 2147483647) x8 x9 x10 x11 x12 x13 x14 x15 x16 x17 x18 x19 x20 x21 x22 (tbE h11)), .b (tbE h12), .b (tbE h13)] (by kernel_rfl)
                          · cases h14 : tb (config_Most_ai21i_c0 x0 x1 x2 x3 x4 x5 x6 x7 x8 x9 x10 x11 x12 x13 x14 x15 x16 x17 x18 x19 x20)
                            · intro g0
                              exact absurd g0 ft
                            · intro g0
                              exact w12 [.c (config_Covers_ai21ii_t0 x0 x1 x2 x3 x4 x5 x6 x7 x8 x9 x10 x11 x12 x13 x14 x15 x16 x17 x18 x19 x20 x21 x22 (tbE h1)), .b (notT (tbE h2)), .b (tbE h3), .b (tbE h4), .b (tbE h5), .c (law07_alive_t0), .k true, .c (config_Right_ai21_t0 x0 x1 x2 x3 x4 x5 x6 x7 x8 x9 x10 x11 x12 x13 x14 x15 x16 x17 x18 x19 x20 (tbE h6)), .b (tbE h7), .c (config_Fault_ai21_t0 x0 x1 x2 x3 x4 x5 x6 x7 x8 x9 x10 x11 x12 x13 x14 x15 x16 x17 x18 x19 x20 (tbE h8)), .b (tbE h7), .c (config_Covers_ai21ii_t0 x0 x1 x2 x3 x4 x5 x6 x7 x8 x9 x10 x11 x12 x13 x14 x15 x16 x17 x18 x19 x20 (mxI 0 (wi (x21 - (wi (IntKind.u16.wrap (x23)))))) (mxI 0 (wi (x22 - (wi (IntKind.u16.wrap (x23)))))) (tbE h9)), .b (tbE h10), .c (config_Covers_ai21ii_t0 x0 x1 x2 x3 x4 x5 x6 (mnI (wi (x7 + (wi (IntKind.u16.wrap (x23))))) 2147483647) x8 x9 x10 x11 x12 x13 x14 x15 x16 x17 x18 x19 x20 x21 x22 (tbE h11)), .b (tbE h12), .b (tbE h13), .c (config_Most_ai21i_t0 x0 x1 x2 x3 x4 x5 x6 x7 x8 x9 x10 x11 x12 x13 x14 x15 x16 x17 x18 x19 x20 x22 (tbE h14))] (by kernel_rfl)
        · cases h5 : tb (config_Right_ai21_c0 x0 x1 x2 x3 x4 x5 x6 x7 x8 x9 x10 x11 x12 x13 x14 x15 x16 x17 x18 x19 x20)
          · intro g0
            exact absurd g0 ft
          · cases h6 : tb ((config_Fault_ai21_L0_r0_0 (config_Fault_ai21_e0 x0 x1 x2 x3 x4 x5 x6 x7 x8 x9 x10 x11 x12 x13 x14 x15 x16 x17 x18 x19 x20) ⟨#[]⟩ 18 (config_Fault_ai21_e1 x0 x1 x2 x3 x4 x5 x6 x7 x8 x9 x10 x11 x12 x13 x14 x15 x16 x17 x18 x19 x20)).toList == (⟨#[]⟩ : ByteArray).toList)
            · intro g0
              exact w12 [.c (config_Covers_ai21ii_t0 x0 x1 x2 x3 x4 x5 x6 x7 x8 x9 x10 x11 x12 x13 x14 x15 x16 x17 x18 x19 x20 x21 x22 (tbE h1)), .b (notT (tbE h2)), .b (tbE h3), .b (tbE h4), .c (law07_alive_t0), .k true, .c (config_Right_ai21_t0 x0 x1 x2 x3 x4 x5 x6 x7 x8 x9 x10 x11 x12 x13 x14 x15 x16 x17 x18 x19 x20 (tbE h5)), .b (tbE h6)] (by kernel_rfl)
            · cases h7 : tb (config_Fault_ai21_c0 x0 x1 x2 x3 x4 x5 x6 x7 x8 x9 x10 x11 x12 x13 x14 x15 x16 x17 x18 x19 x20)
              · intro g0
                exact absurd g0 ft
              · cases h8 : tb (config_Covers_ai21ii_c0 x0 x1 x2 x3 x4 x5 x6 x7 x8 x9 x10 x11 x12 x13 x14 x15 x16 x17 x18 x19 x20 (mxI 0 (wi (x21 - (wi (IntKind.u16.wrap (x23)))))))
                · intro g0
                  exact absurd g0 ft
                · cases h9 : tb (config_Covers_ai21ii_r0_0 x0 x1 x2 x3 x4 x5 x6 x7 x8 x9 x10 x11 x12 x13 x14 x15 x16 x17 x18 x19 x20 (mxI 0 (wi (x21 - (wi (IntKind.u16.wrap (x23)))))) (mxI 0 (wi (x22 - (wi (IntKind.u16.wrap (x23)))))))
                  · intro g0
                    exact w12 [.c (config_Covers_ai21ii_t0 x0 x1 x2 x3 x4 x5 x6 x7 x8 x9 x10 x11 x12 x13 x14 x15 x16 x17 x18 x19 x20 x21 x22 (tbE h1)), .b (notT (tbE h2)), .b (tbE h3), .b (tbE h4), .c (law07_alive_t0), .k true, .c (config_Right_ai21_t0 x0 x1 x2 x3 x4 x5 x6 x7 x8 x9 x10 x11 x12 x13 x14 x15 x16 x17 x18 x19 x20 (tbE h5)), .b (tbE h6), .c (config_Fault_ai21_t0 x0 x1 x2 x3 x4 x5 x6 x7 x8 x9 x10 x11 x12 x13 x14 x15 x16 x17 x18 x19 x20 (tbE h7)), .b (tbE h6), .c (config_Covers_ai21ii_t0 x0 x1 x2 x3 x4 x5 x6 x7 x8 x9 x10 x11 x12 x13 x14 x15 x16 x17 x18 x19 x20 (mxI 0 (wi (x21 - (wi (IntKind.u16.wrap (x23)))))) (mxI 0 (wi (x22 - (wi (IntKind.u16.wrap (x23)))))) (tbE h8)), .b (tbE h9)] (by kernel_rfl)
                  · cases h10 : tb (config_Covers_ai21ii_c0 x0 x1 x2 x3 (mnI (wi (x4 + (wi (IntKind.u16.wrap (x23))))) 2147483647) x5 x6 x7 x8 x9 x10 x11 x12 x13 x14 x15 x16 x17 x18 x19 x20 x21)
                    · intro g0
                      exact absurd g0 ft
                    · cases h11 : tb (config_Covers_ai21ii_r0_0 x0 x1 x2 x3 (mnI (wi (x4 + (wi (IntKind.u16.wrap (x23))))) 2147483647) x5 x6 x7 x8 x9 x10 x11 x12 x13 x14 x15 x16 x17 x18 x19 x20 x21 x22)
                      · intro g0
                        exact w12 [.c (config_Covers_ai21ii_t0 x0 x1 x2 x3 x4 x5 x6 x7 x8 x9 x10 x11 x12 x13 x14 x15 x16 x17 x18 x19 x20 x21 x22 (tbE h1)), .b (notT (tbE h2)), .b (tbE h3), .b (tbE h4), .c (law07_alive_t0), .k true, .c (config_Right_ai21_t0 x0 x1 x2 x3 x4 x5 x6 x7 x8 x9 x10 x11 x12 x13 x14 x15 x16 x17 x18 x19 x20 (tbE h5)), .b (tbE h6), .c (config_Fault_ai21_t0 x0 x1 x2 x3 x4 x5 x6 x7 x8 x9 x10 x11 x12 x13 x14 x15 x16 x17 x18 x19 x20 (tbE h7)), .b (tbE h6), .c (config_Covers_ai21ii_t0 x0 x1 x2 x3 x4 x5 x6 x7 x8 x9 x10 x11 x12 x13 x14 x15 x16 x17 x18 x19 x20 (mxI 0 (wi (x21 - (wi (IntKind.u16.wrap (x23)))))) (mxI 0 (wi (x22 - (wi (IntKind.u16.wrap (x23)))))) (tbE h8)), .b (tbE h9), .c (config_Covers_ai21ii_t0 x0 x1 x2 x3 (mnI (wi (x4 + (wi (IntKind.u16.wrap (x23))))) 2147483647) x5 x6 x7 x8 x9 x10 x11 x12 x13 x14 x15 x16 x17 x18 x19 x20 x21 x22 (tbE h10)), .b (tbE h11)] (by kernel_rfl)
                      · cases h12 : tb (decide ((wi (x1 + x21)) ≤ (wi (x2 - x21))))
                        · intro g0
                          exact w12 [.c (config_Covers_ai21ii_t0 x0 x1 x2 x3 x4 x5 x6 x7 x8 x9 x10 x11 x12 x13 x14 x15 x16 x17 x18 x19 x20 x21 x22 (tbE h1)), .b (notT (tbE h2)), .b (tbE h3), .b (tbE h4), .c (law07_alive_t0), .k true, .c (config_Right_ai21_t0 x0 x1 x2 x3 x4 x5 x6 x7 x8 x9 x10 x11 x12 x13 x14 x15 x16 x17 x18 x19 x20 (tbE h5)), .b (tbE h6), .c (config_Fault_ai21_t0 x0 x1 x2 x3 x4 x5 x6 x7 x8 x9 x10 x11 x12 x13 x14 x15 x16 x17 x18 x19 x20 (tbE h7)), .b (tbE h6), .c (config_Covers_ai21ii_t0 x0 x1 x2 x3 x4 x5 x6 x7 x8 x9 x10 x11 x12 x13 x14 x15 x16 x17 x18 x19 x20 (mxI 0 (wi (x21 - (wi (IntKind.u16.wrap (x23)))))) (mxI 0 (wi (x22 - (wi (IntKind.u16.wrap (x23)))))) (tbE h8)), .b (tbE h9), .c (config_Covers_ai21ii_t0 x0 x1 x2 x3 (mnI (wi (x4 + (wi (IntKind.u16.wrap (x23))))) 2147483647) x5 x6 x7 x8 x9 x10 x11 x12 x13 x14 x15 x16 x17 x18 x19 x20 x21 x22 (tbE h10)), .b (tbE h11), .b (tbE h12)] (by kernel_rfl)
                        · cases h13 : tb (config_Most_ai21i_c0 x0 x1 x2 x3 x4 x5 x6 x7 x8 x9 x10 x11 x12 x13 x14 x15 x16 x17 x18 x19 x20)
                          · intro g0
                            exact absurd g0 ft
                          · intro g0
                            exact w12 [.c (config_Covers_ai21ii_t0 x0 x1 x2 x3 x4 x5 x6 x7 x8 x9 x10 x11 x12 x13 x14 x15 x16 x17 x18 x19 x20 x21 x22 (tbE h1)), .b (notT (tbE h2)), .b (tbE h3), .b (tbE h4), .c (law07_alive_t0), .k true, .c (config_Right_ai21_t0 x0 x1 x2 x3 x4 x5 x6 x7 x8 x9 x10 x11 x12 x13 x14 x15 x16 x17 x18 x19 x20 (tbE h5)), .b (tbE h6), .c (config_Fault_ai21_t0 x0 x1 x2 x3 x4 x5 x6 x7 x8 x9 x10 x11 x12 x13 x14 x15 x16 x17 x18 x19 x20 (tbE h7)), .b (tbE h6), .c (config_Covers_ai21ii_t0 x0 x1 x2 x3 x4 x5 x6 x7 x8 x9 x10 x11 x12 x13 x14 x15 x16 x17 x18 x19 x20 (mxI 0 (wi (x21 - (wi (IntKind.u16.wrap (x23)))))) (mxI 0 (wi (x22 - (wi (IntKind.u16.wrap (x23)))))) (tbE h8)), .b (tbE h9), .c (config_Covers_ai21ii_t0 x0 x1 x2 x3 (mnI (wi (x4 + (wi (IntKind.u16.wrap (x23))))) 2147483647) x5 x6 x7 x8 x9 x10 x11 x12 x13 x14 x15 x16 x17 x18 x19 x20 x21 x22 (tbE h10)), .b (tbE h11), .b (tbE h12), .c (config_Most_ai21i_t0 x0 x1 x2 x3 x4 x5 x6 x7 x8 x9 x10 x11 x12 x13 x14 x15 x16 x17 x18 x19 x20 x22 (tbE h13))] (by kernel_rfl)
      · cases h4 : tb (config_Right_ai21_c0 x0 x1 x2 x3 x4 x5 x6 x7 x8 x9 x10 x11 x12 x13 x14 x15 x16 x17 x18 x19 x20)
        · intro g0
          exact absurd g0 ft
        · cases h5 : tb ((config_Fault_ai21_L0_r0_0 (config_Fault_ai21_e0 x0 x1 x2 x3 x4 x5 x6 x7 x8 x9 x10 x11 x12 x13 x14 x15 x16 x17 x18 x19 x20) ⟨#[]⟩ 18 (config_Fault_ai21_e1 x0 x1 x2 x3 x4 x5 x6 x7 x8 x9 x10 x11 x12 x13 x14 x15 x16 x17 x18 x19 x20)).toList == (⟨#[]⟩ : ByteArray).toList)
          · intro g0
            exact w12 [.c (config_Covers_ai21ii_t0 x0 x1 x2 x3 x4 x5 x6 x7 x8 x9 x10 x11 x12 x13 x14 x15 x16 x17 x18 x19 x20 x21 x22 (tbE h1)), .b (notT (tbE h2)), .b (tbE h3), .c (law07_alive_t0), .k true, .c (config_Right_ai21_t0 x0 x1 x2 x3 x4 x5 x6 x7 x8 x9 x10 x11 x12 x13 x14 x15 x16 x17 x18 x19 x20 (tbE h4)), .b (tbE h5)] (by kernel_rfl)
          · cases h6 : tb (config_Fault_ai21_c0 x0 x1 x2 x3 x4 x5 x6 x7 x8 x9 x10 x11 x12 x13 x14 x15 x16 x17 x18 x19 x20)
            · intro g0
              exact absurd g0 ft
            · cases h7 : tb (config_Covers_ai21ii_c0 x0 x1 x2 x3 x4 x5 x6 x7 x8 x9 x10 x11 x12 x13 x14 x15 x16 x17 x18 x19 x20 (mxI 0 (wi (x21 - (wi (IntKind.u16.wrap (x23)))))))
              · intro g0
                exact absurd g0 ft
              · cases h8 : tb (config_Covers_ai21ii_r0_0 x0 x1 x2 x3 x4 x5 x6 x7 x8 x9 x10 x11 x12 x13 x14 x15 x16 x17 x18 x19 x20 (mxI 0 (wi (x21 - (wi (IntKind.u16.wrap (x23)))))) (mxI 0 (wi (x22 - (wi (IntKind.u16.wrap (x23)))))))
                · intro g0
                  exact w12 [.c (config_Covers_ai21ii_t0 x0 x1 x2 x3 x4 x5 x6 x7 x8 x9 x10 x11 x12 x13 x14 x15 x16 x17 x18 x19 x20 x21 x22 (tbE h1)), .b (notT (tbE h2)), .b (tbE h3), .c (law07_alive_t0), .k true, .c (config_Right_ai21_t0 x0 x1 x2 x3 x4 x5 x6 x7 x8 x9 x10 x11 x12 x13 x14 x15 x16 x17 x18 x19 x20 (tbE h4)), .b (tbE h5), .c (config_Fault_ai21_t0 x0 x1 x2 x3 x4 x5 x6 x7 x8 x9 x10 x11 x12 x13 x14 x15 x16 x17 x18 x19 x20 (tbE h6)), .b (tbE h5), .c (config_Covers_ai21ii_t0 x0 x1 x2 x3 x4 x5 x6 x7 x8 x9 x10 x11 x12 x13 x14 x15 x16 x17 x18 x19 x20 (mxI 0 (wi (x21 - (wi (IntKind.u16.wrap (x23)))))) (mxI 0 (wi (x22 - (wi (IntKind.u16.wrap (x23)))))) (tbE h7)), .b (tbE h8)] (by kernel_rfl)
                · cases h9 : tb (config_Covers_ai21ii_c0 x0 x1 x2 x3 x4 x5 x6 x7 x8 (mnI (wi (x9 + (wi (IntKind.u16.wrap (x23))))) 2147483647) x10 x11 x12 x13 x14 x15 x16 x17 x18 x19 x20 x21)
                  · intro g0
                    exact absurd g0 ft
                  · cases h10 : tb (config_Covers_ai21ii_r0_0 x0 x1 x2 x3 x4 x5 x6 x7 x8 (mnI (wi (x9 + (wi (IntKind.u16.wrap (x23))))) 2147483647) x10 x11 x12 x13 x14 x15 x16 x17 x18 x19 x20 x21 x22)
                    · intro g0
                      exact w12 [.c (config_Covers_ai21ii_t0 x0 x1 x2 x3 x4 x5 x6 x7 x8 x9 x10 x11 x12 x13 x14 x15 x16 x17 x18 x19 x20 x21 x22 (tbE h1)), .b (notT (tbE h2)), .b (tbE h3), .c (law07_alive_t0), .k true, .c (config_Right_ai21_t0 x0 x1 x2 x3 x4 x5 x6 x7 x8 x9 x10 x11 x12 x13 x14 x15 x16 x17 x18 x19 x20 (tbE h4)), .b (tbE h5), .c (config_Fault_ai21_t0 x0 x1 x2 x3 x4 x5 x6 x7 x8 x9 x10 x11 x12 x13 x14 x15 x16 x17 x18 x19 x20 (tbE h6)), .b (tbE h5), .c (config_Covers_ai21ii_t0 x0 x1 x2 x3 x4 x5 x6 x7 x8 x9 x10 x11 x12 x13 x14 x15 x16 x17 x18 x19 x20 (mxI 0 (wi (x21 - (wi (IntKind.u16.wrap (x23)))))) (mxI 0 (wi (x22 - (wi (IntKind.u16.wrap (x23)))))) (tbE h7)), .b (tbE h8), .c (config_Covers_ai21ii_t0 x0 x1 x2 x3 x4 x5 x6 x7 x8 (mnI (wi (x9 + (wi (IntKind.u16.wrap (x23))))) 2147483647) x10 x11 x12 x13 x14 x15 x16 x17 x18 x19 x20 x21 x22 (tbE h9)), .b (tbE h10)] (by kernel_rfl)
                    · cases h11 : tb (decide ((wi (x1 + x21)) ≤ (wi (x2 - x21))))
                      · intro g0
                        exact w12 [.c (config_Covers_ai21ii_t0 x0 x1 x2 x3 x4 x5 x6 x7 x8 x9 x10 x11 x12 x13 x14 x15 x16 x17 x18 x19 x20 x21 x22 (tbE h1)), .b (notT (tbE h2)), .b (tbE h3), .c (law07_alive_t0), .k true, .c (config_Right_ai21_t0 x0 x1 x2 x3 x4 x5 x6 x7 x8 x9 x10 x11 x12 x13 x14 x15 x16 x17 x18 x19 x20 (tbE h4)), .b (tbE h5), .c (config_Fault_ai21_t0 x0 x1 x2 x3 x4 x5 x6 x7 x8 x9 x10 x11 x12 x13 x14 x15 x16 x17 x18 x19 x20 (tbE h6)), .b (tbE h5), .c (config_Covers_ai21ii_t0 x0 x1 x2 x3 x4 x5 x6 x7 x8 x9 x10 x11 x12 x13 x14 x15 x16 x17 x18 x19 x20 (mxI 0 (wi (x21 - (wi (IntKind.u16.wrap (x23)))))) (mxI 0 (wi (x22 - (wi (IntKind.u16.wrap (x23)))))) (tbE h7)), .b (tbE h8), .c (config_Covers_ai21ii_t0 x0 x1 x2 x3 x4 x5 x6 x7 x8 (mnI (wi (x9 + (wi (IntKind.u16.wrap (x23))))) 2147483647) x10 x11 x12 x13 x14 x15 x16 x17 x18 x19 x20 x21 x22 (tbE h9)), .b (tbE h10), .b (tbE h11)] (by kernel_rfl)
                      · cases h12 : tb (config_Most_ai21i_c0 x0 x1 x2 x3 x4 x5 x6 x7 x8 x9 x10 x11 x12 x13 x14 x15 x16 x17 x18 x19 x20)
                        · intro g0
                          exact absurd g0 ft
                        · intro g0
                          exact w12 [.c (config_Covers_ai21ii_t0 x0 x1 x2 x3 x4 x5 x6 x7 x8 x9 x10 x11 x12 x13 x14 x15 x16 x17 x18 x19 x20 x21 x22 (tbE h1)), .b (notT (tbE h2)), .b (tbE h3), .c (law07_alive_t0), .k true, .c (config_Right_ai21_t0 x0 x1 x2 x3 x4 x5 x6 x7 x8 x9 x10 x11 x12 x13 x14 x15 x16 x17 x18 x19 x20 (tbE h4)), .b (tbE h5), .c (config_Fault_ai21_t0 x0 x1 x2 x3 x4 x5 x6 x7 x8 x9 x10 x11 x12 x13 x14 x15 x16 x17 x18 x19 x20 (tbE h6)), .b (tbE h5), .c (config_Covers_ai21ii_t0 x0 x1 x2 x3 x4 x5 x6 x7 x8 x9 x10 x11 x12 x13 x14 x15 x16 x17 x18 x19 x20 (mxI 0 (wi (x21 - (wi (IntKind.u16.wrap (x23)))))) (mxI 0 (wi (x22 - (wi (IntKind.u16.wrap (x23)))))) (tbE h7)), .b (tbE h8), .c (config_Covers_ai21ii_t0 x0 x1 x2 x3 x4 x5 x6 x7 x8 (mnI (wi (x9 + (wi (IntKind.u16.wrap (x23))))) 2147483647) x10 x11 x12 x13 x14 x15 x16 x17 x18 x19 x20 x21 x22 (tbE h9)), .b (tbE h10), .b (tbE h11), .c (config_Most_ai21i_t0 x0 x1 x2 x3 x4 x5 x6 x7 x8 x9 x10 x11 x12 x13 x14 x15 x16 x17 x18 x19 x20 x22 (tbE h12))] (by kernel_rfl)

end Go.Proofs.Ytgalchmjpfmemaa.Den
