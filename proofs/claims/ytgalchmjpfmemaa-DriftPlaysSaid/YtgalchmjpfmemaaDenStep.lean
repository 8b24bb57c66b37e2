/- Each instruction, whole. -/
import Derived.Test.YtgalchmjpfmemaaDenCall2
namespace Go.Proofs.Ytgalchmjpfmemaa.Den
open Go
set_option linter.unusedVariables false
set_option linter.unusedSimpArgs false

variable {P : Program}

theorem guard_int (op : BinOp) (t : TypeId) (xo yo : Operand) (k k' : IntKind) (a b : Int) (w : World) : (eqGuard op t xo yo (.int k a) (.int k' b)).run P w = .ok () w := by
  cases op <;> simp [eqGuard]

theorem good_call {E : Env} {call : CallT} (hcall : CallOK P E call) {c : Cx} (hs : PSim P c) (hg : GlOK E c) {f : V} {fv : Value} {args : List V} {vals : Array Value} (hf : RelV c f fv) (ha : RelVs c args vals.toList) {v : V} {m' : Mem} (h : callOf call f args c.m = some (v, m')) :
    Good P c m' v (do let d ← Deferred.ofValue fv vals; invoke d.target d.args) := by
  cases f with
  | fn g first captured =>
    cases g with
    | func f =>
      simp only [callOf] at h
      obtain ⟨⟨r, m1⟩, hr, h⟩ := Option.map_eq_some_iff.1 h
      cases h
      simp only [RelV] at hf
      obtain ⟨fi, ca, rfl, h1, h2⟩ := hf
      obtain ⟨⟨fn, e1, e2, e3⟩, hc⟩ := callV_ok hcall hs hg (vals := fi ++ vals.toList ++ ca) ((h1.append ha).append h2) hr
      have hbn : fn.body.isNone = false := by cases hb : fn.body <;> simp_all
      refine .inr ⟨f, ⟨fi ++ vals.toList ++ ca⟩, ?_, Calls.mono hc ?_⟩
      · simp only [Deferred.ofValue, Sem.run_bind, Sem.run_pure, Result.andThen_ok, invoke, callFunc, run_program, e1]
        simp only [e2, Bool.false_eq_true, if_false, hbn, Sem.run_pure]
        congr 2
        apply Array.ext'
        simp
      · rintro e w' ⟨rv, c', rfl, rfl, rfl, g1, g2⟩
        exact ⟨_, c', rfl, rfl, rfl, g1, pack_rel g2⟩
    | _ => simp [callOf] at h
  | _ => simp [callOf] at h

theorem opt_map (x : Option Operand) (ρ : Operand → Value) : x.map ρ = (match x with | none => none | some y => some (ρ y)) := by cases x <;> rfl

theorem doI_good {E : Env} {call : CallT} (hcall : CallOK P E call) {c : Cx} (hs : PSim P c) (hg : GlOK E c) {t : Nat → V} {a : Act} (ht : TRel c t a) {o : Oper} {i : I} (h : cOp P o = some i) {v : V} {m' : Mem} (hd : doI E call i t c.m = some (v, m')) :
    Good P c m' v (execOp a.eval o) := by
  obtain ⟨dst, op, ty, pos, after, gd⟩ := o
  cases op with
  | move x =>
    simp only [cOp] at h
    obtain ⟨y, hy, rfl⟩ := Option.map_eq_some_iff.1 h
    simp only [doI] at hd; cases hd
    exact Good.val hs rfl (ev_rel ht hg hy)
  | assign x =>
    simp only [cOp] at h
    obtain ⟨y, hy, rfl⟩ := Option.map_eq_some_iff.1 h
    simp only [doI] at hd; cases hd
    exact Good.val hs rfl (ev_rel ht hg hy)
  | pick c0 x y =>
    simp only [cOp] at h
    cases h1 : cO c0 <;> cases h2 : cO x <;> cases h3 : cO y <;> simp [h1, h2, h3] at h
    subst h
    have r1 := ev_rel ht hg h1
    have r2 := ev_rel ht hg h2
    have r3 := ev_rel ht hg h3
    simp only [doI] at hd
    split at hd
    · rename_i e; cases hd
      rw [e] at r1; simp only [RelV, RelD] at r1
      exact Good.val hs (by simp [execOp, r1, asBool]) r2
    · rename_i e; cases hd
      rw [e] at r1; simp only [RelV, RelD] at r1
      exact Good.val hs (by simp [execOp, r1, asBool]) r3
    · cases hd
  | alloc e =>
    simp only [cOp] at h
    obtain ⟨z, hz, h⟩ := Option.bind_eq_some_iff.1 h
    split at h
    case isFalse => cases h
    rename_i hpos
    cases h
    simp only [doI] at hd
    obtain ⟨b, hb, hd⟩ := Option.map_eq_some_iff.1 hd
    cases hd
    exact good_alloc hs hz hpos hb
  | box e x =>
    simp only [cOp] at h
    cases h1 : cO x <;> cases h2 : sizeOfT P e <;> simp [h1, h2] at h
    obtain ⟨hpos, rfl⟩ := h
    simp only [doI] at hd
    split at hd
    case isFalse => cases hd
    rename_i hc
    obtain ⟨b, hb, hd⟩ := Option.map_eq_some_iff.1 hd
    cases hd
    exact good_box hs (ev_rel ht hg h1) hc.2 hc.1 hpos hb
  | build t parts =>
    obtain ⟨cs, rfl, rfl, hi⟩ : ∃ cs, v = .agg cs ∧ m' = c.m ∧ ∃ z qs, i = .build z qs ∧ fillV E _ qs (z.map V.d) = some cs := by
      have h' := h
      simp only [cOp] at h'
      split at h'
      · split at h'
        · obtain ⟨l, hl, rfl⟩ := Option.map_eq_some_iff.1 h'
          simp only [doI] at hd
          obtain ⟨cs, hcs, hd⟩ := Option.map_eq_some_iff.1 hd
          cases hd
          exact ⟨cs, rfl, rfl, _, _, rfl, hcs⟩
        · cases h'
      · obtain ⟨s, hs', h'⟩ := Option.bind_eq_some_iff.1 h'
        obtain ⟨l, hl, rfl⟩ := Option.map_eq_some_iff.1 h'
        simp only [doI] at hd
        obtain ⟨cs, hcs, hd⟩ := Option.map_eq_some_iff.1 hd
        cases hd
        exact ⟨cs, rfl, rfl, _, _, rfl, hcs⟩
      · cases h'
    obtain ⟨u, h1, h2⟩ := build_ok ht hg (i := i) (by simpa only [cOp] using h) hi
    exact Good.val hs (run_v h1) h2
  | buildSlice ty len parts =>
    simp only [cOp] at h
    split at h
    case h_2 => cases h
    rename_i e hu
    split at h
    case h_2 => cases h
    rename_i s z l hsz hz hl
    split at h
    case isFalse => cases h
    rename_i hc
    cases h
    simp only [Bool.and_eq_true, decide_eq_true_eq, beq_iff_eq] at hc
    simp only [doI] at hd
    obtain ⟨rows, hrows, hd⟩ := Option.bind_eq_some_iff.1 hd
    obtain ⟨b, hb, hd⟩ := Option.map_eq_some_iff.1 hd
    cases hd
    exact good_bslice hs ht hg hu hsz hz hc.2 hl hc.1.1 hc.1.2 hrows hb
  | load ty x =>
    simp only [cOp] at h
    cases h1 : aggOf P ty <;> cases h2 : sizeOfT P ty <;> cases h3 : cO x <;> simp [h1, h2, h3] at h
    subst h
    simp only [doI] at hd
    obtain ⟨v', hv, hd⟩ := Option.map_eq_some_iff.1 hd
    cases hd
    obtain ⟨u, g1, g2⟩ := load_ok hs h1 h2 (ev_rel ht hg h3) hv
    exact Good.val hs (run_v g1) g2
  | store ty x y =>
    simp only [cOp] at h
    cases h1 : sizeOfT P ty <;> cases h2 : cO x <;> cases h3 : cO y <;> simp [h1, h2, h3] at h
    subst h
    simp only [doI] at hd
    obtain ⟨m1, hm, hd⟩ := Option.map_eq_some_iff.1 hd
    cases hd
    exact good_store hs h1 (ev_rel ht hg h2) (ev_rel ht hg h3) hm
  | nilCheck x =>
    simp only [cOp] at h
    obtain ⟨y, hy, rfl⟩ := Option.map_eq_some_iff.1 h
    have r := ev_rel ht hg hy
    simp only [doI] at hd
    obtain ⟨v', hv, hd⟩ := Option.map_eq_some_iff.1 hd
    cases hd
    have e : v = ev E t y := by
      unfold nilckV at hv; split at hv <;> simp_all
    rw [e]
    refine Good.val hs (u := a.eval x) ?_ r
    simp only [execOp]
    generalize ev E t y = z at *
    unfold nilckV at hv
    split at hv
    · simp only [RelV] at r; obtain ⟨_, ad, _, _, q, _⟩ := r; rw [q]; rfl
    · simp only [RelV, RelD] at r; obtain ⟨b, o, q, _⟩ := r; rw [q]; rfl
    · simp only [RelV] at r; obtain ⟨_, _, q, _⟩ := r; rw [q]; rfl
    · simp only [RelV] at r; obtain ⟨_, _, _, _, _, q⟩ := r; rw [q]; rfl
    · cases hv
  | binOp op ty x y ty2 =>
    simp only [cOp] at h
    cases h1 : cO x <;> cases h2 : cO y <;> simp [h1, h2] at h
    rename_i xo yo
    have r1 := ev_rel ht hg h1
    have r2 := ev_rel ht hg h2
    unfold cBin at h
    have bin : i = .bin op xo yo → Good P c m' v (execOp a.eval ⟨dst, .binOp op ty x y ty2, ‹TypeId›, pos, after, gd⟩) := by
      rintro rfl
      simp only [doI] at hd
      obtain ⟨v', hv, hd⟩ := Option.map_eq_some_iff.1 hd
      cases hd
      obtain ⟨u, g1, g2⟩ := bin_ok (P := P) r1 r2 hv ty x y
      exact Good.val hs (run_v g1) g2
    have beq : ∀ k neg, (op = .eql ∧ neg = false ∨ op = .neq ∧ neg = true) → i = .beq k neg xo yo →
        (∀ b, eqV k (ev E t xo) (ev E t yo) = some b → ((∃ p q, a.eval x = .pointer p ∧ a.eval y = .pointer q) ∨ (∃ p n k q l j, a.eval x = .slice p n k ∧ a.eval y = .slice q l j) ∨ (∃ p q, a.eval x = .bool p ∧ a.eval y = .bool q)) ∧ (Op.equal ty (a.eval x) (a.eval y)).run P c.w = .ok b c.w) →
        Good P c m' v (execOp a.eval ⟨dst, .binOp op ty x y ty2, ‹TypeId›, pos, after, gd⟩) := by
      rintro k neg hop rfl hk
      simp only [doI] at hd
      obtain ⟨b, hb, hd⟩ := Option.map_eq_some_iff.1 hd
      cases hd
      obtain ⟨s1, s2⟩ := hk b hb
      obtain ⟨q1, q2⟩ := beq_run (P := P) (xo := x) (yo := y) s1 s2
      rcases hop with ⟨rfl, rfl⟩ | ⟨rfl, rfl⟩
      · exact Good.val hs (u := .bool (false != b)) (run_v q1) (by simp only [RelV, RelD])
      · exact Good.val hs (u := .bool (true != b)) (run_v q2) (by simp only [RelV, RelD])
    split at h
    · cases h; exact bin rfl
    · cases h; exact bin rfl
    · rename_i hu
      split at h <;> cases h
      · exact beq _ _ (.inl ⟨rfl, rfl⟩) rfl fun b hb => by obtain ⟨q1, q2⟩ := eq_bool r1 r2 hb hu; exact ⟨.inr (.inr q1), q2⟩
      · exact beq _ _ (.inr ⟨rfl, rfl⟩) rfl fun b hb => by obtain ⟨q1, q2⟩ := eq_bool r1 r2 hb hu; exact ⟨.inr (.inr q1), q2⟩
    · rename_i hu
      split at h <;> cases h
      · exact beq _ _ (.inl ⟨rfl, rfl⟩) rfl fun b hb => by obtain ⟨q1, q2⟩ := eq_ptr r1 r2 hb hu; exact ⟨.inl q1, q2⟩
      · exact beq _ _ (.inr ⟨rfl, rfl⟩) rfl fun b hb => by obtain ⟨q1, q2⟩ := eq_ptr r1 r2 hb hu; exact ⟨.inl q1, q2⟩
    · rename_i hu
      split at h <;> cases h
      · exact beq _ _ (.inl ⟨rfl, rfl⟩) rfl fun b hb => by obtain ⟨q1, q2⟩ := eq_slc r1 r2 hb hu; exact ⟨.inr (.inl q1), q2⟩
      · exact beq _ _ (.inr ⟨rfl, rfl⟩) rfl fun b hb => by obtain ⟨q1, q2⟩ := eq_slc r1 r2 hb hu; exact ⟨.inr (.inl q1), q2⟩
    · simp at h
    · simp at h
    · cases h
  | unOp op ty x =>
    simp only [cOp] at h
    obtain ⟨y, hy, rfl⟩ := Option.map_eq_some_iff.1 h
    simp only [doI] at hd
    obtain ⟨v', hv, hd⟩ := Option.map_eq_some_iff.1 hd
    cases hd
    obtain ⟨u, g1, g2⟩ := un_ok (P := P) (ev_rel ht hg hy) hv
    exact Good.val hs (run_v g1) g2
  | convert s d x =>
    simp only [cOp] at h
    split at h
    · rename_i k0 k y h1 h2 hy
      cases h
      have r := ev_rel ht hg hy
      simp only [doI] at hd
      split at hd
      case h_2 => cases hd
      rename_i j n e
      cases hd
      rw [e] at r; simp only [RelV, RelD] at r
      exact Good.val hs (run_v (by rw [r]; exact conv_int h1 h2 c.w)) (by simp only [RelV, RelD])
    · rename_i y h1 h2 hy
      cases h
      have r := ev_rel ht hg hy
      simp only [doI] at hd
      split at hd
      case h_2 => cases hd
      rename_i x e
      cases hd
      rw [e] at r; simp only [RelV, RelD] at r
      exact Good.val hs (run_v (by rw [r]; exact conv_same h1 h2 c.w)) (by simp only [RelV, RelD])
    · rename_i e y h1 h2 hy
      split at h
      case h_2 => cases h
      rename_i h3 h4
      cases h
      have r := ev_rel ht hg hy
      simp only [doI] at hd
      split at hd
      case h_2 => cases hd
      rename_i x ee
      split at hd
      case isFalse => cases hd
      rename_i hx
      cases hd
      rw [ee] at r; simp only [RelV, RelD] at r
      simp only [execOp, r]
      exact good_ofStr hs h1 h2 h3 hx
    · rename_i e y h1 h2 hy
      split at h
      case h_2 => cases h
      rename_i h3 h4
      cases h
      have r := ev_rel ht hg hy
      simp only [doI] at hd
      split at hd
      case isFalse => cases hd
      rename_i hok
      obtain ⟨rows, hrows, hd⟩ := Option.bind_eq_some_iff.1 hd
      obtain ⟨l, hl, hd⟩ := Option.map_eq_some_iff.1 hd
      cases hd
      exact Good.val hs (run_v (toStr_ok hs h1 h2 h3 r hrows hok hl)) (by simp only [RelV, RelD])
    · rename_i e0 e y h1 h2 hy
      split at h
      case isFalse => cases h
      rename_i hsd
      split at h
      case h_2 => cases h
      rename_i h3
      cases h
      subst hsd
      have r := ev_rel ht hg hy
      simp only [doI] at hd
      split at hd
      case h_2 => cases hd
      rename_i id n off len ee
      split at hd
      case h_2 => cases hd
      rename_i el z rows hb
      split at hd
      case isFalse => cases hd
      rename_i hn
      cases hd
      rw [ee] at r
      exact good_mark hs h2 h3 r hb hn
    · cases h
  | sliceToArrayPointer ty x =>
    simp only [cOp] at h
    split at h
    case h_2 => cases h
    rename_i n e y hu hy
    obtain ⟨s, hsz, rfl⟩ := Option.map_eq_some_iff.1 h
    simp only [doI] at hd
    split at hd
    case isFalse => cases hd
    rename_i hok
    obtain ⟨v', hd2, hd⟩ := Option.map_eq_some_iff.1 hd
    cases hd
    obtain ⟨u, g1, g2⟩ := arrP_ok hu hsz (ev_rel ht hg hy) hok hd2
    exact Good.val hs (run_v g1) g2
  | makeInterface ty x =>
    simp only [cOp] at h
    split at h
    · cases h
    · rename_i d hne hu
      obtain ⟨y, hy, rfl⟩ := Option.map_eq_some_iff.1 h
      simp only [doI] at hd; cases hd
      refine Good.val hs (u := .iface ty (a.eval x)) (run_v ?_) (by simp only [RelV]; exact ⟨_, rfl, ev_rel ht hg hy⟩)
      simp only [Instr.makeInterface, Sem.run_bind, run_underlying hu, Result.andThen_ok]
      rfl
    · cases h
  | makeFunc f fi ca =>
    simp only [cOp] at h
    cases h1 : cOs fi.toList <;> cases h2 : cOs ca.toList <;> simp [h1, h2] at h
    subst h
    simp only [doI] at hd; cases hd
    refine Good.val hs (u := .func f (fi.map a.eval) (ca.map a.eval)) rfl ?_
    simp only [RelV]
    refine ⟨fi.toList.map a.eval, ca.toList.map a.eval, ?_, evs_rel ht hg h1, evs_rel ht hg h2⟩
    congr 1 <;> (apply Array.ext'; simp)
  | makeSlice ty l cp =>
    simp only [cOp] at h
    split at h
    case h_2 => cases h
    rename_i e l' c' hu hl hc
    split at h
    case h_2 => cases h
    rename_i inf z hi hz
    split at h
    case isFalse => cases h
    rename_i hc2
    cases h
    simp only [Bool.and_eq_true, decide_eq_true_eq, beq_iff_eq] at hc2
    simp only [doI] at hd
    split at hd
    case h_2 => cases hd
    rename_i n k hn hk
    split at hd
    case isFalse => cases hd
    rename_i hcc
    obtain ⟨b, hb, hd⟩ := Option.map_eq_some_iff.1 hd
    cases hd
    obtain ⟨k1, e1⟩ := asNat_int (ev_rel ht hg hl) hn
    obtain ⟨k2, e2⟩ := asNat_int (ev_rel ht hg hc) hk
    have h63 : k ≤ 9223372036854775807 := by
      have := Nat.le_mul_of_pos_right k hc2.1.2
      omega
    exact good_mksl hs hu hi hz hc2.2 hc2.1.1 e1 e2 hcc.1 hcc.2 h63 hb
  | slice ty x lo hi mx =>
    simp only [cOp] at h
    split at h
    · rename_i e y lo' hi' mx' hu hy hlo hhi hmx
      obtain ⟨s, hsz, h⟩ := Option.bind_eq_some_iff.1 h
      split at h
      case isFalse => cases h
      rename_i hpos0
      obtain ⟨hpos, hmh⟩ := hpos0
      cases h
      have r := ev_rel ht hg hy
      simp only [doI] at hd
      split at hd
      case isFalse => cases hd
      rename_i hok
      obtain ⟨n, hn, hd⟩ := Option.bind_eq_some_iff.1 hd
      obtain ⟨l, hl, hd⟩ := Option.bind_eq_some_iff.1 hd
      obtain ⟨hh, hh', hd⟩ := Option.bind_eq_some_iff.1 hd
      have L := opt_int ht hg hlo hl
      have H := opt_int ht hg hhi hh'
      have hL : (lo.map a.eval = none ∧ l = 0) ∨ ∃ k, lo.map a.eval = some (.int k (l : Int)) := by
        rcases L with ⟨rfl, _, rfl⟩ | ⟨z, k, rfl, e⟩
        · exact .inl ⟨rfl, rfl⟩
        · exact .inr ⟨k, by simp [e]⟩
      have hHH : (hi.map a.eval = none ∧ hh = n) ∨ ∃ k, hi.map a.eval = some (.int k (hh : Int)) := by
        rcases H with ⟨rfl, _, rfl⟩ | ⟨z, k, rfl, e⟩
        · exact .inl ⟨rfl, rfl⟩
        · exact .inr ⟨k, by simp [e]⟩
      cases mx' with
      | none =>
        have hm0 : mx = none := by cases mx <;> simp [cOpt] at hmx; rfl
        subst hm0
        obtain ⟨rfl, u, g1, g2⟩ := slice_ok hs hu hsz hpos r hok hn (lo := lo.map a.eval) (hi := hi.map a.eval) (mx := none) (mo := none) hL
          (by rcases hHH with ⟨q1, q2⟩ | q; exact .inl ⟨q1, q2, rfl⟩; exact .inr q) (.inl ⟨rfl, rfl⟩) hd
        exact Good.val hs (run_v g1) g2
      | some k0 =>
        obtain ⟨k, hk, hd⟩ := Option.bind_eq_some_iff.1 hd
        cases mx with
        | none => simp [cOpt] at hmx
        | some mo =>
          simp [cOpt] at hmx
          obtain ⟨kk, e⟩ := asNat_int (ev_rel ht hg hmx) hk
          have hi0 : hi ≠ none ∨ True := .inr trivial
          have hH2 : (hi.map a.eval = none ∧ hh = n ∧ (some mo : Option Operand).map a.eval = none) ∨ ∃ k, hi.map a.eval = some (.int k (hh : Int)) := by
            rcases hHH with ⟨q1, q2⟩ | q
            · have h0 : hi = none := by cases hi <;> simp at q1; rfl
              subst h0
              simp [cOpt] at hhi
              subst hhi
              simp at hmh
            · exact .inr q
          obtain ⟨rfl, u, g1, g2⟩ := slice_ok hs hu hsz hpos r hok hn (lo := lo.map a.eval) (hi := hi.map a.eval) (mx := (some mo : Option Operand).map a.eval) (mo := some k) hL hH2 (.inr ⟨kk, k, by simp [e], rfl⟩) hd
          exact Good.val hs (run_v g1) g2
    · rename_i y lo' hi' hu hy hlo hhi hmx
      cases h
      have r := ev_rel ht hg hy
      have hm0 : mx = none := by cases mx <;> simp [cOpt] at hmx; rfl
      subst hm0
      simp only [doI] at hd
      split at hd
      case h_2 => cases hd
      rename_i s e
      obtain ⟨l, hl, hd⟩ := Option.bind_eq_some_iff.1 hd
      obtain ⟨hh, hh', hd⟩ := Option.bind_eq_some_iff.1 hd
      split at hd
      case isFalse => cases hd
      rename_i hle
      cases hd
      rw [e] at r; simp only [RelV, RelD] at r
      have L := opt_int ht hg hlo hl
      have H := opt_int ht hg hhi hh'
      have hb := bounds_run (P := P) (isSlice := false) (len := s.size) (cap := s.size) (l := l) (h := hh) (m := s.size) (lo := lo.map a.eval) (hi := hi.map a.eval) (mx := none) (.inl ⟨rfl, rfl⟩) (Nat.le_refl _)
        (by rcases H with ⟨rfl, _, rfl⟩ | ⟨z, k, rfl, e⟩; exact .inl ⟨rfl, rfl, rfl⟩; exact .inr ⟨k, by simp [e]⟩) hle.2
        (by rcases L with ⟨rfl, _, rfl⟩ | ⟨z, k, rfl, e⟩; exact .inl ⟨rfl, rfl⟩; exact .inr ⟨k, by simp [e]⟩) hle.1 c.w
      refine Good.val hs (u := .string (s.extract l hh)) (run_v ?_) (by simp only [RelV, RelD])
      simp [Instr.sliceAt, run_underlying hu, Instr.slice, r, hb]
    · rename_i n e y lo' hi' mx' hu hy hlo hhi hmx
      split at h
      case h_2 => cases h
      rename_i s hsz
      split at h
      case isFalse => cases h
      rename_i hpos
      cases h
      have r := ev_rel ht hg hy
      simp only [doI] at hd
      cases mx' with
      | some k => cases hd
      | none =>
        have hm0 : mx = none := by cases mx <;> simp [cOpt] at hmx; rfl
        subst hm0
        obtain ⟨l, hl, hd⟩ := Option.bind_eq_some_iff.1 hd
        obtain ⟨hh, hh', hd⟩ := Option.bind_eq_some_iff.1 hd
        split at hd
        case isFalse => cases hd
        rename_i hle
        obtain ⟨v', hd2, hd⟩ := Option.map_eq_some_iff.1 hd
        cases hd
        have L := opt_int ht hg hlo hl
        have H := opt_int ht hg hhi hh'
        obtain ⟨u, g1, g2⟩ := slarr_ok hu hsz hpos r (lo := lo.map a.eval) (hi := hi.map a.eval)
          (by rcases L with ⟨rfl, _, rfl⟩ | ⟨z, k, rfl, e⟩; exact .inl ⟨rfl, rfl⟩; exact .inr ⟨k, by simp [e]⟩)
          (by rcases H with ⟨rfl, _, rfl⟩ | ⟨z, k, rfl, e⟩; exact .inl ⟨rfl, rfl⟩; exact .inr ⟨k, by simp [e]⟩) hle.1 hle.2 hd2
        exact Good.val hs (run_v g1) g2
    · cases h
  | fieldAddr st x f =>
    simp only [cOp] at h
    split at h
    case h_2 => cases h
    rename_i fs y hu hy
    split at h
    case h_2 => cases h
    rename_i fl hf
    split at h
    case h_2 => cases h
    rename_i s hsz
    split at h
    case isFalse => cases h
    rename_i hpos
    cases h
    simp only [doI] at hd
    obtain ⟨v', hd2, hd⟩ := Option.map_eq_some_iff.1 hd
    cases hd
    obtain ⟨u, g1, g2⟩ := fieldA_ok (ev_rel ht hg hy) hu hf hsz hpos hd2
    exact Good.val hs (run_v g1) g2
  | field ty x f =>
    simp only [cOp] at h
    split at h
    case h_2 => cases h
    rename_i fs y hu hy
    split at h
    case h_2 => cases h
    rename_i fl hf
    split at h
    case h_2 => cases h
    rename_i g s hgg hsz
    cases h
    simp only [doI] at hd
    obtain ⟨v', hd2, hd⟩ := Option.map_eq_some_iff.1 hd
    cases hd
    obtain ⟨u, g1, g2⟩ := field_ok (ev_rel ht hg hy) hu hf hgg hsz hd2
    exact Good.val hs (run_v g1) g2
  | indexAddr ty x ix =>
    simp only [cOp] at h
    split at h
    · rename_i e y z hu hy hz
      obtain ⟨s, hsz, rfl⟩ := Option.map_eq_some_iff.1 h
      simp only [doI] at hd
      split at hd
      case isFalse => cases hd
      rename_i hok
      obtain ⟨j, hj, hd⟩ := Option.bind_eq_some_iff.1 hd
      obtain ⟨v', hd2, hd⟩ := Option.map_eq_some_iff.1 hd
      cases hd
      obtain ⟨u, g1, g2⟩ := idxA_slice hs (ev_rel ht hg hy) (ev_rel ht hg hz) hu hsz hj hok hd2
      exact Good.val hs (run_v g1) g2
    · rename_i n e y z hu hy hz
      obtain ⟨s, hsz, rfl⟩ := Option.map_eq_some_iff.1 h
      simp only [doI] at hd
      obtain ⟨j, hj, hd⟩ := Option.bind_eq_some_iff.1 hd
      split at hd
      case isFalse => cases hd
      rename_i hlt
      obtain ⟨v', hd2, hd⟩ := Option.map_eq_some_iff.1 hd
      cases hd
      obtain ⟨u, g1, g2⟩ := idxA_array (ev_rel ht hg hy) (ev_rel ht hg hz) hu hsz hj hlt hd2
      exact Good.val hs (run_v g1) g2
    · cases h
  | index ty x ix =>
    simp only [cOp] at h
    split at h
    · rename_i n e y z hu hy hz
      split at h
      case h_2 => cases h
      rename_i g s hgg hsz
      cases h
      simp only [doI] at hd
      obtain ⟨j, hj, hd⟩ := Option.bind_eq_some_iff.1 hd
      split at hd
      case isFalse => cases hd
      rename_i hlt
      obtain ⟨v', hd2, hd⟩ := Option.map_eq_some_iff.1 hd
      cases hd
      obtain ⟨u, g1, g2⟩ := idx_ok (ev_rel ht hg hy) (ev_rel ht hg hz) hu hgg hsz hj hlt hd2
      exact Good.val hs (run_v g1) g2
    · rename_i y z hu hy hz
      cases h
      simp only [doI] at hd
      obtain ⟨j, hj, hd⟩ := Option.bind_eq_some_iff.1 hd
      obtain ⟨v', hd2, hd⟩ := Option.map_eq_some_iff.1 hd
      cases hd
      have r := ev_rel ht hg hy
      generalize ev E t y = q at *
      unfold strIdx at hd2
      split at hd2
      case h_2 => cases hd2
      rename_i s h9
      obtain ⟨b, hb, rfl⟩ := Option.map_eq_some_iff.1 hd2
      simp only [RelV, RelD] at r
      have := idxs_ok (P := P) (s := s) (ev_rel ht hg hz) hu hj hb
      exact Good.val hs (run_v (by rw [r]; exact this)) (by simp only [RelV, RelD])
    · cases h
  | extract x k =>
    simp only [cOp] at h
    obtain ⟨y, hy, rfl⟩ := Option.map_eq_some_iff.1 h
    have r := ev_rel ht hg hy
    simp only [doI] at hd
    split at hd
    case h_2 => cases hd
    rename_i vs e
    obtain ⟨v', hv, hd⟩ := Option.map_eq_some_iff.1 hd
    cases hd
    rw [e] at r
    simp only [RelV] at r
    obtain ⟨l, q, r⟩ := r
    obtain ⟨u, hu, hr⟩ := r.at k v hv
    exact Good.val hs (u := u) (run_v (by simp [Instr.extract, q, hu])) hr
  | call cl =>
    obtain ⟨callee, args, argTypes⟩ := cl
    simp only [cOp, cCall] at h
    cases callee with
    | value f =>
      simp only at h
      cases h1 : cO f <;> cases h2 : cOs args.toList <;> simp [h1, h2] at h
      rename_i fo l
      subst h
      simp only [doI] at hd
      have hvals : RelVs c (evs E t l) (args.map a.eval).toList := by
        rw [Array.toList_map]; exact evs_rel ht hg h2
      exact good_call hcall hs hg (ev_rel ht hg h1) hvals hd
    | invoke x m => simp at h
    | builtin b =>
      simp only at h
      cases hl : cOs args.toList with
      | none => simp [hl] at h
      | some l =>
        simp only [hl] at h
        have hr := evs_rel (E := E) ht hg hl
        obtain ⟨consts, run⟩ : ∃ consts, execOp a.eval ⟨dst, .call ⟨.builtin b, args, argTypes⟩, ty, pos, after, gd⟩ = builtin b argTypes ty consts (args.map a.eval) :=
          ⟨_, by simp only [execOp, resolve, pure_bind, invoke]; rfl⟩
        rw [run]
        have ha : args.map a.eval = (args.toList.map a.eval).toArray := by apply Array.ext'; simp
        rw [ha]
        generalize args.toList.map a.eval = us at hr
        split at h
        · -- len
          rename_i x t0 hat
          have hat' : argTypes = #[t0] := by apply Array.ext'; simpa using hat
          subst hat'
          simp only [evs, List.map_cons, List.map_nil, RelVs] at hr
          obtain ⟨u, us', rfl, r, rfl⟩ := hr
          split at h
          · rename_i hu
            cases h
            simp only [doI] at hd
            split at hd
            case h_2 => cases hd
            rename_i s e
            cases hd
            rw [e] at r; simp only [RelV, RelD] at r
            subst r
            exact Good.val hs (u := .int .i64 s.size) (run_v (by simp [Builtin.len_, run_underlying hu, goInt])) (by simp only [RelV, RelD])
          · rename_i e hu
            cases h
            simp only [doI] at hd
            obtain ⟨n, hn, hd⟩ := Option.map_eq_some_iff.1 hd
            cases hd
            obtain ⟨ad, cap, rfl, _⟩ := len_int r hn
            exact Good.val hs (u := .int .i64 n) (run_v (by simp [Builtin.len_, run_underlying hu, goInt])) (by simp only [RelV, RelD])
          · rename_i n e hu
            cases h
            simp only [doI] at hd
            cases hd
            exact Good.val hs (u := .int .i64 n) (run_v (by simp [Builtin.len_, run_underlying hu, goInt])) (by simp only [RelV, RelD])
          · cases h
        · -- append
          rename_i x y t0 t1 hat
          have hat' : argTypes = #[t0, t1] := by apply Array.ext'; simpa using hat
          subst hat'
          simp only [evs, List.map_cons, List.map_nil, RelVs] at hr
          obtain ⟨u, us', rfl, r, u2, us2, rfl, r2, rfl⟩ := hr
          split at h
          case h_2 => cases h
          rename_i e e' hu hu'
          split at h
          case isFalse => cases h
          rename_i he
          subst he
          split at h
          case h_2 => cases h
          rename_i inf hi
          split at h
          case h_2 => cases h
          rename_i z hz
          split at h
          case isFalse => cases h
          rename_i hc
          cases h
          simp only [Bool.and_eq_true, decide_eq_true_eq, beq_iff_eq] at hc
          simp only [doI] at hd
          exact good_append hs hu hu' hi hz hc.2 hc.1.1 r r2 (fun k hk => by
            have := Nat.le_mul_of_pos_right k hc.1.2
            omega) hd
        · -- copy
          rename_i x y t0 t1 hat
          have hat' : argTypes = #[t0, t1] := by apply Array.ext'; simpa using hat
          subst hat'
          simp only [evs, List.map_cons, List.map_nil, RelVs] at hr
          obtain ⟨u, us', rfl, r, u2, us2, rfl, r2, rfl⟩ := hr
          split at h
          case h_2 => cases h
          rename_i e e' hu hu'
          split at h
          case isFalse => cases h
          rename_i he
          subst he
          split at h
          case h_2 => cases h
          rename_i inf hi
          split at h
          case isFalse => cases h
          rename_i hc
          cases h
          simp only [doI] at hd
          exact good_copy hs hu (by simp [sizeOfT, hi]) r r2 hd
        · -- max
          cases h
          simp only [doI] at hd
          obtain ⟨v', hv, hd⟩ := Option.map_eq_some_iff.1 hd
          cases hd
          obtain ⟨w, g1, g2⟩ := max_ok (P := P) (us := us.toArray) (by simpa using hr) hv argTypes ty
          exact Good.val hs (run_v g1) g2
        · -- min
          cases h
          simp only [doI] at hd
          obtain ⟨v', hv, hd⟩ := Option.map_eq_some_iff.1 hd
          cases hd
          obtain ⟨w, g1, g2⟩ := min_ok (P := P) (us := us.toArray) (by simpa using hr) hv argTypes ty
          exact Good.val hs (run_v g1) g2
        · cases h
  | _ => simp [cOp] at h

end Go.Proofs.Ytgalchmjpfmemaa.Den
