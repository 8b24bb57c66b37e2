/- Code: what the evaluator runs is what the model runs. -/
import Derived.Test.YtgalchmjpfmemaaDenStep
import Derived.Scope
namespace Go.Proofs.Ytgalchmjpfmemaa.Den
open Go
set_option linter.unusedVariables false
set_option linter.unusedSimpArgs false

variable {P : Program}

/-- A state of the evaluator, and the model's. -/
structure SRel (P : Program) (E : Env) (nt : Nat) (c : Cx) (s : S) (a : Act) : Prop where
  sim : PSim P c
  m : c.m = s.m
  t : TRel c s.t a
  gl : GlOK E c
  nt : a.tmps.size = nt

theorem SRel.mono {E : Env} {nt : Nat} {c c' : Cx} {s : S} {a : Act} (h : SRel P E nt c s a) (hp : Post P c c') {m' : Mem} (hm : c'.m = m') : SRel P E nt c' ⟨s.t, m'⟩ a :=
  ⟨hp.sim, hm, h.t.mono hp.st, h.gl.mono hp.st, h.nt⟩

/-- A temporary written. -/
theorem SRel.put {E : Env} {nt : Nat} {c : Cx} {s : S} {a : Act} (h : SRel P E nt c s a) {d : Option Nat} (hd : ∀ i, d = some i → i < nt) {v : V} {u : Value} (hr : RelV c v u) : SRel P E nt c ⟨putT s.t d v, s.m⟩ (a.put d u) := by
  cases d with
  | none => exact h
  | some i =>
    have hi : i < a.tmps.size := by rw [h.nt]; exact hd i rfl
    refine ⟨h.sim, h.m, fun j => ?_, h.gl, by simp [Act.put, h.nt]⟩
    simp only [putT, upd, Act.put]
    by_cases e : j = i
    · subst e
      simp only [if_true, Array.getD_eq_getD_getElem?]
      rw [Array.getElem?_setIfInBounds_self_of_lt hi]
      exact hr
    · simp only [if_neg e, Array.getD_eq_getD_getElem?]
      rw [Array.getElem?_setIfInBounds_ne (Ne.symm e)]
      simpa only [Array.getD_eq_getD_getElem?] using h.t j

theorem put_defers (a : Act) (d : Option Nat) (u : Value) : (a.put d u).defers = a.defers := by cases d <;> rfl

/-- The guard, told by the compiled one. -/
theorem wanted_ok {c : Cx} {t : Nat → V} {a : Act} (ht : TRel c t a) {ops : Array Oper} {o : Oper} {g : Option (Nat × Bool)}
    (hg : (match o.guard with | some (j, w) => (match (ops[j]?).bind (·.dst) with | some t => some (some (t, w)) | none => none) | none => some none : Option (Option (Nat × Bool))) = some g) {b : Bool} (hw : wantedC g t = some b) :
    Region.wanted o (yielded ops a.tmps) = b := by
  unfold Region.wanted
  cases hgd : o.guard with
  | none => simp [hgd] at hg; subst hg; simp [wantedC] at hw; exact hw.symm ▸ rfl
  | some jw =>
    obtain ⟨j, w⟩ := jw
    simp only [hgd] at hg
    cases hd : (ops[j]?).bind (·.dst) with
    | none => simp [hd] at hg
    | some i =>
      simp only [hd] at hg
      obtain rfl := Option.some.inj hg
      simp only [wantedC] at hw
      have hr := ht i
      simp only [yielded, hd, Option.bind_some]
      split at hw
      · rename_i x e
        cases hw
        rw [e] at hr
        simp only [RelV, RelD] at hr
        rw [Array.getD_eq_getD_getElem?] at hr
        cases hx : a.tmps[i]? with
        | none => rw [hx] at hr; simp [undef] at hr
        | some z => rw [hx] at hr; simp at hr; subst hr; simp
      · rename_i e
        cases hw
        rw [e] at hr
        simp only [RelV] at hr
        obtain ⟨l, q, _⟩ := hr
        rw [Array.getD_eq_getD_getElem?] at q
        cases hx : a.tmps[i]? with
        | none => simp
        | some z => rw [hx] at q; simp at q; subst q; simp
      · cases hw

/-- What is known of a compiled operation. -/
theorem cOpC_spec {nt : Nat} {ops : Array Oper} {o : Oper} {oc : OpC} (h : cOpC P nt ops o = some oc) :
    cOp P o = some oc.ins ∧ oc.dst = o.dst ∧ (∀ i, o.dst = some i → i < nt) ∧
    (match o.guard with | some (j, w) => (match (ops[j]?).bind (·.dst) with | some t => some (some (t, w)) | none => none) | none => some none : Option (Option (Nat × Bool))) = some oc.guard := by
  unfold cOpC at h
  cases hi : cOp P o with
  | none => simp [hi] at h
  | some i =>
    simp only [hi] at h
    split at h
    · rename_i d g hd hg
      cases h
      refine ⟨rfl, ?_, ?_, hg⟩
      · cases hod : o.dst with
        | none => rw [hod] at hd; simp at hd; exact hd.symm
        | some x =>
          rw [hod] at hd
          simp only at hd
          split at hd
          · simp at hd; exact hd.symm
          · cases hd
      · intro x hx
        rw [hx] at hd
        simp only at hd
        split at hd
        · assumption
        · cases hd
    · cases h

theorem cOpsC_spec {nt : Nat} {ops : Array Oper} : ∀ {l : List Oper} {ls : List OpC}, cOpsC P nt ops l = some ls → ls.length = l.length ∧ ∀ (k : Nat) (o : Oper), l[k]? = some o → ∃ oc, ls[k]? = some oc ∧ cOpC P nt ops o = some oc
  | [], ls, h => by simp [cOpsC] at h; subst h; simp
  | o :: l, ls, h => by
    simp only [cOpsC] at h
    cases h1 : cOpC P nt ops o with
    | none => simp [h1] at h
    | some oc =>
      cases h2 : cOpsC P nt ops l with
      | none => simp [h1, h2] at h
      | some lc =>
        simp [h1, h2] at h; subst h
        obtain ⟨g1, g2⟩ := cOpsC_spec h2
        refine ⟨by simp [g1], fun k x hk => ?_⟩
        cases k with
        | zero => simp at hk; subst hk; exact ⟨oc, by simp, h1⟩
        | succ k => simpa using g2 k x (by simpa using hk)

/-- One operation. -/
theorem op_ok {E : Env} {call : CallT} (hcall : CallOK P E call) {nt : Nat} {ops : Array Oper} {Q : Exit → Act → World → Prop} {i : Nat} {o : Oper} {oc : OpC} (ho : ops[i]? = some o) (hc : cOpC P nt ops o = some oc)
    {c : Cx} {s s' : S} {a : Act} (hs : SRel P E nt c s a) {K : Act → World → Prop}
    (hstep : (∃ v m', wantedC oc.guard s.t = some true ∧ doI E call oc.ins s.t s.m = some (v, m') ∧ s' = ⟨putT s.t oc.dst v, m'⟩) ∨ (wantedC oc.guard s.t = some false ∧ s' = ⟨putT s.t oc.dst (.tup []), s.m⟩))
    (hk : ∀ c' a', Post P c c' → SRel P E nt c' s' a' → a'.defers = a.defers → K a' c'.w) : wpOp P ops Q i K a c.w := by
  obtain ⟨h1, h2, h3, h4⟩ := cOpC_spec hc
  unfold wpOp
  simp only [ho]
  rcases hstep with ⟨v, m', hw, hd, rfl⟩ | ⟨hw, rfl⟩
  · rw [if_pos (wanted_ok hs.t h4 hw)]
    left
    rw [← hs.m] at hd
    refine (doI_good hcall hs.sim hs.gl hs.t h1 hd).wp fun c' u hm hp hr => ?_
    refine hk c' _ hp ?_ (put_defers a o.dst u)
    have := (hs.mono hp hm).put (d := o.dst) h3 hr
    rw [h2]; exact this
  · rw [if_neg (by rw [wanted_ok hs.t h4 hw]; simp)]
    refine hk c _ (Post.refl hs.sim) ?_ (put_defers a o.dst undef)
    have := hs.put (d := o.dst) h3 (undef_rel c)
    rw [h2]; exact this

theorem opsC_cons {step : I → (Nat → V) → Mem → Option (V × Mem)} {o : OpC} {r : List OpC} {s s2 : S} (h : opsC step (o :: r) s = some s2) :
    ∃ s1, ((∃ v m', wantedC o.guard s.t = some true ∧ step o.ins s.t s.m = some (v, m') ∧ s1 = ⟨putT s.t o.dst v, m'⟩) ∨ (wantedC o.guard s.t = some false ∧ s1 = ⟨putT s.t o.dst (.tup []), s.m⟩)) ∧ opsC step r s1 = some s2 := by
  simp only [opsC] at h
  split at h
  · rename_i hw
    split at h
    · rename_i v m' hd
      exact ⟨_, .inl ⟨v, m', hw, hd, rfl⟩, h⟩
    · cases h
  · rename_i hw
    exact ⟨_, .inr ⟨hw, rfl⟩, h⟩
  · cases h

/-- Operations in the order of the text. -/
theorem ops_ok {E : Env} {call : CallT} (hcall : CallOK P E call) {nt : Nat} {ops : Array Oper} {Q : Exit → Act → World → Prop} :
    ∀ (is : List Nat) (ls : List OpC) (c : Cx) (s s' : S) (a : Act), is.length = ls.length → (∀ (k i : Nat), is[k]? = some i → ∃ o oc, ops[i]? = some o ∧ ls[k]? = some oc ∧ cOpC P nt ops o = some oc) →
    SRel P E nt c s a → opsC (doI E call) ls s = some s' → (∀ c' a', Post P c c' → SRel P E nt c' s' a' → a'.defers = a.defers → Q .normal a' c'.w) → wpOps P ops Q is a c.w
  | [], [], c, s, s', a, _, _, hs, h, hq => by
    simp [opsC] at h; subst h
    exact hq c a (Post.refl hs.sim) hs rfl
  | [], _ :: _, _, _, _, _, hl, _, _, _, _ => by simp at hl
  | _ :: _, [], _, _, _, _, hl, _, _, _, _ => by simp at hl
  | i :: is, oc :: ls, c, s, s', a, hl, hio, hs, h, hq => by
    obtain ⟨o, oc', ho, hoc, hc⟩ := hio 0 i (by simp)
    simp at hoc; subst hoc
    obtain ⟨s1, hstep, hrest⟩ := opsC_cons h
    rw [wpOps_cons]
    refine op_ok hcall ho hc hs hstep fun c' a' hp hs' hd => ?_
    refine ops_ok hcall is ls c' s1 s' a' (by simpa using hl) (fun k j hk => by
      have := hio (k + 1) j (by simpa using hk); simpa using this) hs' hrest fun c2 a2 hp2 hs2 hd2 => ?_
    exact hq c2 a2 (hp.trans hs.sim hp2) hs2 (hd2.trans hd)

theorem range_get {n k i : Nat} (h : (List.range n)[k]? = some i) : i = k ∧ k < n := by
  have := List.getElem?_eq_some_iff.1 h
  obtain ⟨h1, h2⟩ := this
  simp at h1 h2
  exact ⟨h2.symm, h1⟩

/-- A region whose order is the text's. -/
theorem region_ok {E : Env} {call : CallT} (hcall : CallOK P E call) {nt id : Nat} {ops : Array Oper} {ls : List OpC} (hls : cOpsC P nt ops ops.toList = some ls) {Q : Exit → Act → World → Prop} {c : Cx} {s s' : S} {a : Act}
    (hs : SRel P E nt c s a) (h : opsC (doI E call) ls s = some s') (hq : ∀ c' a', Post P c c' → SRel P E nt c' s' a' → a'.defers = a.defers → Q .normal a' c'.w) : (Code.region id ops false).wp P Q a c.w := by
  obtain ⟨h1, h2⟩ := cOpsC_spec hls
  refine wp_region (ops_ok hcall (List.range ops.size) ls c s s' a (by simp [h1]) (fun k i hk => ?_) hs h hq)
  obtain ⟨rfl, hlt⟩ := range_get hk
  obtain ⟨oc, g1, g2⟩ := h2 i ops[i] (by simp [hlt])
  exact ⟨ops[i], oc, by simp [hlt], g1, g2⟩

/-- What the model's exit is, told by the evaluator's. -/
def exitOf : X → Exit
  | .normal => .normal
  | .exit id => .exit id
  | .ret => .ret

/-- A region that draws its order. -/
def DrawOK (P : Program) : Prop := ∀ (E : Env) (call : CallT), CallOK P E call → ∀ (nt id : Nat) (ops : Array Oper) (qs ts : List OpC), cRegion P nt ops true = some (.reg qs ts) → ∀ (Q : Exit → Act → World → Prop) (c : Cx) (s s1 s2 : S) (a : Act),
    SRel P E nt c s a → opsC (doQ E call) qs s = some s1 → opsC (doI E call) ts s1 = some s2 → (∀ c' a', Post P c c' → SRel P E nt c' s2 a' → a'.defers = a.defers → Q .normal a' c'.w) → (Code.region id ops true).wp P Q a c.w

theorem cRegion_false {nt : Nat} {ops : Array Oper} {C0 : C} (h : cRegion P nt ops false = some C0) : ∃ l, cOpsC P nt ops ops.toList = some l ∧ C0 = .reg [] l := by
  unfold cRegion at h
  cases hl : cOpsC P nt ops ops.toList with
  | none => simp [hl] at h
  | some l => simp [hl] at h; exact ⟨l, rfl, h.symm⟩

theorem cRegion_true {nt : Nat} {ops : Array Oper} {C0 : C} (h : cRegion P nt ops true = some C0) : ∃ qs ts, C0 = .reg qs ts := by
  unfold cRegion at h
  cases hl : cOpsC P nt ops ops.toList with
  | none => simp [hl] at h
  | some l =>
    simp only [hl, Bool.not_true, Bool.false_eq_true, if_false] at h
    split at h
    · cases h; exact ⟨_, _, rfl⟩
    · cases h

/-- A loop that comes to its end in so many rounds. -/
theorem wp_loop_count {p : Code} {Q : Exit → Act → World → Prop} (J : Nat → Act → World → Prop) (h0 : ∀ a w, ¬ J 0 a w) (hround : ∀ n a w, J (n + 1) a w → p.wp P (Exit.then (J n) Q) a w) {n : Nat} {a : Act} {w : World} (h : J n a w) : (Code.loop p).wp P Q a w := by
  intro b k cs
  have key : ∀ n a w, J n a w → ∃ e a' w', Q e a' w' ∧ Arrives P (lone (b.at a (.code p :: .inLoop p :: k)) cs w) b k cs e a' w' := by
    intro n
    induction n with
    | zero => intro a w hJ; exact (h0 a w hJ).elim
    | succ n ih =>
      intro a w hJ
      obtain ⟨e, a1, w1, hq, har⟩ := hround n a w hJ b (.inLoop p :: k) cs
      by_cases he : e = .normal
      · subst he
        obtain ⟨e2, a2, w2, hq2, har2⟩ := ih a1 w1 hq
        exact ⟨e2, a2, w2, hq2, Arrives.of_steps (Steps.trans har (Steps.one step_inLoop)) har2⟩
      · refine ⟨e, a1, w1, ?_, Arrives.pass (x := .inLoop p) rfl (fun _ _ => .inl he) har⟩
        cases e with
        | normal => exact absurd rfl he
        | _ => exact hq
  obtain ⟨e, a', w', hq, har⟩ := key n a w h
  exact ⟨e, a', w', hq, Arrives.of_steps (Steps.one step_loop) har⟩

/-- What code comes to. -/
def Post' (P : Program) (E : Env) (nt : Nat) (c : Cx) (a : Act) (x : X) (s' : S) (e : Exit) (a' : Act) (w' : World) : Prop :=
  ∃ c', e = exitOf x ∧ c'.w = w' ∧ Post P c c' ∧ SRel P E nt c' s' a' ∧ a'.defers = a.defers

theorem code_ok {E : Env} {call : CallT} (hcall : CallOK P E call) (hdraw : DrawOK P) {nt : Nat} : ∀ (cd : Code) (C0 : C) (c : Cx) (s s' : S) (a : Act) (x : X), cCode P nt cd = some C0 → runC E call C0 s = some (x, s') → SRel P E nt c s a →
    cd.wp P (Post' P E nt c a x s') a c.w
  | .skip, C0, c, s, s', a, x, hc, hr, hs => by
    simp only [cCode] at hc; cases hc
    simp only [runC] at hr; cases hr
    exact wp_skip ⟨c, rfl, rfl, Post.refl hs.sim, hs, rfl⟩
  | .region id ops draw, C0, c, s, s', a, x, hc, hr, hs => by
    simp only [cCode] at hc
    cases draw with
    | false =>
      obtain ⟨l, hl, rfl⟩ := cRegion_false hc
      simp only [runC, opsC] at hr
      cases h2 : opsC (doI E call) l s with
      | none => simp [h2] at hr
      | some s2 =>
        simp only [h2] at hr
        cases hr
        exact region_ok hcall hl hs h2 fun c' a' hp hs' hd => ⟨c', rfl, rfl, hp, hs', hd⟩
    | true =>
      obtain ⟨qs, ts, rfl⟩ := cRegion_true hc
      simp only [runC] at hr
      split at hr
      · rename_i s1 h1
        split at hr
        · rename_i s2 h2
          cases hr
          exact hdraw E call hcall nt id ops qs ts hc _ c s s1 _ a hs h1 h2 fun c' a' hp hs' hd => ⟨c', rfl, rfl, hp, hs', hd⟩
        · cases hr
      · cases hr
  | .seq p q, C0, c, s, s', a, x, hc, hr, hs => by
    simp only [cCode] at hc
    cases h1 : cCode P nt p <;> cases h2 : cCode P nt q <;> simp [h1, h2] at hc
    rename_i p' q'
    subst hc
    simp only [runC] at hr
    refine wp_seq ?_
    cases hp : runC E call p' s with
    | none => simp [hp] at hr
    | some r =>
      obtain ⟨y, s1⟩ := r
      refine wp_mono (code_ok hcall hdraw p p' c s s1 a y h1 hp hs) ?_
      rintro e a1 w1 ⟨c1, rfl, rfl, hp1, hs1, hd1⟩
      cases y with
      | normal =>
        simp only [hp] at hr
        simp only [exitOf, Exit.then]
        refine wp_mono (code_ok hcall hdraw q q' c1 s1 s' a1 x h2 hr hs1) ?_
        rintro e a2 w2 ⟨c2, rfl, rfl, hp2, hs2, hd2⟩
        exact ⟨c2, rfl, rfl, hp1.trans hs.sim hp2, hs2, hd2.trans hd1⟩
      | exit id =>
        simp only [hp] at hr; cases hr
        exact ⟨c1, rfl, rfl, hp1, hs1, hd1⟩
      | ret =>
        simp only [hp] at hr; cases hr
        exact ⟨c1, rfl, rfl, hp1, hs1, hd1⟩
  | .cond b p q, C0, c, s, s', a, x, hc, hr, hs => by
    simp only [cCode] at hc
    cases h0 : cO b <;> cases h1 : cCode P nt p <;> cases h2 : cCode P nt q <;> simp [h0, h1, h2] at hc
    rename_i b' p' q'
    subst hc
    have hb := ev_rel (E := E) hs.t hs.gl h0
    simp only [runC] at hr
    split at hr
    · rename_i e
      rw [e] at hb; simp only [RelV, RelD] at hb
      exact wp_cond_true hb (code_ok hcall hdraw p p' c s s' a x h1 hr hs)
    · rename_i e
      rw [e] at hb; simp only [RelV, RelD] at hb
      exact wp_cond_false hb (code_ok hcall hdraw q q' c s s' a x h2 hr hs)
    · cases hr
  | .block id p, C0, c, s, s', a, x, hc, hr, hs => by
    simp only [cCode] at hc
    obtain ⟨p', h1, rfl⟩ := Option.map_eq_some_iff.1 hc
    simp only [runC] at hr
    refine wp_block ?_
    cases hp : runC E call p' s with
    | none => simp [hp] at hr
    | some r =>
      obtain ⟨y, s1⟩ := r
      refine wp_mono (code_ok hcall hdraw p p' c s s1 a y h1 hp hs) ?_
      rintro e a1 w1 ⟨c1, rfl, rfl, hp1, hs1, hd1⟩
      cases y with
      | normal => simp only [hp] at hr; cases hr; exact ⟨c1, rfl, rfl, hp1, hs1, hd1⟩
      | exit i =>
        simp only [hp] at hr
        simp only [exitOf, Exit.inBlock]
        split at hr
        · rename_i e; cases hr; rw [if_pos e]; exact ⟨c1, rfl, rfl, hp1, hs1, hd1⟩
        · rename_i e; cases hr; rw [if_neg e]; exact ⟨c1, rfl, rfl, hp1, hs1, hd1⟩
      | ret => simp only [hp] at hr; cases hr; exact ⟨c1, rfl, rfl, hp1, hs1, hd1⟩
  | .loop p, C0, c, s, s', a, x, hc, hr, hs => by
    simp only [cCode] at hc
    obtain ⟨p', h1, rfl⟩ := Option.map_eq_some_iff.1 hc
    simp only [runC] at hr
    refine wp_loop_count (fun k a1 w1 => ∃ c1 s1, c1.w = w1 ∧ Post P c c1 ∧ SRel P E nt c1 s1 a1 ∧ a1.defers = a.defers ∧ iter (runC E call p') k s1 = some (x, s')) ?_ ?_ (n := bound)
      ⟨c, s, rfl, Post.refl hs.sim, hs, rfl, hr⟩
    · rintro a1 w1 ⟨c1, s1, _, _, _, _, h⟩
      simp [iter] at h
    · rintro k a1 w1 ⟨c1, s1, rfl, hp1, hs1, hd1, hit⟩
      simp only [iter] at hit
      cases hp : runC E call p' s1 with
      | none => simp [hp] at hit
      | some r =>
        obtain ⟨y, s2⟩ := r
        refine wp_mono (code_ok hcall hdraw p p' c1 s1 s2 a1 y h1 hp hs1) ?_
        rintro e a2 w2 ⟨c2, rfl, rfl, hp2, hs2, hd2⟩
        cases y with
        | normal =>
          simp only [hp] at hit
          exact ⟨c2, s2, rfl, hp1.trans hs.sim hp2, hs2, hd2.trans hd1, hit⟩
        | exit i =>
          simp only [hp] at hit; cases hit
          exact ⟨c2, rfl, rfl, hp1.trans hs.sim hp2, hs2, hd2.trans hd1⟩
        | ret =>
          simp only [hp] at hit; cases hit
          exact ⟨c2, rfl, rfl, hp1.trans hs.sim hp2, hs2, hd2.trans hd1⟩
  | .rangeFunc f ps p q, C0, c, s, s', a, x, hc, hr, hs => by
    simp only [cCode] at hc
    cases h0 : cO f <;> cases h1 : cCode P nt p <;> cases h2 : cCode P nt q <;> simp [h0, h1, h2] at hc
    subst hc
    simp only [runC] at hr; cases hr
  | .exit id, C0, c, s, s', a, x, hc, hr, hs => by
    simp only [cCode] at hc; cases hc
    simp only [runC] at hr; cases hr
    exact wp_exit ⟨c, rfl, rfl, Post.refl hs.sim, hs, rfl⟩
  | .scope p, C0, c, s, s', a, x, hc, hr, hs => by
    simp only [cCode] at hc
    obtain ⟨p', h1, rfl⟩ := Option.map_eq_some_iff.1 hc
    simp only [runC] at hr
    refine wp_scope_straight (wp_mono (code_ok hcall hdraw p p' c s s' a x h1 hr hs) ?_)
    rintro e a2 w2 ⟨c2, rfl, rfl, hp2, hs2, hd2⟩
    cases x <;> exact ⟨c2, rfl, rfl, hp2, hs2, hd2⟩
  | .label l, C0, c, s, s', a, x, hc, hr, hs => by
    simp only [cCode] at hc; cases hc
    simp only [runC] at hr; cases hr
    exact wp_label ⟨c, rfl, rfl, Post.refl hs.sim, hs, rfl⟩
  | .goto l, C0, c, s, s', a, x, hc, hr, hs => by simp [cCode] at hc
  | .ret, C0, c, s, s', a, x, hc, hr, hs => by
    simp only [cCode] at hc; cases hc
    simp only [runC] at hr; cases hr
    exact wp_ret ⟨c, rfl, rfl, Post.refl hs.sim, hs, rfl⟩
  | .refuse w, C0, c, s, s', a, x, hc, hr, hs => by simp [cCode] at hc

end Go.Proofs.Ytgalchmjpfmemaa.Den
