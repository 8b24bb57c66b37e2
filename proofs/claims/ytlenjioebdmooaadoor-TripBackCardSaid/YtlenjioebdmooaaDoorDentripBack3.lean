/- TripBackCard: part 3 of what its proof rests on: an evaluator of the program's code, proved sound; plain functions printed from the code by a program of this session, with proofs; plain laws. No condition. -/
import Derived.Test.YtlenjioebdmooaaDoorDentripBack2
import Derived.Scope
import Derived.LoopNIn
import Derived.OrdersIn
import Derived.RangeFuncLeaves
import Derived.Orders

namespace Go.Proofs.YtlenjioebdmooaaDoor.Den
open Go
set_option linter.unusedVariables false
set_option linter.unusedSimpArgs false
variable {P : Program} {ro : Option Nat} {nn : Nat} {lo : Nat}
structure SRel (P : Program) (E : Env) (nt : Nat) (c : Cx) (s : S) (a : Act) : Prop where
  sim : PSim P c
  m : c.m = s.m
  t : TRel c s.t a
  gl : GlOK E c
  nt : a.tmps.size = nt
theorem SRel.mono {E : Env} {nt : Nat} {c c' : Cx} {s : S} {a : Act} (h : SRel P E nt c s a) (hp : Post P c c') {m' : Mem} (hm : c'.m = m') : SRel P E nt c' ⟨s.t, m'⟩ a :=
  ⟨hp.sim, hm, h.t.mono hp.st, h.gl.mono hp, h.nt⟩
theorem SRel.put {E : Env} {nt : Nat} {c : Cx} {s : S} {a : Act} (h : SRel P E nt c s a) {d : Option Nat} (hd : ∀ i, d = some i → i < nt) {v : V} {u : Value} (hr : RelV c v u) : SRel P E nt c ⟨putT s.t d v, s.m⟩ (a.put d u) := by
  cases d with
  | none => exact h
  | some i =>
    have hi : i < a.tmps.size := by rw [h.nt]; exact hd i rfl
    refine ⟨h.sim, h.m, fun j => ?_, h.gl, by simp [Act.put, h.nt]⟩
    simp only [putT, upd, Act.put]
    by_cases e : j = i
    · subst e
      simp only [if_true, Array.getD_eq_getD_getElem?]
      rw [Array.getElem?_setIfInBounds_self_of_lt hi]
      exact hr
    · simp only [if_neg e, Array.getD_eq_getD_getElem?]
      rw [Array.getElem?_setIfInBounds_ne (Ne.symm e)]
      simpa only [Array.getD_eq_getD_getElem?] using h.t j
theorem put_defers (a : Act) (d : Option Nat) (u : Value) : (a.put d u).defers = a.defers := by cases d <;> rfl
theorem wanted_ok {c : Cx} {t : Nat → V} {a : Act} (ht : TRel c t a) {ops : Array Oper} {o : Oper} {g : Option (Nat × Bool)}
    (hg : (match o.guard with | some (j, w) => (match (ops[j]?).bind (·.dst) with | some t => some (some (t, w)) | none => none) | none => some none : Option (Option (Nat × Bool))) = some g) {b : Bool} (hw : wantedC g t = some b) :
    Region.wanted o (yielded ops a.tmps) = b := by
  unfold Region.wanted
  cases hgd : o.guard with
  | none => simp [hgd] at hg; subst hg; simp [wantedC] at hw; exact hw.symm ▸ rfl
  | some jw =>
    obtain ⟨j, w⟩ := jw
    simp only [hgd] at hg
    cases hd : (ops[j]?).bind (·.dst) with
    | none => simp [hd] at hg
    | some i =>
      simp only [hd] at hg
      obtain rfl := Option.some.inj hg
      simp only [wantedC] at hw
      have hr := ht i
      simp only [yielded, hd, Option.bind_some]
      split at hw
      · rename_i x e
        cases hw
        rw [e] at hr
        simp only [RelV, RelD] at hr
        rw [Array.getD_eq_getD_getElem?] at hr
        cases hx : a.tmps[i]? with
        | none => rw [hx] at hr; simp [undef] at hr
        | some z => rw [hx] at hr; simp at hr; subst hr; simp
      · rename_i e
        cases hw
        rw [e] at hr
        simp only [RelV] at hr
        obtain ⟨l, q, _⟩ := hr
        rw [Array.getD_eq_getD_getElem?] at q
        cases hx : a.tmps[i]? with
        | none => simp
        | some z => rw [hx] at q; simp at q; subst q; simp
      · cases hw
theorem cOpC_spec {nt : Nat} {ops : Array Oper} {o : Oper} {oc : OpC} (h : cOpC P nt ops o = some oc) :
    cOp P o = some oc.ins ∧ oc.dst = o.dst ∧ (∀ i, o.dst = some i → i < nt) ∧
    (match o.guard with | some (j, w) => (match (ops[j]?).bind (·.dst) with | some t => some (some (t, w)) | none => none) | none => some none : Option (Option (Nat × Bool))) = some oc.guard := by
  unfold cOpC at h
  cases hi : cOp P o with
  | none => simp [hi] at h
  | some i =>
    simp only [hi] at h
    split at h
    · rename_i d g hd hg
      cases h
      refine ⟨rfl, ?_, ?_, hg⟩
      · cases hod : o.dst with
        | none => rw [hod] at hd; simp at hd; exact hd.symm
        | some x =>
          rw [hod] at hd
          simp only at hd
          split at hd
          · simp at hd; exact hd.symm
          · cases hd
      · intro x hx
        rw [hx] at hd
        simp only at hd
        split at hd
        · assumption
        · cases hd
    · cases h
theorem cOpsC_spec {nt : Nat} {ops : Array Oper} : ∀ {l : List Oper} {ls : List OpC}, cOpsC P nt ops l = some ls → ls.length = l.length ∧ ∀ (k : Nat) (o : Oper), l[k]? = some o → ∃ oc, ls[k]? = some oc ∧ cOpC P nt ops o = some oc
  | [], ls, h => by simp [cOpsC] at h; subst h; simp
  | o :: l, ls, h => by
    simp only [cOpsC] at h
    cases h1 : cOpC P nt ops o with
    | none => simp [h1] at h
    | some oc =>
      cases h2 : cOpsC P nt ops l with
      | none => simp [h1, h2] at h
      | some lc =>
        simp [h1, h2] at h; subst h
        obtain ⟨g1, g2⟩ := cOpsC_spec h2
        refine ⟨by simp [g1], fun k x hk => ?_⟩
        cases k with
        | zero => simp at hk; subst hk; exact ⟨oc, by simp, h1⟩
        | succ k => simpa using g2 k x (by simpa using hk)
theorem cOp_nd {o : Oper} {i : I} (h : cOp P o = some i) : ∀ d, o.op ≠ .defer d := by
  intro d e
  unfold cOp at h
  rw [e] at h
  simp at h
theorem op_ok {E : Env} {call : CallT} (hcall : CallOK P E call) {nt : Nat} {ops : Array Oper} {Q : Exit → Act → World → Prop} {i : Nat} {o : Oper} {oc : OpC} (ho : ops[i]? = some o) (hc : cOpC P nt ops o = some oc)
    {c : Cx} {s s' : S} {a : Act} (hs : SRel P E nt c s a) {K : Act → World → Prop}
    (hstep : (∃ v m', wantedC oc.guard s.t = some true ∧ doI E call oc.ins s.t s.m = some (v, m') ∧ s' = ⟨putT s.t oc.dst v, m'⟩) ∨ (wantedC oc.guard s.t = some false ∧ s' = ⟨putT s.t oc.dst (.tup []), s.m⟩))
    (hk : ∀ c' a', Post P c c' → SRel P E nt c' s' a' → a'.defers = a.defers → K a' c'.w) : wpOpIn (RF ro) nn P ops Q i K a c.w := by
  obtain ⟨h1, h2, h3, h4⟩ := cOpC_spec hc
  unfold wpOpIn
  simp only [ho]
  rcases hstep with ⟨v, m', hw, hd, rfl⟩ | ⟨hw, rfl⟩
  · rw [if_pos (wanted_ok hs.t h4 hw)]
    rw [← hs.m] at hd
    refine (doI_good hcall hs.sim hs.gl hs.t h1 hd).wp (cOp_nd h1) fun c' u hm hp hr => ?_
    refine hk c' _ hp ?_ (put_defers a o.dst u)
    have := (hs.mono hp hm).put (d := o.dst) h3 hr
    rw [h2]; exact this
  · rw [if_neg (by rw [wanted_ok hs.t h4 hw]; simp)]
    refine ⟨fun _ _ => trivial, ?_⟩
    refine hk c _ (Post.refl hs.sim) ?_ (put_defers a o.dst undef)
    have := hs.put (d := o.dst) h3 (undef_rel c)
    rw [h2]; exact this
theorem opsC_cons {step : I → (Nat → V) → Mem → Option (V × Mem)} {o : OpC} {r : List OpC} {s s2 : S} (h : opsC step (o :: r) s = some s2) :
    ∃ s1, ((∃ v m', wantedC o.guard s.t = some true ∧ step o.ins s.t s.m = some (v, m') ∧ s1 = ⟨putT s.t o.dst v, m'⟩) ∨ (wantedC o.guard s.t = some false ∧ s1 = ⟨putT s.t o.dst (.tup []), s.m⟩)) ∧ opsC step r s1 = some s2 := by
  simp only [opsC] at h
  split at h
  · rename_i hw
    split at h
    · rename_i v m' hd
      exact ⟨_, .inl ⟨v, m', hw, hd, rfl⟩, h⟩
    · cases h
  · rename_i hw
    exact ⟨_, .inr ⟨hw, rfl⟩, h⟩
  · cases h
theorem ops_ok {E : Env} {call : CallT} (hcall : CallOK P E call) {nt : Nat} {ops : Array Oper} {Q : Exit → Act → World → Prop} :
    ∀ (is : List Nat) (ls : List OpC) (c : Cx) (s s' : S) (a : Act), is.length = ls.length → (∀ (k i : Nat), is[k]? = some i → ∃ o oc, ops[i]? = some o ∧ ls[k]? = some oc ∧ cOpC P nt ops o = some oc) →
    SRel P E nt c s a → opsC (doI E call) ls s = some s' → (∀ c' a', Post P c c' → SRel P E nt c' s' a' → a'.defers = a.defers → Q .normal a' c'.w) → wpOpsIn (RF ro) nn P ops Q is a c.w
  | [], [], c, s, s', a, _, _, hs, h, hq => by
    simp [opsC] at h; subst h
    exact hq c a (Post.refl hs.sim) hs rfl
  | [], _ :: _, _, _, _, _, hl, _, _, _, _ => by simp at hl
  | _ :: _, [], _, _, _, _, hl, _, _, _, _ => by simp at hl
  | i :: is, oc :: ls, c, s, s', a, hl, hio, hs, h, hq => by
    obtain ⟨o, oc', ho, hoc, hc⟩ := hio 0 i (by simp)
    simp at hoc; subst hoc
    obtain ⟨s1, hstep, hrest⟩ := opsC_cons h
    rw [wpOpsIn_cons]
    refine op_ok hcall ho hc hs hstep fun c' a' hp hs' hd => ?_
    refine ops_ok hcall is ls c' s1 s' a' (by simpa using hl) (fun k j hk => by
      have := hio (k + 1) j (by simpa using hk); simpa using this) hs' hrest fun c2 a2 hp2 hs2 hd2 => ?_
    exact hq c2 a2 (hp.trans hs.sim hp2) hs2 (hd2.trans hd)
theorem range_get {n k i : Nat} (h : (List.range n)[k]? = some i) : i = k ∧ k < n := by
  have := List.getElem?_eq_some_iff.1 h
  obtain ⟨h1, h2⟩ := this
  simp at h1 h2
  exact ⟨h2.symm, h1⟩
theorem region_ok {E : Env} {call : CallT} (hcall : CallOK P E call) {nt id : Nat} {ops : Array Oper} {ls : List OpC} (hls : cOpsC P nt ops ops.toList = some ls) {Q : Exit → Act → World → Prop} {c : Cx} {s s' : S} {a : Act}
    (hs : SRel P E nt c s a) (h : opsC (doI E call) ls s = some s') (hq : ∀ c' a', Post P c c' → SRel P E nt c' s' a' → a'.defers = a.defers → Q .normal a' c'.w) : (Code.region id ops false).wpIn (RF ro) nn P Q a c.w := by
  obtain ⟨h1, h2⟩ := cOpsC_spec hls
  refine wpIn_region (ops_ok hcall (List.range ops.size) ls c s s' a (by simp [h1]) (fun k i hk => ?_) hs h hq)
  obtain ⟨rfl, hlt⟩ := range_get hk
  obtain ⟨oc, g1, g2⟩ := h2 i ops[i] (by simp [hlt])
  exact ⟨ops[i], oc, by simp [hlt], g1, g2⟩
def exitOf : X → Exit
  | .normal => .normal
  | .exit id => .exit id
  | .ret => .ret
def DrawOK (P : Program) : Prop := ∀ (ro : Option Nat) (nn : Nat) (E : Env) (call : CallT), CallOK P E call → ∀ (nt id : Nat) (ops : Array Oper) (C0 : C), cRegion P nt ops true = some C0.er → ∀ (Q : Exit → Act → World → Prop) (c : Cx) (s s2 : S) (x : X) (a : Act),
    SRel P E nt c s a → runC E call C0 s = some (x, s2) → (∀ c' a', Post P c c' → SRel P E nt c' s2 a' → a'.defers = a.defers → x = .normal → Q .normal a' c'.w) → (Code.region id ops true).wpIn (RF ro) nn P Q a c.w
theorem cRegion_false {nt : Nat} {ops : Array Oper} {C0 : C} (h : cRegion P nt ops false = some C0) : ∃ l, cOpsC P nt ops ops.toList = some l ∧ C0 = .reg [] l := by
  unfold cRegion at h
  cases hl : cOpsC P nt ops ops.toList with
  | none => simp [hl] at h
  | some l => simp [hl] at h; exact ⟨l, rfl, h.symm⟩
theorem cRegion_true {nt : Nat} {ops : Array Oper} {C0 : C} (h : cRegion P nt ops true = some C0) : (∃ qs ts, C0 = .reg qs ts) ∨ ∃ l un, C0 = .mix l un [] := by
  unfold cRegion at h
  cases hl : cOpsC P nt ops ops.toList with
  | none => simp [hl] at h
  | some l =>
    simp only [hl, Bool.not_true, Bool.false_eq_true, if_false] at h
    split at h
    · cases h; exact .inl ⟨_, _, rfl⟩
    · split at h
      · cases h; exact .inl ⟨_, _, rfl⟩
      · split at h
        · cases h; exact .inl ⟨_, _, rfl⟩
        · split at h
          · cases h; exact .inr ⟨_, _, rfl⟩
          · cases h
theorem stepR_scope {b : Frame} {a : Act} {k : List Item} {cs : List Frame} {w : World} {c : Code} : step P (lone (b.atR a (.code (.scope c) :: k)) cs w) = .next (lone (b.atR a (.code c :: .inScope c :: k)) cs w) :=
  step_lone_go (by simp [stepG, stepG.exec, Frame.atR])
theorem stepR_inScope {b : Frame} {a : Act} {k : List Item} {cs : List Frame} {w : World} {c : Code} : step P (lone (b.atR a (.inScope c :: k)) cs w) = .next (lone (b.atR a k) cs w) :=
  step_lone_go (by simp [stepG, stepG.exec, Frame.atR])
theorem wpIn_scope_straight {c : Code} {Q : Exit → Act → World → Prop} {a : Act} {w : World} (h : c.wpIn (RF ro) nn P (Exit.noGoto Q) a w) : (Code.scope c).wpIn (RF ro) nn P Q a w := by
  intro b k cs hro hb hr
  have h0 : (lone (b.atR a (.code (.scope c) :: k)) cs w).fenced P (RF ro) := fenced_calm hb hr rfl
  obtain ⟨e, a₁, w₁, hq, harr⟩ := h b (.inScope c :: k) cs hro hb hr
  have hx : ∀ id, exitTo id (.inScope c :: k) = exitTo id k := fun id => by simp [exitTo]
  cases e with
  | normal => exact ⟨.normal, a₁, w₁, hq, .head h0 stepR_scope (StepsIn.trans harr (.one (fenced_calm hb hr rfl) stepR_inScope))⟩
  | exit id => exact ⟨.exit id, a₁, w₁, hq, fun k' hk => .head h0 stepR_scope (harr.1 k' (by rw [hx]; exact hk)), fun hr' hk => let ⟨k₁, h1, h2⟩ := harr.2 hr' (by rw [hx]; exact hk); ⟨k₁, h1, .head h0 stepR_scope h2⟩⟩
  | goto l => exact hq.elim
  | ret => exact ⟨_, a₁, w₁, hq, .of_steps (.one h0 stepR_scope) harr⟩
  | panic ch => exact ⟨_, a₁, w₁, hq, .of_steps (.one h0 stepR_scope) harr⟩
  | outgrown => exact ⟨_, a₁, w₁, hq, .of_steps (.one h0 stepR_scope) harr⟩
theorem wp_loop_count {p : Code} {Q : Exit → Act → World → Prop} (J : Nat → Act → World → Prop) (h0 : ∀ a w, ¬ J 0 a w) (hround : ∀ n a w, J (n + 1) a w → p.wpIn (RF ro) nn P (Exit.then (J n) Q) a w) {n : Nat} {a : Act} {w : World} (h : J n a w) : (Code.loop p).wpIn (RF ro) nn P Q a w := by
  have key : ∀ n a w, J n a w → Code.roundsIn (RF ro) nn P p Q n a w := by
    intro n
    induction n with
    | zero => intro a w hJ; exact (h0 a w hJ).elim
    | succ n ih => intro a w hJ; exact wpIn_mono (hround n a w hJ) (by rintro e a w hq; cases e <;> first | exact ih _ _ hq | exact hq)
  exact wpIn_loop_rounds n (key n a w h)
def Post' (lo : Nat) (ro : Option Nat) (P : Program) (E : Env) (nt : Nat) (c : Cx) (a : Act) (x : X) (s' : S) (e : Exit) (a' : Act) (w' : World) : Prop :=
  ∃ c', e = exitOf x ∧ c'.w = w' ∧ Post P c c' ∧ SRel P E nt c' s' a' ∧ Mks lo ro c' a'.defers
theorem tidy_core {c c2 : Cx} (hs : PSim P c) (hp : Post P c c2) {vs r : List V} {rv : List Value} {m' : Mem} (hr : RelVs c2 vs rv) (h : tidy c.m.length (vs, c2.m) = some (r, m')) : ∃ c', c'.w = c2.w ∧ c'.m = m' ∧ (∀ id B, c'.φ id = some B → ∃ j, c2.φ j = some B) ∧ Post P c c' ∧ RelVs c' r rv := by
  unfold tidy at h
  split at h
  · cases h
    exact ⟨c2, rfl, rfl, fun id B h => ⟨id, h⟩, hp, hr⟩
  · simp only at h
    generalize hfresh : (reach c2.m 1000 (V.idss vs ++ List.range c.m.length) []).filter (fun j => decide (c.m.length ≤ j)) = fresh at h
    split at h
    case isFalse => cases h
    rename_i hd
    obtain ⟨nb, hnb, h⟩ := Option.map_eq_some_iff.1 h
    cases h
    obtain ⟨p1, p2⟩ := pickBlks_spec hnb
    let ρ := tidyRen c.m.length fresh
    let m2 : Mem := (c2.m.take c.m.length).map (Blk.ren ρ) ++ nb
    let c' : Cx := ⟨fun i => if i < c.m.length then c2.φ i else (fresh[i - c.m.length]?).bind c2.φ, m2, c.I, c2.w⟩
    have hlen : c.m.length ≤ c2.m.length := by
      rcases Nat.eq_zero_or_pos c.m.length with h0 | h0
      · omega
      · obtain ⟨b, hb⟩ : ∃ b, c.m[c.m.length - 1]? = some b := ⟨_, List.getElem?_eq_getElem (by omega)⟩
        obtain ⟨b', hb', _⟩ := hp.st.blk _ b hb
        have := (List.getElem?_eq_some_iff.1 hb').1
        omega
    have hml : m2.length = c.m.length + fresh.length := by simp [m2, p1]; omega
    have hfr : ∀ t j, fresh[t]? = some j → c.m.length ≤ j := fun t j ht => by
      have := List.mem_of_getElem? ht
      rw [← hfresh] at this
      have := (List.mem_filter.1 this).2
      simpa using this
    have old : ∀ i, i < c.m.length → m2[i]? = (c2.m[i]?).map (Blk.ren ρ) := fun i hi => by
      simp only [m2]
      rw [List.getElem?_append_left (by simp; omega)]
      simp [List.getElem?_take, hi]
    have new : ∀ k, m2[c.m.length + k]? = nb[k]? := fun k => by
      simp only [m2]
      rw [List.getElem?_append_right (by simp; omega)]
      congr 1; simp; omega
    have hren : Ren ρ c2 c' := by
      refine ⟨fun b o h => ⟨by show c.I b o; rw [← hp.imm]; exact h, fun _ h => h⟩, fun i j hij blk hb => ?_⟩
      obtain ⟨o1, o2, o3, _, _⟩ := ren_len ρ blk
      simp only [ρ, tidyRen] at hij
      split at hij
      · rename_i hlt
        cases hij
        refine ⟨blk.ren ρ, by show m2[i]? = _; rw [old i hlt, hb]; rfl, o1, o2, o3, fun B hB => ⟨?_, fun _ _ h => h⟩⟩
        simp only [c', hlt, if_true]; exact hB
      · rename_i hge
        obtain ⟨t, ht, rfl⟩ := Option.map_eq_some_iff.1 hij
        have hti := idxOf_some ht
        obtain ⟨b, q1, q2⟩ := p2 t i hti
        rw [hb] at q1; cases q1
        refine ⟨blk.ren ρ, by show m2[t + c.m.length]? = _; rw [Nat.add_comm, new, q2], o1, o2, o3, fun B hB => ⟨?_, fun _ _ h => h⟩⟩
        simp only [c']
        rw [if_neg (by omega), show t + c.m.length - c.m.length = t by omega, hti]
        exact hB
    have hφ : ∀ i B, c'.φ i = some B → (i < c.m.length ∧ c2.φ i = some B) ∨ ∃ t j, i = c.m.length + t ∧ fresh[t]? = some j ∧ c2.φ j = some B := fun i B hi => by
      simp only [c'] at hi
      split at hi
      · rename_i hlt; exact .inl ⟨hlt, hi⟩
      · rename_i hge
        obtain ⟨j, h1, h2⟩ := Option.bind_eq_some_iff.1 hi
        exact .inr ⟨i - c.m.length, j, by omega, h1, h2⟩
    have noI : ∀ i B, c2.φ i = some B → ∀ o, ¬ c.I B o := fun i B hi o hI => hp.sim.noI hi o (by rw [hp.imm]; exact hI)
    have hst : St c c' := by
      refine ⟨fun b o hI => ⟨hI, (hp.st.keep b o hI).2⟩, fun i blk hb => ?_⟩
      have hi : i < c.m.length := (List.getElem?_eq_some_iff.1 hb).1
      obtain ⟨b2, g1, g2, g3, g4⟩ := hp.st.blk i blk hb
      obtain ⟨o1, o2, o3, _, _⟩ := ren_len ρ b2
      refine ⟨b2.ren ρ, by show m2[i]? = _; rw [old i hi, g1]; rfl, by rw [o1]; exact g2, fun hl => ⟨by rw [o3]; exact (g3 hl).1, by rw [o1]; exact (g3 hl).2⟩, fun he => ?_⟩
      obtain ⟨k1, k2⟩ := g4 (by rw [← o1]; exact he)
      refine ⟨by rw [o2]; exact k1, fun B hB => ⟨?_, (k2 B hB).2⟩⟩
      simp only [c', hi, if_true]; exact (k2 B hB).1
    refine ⟨c', rfl, rfl, (fun i B hi => by rcases hφ i B hi with ⟨_, h2⟩ | ⟨_, j, _, _, h2⟩ <;> exact ⟨_, h2⟩), ⟨hst, ⟨fun i blk B hb hi => ?_, fun i j B hi hj => ?_, fun i B hi => ?_, fun b o hI => Nat.lt_of_lt_of_le (hs.imm b o hI) hp.keeps.size⟩, ⟨hp.keeps.size, hp.keeps.os, hp.keeps.tape, hp.keeps.output, hp.keeps.heap, fun i B hi => ?_, fun i blk hb => ?_, fun i blk hb hpr => ?_, fun i B blk hi hb hpr => ?_⟩, rfl⟩, RelVs.ren hren _ _ hr⟩
    · have hb' : m2[i]? = some blk := hb
      rcases hφ i B hi with ⟨hlt, h2⟩ | ⟨t, j, rfl, h1, h2⟩
      · rw [old i hlt] at hb'
        obtain ⟨b2, q1, rfl⟩ := Option.map_eq_some_iff.1 hb'
        exact (hp.sim.blk i b2 B q1 h2).ren hren (noI i B h2) (fun x hx => hx)
      · rw [new] at hb'
        obtain ⟨b2, q1, q2⟩ := p2 t j h1
        rw [q2] at hb'; cases hb'
        exact (hp.sim.blk j b2 B q1 h2).ren hren (noI j B h2) (fun x hx => hx)
    · rcases hφ i B hi with ⟨hlt, h2⟩ | ⟨t, i', rfl, h1, h2⟩ <;> rcases hφ j B hj with ⟨hlt', h2'⟩ | ⟨t', j', rfl, h1', h2'⟩
      · exact hp.sim.inj i j B h2 h2'
      · have e := hp.sim.inj i j' B h2 h2'
        have := hfr t' j' h1'
        omega
      · have e := hp.sim.inj j i' B h2' h2
        have := hfr t i' h1
        omega
      · have e := hp.sim.inj i' j' B h2 h2'
        subst e
        have e1 := idxOf_of hd h1
        have e2 := idxOf_of hd h1'
        rw [e1] at e2; cases e2; rfl
    · show i < m2.length
      rcases hφ i B hi with ⟨hlt, _⟩ | ⟨t, j, rfl, h1, _⟩
      · omega
      · have := (List.getElem?_eq_some_iff.1 h1).1
        omega
    · rcases hφ i B hi with ⟨hlt, h2⟩ | ⟨t, j, rfl, h1, h2⟩
      · exact hp.keeps.fresh i B h2
      · rcases hp.keeps.fresh j B h2 with h3 | h3
        · have := hs.dom j B h3
          have := hfr t j h1
          omega
        · exact .inr h3
    · have hi : i < c.m.length := (List.getElem?_eq_some_iff.1 hb).1
      obtain ⟨b2, g1, g2⟩ := hp.keeps.prot i blk hb
      exact ⟨b2.ren ρ, by show m2[i]? = _; rw [old i hi, g1]; rfl, by rw [(ren_len ρ b2).2.2.2.1]; exact g2⟩
    · have hi : i < c.m.length := (List.getElem?_eq_some_iff.1 hb).1
      obtain ⟨b2, g1, g2, g3, g4⟩ := hp.keeps.same i blk hb hpr
      obtain ⟨o1, o2, o3, _, _⟩ := ren_len ρ b2
      exact ⟨b2.ren ρ, by show m2[i]? = _; rw [old i hi, g1]; rfl, by rw [o1]; exact g2, by rw [o2]; exact g3, by rw [o3]; exact g4⟩
    · rcases hφ i B hi with ⟨hlt2, h2⟩ | ⟨t, j, e, h1, h2⟩
      · obtain ⟨b2, g1, g2⟩ := hp.keeps.prot i blk hb
        exact hp.keeps.old i B blk h2 hb hpr
      · have : i < c.m.length := (List.getElem?_eq_some_iff.1 hb).1
        omega
theorem tidy_ok {c c2 : Cx} (hs : PSim P c) (hp : Post P c c2) {vs r : List V} {rv : List Value} {m' : Mem} (hr : RelVs c2 vs rv) (h : tidy c.m.length (vs, c2.m) = some (r, m')) : Left P c r m' (.returned (packR rv)) c2.w := by
  obtain ⟨c', h1, h2, _, h3, h4⟩ := tidy_core hs hp hr h
  exact ⟨rv, c', rfl, h1, h2, h3, h4⟩
@[simp] theorem erA_ne_skip (a b : C) : (C.erA a b = .skip) = False := by cases a <;> simp [C.erA]
@[simp] theorem erA_ne_reg (a b : C) (qs ts : List OpC) : (C.erA a b = .reg qs ts) = False := by cases a <;> simp [C.erA]
@[simp] theorem erA_ne_mix (a b : C) (l : List OpC) (un : List (List Nat)) (qf : List Bool) : (C.erA a b = .mix l un qf) = False := by cases a <;> simp [C.erA]
@[simp] theorem erA_ne_cond (a b : C) (o : O) (p q : C) : (C.erA a b = .cond o p q) = False := by cases a <;> simp [C.erA]
@[simp] theorem erA_ne_block (a b : C) (i : Nat) (p : C) : (C.erA a b = .block i p) = False := by cases a <;> simp [C.erA]
@[simp] theorem erA_ne_loop (a b : C) (lv lx : List Nat) (p : C) : (C.erA a b = .loop lv lx p) = False := by cases a <;> simp [C.erA]
@[simp] theorem erA_ne_rfun (a b : C) (nt : Nat) (lv : List Nat) (f : O) (ps : List Nat) (p q : C) : (C.erA a b = .rfun nt lv f ps p q) = False := by cases a <;> simp [C.erA]
@[simp] theorem erA_ne_exit (a b : C) (i : Nat) : (C.erA a b = .exit i) = False := by cases a <;> simp [C.erA]
@[simp] theorem erA_ne_scope (a b : C) (p : C) : (C.erA a b = .scope p) = False := by cases a <;> simp [C.erA]
@[simp] theorem erA_ne_ret (a b : C) : (C.erA a b = .ret) = False := by cases a <;> simp [C.erA]
theorem er_skip {c : C} (h : c.er = .skip) : c = .skip := by cases c <;> simp [C.er] at h ⊢
theorem er_reg {c : C} {qs ts} (h : c.er = .reg qs ts) : c = .reg qs ts := by cases c <;> simp [C.er] at h ⊢; exact h
theorem er_mix {c : C} {l un} (h : c.er = .mix l un []) : ∃ qf, c = .mix l un qf := by cases c <;> simp [C.er] at h ⊢; exact h
theorem er_seq {c p q : C} (h : c.er = .seq p q) : (∃ a b, (c = .seq a b ∨ c = .seq1 a b) ∧ a.er = p ∧ b.er = q) ∨ ∃ lv lx ln a b, c = .cut lv lx ln a b ∧ C.erA a b.er = .seq p q := by
  cases c <;> simp [C.er] at h
  · exact .inl ⟨_, _, .inl rfl, h⟩
  · exact .inr ⟨_, _, _, _, _, rfl, h⟩
  · exact .inl ⟨_, _, .inr rfl, h⟩
theorem er_cond {c p q : C} {o : O} (h : c.er = .cond o p q) : ∃ a b, c = .cond o a b ∧ a.er = p ∧ b.er = q := by cases c <;> simp [C.er] at h; obtain ⟨rfl, h⟩ := h; exact ⟨_, _, rfl, h⟩
theorem er_block {c p : C} {i : Nat} (h : c.er = .block i p) : ∃ a, c = .block i a ∧ a.er = p := by cases c <;> simp [C.er] at h; obtain ⟨rfl, h⟩ := h; exact ⟨_, rfl, h⟩
theorem er_loop {c p : C} (h : c.er = .loop [] [] p) : ∃ lv lx a, c = .loop lv lx a ∧ a.er = p := by cases c <;> simp [C.er] at h; exact ⟨_, _, _, rfl, h⟩
theorem er_rfun {c p q : C} {f : O} {ps : List Nat} {nt : Nat} (h : c.er = .rfun nt [] f ps p q) : ∃ lv a b, c = .rfun nt lv f ps a b ∧ a.er = p ∧ b.er = q := by cases c <;> simp [C.er] at h; obtain ⟨rfl, rfl, rfl, h⟩ := h; exact ⟨_, _, _, rfl, h⟩
theorem er_exit {c : C} {i : Nat} (h : c.er = .exit i) : c = .exit i := by cases c <;> simp [C.er] at h ⊢; exact h
theorem er_scope {c p : C} (h : c.er = .scope p) : ∃ a, c = .scope a ∧ a.er = p := by cases c <;> simp [C.er] at h; exact ⟨_, rfl, h⟩
theorem er_ret {c : C} (h : c.er = .ret) : c = .ret := by cases c <;> simp [C.er] at h ⊢
theorem look_rel {c : Cx} {a : Act} {t : Nat → V} (ht : TRel c t a) (l : List Nat) : TRel c (look l (l.map t)) a := by
  intro j
  induction l with
  | nil => simp only [List.map_nil, look, RelV]
  | cons i l ih =>
    simp only [List.map_cons, look]
    split
    · rename_i e; subst e; exact ht _
    · exact ih
theorem look_rel' {c : Cx} {a : Act} : ∀ (l : List Nat) (vs : List V), RelVs c vs (l.map fun j => a.tmps.getD j undef) → TRel c (look l vs) a
  | [], _, _, j => by simp only [look, RelV]
  | _ :: _, [], _, j => by simp only [look, RelV]
  | i :: l, v :: vs, h, j => by
    simp only [List.map_cons, RelVs] at h
    obtain ⟨u, us, e, h1, h2⟩ := h
    obtain ⟨rfl, rfl⟩ := List.cons.inj e
    simp only [look]
    split
    · rename_i e; subst e; exact h1
    · exact look_rel' l vs h2 j
theorem sel_rel {c : Cx} {a : Act} {t : Nat → V} (ht : TRel c t a) : ∀ (l : List Nat), RelVs c (l.map t) (l.map fun j => a.tmps.getD j undef)
  | [] => by simp [RelVs]
  | i :: l => by simp only [List.map_cons, RelVs]; exact ⟨_, _, rfl, ht i, sel_rel ht l⟩
theorem cCode_ret {n : Nat} {y : Code} (h : cCode P n y = some .ret) : y = .ret := by
  cases y with
  | ret => rfl
  | region id ops draw => simp only [cCode] at h; cases draw <;> first | (obtain ⟨_, _, e⟩ := cRegion_false h; cases e) | (obtain ⟨_, _, e⟩ | ⟨_, _, e⟩ := cRegion_true h <;> cases e)
  | seq a b => simp only [cCode] at h; cases h1 : cCode P n a <;> cases h2 : cCode P n b <;> simp [h1, h2] at h
  | cond b p q => simp only [cCode] at h; cases h0 : cO b <;> cases h1 : cCode P n p <;> cases h2 : cCode P n q <;> simp [h0, h1, h2] at h
  | rangeFunc f ps p q => simp only [cCode] at h; cases h0 : cO f <;> cases h1 : cCode P n p <;> cases h2 : cCode P n q <;> simp [h0, h1, h2] at h
  | _ => simp [cCode] at h
theorem cCode_exit {n i : Nat} {y : Code} (h : cCode P n y = some (.exit i)) : y = .exit i := by
  cases y with
  | exit id => simp [cCode] at h; rw [h]
  | region id ops draw => simp only [cCode] at h; cases draw <;> first | (obtain ⟨_, _, e⟩ := cRegion_false h; cases e) | (obtain ⟨_, _, e⟩ | ⟨_, _, e⟩ := cRegion_true h <;> cases e)
  | seq a b => simp only [cCode] at h; cases h1 : cCode P n a <;> cases h2 : cCode P n b <;> simp [h1, h2] at h
  | cond b p q => simp only [cCode] at h; cases h0 : cO b <;> cases h1 : cCode P n p <;> cases h2 : cCode P n q <;> simp [h0, h1, h2] at h
  | rangeFunc f ps p q => simp only [cCode] at h; cases h0 : cO f <;> cases h1 : cCode P n p <;> cases h2 : cCode P n q <;> simp [h0, h1, h2] at h
  | _ => simp [cCode] at h
theorem tmps_list {a : Act} {nt : Nat} (h : a.tmps.size = nt) : (List.range nt).map (fun j => a.tmps.getD j undef) = a.tmps.toList := by
  apply List.ext_getElem
  · simp [h]
  · intro i h1 h2
    have hi : i < a.tmps.size := by simpa using h2
    simp [Array.getD_eq_getD_getElem?, Array.getElem?_eq_getElem hi]
def RangeGoal (ro : Option Nat) (nn : Nat) (P : Program) (g : Operand) (ps : Array Tmp) (as1 bo : Code) (Q : Exit → Act → World → Prop) (a : Act) (w : World) (fn : FuncId) : Prop :=
  ∃ (l : Nat) (mark : List Deferred) (w₁ : World) (d : Deferred) (w₁' : World) (f : FuncId) (args : Array Value) (w₂ : World),
      (Instr.enterLoop fn a.tmps ps as1 bo ro).run P w = .ok (l, mark) w₁ ∧
      (resolve a.eval (rangeCall g l) 0).run P w₁ = .ok d w₁' ∧
      (invoke d.target d.args).run P w₁' = .ok (.enter f args) w₂ ∧
      CallsIn (RF ro) (nn - 1) P f args w₂ (rangePost (RF ro) nn P l Q { a with defers := mark ++ a.defers })
theorem range_start {g : Operand} {ps : Array Tmp} {as1 bo : Code} {Q : Exit → Act → World → Prop} {a : Act} {w : World} (h : ∀ fn, RangeGoal ro nn P g ps as1 bo Q a w fn) : (Code.rangeFunc g ps as1 bo).wpIn (RF ro) nn P Q a w :=
  wpIn_rangeFunc fun fn _ => let ⟨l, mark, w₁, d, w₁', f, args, w₂, h1, h2, h3, h4⟩ := h fn; ⟨l, mark, w₁, d, w₁', f, args, w₂, h1, h2, fun _ _ => trivial, h3, (fun h => nomatch h), h4⟩
theorem range_fin {g : Operand} {ps : Array Tmp} {as1 bo : Code} {Q : Exit → Act → World → Prop} {a : Act} {w : World} {fn : FuncId} {l : Nat} {mark : List Deferred} {w₁ : World} {t : Target} {ar : Array Value} {f : FuncId} {args : Array Value} {L : Prop}
    (h1 : (Instr.enterLoop fn a.tmps ps as1 bo ro).run P w = .ok (l, mark) w₁) (h2 : (resolve a.eval (rangeCall g l) 0).run P w₁ = .ok { target := t, args := ar } w₁) (h3 : (invoke t ar).run P w₁ = .ok (.enter f args) w₁)
    (h4 : L → CallsIn (RF ro) (nn - 1) P f args w₁ (rangePost (RF ro) nn P l Q { a with defers := mark ++ a.defers })) (hL : L) : RangeGoal ro nn P g ps as1 bo Q a w fn :=
  ⟨l, mark, w₁, _, w₁, f, args, w₁, h1, h2, h3, h4 hL⟩
theorem range_ok {E : Env} {call : CallT} (hcall : CallOK P E call) {nt : Nat} {f : Operand} {f' : O} {ps : Array Tmp} {p q : Code} {p' q' : C} {lv : List Nat} {c : Cx} {s s' : S} {a : Act} {x : X} (hs : SRel P E nt c s a) (hmk : Mks lo ro c a.defers)
    (h0 : cO f = some f') (h1 : cCode P nt p = some p'.er) (h2 : cCode P nt q = some q'.er) (hr : runC E call (.rfun nt lv f' ps.toList p' q') s = some (x, s')) :
    (Code.rangeFunc f ps p q).wpIn (RF ro) nn P (Post' lo ro P E nt c a x s') a c.w := by
  have hf := ev_rel (E := E) hs.t hs.gl h0
  simp only [runC] at hr
  split at hr
  case h_2 => cases hr
  rename_i g first cap e
  split at hr
  · cases hr
  rename_i hny
  split at hr
  case h_2 => cases hr
  rename_i rs m2 hcv
  rw [e] at hf
  simp only [RelV] at hf
  obtain ⟨fi, ca, hfe, hfi, hca⟩ := hf
  refine range_start fun fn => ?_
  obtain ⟨c1, mark, df, hent, hp1, hm1, hmk1⟩ : ∃ (c1 : Cx) (mark : List Deferred) (df : Nat), (Instr.enterLoop fn a.tmps ps p q ro).run P c.w = .ok (c1.w.heap.size, mark) (c1.w.alloc (.loop { state := .ready, pending := none, fn, tmps := a.tmps, params := ps, assign := p, body := q, defers := df })) ∧
      Post P c c1 ∧ c1.m = c.m ∧ Mks lo ro c1 (mark ++ a.defers) := by
    cases hro : ro with
    | none =>
      have hp : Post P c ⟨c.φ, c.m, c.I, c.w.alloc (.deferred (some []))⟩ := post_world hs.sim (fun k o hk => by
        have := heap_lt hk; simp only [World.alloc]; rw [Array.getElem?_push_lt (by omega)]; simpa using (Array.getElem?_eq_some_iff.1 hk).2) (by simp) rfl rfl rfl
      refine ⟨⟨c.φ, c.m, c.I, c.w.alloc (.deferred (some []))⟩, [{ target := .collected c.w.heap.size, args := #[] }], c.w.heap.size, by rw [run_enterLoop_outer]; simp, hp, rfl, fun d hd => ?_, by rw [← hro]; exact hmk.ro.mono hp, ?_, Nat.le_trans hmk.lo hp.keeps.size⟩
      · rcases List.mem_append.1 hd with hd | hd
        · simp only [List.mem_singleton] at hd
          subst hd
          exact ⟨_, rfl, ⟨heap_alloc_self _ _, fun id hid => by have := hs.sim.lt (hid : c.φ id = _); omega⟩, hmk.lo⟩
        · obtain ⟨D, k1, k2, k3⟩ := hmk.mks d hd
          exact ⟨D, k1, k2.mono hp, k3⟩
      · refine List.pairwise_append.2 ⟨by simp, hmk.pw, fun d hd d' hd' e => ?_⟩
        simp only [List.mem_singleton] at hd
        subst hd
        obtain ⟨D, k1, k2, k3⟩ := hmk.mks d' hd'
        rw [k1] at e
        have e2 : c.w.heap.size = D := by simpa using e
        have := heap_lt k2.heap
        omega
    | some l =>
      obtain ⟨id, blk, k1, k2, k3⟩ := hmk.ro l hro
      obtain ⟨L0, hL0⟩ := loop_at hs.sim k1 k2 k3
      exact ⟨c, [], L0.defers, by rw [run_enterLoop_inner hL0], Post.refl hs.sim, rfl, by rw [← hro]; exact hmk⟩
  have hts : RelVs c1 ((List.range nt).map (look lv (lv.map s.t))) a.tmps.toList := by
    have := sel_rel (look_rel (hs.t.mono hp1.st) lv) (List.range nt)
    rwa [tmps_list hs.nt] at this
  have hlen : ((List.range nt).map (look lv (lv.map s.t))).length = nt := by simp
  have hp2 := loop_new (P := P) hp1.sim (ps := ps.toList) (a := p') (b := q') (L := { state := .ready, pending := none, fn, tmps := a.tmps, params := ps, assign := p, body := q, defers := df }) rfl hts rfl (by rw [hlen]; exact h1) (by rw [hlen]; exact h2) rfl
  generalize hL : ({ state := .ready, pending := none, fn, tmps := a.tmps, params := ps, assign := p, body := q, defers := df } : Loop) = L at hent hp2
  generalize hb2 : Blk.loop .ready none ((List.range nt).map (look lv (lv.map s.t))) ps.toList p' q' false = blk at hcv hp2
  have hisl : blk.isLoop = true := by rw [← hb2]; rfl
  have hyl : RelV (cxNew c1 blk (c1.w.alloc (.loop L))) (.yl s.m.length) (.func (.yield c1.w.heap.size) #[] #[]) := by
    rw [← hs.m, ← hm1]; exact new_yl hisl
  have hp12 := hp1.trans hs.sim hp2
  have hm2 : (cxNew c1 blk (c1.w.alloc (.loop L))).m = s.m ++ [blk] := by simp only [cxNew]; rw [hm1, hs.m]
  rw [← hm2] at hcv
  have hargs : RelVs (cxNew c1 blk (c1.w.alloc (.loop L))) (first ++ [.yl s.m.length] ++ cap) (fi ++ [.func (.yield c1.w.heap.size) #[] #[]] ++ ca) :=
    ((RelVs.mono hp12.st _ _ hfi).append (by simp only [RelVs]; exact ⟨_, _, rfl, hyl, rfl⟩)).append (RelVs.mono hp12.st _ _ hca)
  obtain ⟨⟨fnc, e1, e2, e3⟩, hcalls⟩ := (callV_ok hcall hp2.sim (hs.gl.mono hp12) hargs hcv).1 hny
  have hbn : fnc.body.isNone = false := by
    cases hb : fnc.body with
    | none => rw [hb] at e3; cases e3
    | some _ => rfl
  have hcalls' : Calls P g ⟨fi ++ [.func (.yield c1.w.heap.size) #[] #[]] ++ ca⟩ (c1.w.alloc (.loop L)) (Left P (cxNew c1 blk (c1.w.alloc (.loop L))) rs m2) := hcalls
  have hin : (∀ en w3, Left P (cxNew c1 blk (c1.w.alloc (.loop L))) rs m2 en w3 → rangePost (RF ro) nn P c1.w.heap.size (Post' lo ro P E nt c a x s') { a with defers := mark ++ a.defers } en w3) →
      CallsIn (RF ro) (nn - 1) P g ⟨fi ++ [.func (.yield c1.w.heap.size) #[] #[]] ++ ca⟩ (c1.w.alloc (.loop L)) (rangePost (RF ro) nn P c1.w.heap.size (Post' lo ro P E nt c a x s') { a with defers := mark ++ a.defers }) := fun h => callsIn_rf (Calls.mono hcalls' h)
  have hdep : (RF ro).depth.isSome = true → 1 ≤ nn := fun h => by cases h
  have hent' : (Instr.enterLoop fn a.tmps ps p q (RF ro).round).run P c.w = .ok (c1.w.heap.size, mark) (c1.w.alloc (.loop L)) := hent
  have x1 : (resolve a.eval (rangeCall f c1.w.heap.size) 0).run P (c1.w.alloc (.loop L)) = .ok { target := .fn (.func g) ⟨ca⟩, args := ⟨fi⟩ ++ #[.func (.yield c1.w.heap.size) #[] #[]] } (c1.w.alloc (.loop L)) := by
    simp only [resolve, hfe]
    simp [go_sem, Deferred.ofValue]
  have x2 : (invoke (.fn (.func g) ⟨ca⟩) (⟨fi⟩ ++ #[.func (.yield c1.w.heap.size) #[] #[]])).run P (c1.w.alloc (.loop L)) = .ok (.enter g ⟨fi ++ [.func (.yield c1.w.heap.size) #[] #[]] ++ ca⟩) (c1.w.alloc (.loop L)) := by
    simp only [invoke, callFunc, Sem.run_bind, run_program, e1, Result.andThen_ok]
    simp only [e2, Bool.false_eq_true, if_false, hbn, Sem.run_pure]
    congr 2
    apply Array.ext'
    simp
  refine range_fin hent x1 x2 hin ?_
  rintro en w3 ⟨rv, c3, rfl, rfl, rfl, hp3, -⟩
  have hid2 : (cxNew c1 blk (c1.w.alloc (.loop L))).m[s.m.length]? = some blk := by rw [hm2]; simp
  have hφ2 : (cxNew c1 blk (c1.w.alloc (.loop L))).φ s.m.length = some c1.w.heap.size := by simp [cxNew, updφ, ← hs.m, hm1]
  obtain ⟨blk3, g1, _, g3, g4⟩ := hp3.st.blk _ _ hid2
  have hφ3 : c3.φ s.m.length = some c1.w.heap.size := ((g4 (g3 hisl).2).2 _ hφ2).1
  have hpc3 := hp12.trans hs.sim hp3
  have hfin : ∀ (st : LoopState) (pe : Option C) (ts : List V) (qs : List Nat) (a' b' : C), c3.m[s.m.length]? = some (.loop st pe ts qs a' b' false) → st ≠ .busy → ∃ (L3 : Loop) (c4 : Cx), (Instr.endLoop c1.w.heap.size).run P c3.w = .ok L3.pending c4.w ∧
      (match pe, L3.pending with | none, none => True | some x, some y => cCode P ts.length y = some x.er | _, _ => False) ∧ c4.m = c3.m.set s.m.length (.loop .exhausted pe ts qs a' b' false) ∧ Post P c c4 ∧ SRel P E nt c4 ⟨s.t, c4.m⟩ { a with defers := mark ++ a.defers } ∧ Mks lo ro c4 (mark ++ a.defers) := by
    intro st pe ts qs a' b' hb hst
    have hk : LoopOK P c3 c1.w.heap.size st pe ts qs a' b' := hpc3.sim.blk _ _ _ hb hφ3
    obtain ⟨L3, k1, k2, k3, k4, k5, k6, k7⟩ := hk.ex
    have hp4 := loop_set (P := P) hpc3.sim hb hφ3 k1 (L' := { L3 with state := .exhausted }) (st' := .exhausted) (pe' := pe) rfl rfl rfl rfl rfl k7
    have hpc4 := hpc3.trans hs.sim hp4
    refine ⟨L3, _, run_endLoop k1 (by rw [k2]; exact hst), k7, rfl, hpc4, ⟨hpc4.sim, rfl, hs.t.mono hpc4.st, hs.gl.mono hpc4, hs.nt⟩, hmk1.mono (hp2.trans hp1.sim (hp3.trans hp2.sim hp4))⟩
  split at hr
  · rename_i ts qs a' b' hb
    cases hr
    obtain ⟨L3, c4, r1, r2, r3, r4, r5, r6⟩ := hfin _ _ _ _ _ _ hb (by simp)
    cases hpend : L3.pending with
    | some y => rw [hpend] at r2; exact r2.elim
    | none =>
      rw [hpend] at r1
      refine ⟨none, c4.w, r1, c4, rfl, rfl, r4, ?_, r6⟩
      rw [r3] at r5; exact r5
  · rename_i ts qs a' b' hb
    cases hr
    obtain ⟨L3, c4, r1, r2, r3, r4, r5, r6⟩ := hfin _ _ _ _ _ _ hb (by simp)
    cases hpend : L3.pending with
    | none => rw [hpend] at r2; exact r2.elim
    | some y =>
      rw [hpend] at r1 r2
      obtain rfl := cCode_ret (P := P) (n := ts.length) (y := y) r2
      refine ⟨some .ret, c4.w, r1, wpIn_ret ⟨c4, rfl, rfl, r4, ?_, r6⟩⟩
      rw [r3] at r5; exact r5
  · rename_i i ts qs a' b' hb
    cases hr
    obtain ⟨L3, c4, r1, r2, r3, r4, r5, r6⟩ := hfin _ _ _ _ _ _ hb (by simp)
    cases hpend : L3.pending with
    | none => rw [hpend] at r2; exact r2.elim
    | some y =>
      rw [hpend] at r1 r2
      obtain rfl := cCode_exit (P := P) (n := ts.length) (y := y) r2
      refine ⟨some (.exit i), c4.w, r1, wpIn_exit ⟨c4, rfl, rfl, r4, ?_, r6⟩⟩
      rw [r3] at r5; exact r5
  · cases hr
def csz : Code → Nat
  | .seq x y => csz x + csz y + 1
  | .cond _ x y => csz x + csz y + 1
  | .block _ x => csz x + 1
  | .loop x => csz x + 1
  | .rangeFunc _ _ x y => csz x + csz y + 1
  | .scope x => csz x + 1
  | _ => 1
theorem cCode_seq {nt : Nat} {cd : Code} {x y : C} (h : cCode P nt cd = some (.seq x y)) : ∃ p q, cd = .seq p q ∧ cCode P nt p = some x ∧ cCode P nt q = some y := by
  cases cd with
  | seq p q =>
    simp only [cCode] at h
    cases h1 : cCode P nt p <;> cases h2 : cCode P nt q <;> simp [h1, h2] at h
    obtain ⟨rfl, rfl⟩ := h
    exact ⟨p, q, rfl, h1, h2⟩
  | region id ops draw =>
    simp only [cCode] at h
    cases draw with
    | false => obtain ⟨l, _, e⟩ := cRegion_false h; cases e
    | true => obtain ⟨qs, ts, e⟩ | ⟨l, un, e⟩ := cRegion_true h <;> cases e
  | skip => simp [cCode] at h
  | cond b p q => simp only [cCode] at h; cases h0 : cO b <;> cases h1 : cCode P nt p <;> cases h2 : cCode P nt q <;> simp [h0, h1, h2] at h
  | block id p => simp only [cCode] at h; obtain ⟨_, _, e⟩ := Option.map_eq_some_iff.1 h; cases e
  | loop p => simp only [cCode] at h; obtain ⟨_, _, e⟩ := Option.map_eq_some_iff.1 h; cases e
  | rangeFunc f ps p q => simp only [cCode] at h; cases h0 : cO f <;> cases h1 : cCode P nt p <;> cases h2 : cCode P nt q <;> simp [h0, h1, h2] at h
  | exit id => simp [cCode] at h
  | scope p => simp only [cCode] at h; obtain ⟨_, _, e⟩ := Option.map_eq_some_iff.1 h; cases e
  | label l => simp [cCode] at h
  | goto l => simp [cCode] at h
  | ret => simp [cCode] at h
  | refuse w => simp [cCode] at h
def CodeOK (lo : Nat) (ro : Option Nat) (nn : Nat) (P : Program) (E : Env) (call : CallT) (nt : Nat) (cd : Code) : Prop :=
  ∀ (C0 : C) (c : Cx) (s s' : S) (a : Act) (x : X), cCode P nt cd = some C0.er → runC E call C0 s = some (x, s') → SRel P E nt c s a → Mks lo ro c a.defers → cd.wpIn (RF ro) nn P (Post' lo ro P E nt c a x s') a c.w
theorem forget_ok {E : Env} {nt : Nat} {c c2 : Cx} {s2 : S} {a2 : Act} (hs : PSim P c) (hg : GlOK E c) (hro : RoOK ro c) (hlo : lo ≤ c.w.heap.size) (hp : Post P c c2) (hs2 : SRel P E nt c2 s2 a2) (hd2 : Mks lo ro c2 a2.defers) {l : List Nat} {g' : List V × Mem} (ht : tidy c.m.length (l.map s2.t, s2.m) = some g') :
    ∃ c3, c3.w = c2.w ∧ Post P c c3 ∧ SRel P E nt c3 ⟨look l g'.1, g'.2⟩ a2 ∧ Mks lo ro c3 a2.defers := by
  obtain ⟨c3, e2, e3, hφ3, hp3, hr3⟩ := tidy_core hs hp (sel_rel hs2.t l) (r := g'.1) (m' := g'.2) (by rw [hs2.m]; exact ht)
  refine ⟨c3, e2, hp3, ⟨hp3.sim, e3, look_rel' l g'.1 hr3, hg.mono hp3, hs2.nt⟩, fun d hd => ?_, hro.mono hp3, hd2.pw, Nat.le_trans hlo hp3.keeps.size⟩
  obtain ⟨D, k1, k2, k3⟩ := hd2.mks d hd
  exact ⟨D, k1, ⟨by rw [e2]; exact k2.heap, fun id hid => by obtain ⟨j, hj⟩ := hφ3 id D hid; exact k2.φ j hj⟩, k3⟩
theorem app_run {E : Env} {call : CallT} {nt n : Nat} (ih : ∀ cd, csz cd ≤ n → CodeOK lo ro nn P E call nt cd) {Q : Exit → Act → World → Prop} : ∀ (A B : C) (cd : Code), csz cd ≤ n + 1 → ∀ (c : Cx) (s s1 : S) (a : Act) (y : X),
    cCode P nt cd = some (C.erA A B) → runC E call A s = some (y, s1) → SRel P E nt c s a → Mks lo ro c a.defers →
    (y = .normal → ∀ q, csz q ≤ n → cCode P nt q = some B → ∀ c1 a1, Post P c c1 → SRel P E nt c1 s1 a1 → Mks lo ro c1 a1.defers → q.wpIn (RF ro) nn P Q a1 c1.w) → (y ≠ .normal → ∀ c1 a1, Post P c c1 → SRel P E nt c1 s1 a1 → Mks lo ro c1 a1.defers → Q (exitOf y) a1 c1.w) →
    cd.wpIn (RF ro) nn P Q a c.w := by
  have base : ∀ (A B : C) (cd : Code), csz cd ≤ n + 1 → C.erA A B = .seq A.er B → ∀ (c : Cx) (s s1 : S) (a : Act) (y : X),
      cCode P nt cd = some (C.erA A B) → runC E call A s = some (y, s1) → SRel P E nt c s a → Mks lo ro c a.defers →
      (y = .normal → ∀ q, csz q ≤ n → cCode P nt q = some B → ∀ c1 a1, Post P c c1 → SRel P E nt c1 s1 a1 → Mks lo ro c1 a1.defers → q.wpIn (RF ro) nn P Q a1 c1.w) → (y ≠ .normal → ∀ c1 a1, Post P c c1 → SRel P E nt c1 s1 a1 → Mks lo ro c1 a1.defers → Q (exitOf y) a1 c1.w) →
      cd.wpIn (RF ro) nn P Q a c.w := by
    intro A B cd hz he c s s1 a y hc hr hs hmk hk hx
    rw [he] at hc
    obtain ⟨p, q, rfl, h1, h2⟩ := cCode_seq hc
    simp only [csz] at hz
    refine wpIn_seq (wpIn_mono (ih p (by omega) A c s s1 a y h1 hr hs hmk) ?_)
    rintro e a1 w1 ⟨c1, rfl, rfl, hp1, hs1, hd1⟩
    cases y with
    | normal => exact hk rfl q (by omega) h2 c1 a1 hp1 hs1 hd1
    | exit i => exact hx (by simp) c1 a1 hp1 hs1 hd1
    | ret => exact hx (by simp) c1 a1 hp1 hs1 hd1
  intro A
  induction A with
  | seq x y' ihx ihy =>
    intro B cd hz c s s1 a y hc hr hs hmk hk hx
    simp only [C.erA] at hc
    obtain ⟨p, q, rfl, h1, h2⟩ := cCode_seq hc
    simp only [csz] at hz
    simp only [runC] at hr
    refine wpIn_seq ?_
    cases hp : runC E call x s with
    | none => simp [hp] at hr
    | some r =>
      obtain ⟨z, s2⟩ := r
      refine wpIn_mono (ih p (by omega) x c s s2 a z h1 hp hs hmk) ?_
      rintro e a1 w1 ⟨c1, rfl, rfl, hp1, hs1, hd1⟩
      cases z with
      | normal =>
        simp only [hp] at hr
        exact ihy B q (by omega) c1 s2 s1 a1 y h2 hr hs1 hd1 (fun e q' hz' hq' c2 a2 hp2 hs2 hd2 => hk e q' hz' hq' c2 a2 (hp1.trans hs.sim hp2) hs2 hd2) (fun e c2 a2 hp2 hs2 hd2 => hx e c2 a2 (hp1.trans hs.sim hp2) hs2 hd2)
      | exit id =>
        simp only [hp] at hr; cases hr
        exact hx (by simp) c1 a1 hp1 hs1 hd1
      | ret =>
        simp only [hp] at hr; cases hr
        exact hx (by simp) c1 a1 hp1 hs1 hd1
  | _ => intro B cd hz; exact base _ B cd hz rfl
theorem code_step {E : Env} {call : CallT} (hcall : CallOK P E call) (hdraw : DrawOK P) {nt n : Nat} (ih : ∀ cd, csz cd ≤ n → CodeOK lo ro nn P E call nt cd) : ∀ (cd : Code), csz cd ≤ n + 1 → ∀ (C0 : C) (c : Cx) (s s' : S) (a : Act) (x : X), cCode P nt cd = some C0.er → runC E call C0 s = some (x, s') → SRel P E nt c s a → Mks lo ro c a.defers →
    cd.wpIn (RF ro) nn P (Post' lo ro P E nt c a x s') a c.w
  | .skip, hz, C0, c, s, s', a, x, hc, hr, hs, hmk => by
    simp only [cCode] at hc; obtain rfl := er_skip (Option.some.inj hc).symm
    simp only [runC] at hr; cases hr
    exact wpIn_skip ⟨c, rfl, rfl, Post.refl hs.sim, hs, hmk⟩
  | .region id ops draw, hz, C0, c, s, s', a, x, hc, hr, hs, hmk => by
    simp only [cCode] at hc
    cases draw with
    | false =>
      obtain ⟨l, hl, e⟩ := cRegion_false hc
      obtain rfl := er_reg e
      simp only [runC, opsC] at hr
      cases h2 : opsC (doI E call) l s with
      | none => simp [h2] at hr
      | some s2 =>
        simp only [h2] at hr
        cases hr
        exact region_ok hcall hl hs h2 fun c' a' hp hs' hd => ⟨c', rfl, rfl, hp, hs', by rw [hd]; exact hmk.mono hp⟩
    | true =>
      refine hdraw ro nn E call hcall nt id ops C0 hc _ c s s' x a hs hr fun c' a' hp hs' hd hx => ?_
      subst hx
      exact ⟨c', rfl, rfl, hp, hs', by rw [hd]; exact hmk.mono hp⟩
  | .seq p q, hz, C0, c, s, s', a, x, hc, hr, hs, hmk => by
    simp only [cCode] at hc
    cases h1 : cCode P nt p <;> cases h2 : cCode P nt q <;> simp [h1, h2] at hc
    rcases er_seq hc.symm with ⟨p', q', hC0, rfl, rfl⟩ | ⟨lv, lx, ln, a1, b1, rfl, hap⟩
    · have hr : runC E call (.seq p' q') s = some (x, s') := by rcases hC0 with rfl | rfl <;> exact hr
      clear hC0
      simp only [runC] at hr
      refine wpIn_seq ?_
      cases hp : runC E call p' s with
      | none => simp [hp] at hr
      | some r =>
        obtain ⟨y, s1⟩ := r
        refine wpIn_mono (ih p (by simp only [csz] at hz; omega) p' c s s1 a y h1 hp hs hmk) ?_
        rintro e a1 w1 ⟨c1, rfl, rfl, hp1, hs1, hd1⟩
        cases y with
        | normal =>
          simp only [hp] at hr
          simp only [exitOf, Exit.then]
          refine wpIn_mono (ih q (by simp only [csz] at hz; omega) q' c1 s1 s' a1 x h2 hr hs1 hd1) ?_
          rintro e a2 w2 ⟨c2, rfl, rfl, hp2, hs2, hd2⟩
          exact ⟨c2, rfl, rfl, hp1.trans hs.sim hp2, hs2, hd2⟩
        | exit id =>
          simp only [hp] at hr; cases hr
          exact ⟨c1, rfl, rfl, hp1, hs1, hd1⟩
        | ret =>
          simp only [hp] at hr; cases hr
          exact ⟨c1, rfl, rfl, hp1, hs1, hd1⟩
    · have hcc : cCode P nt (.seq p q) = some (C.erA a1 b1.er) := by simp only [cCode, h1, h2]; rw [hap]
      simp only [runC] at hr
      cases hsg : segG (runC E call a1) lv lx ln s.m.length (lv.map s.t, s.m) with
      | none => simp [hsg] at hr
      | some r =>
        obtain ⟨y, g⟩ := r
        rw [hsg] at hr
        have hsg' := hsg
        unfold segG at hsg'
        cases hp : runC E call a1 ⟨look lv (lv.map s.t), s.m⟩ with
        | none => simp [hp] at hsg'
        | some r =>
          obtain ⟨z', s2⟩ := r
          have hs0 : SRel P E nt c ⟨look lv (lv.map s.t), s.m⟩ a := ⟨hs.sim, hs.m, look_rel hs.t lv, hs.gl, hs.nt⟩
          have fin : ∀ c2 a2, Post P c c2 → SRel P E nt c2 s2 a2 → Mks lo ro c2 a2.defers → ∀ l, tidy s.m.length (l.map s2.t, s2.m) = some g → ∃ c3, c3.w = c2.w ∧ Post P c c3 ∧ SRel P E nt c3 ⟨look l g.1, g.2⟩ a2 ∧ Mks lo ro c3 a2.defers :=
            fun c2 a2 hp2 hs2 hd2 l ht => forget_ok hs.sim hs.gl hmk.ro hmk.lo hp2 hs2 hd2 (by rw [hs.m]; exact ht)
          refine app_run ih a1 b1.er (.seq p q) hz c _ s2 a z' hcc hp hs0 hmk (fun hy q0 hz0 hq0 c2 a2 hp2 hs2 hd2 => ?_) (fun hy c2 a2 hp2 hs2 hd2 => ?_)
          · subst hy
            simp only [hp] at hsg'
            obtain ⟨g2', hg2, e2⟩ := Option.map_eq_some_iff.1 hsg'
            cases e2
            obtain ⟨c3, e3, hp3, hs3, hm3⟩ := fin c2 a2 hp2 hs2 hd2 ln hg2
            rw [← e3]
            refine wpIn_mono (ih q0 hz0 b1 c3 _ s' a2 x hq0 hr hs3 hm3) ?_
            rintro e a3 w3 ⟨c4, rfl, rfl, hp4, hs4, hd4⟩
            exact ⟨c4, rfl, rfl, hp3.trans hs.sim hp4, hs4, hd4⟩
          · cases z' with
            | normal => exact absurd rfl hy
            | exit i =>
              simp only [hp] at hsg'
              obtain ⟨g2', hg2, e2⟩ := Option.map_eq_some_iff.1 hsg'
              cases e2
              obtain ⟨c3, e3, hp3, hs3, hm3⟩ := fin c2 a2 hp2 hs2 hd2 lx hg2
              cases hr
              exact ⟨c3, rfl, e3, hp3, hs3, hm3⟩
            | ret =>
              simp only [hp] at hsg'
              obtain ⟨g2', hg2, e2⟩ := Option.map_eq_some_iff.1 hsg'
              cases e2
              obtain ⟨c3, e3, hp3, hs3, hm3⟩ := fin c2 a2 hp2 hs2 hd2 lx hg2
              cases hr
              exact ⟨c3, rfl, e3, hp3, hs3, hm3⟩
  | .cond b p q, hz, C0, c, s, s', a, x, hc, hr, hs, hmk => by
    simp only [cCode] at hc
    cases h0 : cO b <;> cases h1 : cCode P nt p <;> cases h2 : cCode P nt q <;> simp [h0, h1, h2] at hc
    rename_i b' _ _
    obtain ⟨p', q', rfl, rfl, rfl⟩ := er_cond hc.symm
    have hb := ev_rel (E := E) hs.t hs.gl h0
    simp only [runC] at hr
    split at hr
    · rename_i e
      rw [e] at hb; simp only [RelV, RelD] at hb
      exact wpIn_cond_true hb (ih p (by simp only [csz] at hz; omega) p' c s s' a x h1 hr hs hmk)
    · rename_i e
      rw [e] at hb; simp only [RelV, RelD] at hb
      exact wpIn_cond_false hb (ih q (by simp only [csz] at hz; omega) q' c s s' a x h2 hr hs hmk)
    · cases hr
  | .block id p, hz, C0, c, s, s', a, x, hc, hr, hs, hmk => by
    simp only [cCode] at hc
    obtain ⟨p0, h1, e0⟩ := Option.map_eq_some_iff.1 hc
    obtain ⟨p', rfl, rfl⟩ := er_block e0.symm
    simp only [runC] at hr
    refine wpIn_block ?_
    cases hp : runC E call p' s with
    | none => simp [hp] at hr
    | some r =>
      obtain ⟨y, s1⟩ := r
      refine wpIn_mono (ih p (by simp only [csz] at hz; omega) p' c s s1 a y h1 hp hs hmk) ?_
      rintro e a1 w1 ⟨c1, rfl, rfl, hp1, hs1, hd1⟩
      cases y with
      | normal => simp only [hp] at hr; cases hr; exact ⟨c1, rfl, rfl, hp1, hs1, hd1⟩
      | exit i =>
        simp only [hp] at hr
        simp only [exitOf, Exit.inBlock]
        split at hr
        · rename_i e; cases hr; rw [if_pos e]; exact ⟨c1, rfl, rfl, hp1, hs1, hd1⟩
        · rename_i e; cases hr; rw [if_neg e]; exact ⟨c1, rfl, rfl, hp1, hs1, hd1⟩
      | ret => simp only [hp] at hr; cases hr; exact ⟨c1, rfl, rfl, hp1, hs1, hd1⟩
  | .loop p, hz, C0, c, s, s', a, x, hc, hr, hs, hmk => by
    simp only [cCode] at hc
    obtain ⟨p0, h1, e0⟩ := Option.map_eq_some_iff.1 hc
    obtain ⟨lv, lx, p', rfl, rfl⟩ := er_loop e0.symm
    simp only [runC] at hr
    split at hr
    case h_2 => cases hr
    rename_i y h hlp
    cases hr
    have hm0 : s.m = c.m := hs.m.symm
    rw [hm0] at hlp
    refine wp_loop_count (ro := ro) (nn := nn) (fun k a1 w1 => ∃ c1 g, c1.w = w1 ∧ Post P c c1 ∧ SRel P E nt c1 ⟨look lv g.1, g.2⟩ a1 ∧ Mks lo ro c1 a1.defers ∧ loopG (roundG (runC E call p') lv lx c.m.length) k g = some (x, h)) ?_ ?_ (n := bound)
      ⟨c, (lv.map s.t, c.m), rfl, Post.refl hs.sim, ⟨hs.sim, rfl, look_rel hs.t lv, hs.gl, hs.nt⟩, hmk, hlp⟩
    · rintro a1 w1 ⟨c1, g, _, _, _, _, h⟩
      simp [loopG] at h
    · rintro k a1 w1 ⟨c1, g, rfl, hp1, hs1, hd1, hit⟩
      simp only [loopG] at hit
      cases hf : roundG (runC E call p') lv lx c.m.length g with
      | none => simp [hf] at hit
      | some r =>
        obtain ⟨z, g'⟩ := r
        have hf' := hf
        unfold roundG at hf'
        cases hp : runC E call p' ⟨look lv g.1, g.2⟩ with
        | none => simp [hp] at hf'
        | some r =>
          obtain ⟨z', s2⟩ := r
          refine wpIn_mono (ih p (by simp only [csz] at hz; omega) p' c1 _ s2 a1 z' h1 hp hs1 hd1) ?_
          rintro e a2 w2 ⟨c2, rfl, rfl, hp2, hs2, hd2⟩
          have fin : ∀ l, tidy c.m.length (l.map s2.t, s2.m) = some g' → ∃ c3, c3.w = c2.w ∧ Post P c c3 ∧ SRel P E nt c3 ⟨look l g'.1, g'.2⟩ a2 ∧ Mks lo ro c3 a2.defers := by
            intro l ht
            obtain ⟨c3, e2, e3, hφ3, hp3, hr3⟩ := tidy_core hs.sim (hp1.trans hs.sim hp2) (sel_rel hs2.t l) (r := g'.1) (m' := g'.2) (by rw [hs2.m]; exact ht)
            refine ⟨c3, e2, hp3, ⟨hp3.sim, e3, look_rel' l g'.1 hr3, hs.gl.mono hp3, hs2.nt⟩, fun d hd => ?_, hmk.ro.mono hp3, hd2.pw, Nat.le_trans hmk.lo hp3.keeps.size⟩
            obtain ⟨D, k1, k2, k3⟩ := hd2.mks d hd
            exact ⟨D, k1, ⟨by rw [e2]; exact k2.heap, fun id hid => by obtain ⟨j, hj⟩ := hφ3 id D hid; exact k2.φ j hj⟩, k3⟩
          cases z' with
          | normal =>
            simp only [hp] at hf'
            obtain ⟨g2, hg2, e2⟩ := Option.map_eq_some_iff.1 hf'
            cases e2
            obtain ⟨c3, e3, hp3, hs3, hm3⟩ := fin lv hg2
            simp only [hf] at hit
            exact ⟨c3, g', e3, hp3, hs3, hm3, hit⟩
          | exit i =>
            simp only [hp] at hf'
            obtain ⟨g2, hg2, e2⟩ := Option.map_eq_some_iff.1 hf'
            cases e2
            obtain ⟨c3, e3, hp3, hs3, hm3⟩ := fin lx hg2
            simp only [hf] at hit; cases hit
            exact ⟨c3, rfl, e3, hp3, hs3, hm3⟩
          | ret =>
            simp only [hp] at hf'
            obtain ⟨g2, hg2, e2⟩ := Option.map_eq_some_iff.1 hf'
            cases e2
            obtain ⟨c3, e3, hp3, hs3, hm3⟩ := fin lx hg2
            simp only [hf] at hit; cases hit
            exact ⟨c3, rfl, e3, hp3, hs3, hm3⟩
  | .rangeFunc f ps p q, hz, C0, c, s, s', a, x, hc, hr, hs, hmk => by
    simp only [cCode] at hc
    cases h0 : cO f <;> cases h1 : cCode P nt p <;> cases h2 : cCode P nt q <;> simp [h0, h1, h2] at hc
    rename_i f' _ _
    obtain ⟨lv, p', q', rfl, rfl, rfl⟩ := er_rfun hc.symm
    exact range_ok hcall hs hmk h0 h1 h2 hr
  | .exit id, hz, C0, c, s, s', a, x, hc, hr, hs, hmk => by
    simp only [cCode] at hc; obtain rfl := er_exit (Option.some.inj hc).symm
    simp only [runC] at hr; cases hr
    exact wpIn_exit ⟨c, rfl, rfl, Post.refl hs.sim, hs, hmk⟩
  | .scope p, hz, C0, c, s, s', a, x, hc, hr, hs, hmk => by
    simp only [cCode] at hc
    obtain ⟨p0, h1, e0⟩ := Option.map_eq_some_iff.1 hc
    obtain ⟨p', rfl, rfl⟩ := er_scope e0.symm
    simp only [runC] at hr
    refine wpIn_scope_straight (wpIn_mono (ih p (by simp only [csz] at hz; omega) p' c s s' a x h1 hr hs hmk) ?_)
    rintro e a2 w2 ⟨c2, rfl, rfl, hp2, hs2, hd2⟩
    cases x <;> exact ⟨c2, rfl, rfl, hp2, hs2, hd2⟩
  | .label l, hz, C0, c, s, s', a, x, hc, hr, hs, hmk => by
    simp only [cCode] at hc; obtain rfl := er_skip (Option.some.inj hc).symm
    simp only [runC] at hr; cases hr
    exact wpIn_label ⟨c, rfl, rfl, Post.refl hs.sim, hs, hmk⟩
  | .goto l, hz, C0, c, s, s', a, x, hc, hr, hs, hmk => by simp [cCode] at hc
  | .ret, hz, C0, c, s, s', a, x, hc, hr, hs, hmk => by
    simp only [cCode] at hc; obtain rfl := er_ret (Option.some.inj hc).symm
    simp only [runC] at hr; cases hr
    exact wpIn_ret ⟨c, rfl, rfl, Post.refl hs.sim, hs, hmk⟩
  | .refuse w, hz, C0, c, s, s', a, x, hc, hr, hs, hmk => by simp [cCode] at hc
theorem code_ok {E : Env} {call : CallT} (hcall : CallOK P E call) (hdraw : DrawOK P) {nt : Nat} (cd : Code) (C0 : C) (c : Cx) (s s' : S) (a : Act) (x : X) (hc : cCode P nt cd = some C0.er) (hr : runC E call C0 s = some (x, s')) (hs : SRel P E nt c s a) (hmk : Mks lo ro c a.defers) :
    cd.wpIn (RF ro) nn P (Post' lo ro P E nt c a x s') a c.w := by
  have key : ∀ n cd, csz cd ≤ n → CodeOK lo ro nn P E call nt cd := by
    intro n
    induction n with
    | zero => intro cd h; cases cd <;> simp [csz] at h
    | succ n ih => intro cd h; exact code_step hcall hdraw ih cd h
  exact key _ cd (Nat.le_refl _) C0 c s s' a x hc hr hs hmk
end Go.Proofs.YtlenjioebdmooaaDoor.Den

namespace Go.Proofs.YtlenjioebdmooaaDoor.Den
open Go
set_option linter.unusedVariables false
set_option linter.unusedSimpArgs false
variable {P : Program}
theorem loadAt_pointer {t : TypeId} {xv u : Value} {w w' : World} (h : (Instr.loadAt t xv).run P w = .ok u w') : ∃ a, xv = .pointer (some a) ∧ (loadVar t a).run P w = .ok u w' := by
  unfold Instr.loadAt Instr.sureAddr at h
  split at h
  · rename_i a; exact ⟨a, rfl, by simpa using h⟩
  · simp at h
theorem results_ok {E : Env} {nt : Nat} {c : Cx} {s : S} {a : Act} (hs : SRel P E nt c s a) : ∀ (l : List ResultVar) (rs : List RV) (vs : List V), cRVs P l = some rs → resVs s rs = some vs →
    ∃ rv, (l.mapM fun x => (match x with
      | .tmp t => pure (a.tmps.getD t undef)
      | .cell p t => do loadVar t (← asAddr (a.tmps.getD p undef)) : Sem Value)).run P c.w = .ok rv c.w ∧ RelVs c vs rv
  | [], rs, vs, hc, hr => by
    simp [cRVs] at hc; subst hc
    simp [resVs] at hr; subst hr
    exact ⟨[], by simp, by simp [RelVs]⟩
  | x :: l, rs, vs, hc, hr => by
    simp only [cRVs] at hc
    cases h1 : cRV P x with
    | none => simp [h1] at hc
    | some r =>
      cases h2 : cRVs P l with
      | none => simp [h1, h2] at hc
      | some rl =>
        simp [h1, h2] at hc; subst hc
        simp only [resVs] at hr
        cases h3 : resV s r with
        | none => simp [h3] at hr
        | some v =>
          cases h4 : resVs s rl with
          | none => simp [h3, h4] at hr
          | some vl =>
            simp [h3, h4] at hr; subst hr
            obtain ⟨rv, g1, g2⟩ := results_ok hs l rl vl h2 h4
            have key : ∃ u, ((match x with
                | .tmp t => pure (a.tmps.getD t undef)
                | .cell p t => do loadVar t (← asAddr (a.tmps.getD p undef)) : Sem Value)).run P c.w = .ok u c.w ∧ RelV c v u := by
              cases x with
              | tmp t =>
                simp [cRV] at h1; subst h1
                simp [resV] at h3; subst h3
                exact ⟨_, rfl, hs.t t⟩
              | cell p t =>
                simp only [cRV] at h1
                cases q1 : aggOf P t <;> cases q2 : sizeOfT P t <;> simp [q1, q2] at h1
                subst h1
                simp only [resV] at h3
                rw [← hs.m] at h3
                obtain ⟨u, k1, k2⟩ := load_ok hs.sim q1 q2 (hs.t p) h3
                obtain ⟨ad, e1, e2⟩ := loadAt_pointer k1
                exact ⟨u, by simp [e1, asAddr, e2], k2⟩
            obtain ⟨u, k1, k2⟩ := key
            refine ⟨u :: rv, ?_, by simp only [RelVs]; exact ⟨u, rv, rfl, k2, g2⟩⟩
            rw [List.mapM_cons]
            simp only [Sem.run_bind, k1, Result.andThen_ok, g1, Sem.run_pure]
theorem results_run {E : Env} {nt : Nat} {c : Cx} {s : S} {a : Act} (hs : SRel P E nt c s a) {fn : Func} {rs : List RV} {vs : List V} (hc : cRVs P fn.results.toList = some rs) (hr : resVs s rs = some vs) :
    ∃ rv, (results fn a.tmps).run P c.w = .ok (packR rv) c.w ∧ RelVs c vs rv := by
  obtain ⟨rv, h1, h2⟩ := results_ok hs _ _ _ hc hr
  refine ⟨rv, ?_, h2⟩
  unfold results
  rw [Array.mapM_eq_mapM_toList]
  have h1' : (fn.results.toList.mapM fun
      | .tmp t => pure (a.tmps.getD t undef)
      | .cell p t => do loadVar t (← asAddr (a.tmps.getD p undef)) : Sem (List Value)).run P c.w = .ok rv c.w := h1
  simp only [Sem.run_bind, Sem.run_map]
  erw [h1']
  simp only [Result.andThen_ok, Sem.run_pure]
  congr 1
  match rv with
  | [] => simp [packR]
  | [v] => simp [packR]
  | v :: v' :: r => simp [packR]
theorem leaves_ok {E : Env} {nt : Nat} {c : Cx} {fn : Func} {R : Ending → World → Prop} {a : Act} {s : S} :
    ∀ (ds : List Deferred) (c2 : Cx), (∀ d, d ∈ ds → ∃ D, d.target = .collected D ∧ Mk c2 D ∧ c.w.heap.size ≤ D) → ds.Pairwise (fun d d' => d.target ≠ d'.target) → Post P c c2 → SRel P E nt c2 s a →
      (∀ c3, Post P c c3 → SRel P E nt c3 s a → ∃ v, (results fn a.tmps).run P c3.w = .ok v c3.w ∧ R (.returned v) c3.w) → LeavesInM (RF none) 0 P fn a.tmps R ds .returning c2.w
  | [], c2, _, _, hp, hs, hq => hq c2 hp hs
  | d :: ds, c2, hm, hpw, hp, hs, hq => by
    obtain ⟨D, k1, k2, k3⟩ := hm d (by simp)
    obtain ⟨hp', hst⟩ := post_shut hp k2 k3 (.deferred none)
    rw [List.pairwise_cons] at hpw
    refine ⟨by simp, .inl ⟨D, c2.w.putObj D (.deferred none), k1, run_takeDeferred k2.heap, ?_⟩⟩
    refine leaves_ok ds ⟨c2.φ, c2.m, c2.I, c2.w.putObj D (.deferred none)⟩ (fun d' hd' => ?_) hpw.2 hp' ⟨hp'.sim, hs.m, hs.t.mono hst, hs.gl.keep hst.keep (fun g vs e fr _ hg => by
      show (c2.w.putObj D (.deferred none)).heap[g]? = _
      have hne : g ≠ D := fun he => by subst he; rw [k2.heap] at hg; cases hg
      rw [World.putObj_heap_other hne]; exact hg) (fun id B hB => .inl ⟨id, hB⟩), hs.nt⟩ hq
    obtain ⟨D', g1, g2, g3⟩ := hm d' (by simp [hd'])
    have hne : D' ≠ D := fun e => hpw.1 d' hd' (by rw [k1, g1, e])
    exact ⟨D', g1, ⟨by show (c2.w.putObj D (.deferred none)).heap[D']? = _; rw [World.putObj_heap_other hne]; exact g2.heap, g2.φ⟩, g3⟩
theorem fn_ok {E : Env} {call : CallT} (hcall : CallOK P E call) (hdraw : DrawOK P) {f : FuncId} {fn : Func} {F : CFunc} (hf : P.funcs[f]? = some fn) (hF : cFn P fn = some F.er) {args r : List V} {m m' : Mem} (h : runF E call F args m = some (r, m'))
    {c : Cx} {vals : List Value} (hs : PSim P c) (hm : c.m = m) (hg : GlOK E c) (ha : RelVs c args vals) : Enterable P f ∧ Calls P f ⟨vals⟩ c.w (Left P c r m') := by
  subst hm
  unfold cFn at hF
  cases hb : fn.body with
  | none => simp [hb] at hF
  | some body =>
    simp only [hb] at hF
    split at hF
    · cases hF
    rename_i hname
    cases h1 : cCode P fn.ntmps body with
    | none => simp [h1] at hF
    | some C0 =>
      cases h2 : cRVs P fn.results.toList with
      | none => simp [h1, h2] at hF
      | some rs =>
        simp [h1, h2] at hF
        obtain ⟨nt0, rs0, B0⟩ := F
        simp only [CFunc.er, CFunc.mk.injEq] at hF
        obtain ⟨rfl, rfl, rfl⟩ := hF
        simp only [runF] at h
        split at h
        case isFalse => cases h
        rename_i hle
        have hvl := ha.len
        have hs0 : SRel P E fn.ntmps c ⟨initT args, c.m⟩ { tmps := (⟨vals⟩ : Array Value) ++ Array.replicate (fn.ntmps - (⟨vals⟩ : Array Value).size) undef, defers := [] } := by
          refine ⟨hs, rfl, fun j => ?_, hg, by simp; omega⟩
          simp only [initT, Array.getD_eq_getD_getElem?]
          by_cases hj : j < args.length
          · obtain ⟨u, hu, hr⟩ := ha.at j args[j] (List.getElem?_eq_getElem hj)
            have : (((⟨vals⟩ : Array Value) ++ Array.replicate (fn.ntmps - (⟨vals⟩ : Array Value).size) undef))[j]? = some u := by
              rw [Array.getElem?_append_left (by simp; omega)]; simpa using hu
            rw [this]
            simp [List.getD, hj]
            exact hr
          · have e1 : args.getD j (.tup []) = .tup [] := by simp [List.getD, List.getElem?_eq_none (Nat.le_of_not_lt hj)]
            rw [e1]
            have : (((⟨vals⟩ : Array Value) ++ Array.replicate (fn.ntmps - (⟨vals⟩ : Array Value).size) undef))[j]?.getD undef = undef := by
              rw [Array.getElem?_append_right (by simp; omega)]
              simp only [Array.getElem?_replicate]
              split <;> rfl
            rw [this]; exact undef_rel c
        have fin : ∀ (x : X) (s' : S), (x = .normal ∨ x = .ret) → runC E call B0 ⟨initT args, c.m⟩ = some (x, s') → ((resVs s' rs).bind fun vs => tidy c.m.length (vs, s'.m)) = some (r, m') → Calls P f ⟨vals⟩ c.w (Left P c r m') := by
          intro x s' hx hrun hres
          obtain ⟨vs, hvs, htidy⟩ := Option.bind_eq_some_iff.1 hres
          have hmk0 : Mks c.w.heap.size none c [] := ⟨(fun _ h => nomatch h), (fun _ h => nomatch h), List.Pairwise.nil, Nat.le_refl _⟩
          refine calls_rf (n := 0) (callsIn_of_wp_marks hf hb trivial (wpIn_mono (code_ok (ro := none) (nn := 0) hcall hdraw body B0 c _ s' _ x h1 hrun hs0 hmk0) ?_))
          rintro e a' w' ⟨c2, rfl, rfl, hp, hs2, hd⟩
          have hl := leaves_ok (P := P) (c := c) (fn := fn) (R := Left P c r m') a'.defers c2 hd.mks hd.pw hp hs2 fun c3 hp3 hs3 => by
            obtain ⟨rv, k1, k2⟩ := results_run hs3 h2 hvs
            exact ⟨_, k1, tidy_ok hs hp3 k2 (by rw [hs3.m]; exact htidy)⟩
          rcases hx with rfl | rfl
          · exact hl
          · exact hl
        refine ⟨⟨fn, hf, by simpa using hname, by simp [hb]⟩, ?_⟩
        split at h
        · rename_i s' hrun; exact fin .normal s' (.inl rfl) hrun h
        · rename_i s' hrun; exact fin .ret s' (.inr rfl) hrun h
        · cases h
structure EnvOK (P : Program) (E : Env) : Prop where
  cf : ∀ f F, E.cf f = some F → cAt P f = some F.er
  ext : CallOK P E E.ext
theorem putPs_rel {c : Cx} {nt : Nat} : ∀ (ps : List Nat) (vs : List V) (us : List Value) (t : Nat → V) (tm : Array Value), tm.size = nt → (∀ i, i ∈ ps → i < nt) → RelVs c vs us → TRel c t { tmps := tm, defers := [] } →
    TRel c (putPs ps vs t) { tmps := (ps.zip us).foldl (fun t p => t.setIfInBounds p.1 p.2) tm, defers := [] }
  | [], vs, us, t, tm, _, _, _, ht => by simpa [putPs] using ht
  | i :: ps, [], us, t, tm, _, _, h, ht => by simp only [RelVs] at h; subst h; simpa [putPs] using ht
  | i :: ps, v :: vs, us, t, tm, hn, hp, h, ht => by
    simp only [RelVs] at h
    obtain ⟨u, us, rfl, h1, h2⟩ := h
    simp only [putPs, List.zip_cons_cons, List.foldl_cons]
    refine putPs_rel ps vs us _ _ (by simpa using hn) (fun j hj => hp j (by simp [hj])) h2 (fun j => ?_)
    have hi : i < tm.size := by rw [hn]; exact hp i (by simp)
    simp only [upd]
    by_cases e : j = i
    · subst e
      simp only [if_true, Array.getD_eq_getD_getElem?]
      rw [Array.getElem?_setIfInBounds_self_of_lt hi]
      exact h1
    · simp only [if_neg e, Array.getD_eq_getD_getElem?]
      rw [Array.getElem?_setIfInBounds_ne (Ne.symm e)]
      simpa only [Array.getD_eq_getD_getElem?] using ht j
theorem runY_ok {E : Env} {call : CallT} (hcall : CallOK P E call) (hdraw : DrawOK P) {args r : List V} {m m' : Mem} (h : runY E call args m = some (r, m'))
    {c : Cx} {vals : List Value} (hs : PSim P c) (hm : c.m = m) (hg : GlOK E c) (ha : RelVs c args vals) : Rounds P c.w vals (Left P c r m') := by
  subst hm
  unfold runY at h
  split at h
  case h_2 => cases h
  rename_i id as1
  simp only [RelVs] at ha
  obtain ⟨u, us, rfl, hy, has⟩ := ha
  simp only [RelV] at hy
  obtain ⟨blk0, hb0, _, B, hB, rfl⟩ := hy
  split at h
  case h_2 => cases h
  rename_i ts ps a b hb
  split at h
  case isFalse => cases h
  rename_i hcond
  obtain ⟨hlen, hps⟩ := hcond
  have hk : LoopOK P c B .ready none ts ps a b := hs.blk id _ B hb hB
  obtain ⟨L, k1, k2, k3, k4, k5, k6, k7⟩ := hk.ex
  split at h
  case h_2 => cases h
  rename_i s1 hrun1
  split at h
  case h_2 => cases h
  rename_i ts1 ps1 a1 b1 hb1
  split at h
  case h_2 => cases h
  rename_i x s2 hrun2
  split at h
  case h_2 => cases h
  rename_i ts2 ps2 a2 b2 hb2
  have hul := has.len
  have htl := k3.len
  have hsz : L.tmps.size = ts.length := by simpa using htl
  have hpsz : us.length = L.params.size := by rw [hul, hlen, ← k4]; simp
  refine ⟨B, us, L.fn, _, L.assign, L.body, rfl, run_yield k1 (by simpa using hpsz), roundIn_of_wpIn (F := { fn := fun _ => True, depth := none, alive := false }) trivial ?_⟩
  have hzip : (L.params.zip (⟨us⟩ : Array Value)).foldl (fun tmps (t, a) => tmps.setIfInBounds t a) L.tmps = (ps.zip us).foldl (fun t p => t.setIfInBounds p.1 p.2) L.tmps := by
    rw [← Array.foldl_toList, Array.toList_zip, k4]
  rw [hzip]
  have hT0 : TRel c (look (List.range ts.length) ts) { tmps := L.tmps, defers := [] } := by
    refine look_rel' (a := { tmps := L.tmps, defers := [] }) (List.range ts.length) ts ?_
    rw [tmps_list (a := { tmps := L.tmps, defers := [] }) hsz]; exact k3
  have hs0 : SRel P E ts.length c ⟨putPs ps as1 (look (List.range ts.length) ts), c.m⟩ { tmps := (ps.zip us).foldl (fun t p => t.setIfInBounds p.1 p.2) L.tmps, defers := [] } := by
    refine ⟨hs, rfl, putPs_rel ps as1 us _ _ hsz (fun i hi => by have := List.all_eq_true.1 hps i hi; simpa using this) has hT0, hg, ?_⟩
    have : ∀ (l : List (Nat × Value)) (t : Array Value), (l.foldl (fun t p => t.setIfInBounds p.1 p.2) t).size = t.size := by
      intro l
      induction l with
      | nil => intro t; rfl
      | cons p l ih => intro t; rw [List.foldl_cons, ih]; simp
    exact (this _ _).trans hsz
  have hmk0 : Mks c.w.heap.size (some B) c [] := ⟨(fun _ h => nomatch h), fun l hl => by cases hl; exact ⟨id, _, hb, rfl, hB⟩, List.Pairwise.nil, Nat.le_refl _⟩
  refine wpIn_mono (code_ok (ro := some B) (nn := 0) hcall hdraw L.assign a c _ s1 _ .normal k5 hrun1 hs0 hmk0) ?_
  rintro e A1 w1 ⟨c1, rfl, rfl, hp1, hs1, hmk1⟩
  have phi : ∀ {c' : Cx}, Post P c c' → c'.φ id = some B := fun {c'} hp => by
    obtain ⟨blk', g1, _, g3, g4⟩ := hp.st.blk id _ hb
    exact ((g4 (g3 rfl).2).2 B hB).1
  have hb1' : c1.m[id]? = some (.loop .ready none ts1 ps1 a1 b1 false) := by rw [hs1.m]; exact hb1
  have hk1 : LoopOK P c1 B .ready none ts1 ps1 a1 b1 := hp1.sim.blk id _ B hb1' (phi hp1)
  obtain ⟨L1, q1, q2, q3, q4, q5, q6, q7⟩ := hk1.ex
  have hp2 := loop_set (P := P) hp1.sim hb1' (phi hp1) q1 (L' := { L1 with state := .busy }) (st' := .busy) (pe' := none) rfl rfl rfl rfl rfl q7
  have hpp2 := hp1.trans hs hp2
  refine ⟨_, run_beginRound q1 q2, ?_⟩
  refine wpIn_mono (code_ok (ro := some B) (nn := 0) hcall hdraw L.body b ⟨c1.φ, c1.m.set id (.loop .busy none ts1 ps1 a1 b1 false), c1.I, c1.w.putObj B (.loop { L1 with state := .busy })⟩ _ s2 A1 x k6 hrun2
    ⟨hp2.sim, by rw [hs1.m], hs1.t.mono hp2.st, hs1.gl.mono hp2, hs1.nt⟩ (hmk1.mono hp2)) ?_
  rintro e A2 w2 ⟨c2, rfl, rfl, hp3, hs2, hmk2⟩
  have hpp3 := hpp2.trans hs hp3
  have hb2' : c2.m[id]? = some (.loop .busy none ts2 ps2 a2 b2 false) := by rw [hs2.m]; exact hb2
  have hk2 : LoopOK P c2 B .busy none ts2 ps2 a2 b2 := hpp3.sim.blk id _ B hb2' (phi hpp3)
  obtain ⟨L2, r1, r2, r3, r4, r5, r6, r7⟩ := hk2.ex
  have fin : ∀ (jump : Option Code), jump.isNone = (pendOf x).isNone → (match pendOf x, jump with | none, none => True | some x, some y => cCode P ts2.length y = some x.er | _, _ => False) →
      ∃ v w', (Instr.endRound B jump).run P c2.w = .ok v w' ∧ Left P c r m' (.returned v) w' := fun jump hn hj => by
    have hp4 := loop_set (P := P) hpp3.sim hb2' (phi hpp3) r1 (L' := { L2 with state := if jump.isNone then .ready else .done, pending := jump }) (st' := if (pendOf x).isNone then .ready else .done) (pe' := pendOf x) (by rw [hn]) rfl rfl rfl rfl hj
    refine ⟨_, _, run_endRound jump r1, ?_⟩
    have := tidy_ok (c2 := ⟨c2.φ, c2.m.set id (.loop (if (pendOf x).isNone then .ready else .done) (pendOf x) ts2 ps2 a2 b2 false), c2.I, c2.w.putObj B (.loop { L2 with state := if jump.isNone then .ready else .done, pending := jump })⟩) hs (hpp3.trans hs hp4)
      (vs := [.d (.bool (pendOf x).isNone)]) (rv := [.bool jump.isNone]) (r := r) (m' := m') (by simp only [RelVs, RelV, RelD, hn]; exact ⟨_, _, rfl, rfl, rfl⟩) (by rw [hs2.m]; exact h)
    exact this
  cases x with
  | normal => exact fin none rfl trivial
  | exit i => exact fin (some (.exit i)) rfl (by simp [pendOf, cCode, C.er])
  | ret => exact fin (some .ret) rfl (by simp [pendOf, cCode, C.er])
theorem callD_ok {E : Env} (hE : EnvOK P E) (hdraw : DrawOK P) : ∀ n, CallOK P E (callD E n)
  | 0 => ⟨fun f args m r m' h => by simp [callD] at h, hE.ext.2⟩
  | n + 1 => by
    refine ⟨fun f args m r m' h c vals hs hm hg ha => ?_, hE.ext.2⟩
    simp only [callD] at h
    split at h
    · rename_i hy
      exact ⟨fun hn => absurd hy hn, fun _ => runY_ok (callD_ok hE hdraw n) hdraw h hs hm hg ha⟩
    rename_i hny
    split at h
    · rename_i r0 he
      cases h
      exact hE.ext.1 f args m r m' he c vals hs hm hg ha
    · split at h
      · rename_i F hF
        have hc := hE.cf f F hF
        unfold cAt at hc
        obtain ⟨fn, hf, hc⟩ := Option.bind_eq_some_iff.1 hc
        exact ⟨fun _ => fn_ok (callD_ok hE hdraw n) hdraw hf hc h hs hm hg ha, fun hy => absurd hy hny⟩
      · cases h
end Go.Proofs.YtlenjioebdmooaaDoor.Den

namespace Go.Proofs.YtlenjioebdmooaaDoor.Den
open Go
set_option linter.unusedVariables false
set_option linter.unusedSimpArgs false
theorem fillV_congr {E : Env} {t t' : Nat → V} : ∀ (ps : List (Nat × Nat × O)) (cs : List V), (∀ o, o ∈ ps.map (·.2.2) → ev E t o = ev E t' o) → fillV E t ps cs = fillV E t' ps cs
  | [], cs, _ => rfl
  | (off, sz, x) :: r, cs, h => by
    simp only [fillV]
    rw [h x (by simp), fillV_congr r _ fun o ho => h o (by simp at ho ⊢; exact .inr ho)]
theorem fillRows_congr {E : Env} {t t' : Nat → V} {sz : Nat} : ∀ (ps : List (Nat × O)) (cs : List (List V)), (∀ o, o ∈ ps.map (·.2) → ev E t o = ev E t' o) → fillRows E t sz ps cs = fillRows E t' sz ps cs
  | [], cs, _ => rfl
  | (i, x) :: r, cs, h => by
    simp only [fillRows]
    rw [h x (by simp), fillRows_congr r _ fun o ho => h o (by simp at ho ⊢; exact .inr ho)]
theorem evs_congr {E : Env} {t t' : Nat → V} {l : List O} (h : ∀ o, o ∈ l → ev E t o = ev E t' o) : evs E t l = evs E t' l := List.map_congr_left h
theorem optNat_congr {E : Env} {t t' : Nat → V} {o : Option O} {n : Nat} (h : ∀ x, x ∈ o.toList → ev E t x = ev E t' x) : optNat E t o n = optNat E t' o n := by
  cases o with
  | none => rfl
  | some x => simp only [optNat]; rw [h x (by simp)]
theorem doI_congr {E : Env} {call : CallT} {i : I} {t t' : Nat → V} {m : Mem} (h : ∀ o, o ∈ i.ops → ev E t o = ev E t' o) : doI E call i t m = doI E call i t' m := by
  cases i with
  | build z ps => simp only [doI]; rw [fillV_congr ps _ h]
  | bslice e f s n z ps => simp only [doI]; rw [fillRows_congr ps _ h]
  | inv tbl x args => simp only [doI]; rw [evs_congr (l := args) fun o ho => h o (by simp [I.ops, ho]), h x (by simp [I.ops])]
  | mkfn f a b => simp only [doI]; rw [evs_congr (l := a) fun o ho => h o (by simp [I.ops, ho]), evs_congr (l := b) fun o ho => h o (by simp [I.ops, ho])]
  | call f args => simp only [doI]; rw [h f (by simp [I.ops]), evs_congr (l := args) fun o ho => h o (by simp [I.ops, ho])]
  | mx xs => simp only [doI]; rw [evs_congr (l := xs) h]
  | mn xs => simp only [doI]; rw [evs_congr (l := xs) h]
  | slice s x lo hi mx =>
    simp only [doI]
    rw [h x (by simp [I.ops])]
    have h1 : ∀ n, optNat E t lo n = optNat E t' lo n := fun n => optNat_congr fun y hy => h y (by simp only [I.ops, List.mem_cons, List.mem_append]; exact .inr (.inl (.inl hy)))
    have h2 : ∀ n, optNat E t hi n = optNat E t' hi n := fun n => optNat_congr fun y hy => h y (by simp only [I.ops, List.mem_cons, List.mem_append]; exact .inr (.inl (.inr hy)))
    simp only [h1, h2]
    cases mx with
    | none => rfl
    | some k => simp only [h k (by simp [I.ops])]
  | slstr x lo hi =>
    simp only [doI]
    rw [h x (by simp [I.ops])]
    have h1 : ∀ n, optNat E t lo n = optNat E t' lo n := fun n => optNat_congr fun y hy => h y (by simp only [I.ops, List.mem_cons, List.mem_append]; exact .inr (.inl hy))
    have h2 : ∀ n, optNat E t hi n = optNat E t' hi n := fun n => optNat_congr fun y hy => h y (by simp only [I.ops, List.mem_cons, List.mem_append]; exact .inr (.inr hy))
    simp only [h1, h2]
  | slarr n s x lo hi mx =>
    simp only [doI]
    rw [h x (by simp [I.ops])]
    have h1 : ∀ n, optNat E t lo n = optNat E t' lo n := fun n => optNat_congr fun y hy => h y (by simp only [I.ops, List.mem_cons, List.mem_append]; exact .inr (.inl (.inl hy)))
    have h2 : ∀ n, optNat E t hi n = optNat E t' hi n := fun n => optNat_congr fun y hy => h y (by simp only [I.ops, List.mem_cons, List.mem_append]; exact .inr (.inl (.inr hy)))
    simp only [h1, h2]
  | conv k x => simp only [doI]; rw [h x (by simp [I.ops])]
  | _ => simp only [I.ops, List.mem_cons, List.mem_nil_iff, or_false, forall_eq_or_imp, forall_eq] at h <;> simp only [doI, h] <;> rfl
theorem look_congr {E : Env} {oc : OpC} {t t' : Nat → V} (h : ∀ d, d ∈ oc.looks → t d = t' d) : (∀ o, o ∈ oc.ins.ops → ev E t o = ev E t' o) ∧ wantedC oc.guard t = wantedC oc.guard t' := by
  constructor
  · intro o ho
    cases o with
    | t i => exact h i (by simp only [OpC.looks, List.mem_append, List.mem_filterMap]; exact .inl ⟨.t i, ho, rfl⟩)
    | v x => rfl
    | g x => rfl
  · cases hg : oc.guard with
    | none => rfl
    | some jw =>
      obtain ⟨j, w⟩ := jw
      simp only [wantedC]
      rw [h j (by simp [OpC.looks, hg])]
theorem apartC_spec {x y : OpC} (h : apartC x y = true) : (∀ d, x.dst = some d → d ∉ y.looks ∧ y.dst ≠ some d) ∧ (∀ d, y.dst = some d → d ∉ x.looks ∧ x.dst ≠ some d) := by
  simp only [apartC, Bool.and_eq_true] at h
  refine ⟨fun d hd => ?_, fun d hd => ?_⟩
  · have := h.1; simp [hd] at this; exact this
  · refine ⟨?_, fun hx => ?_⟩
    · have := h.2; simp [hd] at this; exact this
    · have := h.1; simp [hx] at this; exact this.2 hd
theorem one_bit (look : Nat → Nat) (o : Oper) (i : Nat) (h : (CheckFast.one look o).testBit i = true) : ∃ e, e ∈ o.after ∧ Region.binds .any e = true ∧ (e.on = i ∨ (look e.on).testBit i = true) := by
  unfold CheckFast.one at h
  have key : ∀ (l : List Edge) (s : Nat), (l.foldl (fun s e => if Region.binds .any e then s ||| 2 ^ e.on ||| look e.on else s) s).testBit i = true → s.testBit i = true ∨ ∃ e, e ∈ l ∧ Region.binds .any e = true ∧ (e.on = i ∨ (look e.on).testBit i = true) := by
    intro l
    induction l with
    | nil => intro s h; exact .inl h
    | cons e l ih =>
      intro s h
      simp only [List.foldl_cons] at h
      rcases ih _ h with h1 | ⟨e', h1, h2, h3⟩
      · split at h1
        · rename_i hb
          simp only [Nat.testBit_or, Bool.or_eq_true] at h1
          rcases h1 with (h1 | h1) | h1
          · exact .inl h1
          · rw [Nat.testBit_two_pow] at h1
            exact .inr ⟨e, by simp, hb, .inl (by simpa using h1)⟩
          · exact .inr ⟨e, by simp, hb, .inr h1⟩
        · exact .inl h1
      · exact .inr ⟨e', by simp [h1], h2, h3⟩
  rw [← Array.foldl_toList] at h
  rcases key _ _ h with h1 | ⟨e, h1, h2, h3⟩
  · simp at h1
  · exact ⟨e, by simpa using h1, h2, h3⟩
theorem beforeL_at : ∀ (l : List Oper) (j : Nat) (acc : List Nat), acc.length = j →
    (CheckFast.beforeL l j acc).length = j + l.length ∧ (∀ i, i < j → (CheckFast.beforeL l j acc)[i]? = acc[j - 1 - i]?) ∧
    ∀ (k : Nat) (o : Oper), l[k]? = some o → (CheckFast.beforeL l j acc).getD (j + k) 0 = CheckFast.one (fun i => if i < j + k then (CheckFast.beforeL l j acc).getD i 0 else 0) o
  | [], j, acc, h => by
    simp only [CheckFast.beforeL]
    refine ⟨by simp [h], fun i hi => ?_, fun k o hk => by simp at hk⟩
    rw [List.getElem?_reverse (by omega), h]
  | o :: rest, j, acc, h => by
    simp only [CheckFast.beforeL, CheckFast.force_eq]
    obtain ⟨h1, h2, h3⟩ := beforeL_at rest (j + 1) (CheckFast.one (fun i => if i < j then acc.getD (j - 1 - i) 0 else 0) o :: acc) (by simp [h])
    refine ⟨by rw [h1]; simp; omega, fun i hi => ?_, fun k o' hk => ?_⟩
    · rw [h2 i (by omega), show j + 1 - 1 - i = (j - 1 - i) + 1 by omega]; simp
    · cases k with
      | zero =>
        simp at hk; subst hk
        have e0 := h2 j (by omega)
        generalize hR : CheckFast.beforeL rest (j + 1) (CheckFast.one (fun i => if i < j then acc.getD (j - 1 - i) 0 else 0) o :: acc) = R at *
        rw [show j + 1 - 1 - j = 0 by omega] at e0
        have e1 : R.getD (j + 0) 0 = CheckFast.one (fun i => if i < j then acc.getD (j - 1 - i) 0 else 0) o := by
          rw [Nat.add_zero, List.getD_eq_getElem?_getD, e0]; rfl
        rw [e1]
        congr 1
        funext i
        by_cases hi : i < j
        · rw [if_pos hi, if_pos (by omega), List.getD_eq_getElem?_getD, List.getD_eq_getElem?_getD, h2 i (by omega), show j + 1 - 1 - i = (j - 1 - i) + 1 by omega]
          simp
        · rw [if_neg hi, if_neg (by omega)]
      | succ k =>
        have := h3 k o' (by simpa using hk)
        rw [show j + (k + 1) = j + 1 + k by omega]; exact this
theorem before_at {ops : Array Oper} {j : Nat} {o : Oper} (h : ops[j]? = some o) :
    (CheckFast.beforeF ops).getD j 0 = CheckFast.one (fun i => if i < j then (CheckFast.beforeF ops).getD i 0 else 0) o := by
  have := (beforeL_at ops.toList 0 [] rfl).2.2 j o (by simpa using h)
  simp only [Nat.zero_add, List.getD_eq_getElem?_getD] at this
  simp only [CheckFast.beforeF, Array.getD_eq_getD_getElem?, List.getElem?_toArray]
  exact this
def Closed (ops : Array Oper) (L : Nat → Bool) : Prop := ∀ (i : Nat) (o : Oper), ops[i]? = some o → L i = true → ∀ e, e ∈ o.after → Region.binds .any e = true → L e.on = true
theorem bits_listed {ops : Array Oper} {L : Nat → Bool} (hL : Closed ops L) : ∀ (n j : Nat), j < n → ∀ (o : Oper), ops[j]? = some o → (∀ e, e ∈ o.after → Region.binds .any e = true → L e.on = true) →
    ∀ i, ((CheckFast.beforeF ops).getD j 0).testBit i = true → L i = true
  | 0, j, hj, _, _, _, _, _ => by omega
  | n + 1, j, hj, o, ho, he, i, hb => by
    rw [before_at ho] at hb
    obtain ⟨e, h1, h2, h3⟩ := one_bit _ _ _ hb
    rcases h3 with h3 | h3
    · exact h3 ▸ he e h1 h2
    · split at h3
      · rename_i hlt
        have hon := he e h1 h2
        have hsz : e.on < ops.size := by have := (Array.getElem?_eq_some_iff.1 ho).1; omega
        exact bits_listed hL n e.on (by omega) ops[e.on] (by simp [hsz]) (hL e.on _ (by simp [hsz]) hon) i h3
      · simp at h3
theorem tailAt_le (b : Array Nat) : ∀ n, tailAt b n ≤ n
  | 0 => by simp [tailAt]
  | n + 1 => by
    simp only [tailAt]
    split
    · exact Nat.le_succ_of_le (tailAt_le b n)
    · omega
theorem tailAt_spec (b : Array Nat) : ∀ (n q : Nat), tailAt b n ≤ q → q < n → b.getD q 0 = 2 ^ q - 1
  | 0, q, _, h => by omega
  | n + 1, q, h1, h2 => by
    simp only [tailAt] at h1
    split at h1
    · rename_i hb
      by_cases e : q = n
      · subst e; exact hb
      · exact tailAt_spec b n q h1 (by omega)
    · omega
end Go.Proofs.YtlenjioebdmooaaDoor.Den

namespace Go.Proofs.YtlenjioebdmooaaDoor.Den
open Go
set_option linter.unusedVariables false
set_option linter.unusedSimpArgs false
variable {P : Program}
def QStep (E : Env) (call : CallT) (oc : OpC) (s s1 : S) (v : V) (r : Mem) : Prop :=
  s1.t = putT s.t oc.dst v ∧ s1.m = s.m ++ r.drop s.m.length ∧
  ((wantedC oc.guard s.t = some true ∧ doI E call oc.ins s.t (s.m.map (Blk.setProt true)) = some (v, r)) ∨
   (wantedC oc.guard s.t = some false ∧ v = .tup [] ∧ r = s.m.map (Blk.setProt true)))
theorem opsQ_trace {E : Env} {call : CallT} : ∀ (l : List OpC) (s s2 : S), opsC (doQ E call) l s = some s2 →
    ∃ (f : Nat → S) (v : Nat → V) (r : Nat → Mem), f 0 = s ∧ f l.length = s2 ∧ ∀ j oc, l[j]? = some oc → QStep E call oc (f j) (f (j + 1)) (v j) (r j)
  | [], s, s2, h => ⟨fun _ => s, fun _ => .un, fun _ => [], rfl, by simp [opsC] at h; exact h, by simp⟩
  | o :: l, s, s2, h => by
    obtain ⟨s1, h1, h2⟩ := opsC_cons h
    obtain ⟨f, v, r, f0, f1, f2⟩ := opsQ_trace l s1 s2 h2
    have : ∃ v0 r0, QStep E call o s s1 v0 r0 := by
      rcases h1 with ⟨v0, m', hw, hd, rfl⟩ | ⟨hw, rfl⟩
      · simp only [doQ] at hd
        obtain ⟨⟨v1, r1⟩, hd', e⟩ := Option.map_eq_some_iff.1 hd
        cases e
        exact ⟨v1, r1, rfl, rfl, .inl ⟨hw, hd'⟩⟩
      · exact ⟨.tup [], s.m.map (Blk.setProt true), rfl, by simp, .inr ⟨hw, rfl, rfl⟩⟩
    obtain ⟨v0, r0, hq⟩ := this
    refine ⟨fun n => match n with | 0 => s | n + 1 => f n, fun n => match n with | 0 => v0 | n + 1 => v n, fun n => match n with | 0 => r0 | n + 1 => r n, rfl, by simpa using f1, fun j oc hj => ?_⟩
    cases j with
    | zero => simp at hj; subst hj; simpa [f0] using hq
    | succ j => simpa using f2 j oc (by simpa using hj)
def dstAt (l : List OpC) (i : Nat) : Option Nat := (l[i]?).bind (·.dst)
def WL (l : List OpC) (L : Nat → Bool) : Nat → Nat → Option Nat
  | 0, _ => none
  | n + 1, d => if L n && (dstAt l n == some d) then some n else WL l L n d
theorem WL_spec (l : List OpC) (L : Nat → Bool) (d : Nat) : ∀ n, match WL l L n d with
    | some i => i < n ∧ L i = true ∧ dstAt l i = some d ∧ ∀ j, i < j → j < n → L j = true → dstAt l j ≠ some d
    | none => ∀ j, j < n → L j = true → dstAt l j ≠ some d
  | 0 => by simp [WL]
  | n + 1 => by
    have ih := WL_spec l L d n
    simp only [WL]
    by_cases h : (L n && (dstAt l n == some d)) = true
    · rw [if_pos h]
      simp only [Bool.and_eq_true, beq_iff_eq] at h
      exact ⟨Nat.lt_succ_self n, h.1, h.2, fun j h1 h2 => by omega⟩
    · rw [if_neg h]
      simp only [Bool.and_eq_true, beq_iff_eq, not_and] at h
      cases hw : WL l L n d with
      | none =>
        rw [hw] at ih
        intro j hj hL
        by_cases e : j = n
        · subst e; exact h hL
        · exact ih j (by omega) hL
      | some i =>
        rw [hw] at ih
        obtain ⟨h1, h2, h3, h4⟩ := ih
        refine ⟨by omega, h2, h3, fun j hi hj hL => ?_⟩
        by_cases e : j = n
        · subst e; exact h hL
        · exact h4 j hi (by omega) hL
theorem WL_some {l : List OpC} {L : Nat → Bool} {d n i : Nat} (h1 : i < n) (h2 : L i = true) (h3 : dstAt l i = some d) (h4 : ∀ j, i < j → j < n → L j = true → dstAt l j ≠ some d) : WL l L n d = some i := by
  have := WL_spec l L d n
  cases hw : WL l L n d with
  | none => rw [hw] at this; exact (this i h1 h2 h3).elim
  | some k =>
    rw [hw] at this
    obtain ⟨g1, g2, g3, g4⟩ := this
    congr 1
    rcases Nat.lt_trichotomy i k with h | h | h
    · exact (h4 k h g1 g2 g3).elim
    · exact h.symm
    · exact (g4 i h h1 h2 h3).elim
theorem WL_none {l : List OpC} {L : Nat → Bool} {d n : Nat} (h : ∀ j, j < n → L j = true → dstAt l j ≠ some d) : WL l L n d = none := by
  have := WL_spec l L d n
  cases hw : WL l L n d with
  | none => rfl
  | some k =>
    rw [hw] at this
    exact (h k this.1 this.2.1 this.2.2.1).elim
theorem WL_congr {l : List OpC} {L L' : Nat → Bool} {d : Nat} : ∀ {n : Nat}, (∀ j, j < n → dstAt l j = some d → L j = L' j) → WL l L n d = WL l L' n d
  | 0, _ => rfl
  | n + 1, h => by
    simp only [WL]
    have ih : WL l L n d = WL l L' n d := WL_congr fun j hj => h j (by omega)
    by_cases e : dstAt l n = some d
    · rw [h n (by omega) e, ih]
    · have : (dstAt l n == some d) = false := by simpa using e
      rw [this, ih]
      simp
def tOf (t : Nat → V) (v : Nat → V) (d : Nat) : Option Nat → V
  | none => t d
  | some i => v i
def kOf (k : Nat → Nat) : Option Nat → Nat
  | none => k 0
  | some i => k (i + 1)
def cxK (c : Cx) (N : Mem) (φ : Nat → Option Nat) (w : World) (k : Nat) : Cx := ⟨fun id => if id < k then φ id else none, N.take k, c.I, w⟩
theorem keepI_heap {I : Imm} {w w' : World} (hw : ∀ (b : Nat) (x : Obj), w.heap[b]? = some x → w'.heap[b]? = some x) : KeepI I I w w' :=
  fun b o hI => ⟨hI, fun u hu => cell?_of_heap (hw b) hu⟩
theorem setProt_len (p : Bool) (b : Blk) : (b.setProt p).len = b.len ∧ (b.setProt p).size = b.size ∧ (b.setProt p).isLoop = b.isLoop ∧ (b.setProt p).prot = p ∧ (b.setProt p).vrows = b.vrows ∧ (b.setProt p).elem = b.elem := by
  cases b <;> exact ⟨rfl, rfl, rfl, rfl, rfl, rfl⟩
theorem CellsOK.like {c : Cx} {B : Nat} {b b' : Blk} (h : CellsOK c B b) (h1 : b'.size = b.size) (h2 : b'.vrows = b.vrows) (h3 : b'.elem = b.elem) (h4 : b.plain → b'.plain) : CellsOK c B b' :=
  ⟨by rw [h1]; exact h.pos, by rw [h1, h2, h3]; exact h.ex, by rw [h1, h2]; exact h.rows, h.noI, h4 h.plain⟩
theorem BlkOK.setProt {c : Cx} {B : Nat} {b : Blk} (p : Bool) (h : BlkOK P c B b) : BlkOK P c B (b.setProt p) := by
  cases b with
  | flat e s rows q =>
    have h' : CellsOK c B (.flat e s rows q) := h
    have : CellsOK c B (.flat e s rows p) := h'.like rfl rfl rfl fun x => x
    exact this
  | gen e s rows q =>
    have h' : CellsOK c B (.gen e s rows q) := h
    have : CellsOK c B (.gen e s rows p) := h'.like rfl rfl rfl fun x => x
    exact this
  | loop st pe ts ps x y q => exact h
theorem BlkOK.unProt {c : Cx} {B : Nat} {b : Blk} {p : Bool} (h : BlkOK P c B (b.setProt p)) : BlkOK P c B b := by
  cases b with
  | flat e s rows q =>
    have h' : CellsOK c B (.flat e s rows p) := h
    have : CellsOK c B (.flat e s rows q) := h'.like rfl rfl rfl fun x => x
    exact this
  | gen e s rows q =>
    have h' : CellsOK c B (.gen e s rows p) := h
    have : CellsOK c B (.gen e s rows q) := h'.like rfl rfl rfl fun x => x
    exact this
  | loop st pe ts ps x y q => exact h
theorem cxK_st {c : Cx} {N : Mem} {φ φ' : Nat → Option Nat} {w w' : World} {k k' : Nat} (hk : k ≤ k') (hφ : ∀ id B, φ id = some B → φ' id = some B) (hw : ∀ (b : Nat) (x : Obj), w.heap[b]? = some x → w'.heap[b]? = some x) :
    St (cxK c N φ w k) (cxK c N φ' w' k') := by
  refine ⟨keepI_heap hw, fun id blk hb => ⟨blk, ?_, Nat.le_refl _, fun h => ⟨h, rfl⟩, fun _ => ⟨rfl, fun B hB => ?_⟩⟩⟩
  · simp only [cxK, List.getElem?_take] at hb ⊢
    split at hb
    · rename_i h; rw [if_pos (by omega)]; exact hb
    · cases hb
  · simp only [cxK] at hB ⊢
    split at hB
    · rename_i h
      rw [if_pos (by omega)]
      exact ⟨hφ id B hB, fun e n hs => shape?_of_heap (hw B) hs⟩
    · cases hB
structure DrH (P : Program) (E : Env) (call : CallT) (nt : Nat) (ops : Array Oper) (l : List OpC) (p : Nat) (f : Nat → S) (v : Nat → V) (r : Nat → Mem) (c : Cx) : Prop where
  hcall : CallOK P E call
  comp : ∀ (i : Nat) (o : Oper), ops[i]? = some o → ∃ oc, l[i]? = some oc ∧ cOpC P nt ops o = some oc
  len : l.length = ops.size
  hp : p ≤ ops.size
  tr : ∀ (j : Nat) (oc : OpC), j < p → l[j]? = some oc → QStep E call oc (f j) (f (j + 1)) (v j) (r j)
  apart : ∀ (i j : Nat) (x y : OpC), i < j → j < p → l[i]? = some x → l[j]? = some y → ((CheckFast.beforeF ops).getD j 0).testBit i = false → apartC x y = true
  sim : PSim P c
  hm : c.m = (f 0).m
  gl : GlOK E c
section
variable {E : Env} {call : CallT} {nt : Nat} {ops : Array Oper} {l : List OpC} {p : Nat} {f : Nat → S} {v : Nat → V} {r : Nat → Mem} {c : Cx}
theorem DrH.pre (H : DrH P E call nt ops l p f v r c) : ∀ (d j : Nat), j + d ≤ p → ∃ e, (f (j + d)).m = (f j).m ++ e
  | 0, j, _ => ⟨[], by simp⟩
  | d + 1, j, hj => by
    obtain ⟨e, he⟩ := H.pre d j (by omega)
    have hlt : j + d < l.length := by have := H.len; have := H.hp; omega
    have := (H.tr (j + d) l[j + d] (by omega) (by simp [hlt])).2.1
    rw [show j + (d + 1) = j + d + 1 by omega, this, he]
    exact ⟨_, by rw [List.append_assoc]⟩
theorem DrH.mono (H : DrH P E call nt ops l p f v r c) {i j : Nat} (h : i ≤ j) (hj : j ≤ p) : (f i).m.length ≤ (f j).m.length := by
  obtain ⟨e, he⟩ := H.pre (j - i) i (by omega)
  rw [show i + (j - i) = j by omega] at he
  rw [he]; simp
theorem DrH.take (H : DrH P E call nt ops l p f v r c) {j : Nat} (hj : j ≤ p) : (f j).m = (f p).m.take (f j).m.length := by
  obtain ⟨e, he⟩ := H.pre (p - j) j (by omega)
  rw [show j + (p - j) = p by omega] at he
  rw [he]; simp
theorem DrH.at (H : DrH P E call nt ops l p f v r c) {j : Nat} (hj : j < p) {id : Nat} (h1 : (f j).m.length ≤ id) (h2 : id < (f (j + 1)).m.length) : (f p).m[id]? = (r j)[id]? := by
  obtain ⟨e, he⟩ := H.pre (p - (j + 1)) (j + 1) (by omega)
  rw [show j + 1 + (p - (j + 1)) = p by omega] at he
  have hlt : j < l.length := by have := H.len; have := H.hp; omega
  have q := (H.tr j l[j] hj (by simp [hlt])).2.1
  rw [he, List.getElem?_append_left h2, q, List.getElem?_append_right h1, List.getElem?_drop]
  congr 1; omega
theorem DrH.tmps (H : DrH P E call nt ops l p f v r c) (d : Nat) : ∀ n, n ≤ p → (f n).t d = tOf (f 0).t v d (WL l (fun _ => true) n d)
  | 0, _ => rfl
  | n + 1, h => by
    have hlt : n < l.length := by have := H.len; have := H.hp; omega
    have q := (H.tr n l[n] (by omega) (by simp [hlt])).1
    have ih := DrH.tmps H d n (by omega)
    rw [q]
    simp only [WL, dstAt, List.getElem?_eq_getElem hlt, Option.bind_some, Bool.true_and]
    cases hd : l[n].dst with
    | none => simp [putT]; exact ih
    | some x =>
      by_cases e : d = x
      · subst e; simp [putT, upd, tOf]
      · have : ¬ (x = d) := fun h => e h.symm
        simp [putT, upd, e, this]; exact ih
structure DrInv (P : Program) (nt : Nat) (l : List OpC) (p : Nat) (f : Nat → S) (v : Nat → V) (c : Cx) (a0 : Act) (L : Nat → Bool) (φ : Nat → Option Nat) (a : Act) (w : World) : Prop where
  size : c.w.heap.size ≤ w.heap.size
  os : w.os = c.w.os
  tape : w.tape = c.w.tape
  output : w.output = c.w.output
  heap : ∀ (b : Nat) (x : Obj), c.w.heap[b]? = some x → w.heap[b]? = some x
  φ0 : ∀ id, id < (f 0).m.length → φ id = c.φ id
  φL : ∀ id B, φ id = some B → (f 0).m.length ≤ id → c.w.heap.size ≤ B ∧ ∃ i, i < p ∧ L i = true ∧ (f i).m.length ≤ id ∧ id < (f (i + 1)).m.length
  inj : ∀ i j B, φ i = some B → φ j = some B → i = j
  lt : ∀ id B, φ id = some B → B < w.heap.size
  noI : ∀ id B, φ id = some B → ∀ o, ¬ c.I B o
  blk : ∀ id blk B j, j ≤ p → ((f p).m.map (Blk.setProt true))[id]? = some blk → φ id = some B → id < (f j).m.length → BlkOK P (cxK c ((f p).m.map (Blk.setProt true)) φ w (f j).m.length) B blk
  tmp : ∀ d j, j ≤ p → kOf (fun i => (f i).m.length) (WL l L p d) ≤ (f j).m.length → RelV (cxK c ((f p).m.map (Blk.setProt true)) φ w (f j).m.length) (tOf (f 0).t v d (WL l L p d)) (a.tmps.getD d undef)
  nt : a.tmps.size = nt
  defers : a.defers = a0.defers
theorem cxK_id {c : Cx} {N : Mem} {φ : Nat → Option Nat} {w : World} {k id : Nat} {B : Nat} (h : (cxK c N φ w k).φ id = some B) : id < k ∧ φ id = some B := by
  simp only [cxK] at h
  split at h
  · exact ⟨‹_›, h⟩
  · cases h
theorem DrInv.psim (H : DrH P E call nt ops l p f v r c) {a0 : Act} {L : Nat → Bool} {φ : Nat → Option Nat} {a : Act} {w : World} (I : DrInv P nt l p f v c a0 L φ a w) {j : Nat} (hj : j ≤ p) :
    PSim P (cxK c ((f p).m.map (Blk.setProt true)) φ w (f j).m.length) := by
  refine ⟨fun id blk B hb hφ => ?_, fun x y B hx hy => I.inj x y B (cxK_id hx).2 (cxK_id hy).2, fun id B hi => ?_, fun b o hI => Nat.lt_of_lt_of_le (H.sim.imm b o hI) I.size⟩
  · obtain ⟨h1, h2⟩ := cxK_id hφ
    refine I.blk id blk B j hj ?_ h2 h1
    simpa [cxK, List.getElem?_take, h1] using hb
  · obtain ⟨h1, h2⟩ := cxK_id hi
    have := H.mono hj (Nat.le_refl p)
    simp only [cxK, List.length_take, List.length_map]
    omega
theorem gl_draw (H : DrH P E call nt ops l p f v r c) {a0 : Act} {L : Nat → Bool} {φ : Nat → Option Nat} {a : Act} {w : World} (I : DrInv P nt l p f v c a0 L φ a w) (N : Mem) (k : Nat) : GlOK E (cxK c N φ w k) :=
  GlOK.keep (c := c) (c' := cxK c N φ w k) (keepI_heap I.heap) (fun g vs e fr _ hg => I.heap g _ hg) (fun id B hB => by
    obtain ⟨_, h2⟩ := cxK_id hB
    rcases Nat.lt_or_ge id (f 0).m.length with h1 | h1
    · exact .inl ⟨id, by rw [← I.φ0 id h1]; exact h2⟩
    · exact .inr (I.φL id B h2 h1).1) H.gl
theorem DrInv.start (H : DrH P E call nt ops l p f v r c) {a : Act} (ht : TRel c (f 0).t a) (hnt : a.tmps.size = nt) (n : Nat) :
    DrInv P nt l p f v c a (fun _ => false) c.φ a { c.w with drawn := n } := by
  have hlt : ∀ id B, c.φ id = some B → id < (f 0).m.length := fun id B h => by rw [← H.hm]; exact H.sim.dom id B h
  have hw0 : ∀ (b : Nat) (x : Obj), c.w.heap[b]? = some x → ({ c.w with drawn := n } : World).heap[b]? = some x := fun b x h => h
  have hst : ∀ j, j ≤ p → St c (cxK c ((f p).m.map (Blk.setProt true)) c.φ { c.w with drawn := n } (f j).m.length) := fun j hj => by
    have h0 := H.mono (Nat.zero_le j) hj
    refine ⟨keepI_heap hw0, fun id blk hb => ⟨blk.setProt true, ?_, by rw [(setProt_len true blk).1]; exact Nat.le_refl _, fun h => ⟨by rw [(setProt_len true blk).2.2.1]; exact h, (setProt_len true blk).1⟩, fun _ => ⟨(setProt_len true blk).2.1, fun B hB => ⟨?_, fun e n hs => hs⟩⟩⟩⟩
    · rw [H.hm] at hb
      have hlt' : id < (f 0).m.length := (List.getElem?_eq_some_iff.1 hb).1
      have e := H.take (Nat.zero_le p)
      rw [e, List.getElem?_take, if_pos hlt'] at hb
      simp only [cxK, List.getElem?_take]
      rw [if_pos (by omega), List.getElem?_map, hb]; rfl
    · have := hlt id B hB
      simp only [cxK]; rw [if_pos (by omega)]; exact hB
  refine ⟨Nat.le_refl _, rfl, rfl, rfl, hw0, fun _ _ => rfl, fun id B h h' => ?_, H.sim.inj, fun id B h => H.sim.lt h, fun id B h => H.sim.noI h, fun id blk B j hj hb hφ hid => ?_, fun d j hj hk => ?_, hnt, rfl⟩
  · have := hlt id B h; omega
  · have h1 := hlt id B hφ
    have hb' : ∃ b0, c.m[id]? = some b0 ∧ blk = b0.setProt true := by
      have e := H.take (Nat.zero_le p)
      rw [List.getElem?_map] at hb
      obtain ⟨b0, hb0, rfl⟩ := Option.map_eq_some_iff.1 hb
      refine ⟨b0, ?_, rfl⟩
      rw [H.hm, e, List.getElem?_take, if_pos h1]; exact hb0
    obtain ⟨b0, hb0, rfl⟩ := hb'
    exact (BlkOK.mono (hst j hj) rfl (hw0 B) (H.sim.blk id b0 B hb0 hφ)).setProt true
  · have : WL l (fun _ => false) p d = none := WL_none fun j _ h => by cases h
    rw [this]
    exact RelV.mono (hst j hj) _ _ (ht d)
end
end Go.Proofs.YtlenjioebdmooaaDoor.Den

namespace Go.Proofs.YtlenjioebdmooaaDoor.Den
open Go
set_option linter.unusedVariables false
set_option linter.unusedSimpArgs false
variable {P : Program} {ro : Option Nat} {nn : Nat}
section
variable {E : Env} {call : CallT} {nt : Nat} {ops : Array Oper} {l : List OpC} {p : Nat} {f : Nat → S} {v : Nat → V} {r : Nat → Mem} {c : Cx}
theorem St.grow {P : Program} {c c' : Cx} (h : St c c') : c.m.length ≤ c'.m.length := by
  rcases Nat.eq_zero_or_pos c.m.length with h0 | h0
  · omega
  · obtain ⟨b, hb, _⟩ := h.blk (c.m.length - 1) _ (List.getElem?_eq_getElem (by omega))
    have := (List.getElem?_eq_some_iff.1 hb).1
    omega
theorem DrInv.next (H : DrH P E call nt ops l p f v r c) {a0 : Act} {L : Nat → Bool} {φ : Nat → Option Nat} {a : Act} {w : World} (I : DrInv P nt l p f v c a0 L φ a w) {j : Nat} {oc : OpC} (hj : j < p) (hoc : l[j]? = some oc)
    (hdst : ∀ i, oc.dst = some i → i < nt) (hLj : L j = false)
    (hlate : ∀ (i : Nat) (y : OpC), j < i → i < p → L i = true → l[i]? = some y → apartC oc y = true)
    {c' : Cx} {u : Value} (hm : c'.m = r j) (hp : Post P (cxK c ((f p).m.map (Blk.setProt true)) φ w (f j).m.length) c') (hr : RelV c' (v j) u)
    (hq : (f (j + 1)).m = (f j).m ++ (r j).drop (f j).m.length) :
    ∃ φ', DrInv P nt l p f v c a0 (fun i => L i || i == j) φ' (a.put oc.dst u) c'.w := by
  have hdl : ∀ i x, l[i]? = some x → dstAt l i = x.dst := fun i x h => by simp [dstAt, h]
  have hpsim := I.psim H (Nat.le_of_lt hj)
  generalize hN : (f p).m.map (Blk.setProt true) = N at *
  have hCm : (cxK c N φ w (f j).m.length).m.length = (f j).m.length := by
    have := H.mono (Nat.le_of_lt hj) (Nat.le_refl p)
    simp only [cxK, ← hN, List.length_take, List.length_map]; omega
  have hgrow := St.grow (P := P) hp.st
  rw [hCm, hm] at hgrow
  have hk1 : (f (j + 1)).m.length = (r j).length := by rw [hq]; simp; omega
  have hkk : (f j).m.length ≤ (f (j + 1)).m.length := by omega
  have hNprot : ∀ (id : Nat) (blk : Blk), (cxK c N φ w (f j).m.length).m[id]? = some blk → blk.prot = true := fun id blk hb => by
    simp only [cxK, List.getElem?_take] at hb
    split at hb
    · rw [← hN, List.getElem?_map] at hb
      obtain ⟨b0, _, rfl⟩ := Option.map_eq_some_iff.1 hb
      exact (setProt_len true b0).2.2.2.1
    · cases hb
  have hw' : ∀ (b : Nat) (x : Obj), w.heap[b]? = some x → c'.w.heap[b]? = some x := fun b x hx => hp.keeps.heap b x hx fun ⟨id, blk, h1, h2, _⟩ => by
    rw [hNprot id blk h1] at h2; cases h2
  have hnew : ∀ id B, φ id = some B → (f j).m.length ≤ id → id < (f (j + 1)).m.length → False := fun id B h1 h2 h3 => by
    have h0 := H.mono (Nat.zero_le j) (Nat.le_of_lt hj)
    obtain ⟨_, i, hi, hLi, h4, h5⟩ := I.φL id B h1 (by omega)
    rcases Nat.lt_trichotomy i j with h | h | h
    · have := H.mono (show i + 1 ≤ j by omega) (Nat.le_of_lt hj); omega
    · subst h; rw [hLj] at hLi; cases hLi
    · have := H.mono (show j + 1 ≤ i by omega) (Nat.le_of_lt hi); omega
  let φ' : Nat → Option Nat := fun id => if id < (f j).m.length then φ id else if id < (f (j + 1)).m.length then c'.φ id else φ id
  have hφ' : ∀ id B, φ id = some B → φ' id = some B := fun id B h => by
    simp only [φ']
    split
    · exact h
    · split
      · exact (hnew id B h (by omega) (by omega)).elim
      · exact h
  have hφc : ∀ id B, φ' id = some B → φ id = some B ∨ ((f j).m.length ≤ id ∧ id < (f (j + 1)).m.length ∧ c'.φ id = some B) := fun id B h => by
    simp only [φ'] at h
    split at h
    · exact .inl h
    · split at h
      · exact .inr ⟨by omega, by omega, h⟩
      · exact .inl h
  have hfresh : ∀ id B, (f j).m.length ≤ id → c'.φ id = some B → w.heap.size ≤ B := fun id B h1 h2 => by
    rcases hp.keeps.fresh id B h2 with h3 | h3
    · have := (cxK_id h3).1; omega
    · exact h3
  have hst : St c' (cxK c N φ' c'.w (f (j + 1)).m.length) := by
    refine ⟨by rw [show (cxK c N φ' c'.w (f (j + 1)).m.length).I = c'.I by rw [hp.imm]; rfl]; exact keepI_heap fun b x h => h, fun id blk hb => ?_⟩
    have hidl : id < (f (j + 1)).m.length := by rw [hk1, ← hm]; exact (List.getElem?_eq_some_iff.1 hb).1
    by_cases hid : id < (f j).m.length
    · have hC : ∃ b0, (cxK c N φ w (f j).m.length).m[id]? = some b0 := ⟨_, List.getElem?_eq_getElem (by rw [hCm]; exact hid)⟩
      obtain ⟨b0, hb0⟩ := hC
      obtain ⟨b1, g1, g2, g3, g4⟩ := hp.keeps.same id b0 hb0 (hNprot id b0 hb0)
      rw [hb] at g1; cases g1
      have hNid : N[id]? = some b0 := by simpa [cxK, List.getElem?_take, hid] using hb0
      refine ⟨b0, by simp only [cxK, List.getElem?_take]; rw [if_pos hidl]; exact hNid, by omega, fun h => ⟨by rw [← g4]; exact h, g2.symm⟩, fun _ => ⟨g3.symm, fun B hB => ⟨?_, fun e n hs => hs⟩⟩⟩
      obtain ⟨B0, hB0⟩ := hp.keeps.old id B b0 hB hb0 (hNprot id b0 hb0)
      obtain ⟨b2, q1, q2, q3, q4⟩ := hp.st.blk id b0 hb0
      rw [hb] at q1; cases q1
      have := ((q4 g2).2 B0 hB0).1
      rw [hB] at this; cases this
      simp only [cxK]; rw [if_pos hidl]
      exact hφ' id B (cxK_id hB0).2
    · have e := H.at hj (Nat.le_of_not_lt hid) hidl
      rw [hm] at hb
      rw [hb] at e
      refine ⟨blk.setProt true, by simp only [cxK, List.getElem?_take]; rw [if_pos hidl, ← hN, List.getElem?_map, e]; rfl, by rw [(setProt_len true blk).1]; exact Nat.le_refl _, fun h => ⟨by rw [(setProt_len true blk).2.2.1]; exact h, (setProt_len true blk).1⟩, fun _ => ⟨(setProt_len true blk).2.1, fun B hB => ⟨?_, fun e n hs => hs⟩⟩⟩
      simp only [cxK, φ']; rw [if_pos hidl, if_neg hid, if_pos hidl]; exact hB
  have hj1 : ∀ j', (f j).m.length < (f j').m.length → j' ≤ p → (f (j + 1)).m.length ≤ (f j').m.length := fun j' h hj' => by
    rcases Nat.lt_or_ge j j' with h1 | h1
    · exact H.mono h1 hj'
    · have := H.mono h1 (Nat.le_of_lt hj); omega
  refine ⟨φ', Nat.le_trans I.size hp.keeps.size, hp.keeps.os.trans I.os, hp.keeps.tape.trans I.tape, hp.keeps.output.trans I.output, fun b x h => hw' b x (I.heap b x h), fun id hid => ?_, fun id B h hid => ?_, fun x y B hx hy => ?_, fun id B h => ?_, fun id B h => ?_, fun id blk B j' hj' hb h hid => ?_, fun d j' hj' hk => ?_, ?_, ?_⟩
  · have := H.mono (Nat.zero_le j) (Nat.le_of_lt hj)
    simp only [φ']; rw [if_pos (by omega)]; exact I.φ0 id hid
  · rcases hφc id B h with h1 | ⟨h1, h2, h3⟩
    · obtain ⟨g1, i, g2, g3, g4, g5⟩ := I.φL id B h1 hid
      exact ⟨g1, i, g2, by simp [g3], g4, g5⟩
    · exact ⟨Nat.le_trans I.size (hfresh id B h1 h3), j, hj, by simp, h1, h2⟩
  · rcases hφc x B hx with h1 | ⟨h1, h2, h3⟩ <;> rcases hφc y B hy with g1 | ⟨g1, g2, g3⟩
    · exact I.inj x y B h1 g1
    · have := I.lt x B h1; have := hfresh y B g1 g3; omega
    · have := I.lt y B g1; have := hfresh x B h1 h3; omega
    · exact hp.sim.inj x y B h3 g3
  · rcases hφc id B h with h1 | ⟨h1, h2, h3⟩
    · exact Nat.lt_of_lt_of_le (I.lt id B h1) hp.keeps.size
    · exact hp.sim.lt h3
  · rcases hφc id B h with h1 | ⟨h1, h2, h3⟩
    · exact I.noI id B h1
    · intro o hI
      exact hp.sim.noI h3 o (by rw [hp.imm]; exact hI)
  · rw [hN] at hb ⊢
    rcases hφc id B h with h1 | ⟨h1, h2, h3⟩
    · have := I.blk id blk B j' hj' (by rw [hN]; exact hb) h1 hid
      rw [hN] at this
      exact BlkOK.mono (cxK_st (Nat.le_refl _) hφ' hw') rfl (hw' B) this
    · have e := H.at hj h1 h2
      rw [← hN, List.getElem?_map] at hb
      obtain ⟨b0, hb0, rfl⟩ := Option.map_eq_some_iff.1 hb
      rw [hb0] at e
      have hk' := hj1 j' (by omega) hj'
      have hb1 := hp.sim.blk id b0 B (by rw [hm]; exact e.symm) h3
      have hb2 := BlkOK.mono hst (by rw [hp.imm]; rfl) (fun x hx => hx) hb1
      exact (BlkOK.mono (cxK_st hk' (fun _ _ h => h) (fun _ _ h => h)) rfl (fun x hx => hx) hb2).setProt true
  · rw [hN]
    by_cases e : oc.dst = some d
    · have hW : WL l (fun i => L i || i == j) p d = some j := WL_some hj (by simp) (by rw [hdl j oc hoc]; exact e) fun i h1 h2 h3 h4 => by
        have hLi : L i = true := by
          have : ¬ (i = j) := by omega
          simpa [this] using h3
        have hlt : i < l.length := by have := H.len; have := H.hp; omega
        have ha := hlate i l[i] h1 h2 hLi (by simp [hlt])
        exact ((apartC_spec ha).1 d e).2 (by rw [← hdl i l[i] (by simp [hlt])]; exact h4)
      rw [hW] at hk ⊢
      simp only [kOf, tOf] at hk ⊢
      have hd : d < a.tmps.size := by rw [I.nt]; exact hdst d e
      rw [e]
      simp only [Act.put, Array.getD_eq_getD_getElem?]
      rw [Array.getElem?_setIfInBounds_self_of_lt hd]
      exact RelV.mono (cxK_st hk (fun _ _ h => h) (fun _ _ h => h)) _ _ (RelV.mono hst _ _ hr)
    · have hW : WL l (fun i => L i || i == j) p d = WL l L p d := WL_congr fun i hi hd => by
        have : i ≠ j := fun h => by subst h; rw [hdl i oc hoc] at hd; exact e hd
        simp [this]
      rw [hW] at hk ⊢
      have ht := I.tmp d j' hj' hk
      rw [hN] at ht
      have hput : (a.put oc.dst u).tmps.getD d undef = a.tmps.getD d undef := by
        cases hd : oc.dst with
        | none => rfl
        | some x =>
          have hne : x ≠ d := fun h => e (by rw [hd, h])
          simp only [Act.put, Array.getD_eq_getD_getElem?]
          rw [Array.getElem?_setIfInBounds_ne hne]
      rw [hput]
      exact RelV.mono (cxK_st (Nat.le_refl _) hφ' hw') _ _ ht
  · rw [← I.nt]; cases oc.dst <;> simp [Act.put]
  · rw [← I.defers]; exact put_defers a oc.dst u
theorem DrInv.step (H : DrH P E call nt ops l p f v r c) {a0 : Act} {L : Nat → Bool} {φ : Nat → Option Nat} {a : Act} {w : World} (I : DrInv P nt l p f v c a0 L φ a w) {j : Nat} {o : Oper} (hj : j < p) (ho : ops[j]? = some o)
    (hL : Closed ops L) (hLj : L j = false) (hready : ∀ e, e ∈ o.after → Region.binds .any e = true → L e.on = true)
    {Q : Exit → Act → World → Prop} {K : Act → World → Prop} (hk : ∀ φ' a' w', DrInv P nt l p f v c a0 (fun i => L i || i == j) φ' a' w' → K a' w') : wpOpIn (RF ro) nn P ops Q j K a w := by
  obtain ⟨oc, hoc, hc⟩ := H.comp j o ho
  obtain ⟨h1, h2, h3, h4⟩ := cOpC_spec hc
  have hbits := bits_listed hL (j + 1) j (by omega) o ho hready
  have hbefore : ∀ (i : Nat) (x : OpC), i < j → L i = false → l[i]? = some x → apartC x oc = true := fun i x hi hLi hx => by
    refine H.apart i j x oc hi hj hx hoc ?_
    cases hb : ((CheckFast.beforeF ops).getD j 0).testBit i with
    | false => rfl
    | true => rw [hbits i hb] at hLi; cases hLi
  have hlate : ∀ (i : Nat) (y : OpC), j < i → i < p → L i = true → l[i]? = some y → apartC oc y = true := fun i y hi hip hLi hy => by
    refine H.apart j i oc y hi hip hoc hy ?_
    cases hb : ((CheckFast.beforeF ops).getD i 0).testBit j with
    | false => rfl
    | true =>
      have hlt : i < ops.size := by have := H.hp; omega
      have := bits_listed hL (i + 1) i (by omega) ops[i] (by simp [hlt]) (hL i _ (by simp [hlt]) hLi) j hb
      rw [this] at hLj; cases hLj
  have hdl : ∀ i x, l[i]? = some x → dstAt l i = x.dst := fun i x h => by simp [dstAt, h]
  have hllt : ∀ i, i < p → i < l.length := fun i hi => by have := H.len; have := H.hp; omega
  have hlook : ∀ d, d ∈ oc.looks → WL l L p d = WL l (fun _ => true) j d := fun d hd => by
    have hs := WL_spec l (fun _ => true) d j
    cases hw : WL l (fun _ => true) j d with
    | none =>
      rw [hw] at hs
      refine WL_none fun i hi hLi hdi => ?_
      rcases Nat.lt_trichotomy i j with h | h | h
      · exact hs i h rfl hdi
      · subst h; rw [hLj] at hLi; cases hLi
      · have hli := hllt i hi
        have ha := hlate i l[i] h hi hLi (by simp [hli])
        rw [hdl i l[i] (by simp [hli])] at hdi
        exact ((apartC_spec ha).2 d hdi).1 hd
    | some i =>
      rw [hw] at hs
      obtain ⟨g1, _, g3, g4⟩ := hs
      have hli := hllt i (by omega)
      refine WL_some (by omega) ?_ g3 fun i' hi hip hLi hdi => ?_
      · cases hLi : L i with
        | true => rfl
        | false =>
          have ha := hbefore i l[i] g1 hLi (by simp [hli])
          rw [hdl i l[i] (by simp [hli])] at g3
          exact (((apartC_spec ha).1 d g3).1 hd).elim
      · rcases Nat.lt_trichotomy i' j with h | h | h
        · exact g4 i' hi h rfl hdi
        · subst h; rw [hLj] at hLi; cases hLi
        · have hli' := hllt i' hip
          have ha := hlate i' l[i'] h hip hLi (by simp [hli'])
          rw [hdl i' l[i'] (by simp [hli'])] at hdi
          exact ((apartC_spec ha).2 d hdi).1 hd
  let t' : Nat → V := fun d => if oc.looks.contains d then (f j).t d else .un
  have ht' : ∀ d, d ∈ oc.looks → (f j).t d = t' d := fun d hd => by simp [t', hd]
  have hC : (cxK c ((f p).m.map (Blk.setProt true)) φ w (f j).m.length).m = (f j).m.map (Blk.setProt true) := by
    have e := H.take (Nat.le_of_lt hj)
    simp only [cxK]
    rw [← List.map_take, ← e]
  have htrel : TRel (cxK c ((f p).m.map (Blk.setProt true)) φ w (f j).m.length) t' a := fun d => by
    by_cases hd : d ∈ oc.looks
    · rw [← ht' d hd, H.tmps d j (Nat.le_of_lt hj), ← hlook d hd]
      refine I.tmp d j (Nat.le_of_lt hj) ?_
      rw [hlook d hd]
      have hs := WL_spec l (fun _ => true) d j
      cases hw : WL l (fun _ => true) j d with
      | none => exact H.mono (Nat.zero_le j) (Nat.le_of_lt hj)
      | some i => rw [hw] at hs; exact H.mono (show i + 1 ≤ j from hs.1) (Nat.le_of_lt hj)
    · have : t' d = .un := by simp [t', hd]
      rw [this]; simp only [RelV]
  have hgl : GlOK E (cxK c ((f p).m.map (Blk.setProt true)) φ w (f j).m.length) := gl_draw H I _ _
  have hsim := I.psim H (Nat.le_of_lt hj)
  obtain ⟨cg1, cg2⟩ := look_congr (E := E) ht'
  obtain ⟨q1, q2, q3⟩ := H.tr j oc hj hoc
  unfold wpOpIn
  simp only [ho]
  rcases q3 with ⟨hw, hd⟩ | ⟨hw, hv, hr⟩
  · rw [cg2] at hw
    rw [if_pos (wanted_ok htrel h4 hw)]
    rw [doI_congr cg1, ← hC] at hd
    refine (doI_good H.hcall hsim hgl htrel h1 hd).wp (cOp_nd h1) fun c' u hm hp hr => ?_
    obtain ⟨φ', h⟩ := DrInv.next H I hj hoc (by rw [h2]; exact h3) hLj hlate hm hp hr q2
    rw [← h2]
    exact hk _ _ _ h
  · rw [cg2] at hw
    rw [if_neg (by rw [wanted_ok htrel h4 hw]; simp)]
    refine ⟨fun _ _ => trivial, ?_⟩
    obtain ⟨φ', h⟩ := DrInv.next H I hj hoc (by rw [h2]; exact h3) hLj hlate (hC.trans hr.symm) (Post.refl hsim) (u := undef) (by rw [hv]; exact undef_rel _) q2
    rw [← h2]
    exact hk _ _ _ h
end
end Go.Proofs.YtlenjioebdmooaaDoor.Den

namespace Go.Proofs.YtlenjioebdmooaaDoor.Den
open Go
set_option linter.unusedVariables false
set_option linter.unusedSimpArgs false
variable {P : Program} {ro : Option Nat} {nn : Nat}
theorem lower_spec {ops : Array Oper} (h : lower ops = true) {i : Nat} {o : Oper} (ho : ops[i]? = some o) {e : Edge} (he : e ∈ o.after) (hb : Region.binds .any e = true) : e.on < i := by
  unfold lower at h
  rw [List.all_eq_true] at h
  have hi : i < ops.size := (Array.getElem?_eq_some_iff.1 ho).1
  have ho' : ops.toList[i]? = some o := by simpa using ho
  have hm : (o, i) ∈ ops.toList.zipIdx := by
    rw [List.mem_zipIdx_iff_getElem?]; exact ho'
  have := h _ hm
  simp only [Array.all_eq_true_iff_forall_mem] at this
  have := this e he
  simpa [hb] using this
def cnt (L : Nat → Bool) : Nat → Nat
  | 0 => 0
  | n + 1 => cnt L n + (if L n then 1 else 0)
theorem cnt_le (L : Nat → Bool) : ∀ n, cnt L n ≤ n
  | 0 => Nat.le_refl _
  | n + 1 => by have := cnt_le L n; simp only [cnt]; split <;> omega
theorem cnt_all {L : Nat → Bool} : ∀ {n : Nat}, (∀ i, i < n → L i = true) → cnt L n = n
  | 0, _ => rfl
  | n + 1, h => by simp only [cnt]; rw [cnt_all fun i hi => h i (by omega), h n (by omega)]; rfl
theorem cnt_lt {L : Nat → Bool} {i : Nat} : ∀ {n : Nat}, i < n → L i = false → cnt L n < n
  | 0, h, _ => by omega
  | n + 1, h, hi => by
    simp only [cnt]
    by_cases e : i = n
    · subst e; rw [hi]; have := cnt_le L i; simp; omega
    · have := cnt_lt (L := L) (n := n) (by omega) hi; split <;> omega
theorem cnt_congr {L L' : Nat → Bool} : ∀ {n : Nat}, (∀ i, i < n → L i = L' i) → cnt L n = cnt L' n
  | 0, _ => rfl
  | n + 1, h => by simp only [cnt]; rw [cnt_congr fun i hi => h i (by omega), h n (by omega)]
theorem cnt_set {L : Nat → Bool} {j : Nat} (hL : L j = false) : ∀ {n : Nat}, j < n → cnt (fun i => L i || i == j) n = cnt L n + 1
  | 0, h => by omega
  | n + 1, h => by
    simp only [cnt]
    by_cases e : j = n
    · subst e
      have : cnt (fun i => L i || i == j) j = cnt L j := cnt_congr fun i hi => by
        have : ¬ (i = j) := by omega
        simp [this]
      simp only [this, hL]; simp
    · rw [cnt_set hL (by omega)]
      have : ¬ (n = j) := by omega
      simp only [this, beq_iff_eq, Bool.or_eq_true, or_false]
      split <;> omega
def lst (listed : Array Bool) : Nat → Bool := fun i => listed.getD i false
theorem lst_set {listed : Array Bool} {j : Nat} (hj : j < listed.size) : lst (listed.setIfInBounds j true) = fun i => lst listed i || i == j := by
  funext i
  simp only [lst, Array.getD_eq_getD_getElem?]
  by_cases e : i = j
  · subst e; rw [Array.getElem?_setIfInBounds_self_of_lt hj]; simp
  · rw [Array.getElem?_setIfInBounds_ne (Ne.symm e)]; simp [e]
theorem ready_spec {ops : Array Oper} {listed : Array Bool} (hsz : listed.size = ops.size) {j : Nat} : j ∈ Region.ready .any ops listed ↔
    lst listed j = false ∧ ∃ o, ops[j]? = some o ∧ ∀ e, e ∈ o.after → Region.binds .any e = true → lst listed e.on = true := by
  rw [mem_ready]
  constructor
  · rintro ⟨h0, o, ho, h⟩
    have hj : j < listed.size := by rw [hsz]; exact (Array.getElem?_eq_some_iff.1 ho).1
    refine ⟨?_, o, ho, h⟩
    simp [hj] at h0
    simp [lst, hj, h0]
  · rintro ⟨h0, o, ho, h⟩
    have hj : j < listed.size := by rw [hsz]; exact (Array.getElem?_eq_some_iff.1 ho).1
    refine ⟨?_, o, ho, h⟩
    simp [lst, hj] at h0
    simp [hj, h0]
theorem closed_set {ops : Array Oper} {L : Nat → Bool} (hL : Closed ops L) {j : Nat} {o : Oper} (ho : ops[j]? = some o) (hr : ∀ e, e ∈ o.after → Region.binds .any e = true → L e.on = true) : Closed ops (fun i => L i || i == j) := by
  intro i o' ho' hi e he hb
  simp only [Bool.or_eq_true, beq_iff_eq] at hi ⊢
  rcases hi with hi | hi
  · exact .inl (hL i o' ho' hi e he hb)
  · subst hi; rw [ho] at ho'; cases ho'; exact .inl (hr e he hb)
section
variable {E : Env} {call : CallT} {nt : Nat} {ops : Array Oper} {l : List OpC} {p : Nat} {f : Nat → S} {v : Nat → V} {r : Nat → Mem} {c : Cx}
theorem tail_ok {Q : Exit → Act → World → Prop} {a0 : Act} (hlow : lower ops = true) (hcall : CallOK P E call) (hlen : l.length = ops.size) (comp : ∀ (i : Nat) (o : Oper), ops[i]? = some o → ∃ oc, l[i]? = some oc ∧ cOpC P nt ops o = some oc)
    (htail : ∀ q, p ≤ q → q < ops.size → (CheckFast.beforeF ops).getD q 0 = 2 ^ q - 1) : ∀ (n q : Nat) (listed : Array Bool) (c : Cx) (s s2 : S) (a : Act), q + n = ops.size → p ≤ q → listed.size = ops.size →
    Closed ops (lst listed) → (∀ i, i < ops.size → lst listed i = decide (i < q)) → SRel P E nt c s a → a.defers = a0.defers → opsC (doI E call) (l.drop q) s = some s2 →
    (∀ c' a', Post P c c' → SRel P E nt c' s2 a' → a'.defers = a0.defers → Q .normal a' c'.w) → wpAnyIn (RF ro) nn P .any ops Q n listed a c.w
  | 0, q, listed, c, s, s2, a, hn, hpq, hsz, hcl, hlist, hs, hd, h, hq => by
    simp only [Nat.add_zero] at hn
    rw [List.drop_eq_nil_of_le (by omega)] at h
    simp [opsC] at h; subst h
    refine ⟨?_, hq c a (Post.refl hs.sim) hs hd⟩
    apply List.eq_nil_iff_forall_not_mem.2
    intro j hj
    obtain ⟨h0, o, ho, _⟩ := (ready_spec hsz).1 hj
    have hjl : j < ops.size := (Array.getElem?_eq_some_iff.1 ho).1
    rw [hlist j hjl] at h0
    simp at h0; omega
  | n + 1, q, listed, c, s, s2, a, hn, hpq, hsz, hcl, hlist, hs, hd, h, hq => by
    have hql : q < ops.size := by omega
    have only : ∀ j, j ∈ Region.ready .any ops listed → j = q := fun j hj => by
      obtain ⟨h0, o, ho, hr⟩ := (ready_spec hsz).1 hj
      have hjl : j < ops.size := (Array.getElem?_eq_some_iff.1 ho).1
      rw [hlist j hjl] at h0
      simp at h0
      rcases Nat.lt_or_ge q j with hlt | hge
      · have hb := bits_listed hcl (j + 1) j (by omega) o ho hr q (by rw [htail j (by omega) hjl, Nat.testBit_two_pow_sub_one]; simpa using hlt)
        rw [hlist q hql] at hb
        simp at hb
      · omega
    obtain ⟨oc, hoc, hc⟩ := comp q ops[q] (by simp [hql])
    have hdrop : l.drop q = oc :: l.drop (q + 1) := by
      rw [List.drop_eq_getElem_cons (by omega)]
      obtain ⟨_, e⟩ := List.getElem?_eq_some_iff.1 hoc
      rw [e]
    rw [hdrop] at h
    obtain ⟨s1, hstep, hrest⟩ := opsC_cons h
    refine ⟨fun hnil => ?_, fun j hj => ?_⟩
    ·
      exfalso
      have : q ∈ Region.ready .any ops listed := by
        refine (ready_spec hsz).2 ⟨by rw [hlist q hql]; simp, ops[q], by simp [hql], fun e he hb => ?_⟩
        have hlt := lower_spec hlow (i := q) (o := ops[q]) (by simp [hql]) he hb
        rw [hlist e.on (by omega)]; simpa using hlt
      rw [hnil] at this; cases this
    · have := only j hj; subst this
      obtain ⟨h0, o, ho, hr⟩ := (ready_spec hsz).1 hj
      have ho' : ops[j]? = some ops[j] := by simp [hql]
      rw [ho'] at ho; cases ho
      refine op_ok hcall ho' hc hs hstep fun c' a' hp hs' hd' => ?_
      refine tail_ok hlow hcall hlen comp htail n (j + 1) _ c' s1 s2 a' (by omega) (by omega) (by simp [hsz]) ?_ (fun i hi => ?_) hs' (hd'.trans hd) hrest fun c2 a2 hp2 hs2 hd2 => hq c2 a2 (hp.trans hs.sim hp2) hs2 hd2
      · rw [lst_set (by rw [hsz]; exact hql)]; exact closed_set hcl ho' hr
      · rw [lst_set (by rw [hsz]; exact hql)]
        show (lst listed i || i == j) = decide (i < j + 1)
        rw [hlist i hi]
        by_cases e : i = j
        · subst e; simp
        · have h1 : (i == j) = false := by simpa using e
          rw [h1, Bool.or_false]
          congr 1
          apply propext; omega
theorem mid_ok {a0 : Act} (H : DrH P E call nt ops l p f v r c) (listed : Array Bool) (φ : Nat → Option Nat) (a : Act) (w : World) (I : DrInv P nt l p f v c a0 (lst listed) φ a w) :
    ∃ c' : Cx, c'.w = w ∧ Post P c c' ∧ SRel P E nt c' ⟨fun d => tOf (f 0).t v d (WL l (lst listed) p d), (f p).m⟩ a := by
  let c' : Cx := ⟨φ, (f p).m, c.I, w⟩
  have hlt : ∀ id B, φ id = some B → id < (f p).m.length := fun id B hi => by
    have h0 := H.mono (Nat.zero_le p) (Nat.le_refl p)
    rcases Nat.lt_or_ge id (f 0).m.length with h1 | h1
    · omega
    · obtain ⟨_, i, hi, _, _, h5⟩ := I.φL id B hi h1
      have := H.mono (show i + 1 ≤ p by omega) (Nat.le_refl p)
      omega
  have hst : St (cxK c ((f p).m.map (Blk.setProt true)) φ w (f p).m.length) c' := by
    refine ⟨KeepI.refl _ _, fun id blk hb => ?_⟩
    have hb' : ∃ b0, (f p).m[id]? = some b0 ∧ blk = b0.setProt true := by
      simp only [cxK, List.getElem?_take] at hb
      split at hb
      · rw [List.getElem?_map] at hb
        obtain ⟨b0, hb0, rfl⟩ := Option.map_eq_some_iff.1 hb
        exact ⟨b0, hb0, rfl⟩
      · cases hb
    obtain ⟨b0, hb0, rfl⟩ := hb'
    obtain ⟨l1, l2, l3, _⟩ := setProt_len true b0
    exact ⟨b0, hb0, by omega, fun h => ⟨by rw [← l3]; exact h, l1.symm⟩, fun _ => ⟨l2.symm, fun B hB => ⟨(cxK_id hB).2, fun _ _ h => h⟩⟩⟩
  have hmap : ∀ (id : Nat) (b0 : Blk), (f p).m[id]? = some b0 → ((f p).m.map (Blk.setProt true))[id]? = some (b0.setProt true) := fun id b0 h => by rw [List.getElem?_map, h]; rfl
  have hsim : PSim P c' := by
    refine ⟨fun id blk B hb hφ => ?_, I.inj, hlt, fun b o hI => Nat.lt_of_lt_of_le (H.sim.imm b o hI) I.size⟩
    have hb0 : (f p).m[id]? = some blk := hb
    have := I.blk id (blk.setProt true) B p (Nat.le_refl p) (hmap id blk hb0) hφ (hlt id B hφ)
    exact BlkOK.mono hst rfl (fun x hx => hx) this.unProt
  have hcm : ∀ (id : Nat) (blk : Blk), c.m[id]? = some blk → (f p).m[id]? = some blk := fun id blk hb => by
    rw [H.hm] at hb
    have e := H.take (Nat.zero_le p)
    have hlt' : id < (f 0).m.length := (List.getElem?_eq_some_iff.1 hb).1
    rw [e, List.getElem?_take, if_pos hlt'] at hb
    exact hb
  have hφc : ∀ id B, c.φ id = some B → φ id = some B := fun id B h => by
    rw [I.φ0 id (by rw [← H.hm]; exact H.sim.dom id B h)]; exact h
  have hpost : Post P c c' := by
    refine ⟨⟨keepI_heap I.heap, fun id blk hb => ⟨blk, hcm id blk hb, Nat.le_refl _, fun h => ⟨h, rfl⟩, fun _ => ⟨rfl, fun B hB => ⟨hφc id B hB, fun e n hs => shape?_of_heap (I.heap B) hs⟩⟩⟩⟩, hsim,
      ⟨I.size, I.os, I.tape, I.output, fun b x hx _ => I.heap b x hx, fun id B hB => ?_, fun id blk hb => ⟨blk, hcm id blk hb, rfl⟩, fun id blk hb _ => ⟨blk, hcm id blk hb, rfl, rfl, rfl⟩, fun id B blk hB hb _ => ?_⟩, rfl⟩
    · rcases Nat.lt_or_ge id (f 0).m.length with h1 | h1
      · left; rw [← I.φ0 id h1]; exact hB
      · exact .inr (I.φL id B hB h1).1
    · exact ⟨B, by rw [← I.φ0 id (by rw [← H.hm]; exact (List.getElem?_eq_some_iff.1 hb).1)]; exact hB⟩
  refine ⟨c', rfl, hpost, hsim, rfl, fun d => ?_, H.gl.mono hpost, I.nt⟩
  refine RelV.mono hst _ _ (I.tmp d p (Nat.le_refl p) ?_)
  have hs := WL_spec l (lst listed) d p
  cases hw : WL l (lst listed) p d with
  | none => exact H.mono (Nat.zero_le p) (Nat.le_refl p)
  | some i => rw [hw] at hs; exact H.mono (show i + 1 ≤ p from hs.1) (Nat.le_refl p)
theorem done {Q : Exit → Act → World → Prop} {a0 : Act} {s2 : S} (hlow : lower ops = true) (H : DrH P E call nt ops l p f v r c)
    (htail : ∀ q, p ≤ q → q < ops.size → (CheckFast.beforeF ops).getD q 0 = 2 ^ q - 1) (h : opsC (doI E call) (l.drop p) (f p) = some s2)
    (hq : ∀ c' a', Post P c c' → SRel P E nt c' s2 a' → a'.defers = a0.defers → Q .normal a' c'.w) (n : Nat) (listed : Array Bool) (φ : Nat → Option Nat) (a : Act) (w : World)
    (hn : p + n = ops.size) (hsz : listed.size = ops.size) (hcl : Closed ops (lst listed)) (hLp : ∀ i, lst listed i = true → i < p) (hall : ∀ i, i < p → lst listed i = true)
    (I : DrInv P nt l p f v c a0 (lst listed) φ a w) : wpAnyIn (RF ro) nn P .any ops Q n listed a w := by
  let c' : Cx := ⟨φ, (f p).m, c.I, w⟩
  have hlt : ∀ id B, φ id = some B → id < (f p).m.length := fun id B hi => by
    have h0 := H.mono (Nat.zero_le p) (Nat.le_refl p)
    rcases Nat.lt_or_ge id (f 0).m.length with h1 | h1
    · omega
    · obtain ⟨_, i, hi, _, _, h5⟩ := I.φL id B hi h1
      have := H.mono (show i + 1 ≤ p by omega) (Nat.le_refl p)
      omega
  have hst : St (cxK c ((f p).m.map (Blk.setProt true)) φ w (f p).m.length) c' := by
    refine ⟨KeepI.refl _ _, fun id blk hb => ?_⟩
    have hb' : ∃ b0, (f p).m[id]? = some b0 ∧ blk = b0.setProt true := by
      simp only [cxK, List.getElem?_take] at hb
      split at hb
      · rw [List.getElem?_map] at hb
        obtain ⟨b0, hb0, rfl⟩ := Option.map_eq_some_iff.1 hb
        exact ⟨b0, hb0, rfl⟩
      · cases hb
    obtain ⟨b0, hb0, rfl⟩ := hb'
    obtain ⟨l1, l2, l3, _⟩ := setProt_len true b0
    exact ⟨b0, hb0, by omega, fun h => ⟨by rw [← l3]; exact h, l1.symm⟩, fun _ => ⟨l2.symm, fun B hB => ⟨(cxK_id hB).2, fun _ _ h => h⟩⟩⟩
  have hmap : ∀ (id : Nat) (b0 : Blk), (f p).m[id]? = some b0 → ((f p).m.map (Blk.setProt true))[id]? = some (b0.setProt true) := fun id b0 h => by rw [List.getElem?_map, h]; rfl
  have hsim : PSim P c' := by
    refine ⟨fun id blk B hb hφ => ?_, I.inj, hlt, fun b o hI => Nat.lt_of_lt_of_le (H.sim.imm b o hI) I.size⟩
    have hb0 : (f p).m[id]? = some blk := hb
    have := I.blk id (blk.setProt true) B p (Nat.le_refl p) (hmap id blk hb0) hφ (hlt id B hφ)
    exact BlkOK.mono hst rfl (fun x hx => hx) this.unProt
  have hcm : ∀ (id : Nat) (blk : Blk), c.m[id]? = some blk → (f p).m[id]? = some blk := fun id blk hb => by
    rw [H.hm] at hb
    have e := H.take (Nat.zero_le p)
    have hlt' : id < (f 0).m.length := (List.getElem?_eq_some_iff.1 hb).1
    rw [e, List.getElem?_take, if_pos hlt'] at hb
    exact hb
  have hφc : ∀ id B, c.φ id = some B → φ id = some B := fun id B h => by
    rw [I.φ0 id (by rw [← H.hm]; exact H.sim.dom id B h)]; exact h
  have hpost : Post P c c' := by
    refine ⟨⟨keepI_heap I.heap, fun id blk hb => ⟨blk, hcm id blk hb, Nat.le_refl _, fun h => ⟨h, rfl⟩, fun _ => ⟨rfl, fun B hB => ⟨hφc id B hB, fun e n hs => shape?_of_heap (I.heap B) hs⟩⟩⟩⟩, hsim,
      ⟨I.size, I.os, I.tape, I.output, fun b x hx _ => I.heap b x hx, fun id B hB => ?_, fun id blk hb => ⟨blk, hcm id blk hb, rfl⟩, fun id blk hb _ => ⟨blk, hcm id blk hb, rfl, rfl, rfl⟩, fun id B blk hB hb _ => ?_⟩, rfl⟩
    · rcases Nat.lt_or_ge id (f 0).m.length with h1 | h1
      · left; rw [← I.φ0 id h1]; exact hB
      · exact .inr (I.φL id B hB h1).1
    · exact ⟨B, by rw [← I.φ0 id (by rw [← H.hm]; exact (List.getElem?_eq_some_iff.1 hb).1)]; exact hB⟩
  have hWL : ∀ d, WL l (lst listed) p d = WL l (fun _ => true) p d := fun d => WL_congr fun i hi _ => hall i hi
  have hsr : SRel P E nt c' (f p) a := by
    refine ⟨hsim, rfl, fun d => ?_, H.gl.mono hpost, I.nt⟩
    rw [H.tmps d p (Nat.le_refl p), ← hWL d]
    refine RelV.mono hst _ _ (I.tmp d p (Nat.le_refl p) ?_)
    have hs := WL_spec l (lst listed) d p
    cases hw : WL l (lst listed) p d with
    | none => exact H.mono (Nat.zero_le p) (Nat.le_refl p)
    | some i => rw [hw] at hs; exact H.mono (show i + 1 ≤ p from hs.1) (Nat.le_refl p)
  refine tail_ok hlow H.hcall H.len H.comp htail n p listed c' (f p) s2 a hn (Nat.le_refl p) hsz hcl (fun i hi => ?_) hsr I.defers h fun c2 a2 hp2 hs2 hd2 => hq c2 a2 (hpost.trans H.sim hp2) hs2 hd2
  cases hL : lst listed i with
  | true => have := hLp i hL; simp [this]
  | false =>
    rcases Nat.lt_or_ge i p with h1 | h1
    · rw [hall i h1] at hL; cases hL
    · simp; omega
theorem quiet_ok {Q : Exit → Act → World → Prop} {a0 : Act} {s2 : S} (hlow : lower ops = true) (H : DrH P E call nt ops l p f v r c)
    (htail : ∀ q, p ≤ q → q < ops.size → (CheckFast.beforeF ops).getD q 0 = 2 ^ q - 1) (h : opsC (doI E call) (l.drop p) (f p) = some s2)
    (hq : ∀ c' a', Post P c c' → SRel P E nt c' s2 a' → a'.defers = a0.defers → Q .normal a' c'.w) : ∀ (n : Nat) (listed : Array Bool) (φ : Nat → Option Nat) (a : Act) (w : World),
      cnt (lst listed) p + n = ops.size → listed.size = ops.size → Closed ops (lst listed) → (∀ i, lst listed i = true → i < p) →
      DrInv P nt l p f v c a0 (lst listed) φ a w → wpAnyIn (RF ro) nn P .any ops Q n listed a w := by
  intro n
  induction n with
  | zero =>
    intro listed φ a w hn hsz hcl hLp I
    have h1 := cnt_le (lst listed) p
    have hp := H.hp
    have hpe : p = ops.size := by omega
    have hall : ∀ i, i < p → lst listed i = true := fun i hi => by
      cases hL : lst listed i with
      | true => rfl
      | false => have := cnt_lt hi hL; omega
    exact done hlow H htail h hq 0 listed φ a w (by omega) hsz hcl hLp hall I
  | succ n ih =>
    intro listed φ a w hn hsz hcl hLp I
    by_cases hall : ∀ i, i < p → lst listed i = true
    · exact done hlow H htail h hq (n + 1) listed φ a w (by rw [cnt_all hall] at hn; exact hn) hsz hcl hLp hall I
    · have hp := H.hp
      have hfirst : ∃ i, i < p ∧ lst listed i = false ∧ ∀ j, j < i → lst listed j = true := by
        have : ∀ m, m ≤ p → (∀ i, i < m → lst listed i = true) ∨ ∃ i, i < p ∧ lst listed i = false ∧ ∀ j, j < i → lst listed j = true := by
          intro m
          induction m with
          | zero => intro _; left; intro i hi; omega
          | succ m ihm =>
            intro hm
            rcases ihm (by omega) with h1 | h1
            · cases hL : lst listed m with
              | true =>
                left
                intro i hi
                by_cases e : i = m
                · subst e; exact hL
                · exact h1 i (by omega)
              | false => exact .inr ⟨m, by omega, hL, h1⟩
            · exact .inr h1
        rcases this p (Nat.le_refl p) with h1 | h1
        · exact (hall h1).elim
        · exact h1
      obtain ⟨i0, hi0, hL0, hbelow⟩ := hfirst
      refine ⟨fun hnil => ?_, fun j hj => ?_⟩
      · exfalso
        have hi0s : i0 < ops.size := by omega
        have : i0 ∈ Region.ready .any ops listed := (ready_spec hsz).2 ⟨hL0, ops[i0], by simp [hi0s], fun e he hb => hbelow _ (lower_spec hlow (i := i0) (o := ops[i0]) (by simp [hi0s]) he hb)⟩
        rw [hnil] at this; cases this
      · obtain ⟨hLj, o, ho, hr⟩ := (ready_spec hsz).1 hj
        have hjl : j < ops.size := (Array.getElem?_eq_some_iff.1 ho).1
        have hjp : j < p := by
          rcases Nat.lt_or_ge j p with h1 | h1
          · exact h1
          · have hb := bits_listed hcl (j + 1) j (by omega) o ho hr i0 (by rw [htail j h1 hjl, Nat.testBit_two_pow_sub_one]; simp; omega)
            rw [hb] at hL0; cases hL0
        refine I.step H hjp ho hcl hLj hr fun φ' a' w' I' => ?_
        have hset := lst_set (listed := listed) (j := j) (by rw [hsz]; exact hjl)
        refine ih (listed.setIfInBounds j true) φ' a' w' ?_ (by simp [hsz]) ?_ ?_ ?_
        · rw [hset, cnt_set hLj hjp]; omega
        · rw [hset]; exact closed_set hcl ho hr
        · rw [hset]
          intro i hi
          simp only [Bool.or_eq_true, beq_iff_eq] at hi
          rcases hi with hi | hi
          · exact hLp i hi
          · omega
        · rw [hset]; exact I'
end
theorem drawQ_ok (hm : P.follows .mixedOrders = true) {E : Env} {call : CallT} (hcall : CallOK P E call) {nt id : Nat} {ops : Array Oper} {l : List OpC} (hl : cOpsC P nt ops ops.toList = some l)
    (hlow : lower ops = true) (hap : apartAll l (CheckFast.beforeF ops) (tailAt (CheckFast.beforeF ops) ops.size) = true) {Q : Exit → Act → World → Prop} {c : Cx} {s s1 s2 : S} {a : Act} (hs : SRel P E nt c s a)
    (h1 : opsC (doQ E call) (l.take (tailAt (CheckFast.beforeF ops) ops.size)) s = some s1) (h2 : opsC (doI E call) (l.drop (tailAt (CheckFast.beforeF ops) ops.size)) s1 = some s2)
    (hq : ∀ c' a', Post P c c' → SRel P E nt c' s2 a' → a'.defers = a.defers → Q .normal a' c'.w) : (Code.region id ops true).wpIn (RF ro) nn P Q a c.w := by
    generalize hp : tailAt (CheckFast.beforeF ops) ops.size = p at *
    obtain ⟨g1, g2⟩ := cOpsC_spec hl
    have hlen : l.length = ops.size := by simpa using g1
    have hple : p ≤ ops.size := by rw [← hp]; exact tailAt_le _ _
    obtain ⟨f, v, r, f0, f1, ftr⟩ := opsQ_trace (l.take p) s s1 h1
    have hpl : (l.take p).length = p := by simp; omega
    rw [hpl] at f1
    have H : DrH P E call nt ops l p f v r c := by
      refine ⟨hcall, fun i o ho => g2 i o (by simpa using ho), hlen, hple, fun j oc hj hoc => ftr j oc (by rw [List.getElem?_take, if_pos hj]; exact hoc), fun i j x y hij hjp hx hy hb => ?_, hs.sim, by rw [f0]; exact hs.m, hs.gl⟩
      unfold apartAll at hap
      have h1 := List.all_eq_true.1 hap j (by simpa using hjp)
      have h2 := List.all_eq_true.1 h1 i (by simpa using hij)
      rw [hb, hx, hy] at h2
      simpa using h2
    have htail : ∀ q, p ≤ q → q < ops.size → (CheckFast.beforeF ops).getD q 0 = 2 ^ q - 1 := fun q h1 h2 => tailAt_spec _ ops.size q (by rw [hp]; exact h1) h2
    refine wpIn_region_any hm ?_
    have hl0 : lst (Array.replicate ops.size false) = fun _ => false := by
      funext i
      simp only [lst, Array.getD_eq_getD_getElem?, Array.getElem?_replicate]
      split <;> rfl
    refine quiet_ok (a0 := a) hlow H htail (s2 := s2) (by rw [f1]; exact h2) hq ops.size _ c.φ a _ ?_ (by simp) ?_ ?_ ?_
    · rw [hl0]
      have : ∀ n, cnt (fun _ => false) n = 0 := by intro n; induction n with | zero => rfl | succ n ih => simp [cnt, ih]
      rw [this]; omega
    · rw [hl0]; intro i o _ h; cases h
    · rw [hl0]; intro i h; cases h
    · rw [hl0]; exact DrInv.start H (by rw [f0]; exact hs.t) hs.nt _
end Go.Proofs.YtlenjioebdmooaaDoor.Den

namespace Go.Proofs.YtlenjioebdmooaaDoor.Den
open Go
set_option linter.unusedVariables false
set_option linter.unusedSimpArgs false
variable {P : Program}
abbrev InsT := I
def Stp (E : Env) (call : CallT) (o : OpC) (s s1 : S) : Prop :=
  (∃ v m', wantedC o.guard s.t = some true ∧ doI E call o.ins s.t s.m = some (v, m') ∧ s1 = ⟨putT s.t o.dst v, m'⟩) ∨ (wantedC o.guard s.t = some false ∧ s1 = ⟨putT s.t o.dst (.tup []), s.m⟩)
section
variable {E : Env} {call : CallT}
theorem opsC_stp {o : OpC} {r : List OpC} {s s2 : S} (h : opsC (doI E call) (o :: r) s = some s2) : ∃ s1, Stp E call o s s1 ∧ opsC (doI E call) r s1 = some s2 := opsC_cons h
theorem stp_opsC {o : OpC} {r : List OpC} {s s1 s2 : S} (h : Stp E call o s s1) (h2 : opsC (doI E call) r s1 = some s2) : opsC (doI E call) (o :: r) s = some s2 := by
  simp only [opsC]
  rcases h with ⟨v, m', hw, hd, rfl⟩ | ⟨hw, rfl⟩
  · simp only [hw, hd]; exact h2
  · simp only [hw]; exact h2
theorem opsC_app : ∀ {a b : List OpC} {s s2 : S}, opsC (doI E call) (a ++ b) s = some s2 → ∃ s1, opsC (doI E call) a s = some s1 ∧ opsC (doI E call) b s1 = some s2
  | [], b, s, s2, h => ⟨s, rfl, h⟩
  | o :: a, b, s, s2, h => by
    obtain ⟨s1, h1, h2⟩ := opsC_stp h
    obtain ⟨s3, h3, h4⟩ := opsC_app h2
    exact ⟨s3, stp_opsC h1 h3, h4⟩
theorem app_opsC : ∀ {a b : List OpC} {s s1 s2 : S}, opsC (doI E call) a s = some s1 → opsC (doI E call) b s1 = some s2 → opsC (doI E call) (a ++ b) s = some s2
  | [], b, s, s1, s2, h1, h2 => by simp [opsC] at h1; subst h1; exact h2
  | o :: a, b, s, s1, s2, h1, h2 => by
    obtain ⟨s3, h3, h4⟩ := opsC_stp h1
    exact stp_opsC h3 (app_opsC h4 h2)
theorem putT_comm {t : Nat → V} {d e : Option Nat} {u v : V} (h : ∀ i, d = some i → e ≠ some i) : putT (putT t d u) e v = putT (putT t e v) d u := by
  cases d with
  | none => rfl
  | some i =>
    cases e with
    | none => rfl
    | some j =>
      have hij : i ≠ j := fun e => h i rfl (by rw [e])
      funext k
      simp only [putT, upd]
      by_cases h1 : k = i
      · subst h1; simp [hij]
      · by_cases h2 : k = j
        · subst h2; simp [h1]
        · simp [h1, h2]
theorem putT_other {t : Nat → V} {d : Option Nat} {u : V} {i : Nat} (h : d ≠ some i) : putT t d u i = t i := by
  cases d with
  | none => rfl
  | some j => simp only [putT, upd]; rw [if_neg]; intro e; exact h (by rw [e])
theorem stp_t {o : OpC} {s s1 : S} (h : Stp E call o s s1) {i : Nat} (hi : o.dst ≠ some i) : s1.t i = s.t i := by
  rcases h with ⟨v, m', _, _, rfl⟩ | ⟨_, rfl⟩ <;> exact putT_other hi
theorem opsC_t : ∀ {l : List OpC} {s s1 : S}, opsC (doI E call) l s = some s1 → ∀ {i : Nat}, (∀ o, o ∈ l → o.dst ≠ some i) → s1.t i = s.t i
  | [], s, s1, h, i, _ => by simp [opsC] at h; subst h; rfl
  | o :: l, s, s1, h, i, hi => by
    obtain ⟨s2, h1, h2⟩ := opsC_stp h
    rw [opsC_t h2 fun o' ho' => hi o' (by simp [ho']), stp_t h1 (hi o (by simp))]
theorem pure_doI {i : I} (hp : pureI i = true) {t : Nat → V} {m m1 : Mem} {v : V} (h : doI E call i t m = some (v, m1)) : m1 = m ∧ ∀ m', doI E call i t m' = some (v, m') := by
  cases i with
  | conv k x =>
    cases k with
    | int k =>
      simp only [doI] at h ⊢
      split at h
      · cases h; exact ⟨rfl, fun m' => rfl⟩
      · cases h
    | same =>
      simp only [doI] at h ⊢
      split at h
      · cases h; exact ⟨rfl, fun m' => rfl⟩
      · cases h
    | _ => cases hp
  | pick c a b =>
    simp only [doI] at h ⊢
    split at h <;> cases h <;> exact ⟨rfl, fun m' => rfl⟩
  | slstr x lo hi =>
    simp only [doI] at h ⊢
    split at h
    · obtain ⟨l, h1, h⟩ := Option.bind_eq_some_iff.1 h
      obtain ⟨k, h2, h⟩ := Option.bind_eq_some_iff.1 h
      split at h
      · rename_i hc
        cases h
        exact ⟨rfl, fun m' => by simp only [h1, h2, Option.bind_some]; rw [if_pos hc]⟩
      · cases h
    · cases h
  | slarr n s x lo hi mx =>
    simp only [doI] at h ⊢
    split at h
    · cases h
    · obtain ⟨l, h1, h⟩ := Option.bind_eq_some_iff.1 h
      obtain ⟨k, h2, h⟩ := Option.bind_eq_some_iff.1 h
      split at h
      · rename_i hc
        obtain ⟨u, h3, h4⟩ := Option.map_eq_some_iff.1 h
        cases h4
        exact ⟨rfl, fun m' => by simp only [h1, h2, Option.bind_some]; rw [if_pos hc, h3]; rfl⟩
      · cases h
  | idxAA n s x i =>
    simp only [doI] at h ⊢
    obtain ⟨l, h1, h⟩ := Option.bind_eq_some_iff.1 h
    split at h
    · rename_i hc
      obtain ⟨u, h3, h4⟩ := Option.map_eq_some_iff.1 h
      cases h4
      exact ⟨rfl, fun m' => by simp only [h1, Option.bind_some]; rw [if_pos hc, h3]; rfl⟩
    · cases h
  | idx g n s x i =>
    simp only [doI] at h ⊢
    obtain ⟨l, h1, h⟩ := Option.bind_eq_some_iff.1 h
    split at h
    · rename_i hc
      obtain ⟨u, h3, h4⟩ := Option.map_eq_some_iff.1 h
      cases h4
      exact ⟨rfl, fun m' => by simp only [h1, Option.bind_some]; rw [if_pos hc, h3]; rfl⟩
    · cases h
  | idxs x i =>
    simp only [doI] at h ⊢
    obtain ⟨l, h1, h⟩ := Option.bind_eq_some_iff.1 h
    obtain ⟨u, h3, h4⟩ := Option.map_eq_some_iff.1 h
    cases h4
    exact ⟨rfl, fun m' => by simp only [h1, Option.bind_some, h3, Option.map_some]⟩
  | extract i x =>
    simp only [doI] at h ⊢
    split at h
    · obtain ⟨u, h3, h4⟩ := Option.map_eq_some_iff.1 h
      cases h4
      exact ⟨rfl, fun m' => by simp only [h3, Option.map_some]⟩
    · cases h
  | lens x =>
    simp only [doI] at h ⊢
    split at h
    · cases h; exact ⟨rfl, fun m' => rfl⟩
    · cases h
  | chk a x b y =>
    simp only [doI] at h ⊢
    split at h
    · rename_i hc; cases h; exact ⟨rfl, fun m' => rfl⟩
    · cases h
  | mov x => simp only [doI] at h ⊢; cases h; exact ⟨rfl, fun _ => rfl⟩
  | mkfn f a b => simp only [doI] at h ⊢; cases h; exact ⟨rfl, fun _ => rfl⟩
  | mkif f a => simp only [doI] at h ⊢; cases h; exact ⟨rfl, fun _ => rfl⟩
  | lenc n => simp only [doI] at h ⊢; cases h; exact ⟨rfl, fun _ => rfl⟩
  | build z ps =>
    simp only [doI] at h ⊢
    obtain ⟨u, h3, h4⟩ := Option.map_eq_some_iff.1 h
    cases h4
    exact ⟨rfl, fun m' => by simp only [h3, Option.map_some]⟩
  | nilck x =>
    simp only [doI] at h ⊢
    obtain ⟨u, h3, h4⟩ := Option.map_eq_some_iff.1 h
    cases h4
    exact ⟨rfl, fun m' => by simp only [h3, Option.map_some]⟩
  | bin op x y =>
    simp only [doI] at h ⊢
    obtain ⟨u, h3, h4⟩ := Option.map_eq_some_iff.1 h
    cases h4
    exact ⟨rfl, fun m' => by simp only [h3, Option.map_some]⟩
  | beq k n x y =>
    simp only [doI] at h ⊢
    obtain ⟨u, h3, h4⟩ := Option.map_eq_some_iff.1 h
    cases h4
    exact ⟨rfl, fun m' => by simp only [h3, Option.map_some]⟩
  | unop op x =>
    simp only [doI] at h ⊢
    obtain ⟨u, h3, h4⟩ := Option.map_eq_some_iff.1 h
    cases h4
    exact ⟨rfl, fun m' => by simp only [h3, Option.map_some]⟩
  | fieldA o x =>
    simp only [doI] at h ⊢
    obtain ⟨u, h3, h4⟩ := Option.map_eq_some_iff.1 h
    cases h4
    exact ⟨rfl, fun m' => by simp only [h3, Option.map_some]⟩
  | field g o z x =>
    simp only [doI] at h ⊢
    obtain ⟨u, h3, h4⟩ := Option.map_eq_some_iff.1 h
    cases h4
    exact ⟨rfl, fun m' => by simp only [h3, Option.map_some]⟩
  | len x =>
    simp only [doI] at h ⊢
    obtain ⟨u, h3, h4⟩ := Option.map_eq_some_iff.1 h
    cases h4
    exact ⟨rfl, fun m' => by simp only [h3, Option.map_some]⟩
  | mx xs =>
    simp only [doI] at h ⊢
    obtain ⟨u, h3, h4⟩ := Option.map_eq_some_iff.1 h
    cases h4
    exact ⟨rfl, fun m' => by simp only [h3, Option.map_some]⟩
  | mn xs =>
    simp only [doI] at h ⊢
    obtain ⟨u, h3, h4⟩ := Option.map_eq_some_iff.1 h
    cases h4
    exact ⟨rfl, fun m' => by simp only [h3, Option.map_some]⟩
  | _ => cases hp
theorem deSo_rid (x : V) {i : Nat} (h : (deSo x).rid = some i) : x.rid = some i := by
  cases x with
  | so b id n =>
    cases b with
    | false => exact h
    | true => cases h
  | _ => exact h
def SameAt (x : V) (m m' : Mem) : Prop := ∀ id blk, x.rid = some id → m[id]? = some blk → ∃ q, m'[id]? = some (blk.setProt q)
theorem setProt_self (b : Blk) : b.setProt b.prot = b := by cases b <;> rfl
theorem SameAt.of {x : V} {m m' : Mem} (h : ∀ id, x.rid = some id → id < m.length → m'[id]? = m[id]?) : SameAt x m m' := fun id blk hr hb =>
  ⟨blk.prot, by rw [setProt_self, h id hr (List.getElem?_eq_some_iff.1 hb).1, hb]⟩
theorem sizeOk_at {m m' : Mem} {size : Nat} {x : V} (hm : SameAt x m m') (h : sizeOk m size x = true) : sizeOk m' size x = true := by
  cases x with
  | sl id n o l =>
    simp only [sizeOk] at h ⊢
    cases hb : m[id]? with
    | none => simp [hb] at h
    | some b => obtain ⟨q, hq⟩ := hm id b rfl hb; rw [hb] at h; rw [hq]; simp only [(setProt_len q b).2.1]; exact h
  | so b0 id n =>
    simp only [sizeOk] at h ⊢
    cases hb : m[id]? with
    | none => simp [hb] at h
    | some b => obtain ⟨q, hq⟩ := hm id b rfl hb; rw [hb] at h; rw [hq]; simp only [(setProt_len q b).2.1]; exact h
  | d x => cases x <;> exact h
  | _ => exact h
theorem sliceV_at {m m' m1 : Mem} {x v : V} {l h : Nat} {mx : Option Nat} (hm : SameAt x m m') (hs : sliceV m x l h mx = some (v, m1)) : m1 = m ∧ sliceV m' x l h mx = some (v, m') := by
  unfold sliceV at hs ⊢
  split at hs
  · split at hs
    · rename_i hc; cases hs; exact ⟨rfl, by rw [if_pos hc]⟩
    · cases hs
  · split at hs
    · rename_i hc
      split at hs
      · cases hs; exact ⟨rfl, by rw [if_pos hc]⟩
      · split at hs
        · rename_i hk; cases hs; exact ⟨rfl, by rw [if_pos hc, if_pos hk]⟩
        · cases hs
    · cases hs
  · rename_i id n o len
    split at hs
    · rename_i hc
      split at hs
      · split at hs
        · rename_i hk; cases hs; exact ⟨rfl, by rw [if_pos hc, if_pos hk]⟩
        · rename_i hk
          obtain ⟨b, hb, hs⟩ := Option.bind_eq_some_iff.1 hs
          obtain ⟨q, hq⟩ := hm id b rfl hb
          split at hs
          · rename_i hn
            cases hs
            refine ⟨rfl, ?_⟩
            rw [if_pos hc, if_neg hk, hq, Option.bind_some, (setProt_len q b).1, (setProt_len q b).2.1, if_pos hn]
          · cases hs
      · split at hs
        · rename_i hk
          obtain ⟨b, hb, hs⟩ := Option.bind_eq_some_iff.1 hs
          obtain ⟨q, hq⟩ := hm id b rfl hb
          split at hs
          · rename_i hn
            cases hs
            refine ⟨rfl, ?_⟩
            rw [if_pos hc, if_pos hk, hq, Option.bind_some, (setProt_len q b).1, (setProt_len q b).2.1, if_pos hn]
          · cases hs
        · cases hs
    · cases hs
  · split at hs
    · rename_i hc
      split at hs
      · cases hs; exact ⟨rfl, by rw [if_pos hc]⟩
      · cases hs
    · cases hs
  · cases hs
theorem rowsOf_at {m m' : Mem} {x : V} {r : List (List V)} (hm : SameAt x m m') (h : rowsOf m x = some r) : rowsOf m' x = some r := by
  cases x with
  | sl id n o l =>
    simp only [rowsOf] at h ⊢
    obtain ⟨b, hb, h⟩ := Option.bind_eq_some_iff.1 h
    obtain ⟨q, hq⟩ := hm id b rfl hb
    rw [hq]; cases b <;> exact h
  | so b0 id n =>
    simp only [rowsOf] at h ⊢
    obtain ⟨b, hb, h⟩ := Option.bind_eq_some_iff.1 h
    obtain ⟨q, hq⟩ := hm id b rfl hb
    rw [hq]; cases b <;> exact h
  | d x => cases x <;> exact h
  | _ => exact h
theorem row_setProt (b : Blk) (q : Bool) (n r : Nat) : (b.setProt q).row? n r = b.row? n r := by cases b <;> rfl
theorem loadV_at {m m' : Mem} {agg : Bool} {size : Nat} {x v : V} (hm : SameAt x m m') (h : loadV m agg size x = some v) : loadV m' agg size x = some v := by
  unfold loadV at h ⊢
  split at h
  · exact h
  · obtain ⟨b, hb, h⟩ := Option.bind_eq_some_iff.1 h
    obtain ⟨q, hq⟩ := hm _ b rfl hb
    rw [hq, Option.bind_some, row_setProt]; exact h
  · split at h
    · rename_i id n off len hg
      obtain ⟨r, hr, h⟩ := Option.bind_eq_some_iff.1 h
      simp only [hg, if_true]
      rw [rowsOf_at (x := .sl id n off len) (fun i blk h => hm i blk h) hr]; exact h
    · cases h
  · cases h
theorem read_at {i : I} {a : Nat} {x : O} (hr : rdI i = some (a, x)) {t : Nat → V} {m m' m1 : Mem} {v : V} (hm : SameAt (ev E t x) m m') (h : doI E call i t m = some (v, m1)) :
    m1 = m ∧ doI E call i t m' = some (v, m') := by
  cases i with
  | load g s y =>
    cases hr
    simp only [doI] at h ⊢
    obtain ⟨u, h1, h2⟩ := Option.map_eq_some_iff.1 h
    cases h2
    exact ⟨rfl, by rw [loadV_at hm h1]; rfl⟩
  | idxA s y j =>
    cases hr
    simp only [doI] at h ⊢
    split at h
    · rename_i hs
      obtain ⟨u, h1, h2⟩ := Option.bind_eq_some_iff.1 h
      obtain ⟨w, h3, h4⟩ := Option.map_eq_some_iff.1 h2
      cases h4
      exact ⟨rfl, by rw [if_pos (sizeOk_at hm hs), h1, Option.bind_some, h3]; rfl⟩
    · cases h
  | slice s y lo hi mx =>
    cases hr
    simp only [doI] at h ⊢
    have hm' : SameAt (deSo (ev E t x)) m m' := fun id blk h => hm id blk (deSo_rid _ h)
    split at h
    · rename_i hs
      rw [if_pos (sizeOk_at hm' hs)]
      obtain ⟨n, h1, h⟩ := Option.bind_eq_some_iff.1 h
      obtain ⟨l, h2, h⟩ := Option.bind_eq_some_iff.1 h
      obtain ⟨k, h3, h⟩ := Option.bind_eq_some_iff.1 h
      rw [h1, Option.bind_some, h2, Option.bind_some, h3, Option.bind_some]
      cases mx with
      | none => exact sliceV_at hm' h
      | some z =>
        obtain ⟨q, h4, h⟩ := Option.bind_eq_some_iff.1 h
        obtain ⟨g1, g2⟩ := sliceV_at hm' h
        exact ⟨g1, by simp only []; rw [h4, Option.bind_some]; exact g2⟩
    · cases h
  | _ => cases hr
theorem SameAt.refl (x : V) (m : Mem) : SameAt x m m := SameAt.of fun _ _ _ => rfl
theorem set_other {m : Mem} {b : Blk} {i j : Nat} (h : i ≠ j) : (m.set j b)[i]? = m[i]? := by
  rw [List.getElem?_set]; rw [if_neg fun e => h e.symm]
theorem storeV_other {m m' : Mem} {size : Nat} {x v : V} (h : storeV m size x v = some m') {i : Nat} (hi : x.rid ≠ some i) : m'[i]? = m[i]? := by
  unfold storeV at h
  split at h
  · rename_i id n row off
    split at h
    · obtain ⟨b, hb, h⟩ := Option.bind_eq_some_iff.1 h
      obtain ⟨b', _, rfl⟩ := Option.map_eq_some_iff.1 h
      exact set_other fun e => hi (by rw [e]; rfl)
    · cases h
  · cases h
theorem appendV_other {elem : TypeId} {fl : Bool} {size bytes : Nat} {m m' : Mem} {x y v : V} (h : appendV elem fl size bytes m x y = some (v, m')) {i : Nat} (hi : x.rid ≠ some i) (hl : i < m.length) : m'[i]? = m[i]? := by
  unfold appendV at h
  split at h
  · rename_i id n off len
    have hne : i ≠ id := fun e => hi (by rw [e]; rfl)
    split at h
    · obtain ⟨b, hb, h⟩ := Option.bind_eq_some_iff.1 h
      split at h
      · split at h
        · obtain ⟨ys, _, h⟩ := Option.bind_eq_some_iff.1 h
          split at h
          · split at h <;> cases h
            · rfl
            · exact set_other hne
          · cases h
        · cases h
      · split at h
        · obtain ⟨ys, _, h⟩ := Option.bind_eq_some_iff.1 h
          split at h
          · split at h <;> cases h
            · rfl
            · exact set_other hne
          · cases h
        · cases h
      · cases h
    · cases h
  · rename_i nl id n
    have hne : i ≠ id := fun e => hi (by rw [e]; rfl)
    split at h
    · obtain ⟨b, hb, h⟩ := Option.bind_eq_some_iff.1 h
      split at h
      · split at h
        · obtain ⟨ys, _, h⟩ := Option.bind_eq_some_iff.1 h
          split at h
          · cases h; exact set_other hne
          · cases h
        · cases h
      · split at h
        · obtain ⟨ys, _, h⟩ := Option.bind_eq_some_iff.1 h
          split at h
          · cases h; exact set_other hne
          · cases h
        · cases h
      · cases h
    · cases h
  · split at h
    · split at h
      · obtain ⟨ys, _, h⟩ := Option.bind_eq_some_iff.1 h
        split at h
        · split at h <;> cases h
          · rfl
          · exact List.getElem?_append_left hl
        · cases h
      · obtain ⟨ys, _, h⟩ := Option.bind_eq_some_iff.1 h
        split at h
        · split at h <;> cases h
          · rfl
          · exact List.getElem?_append_left hl
        · cases h
    · cases h
  · split at h
    · split at h
      · obtain ⟨ys, _, h⟩ := Option.bind_eq_some_iff.1 h
        split at h
        · split at h <;> cases h
          · rfl
          · exact List.getElem?_append_left hl
        · cases h
      · obtain ⟨ys, _, h⟩ := Option.bind_eq_some_iff.1 h
        split at h
        · split at h <;> cases h
          · rfl
          · exact List.getElem?_append_left hl
        · cases h
    · cases h
  · cases h
theorem copyV_other {size : Nat} {m m' : Mem} {x y v : V} (h : copyV size m x y = some (v, m')) {i : Nat} (hi : x.rid ≠ some i) : m'[i]? = m[i]? := by
  unfold copyV at h
  split at h
  · rename_i id n off len
    have hne : i ≠ id := fun e => hi (by rw [e]; rfl)
    split at h
    · obtain ⟨b, hb, h⟩ := Option.bind_eq_some_iff.1 h
      split at h
      · split at h
        · obtain ⟨ys, _, h⟩ := Option.bind_eq_some_iff.1 h
          cases h; exact set_other hne
        · cases h
      · cases h
    · cases h
  · cases h
theorem write_other {k : I} {b : Nat} {y : O} (hw : wrI k = some (b, y)) {t : Nat → V} {m m' : Mem} {v : V} (h : doI E call k t m = some (v, m')) {i : Nat} (hi : (ev E t y).rid ≠ some i) (hl : i < m.length) : m'[i]? = m[i]? := by
  cases k with
  | store s x z =>
    cases hw
    simp only [doI] at h
    obtain ⟨u, h1, h2⟩ := Option.map_eq_some_iff.1 h
    cases h2
    exact storeV_other h1 hi
  | append e fl s by' x z =>
    cases hw
    exact appendV_other h hi hl
  | copy s x z =>
    cases hw
    exact copyV_other (x := deSo (ev E t y)) h (fun h9 => hi (deSo_rid _ h9))
  | _ => cases hw
theorem splice_at {α : Type} {c xs : List α} {o k : Nat} (h : o + xs.length ≤ c.length) (hk : k < o ∨ o + xs.length ≤ k) : (c.take o ++ xs ++ c.drop (o + xs.length))[k]? = c[k]? := by
  rcases hk with hk | hk
  · rw [List.append_assoc, List.getElem?_append_left (by simp; omega), List.getElem?_take, if_pos hk]
  · rw [List.getElem?_append_right (by simp; omega), List.getElem?_drop]
    congr 1
    simp; omega
theorem part_splice {g : Bool} {c xs : List V} {o off a : Nat} {v : V} (h : o + xs.length ≤ c.length) (hf : off + (bif g then a else 1) ≤ o ∨ o + xs.length ≤ off) (hp : part g c off a = some v) : part g (c.take o ++ xs ++ c.drop (o + xs.length)) off a = some v := by
  cases g with
  | false =>
    simp only [part, cond_false, Bool.false_eq_true, if_false] at hp hf ⊢
    rw [splice_at h (by omega)]; exact hp
  | true =>
    simp only [part, cond_true, if_true, seg] at hp hf ⊢
    have hlen : (c.take o ++ xs ++ c.drop (o + xs.length)).length = c.length := by simp; omega
    rw [hlen]
    split at hp
    · rename_i hc
      rw [if_pos hc]
      rw [← hp]
      congr 2
      apply List.ext_getElem?
      intro k
      rw [List.getElem?_take, List.getElem?_take]
      split
      · rename_i hk
        rw [List.getElem?_drop, List.getElem?_drop, splice_at h (by omega)]
      · rfl
    · cases hp
theorem toSs_len : ∀ {l : List V} {r : List D}, toSs l = some r → r.map V.d = l
  | [], r, h => by simp [toSs] at h; subst h; rfl
  | .d x :: l, r, h => by
    simp only [toSs] at h
    split at h
    · obtain ⟨q, h1, rfl⟩ := Option.map_eq_some_iff.1 h
      simp [toSs_len h1]
    · cases h
  | .un :: _, _, h | .ptr .. :: _, _, h | .sl .. :: _, _, h | .so .. :: _, _, h | .sa .. :: _, _, h | .pa .. :: _, _, h | .fn .. :: _, _, h | .yl _ :: _, _, h | .ifc .. :: _, _, h | .agg _ :: _, _, h | .tup _ :: _, _, h => by simp [toSs] at h
theorem setRow_at {α : Type} {rows rows' : List (List α)} {r o : Nat} {xs : List α} (h : setRow rows r o xs = some rows') :
    rows'.length = rows.length ∧ ∀ (k : Nat) (c : List α), rows[k]? = some c → rows'[k]? = some c ∨ (o + xs.length ≤ c.length ∧ rows'[k]? = some (c.take o ++ xs ++ c.drop (o + xs.length))) := by
  unfold setRow at h
  split at h
  · rename_i c hc
    split at h
    · rename_i hl
      cases h
      refine ⟨by simp, fun k c' hk => ?_⟩
      by_cases e : r = k
      · subst e
        rw [hc] at hk; cases hk
        have hlt := (List.getElem?_eq_some_iff.1 hc).1
        exact .inr ⟨hl, by simp [hlt]⟩
      · left; rw [List.getElem?_set, if_neg e]; exact hk
    · cases h
  · cases h
theorem put_far {b b' : Blk} {n r n' r' o off a : Nat} {g : Bool} {xs cs : List V} {v : V} (h : b.put? n' r' o xs = some b') (hr : b.row? n r = some cs) (hf : off + (bif g then a else 1) ≤ o ∨ o + xs.length ≤ off) (hp : part g cs off a = some v) :
    ∃ cs', b'.row? n r = some cs' ∧ part g cs' off a = some v := by
  unfold Blk.put? at h
  split at h
  · rename_i e s rows
    split at h
    · obtain ⟨ys, hy, h⟩ := Option.bind_eq_some_iff.1 h
      obtain ⟨rows', hs, rfl⟩ := Option.map_eq_some_iff.1 h
      obtain ⟨g1, g2⟩ := setRow_at hs
      have hxs := toSs_len hy
      simp only [Blk.row?] at hr ⊢
      rw [g1]
      split at hr
      · rename_i hn
        rw [if_pos hn]
        obtain ⟨c, hc, rfl⟩ := Option.map_eq_some_iff.1 hr
        rcases g2 r c hc with h3 | ⟨h3, h4⟩
        · exact ⟨_, by rw [h3]; rfl, hp⟩
        · refine ⟨_, by rw [h4]; rfl, ?_⟩
          have hl : ys.length = xs.length := by rw [← hxs]; simp
          have := part_splice (g := g) (c := c.map V.d) (xs := xs) (o := o) (off := off) (a := a) (v := v) (by simp; omega) hf hp
          rw [← this]
          congr 1
          rw [← hxs]; simp
      · cases hr
    · cases h
  · rename_i e s rows
    split at h
    · obtain ⟨rows', hs, rfl⟩ := Option.map_eq_some_iff.1 h
      obtain ⟨g1, g2⟩ := setRow_at hs
      simp only [Blk.row?] at hr ⊢
      rw [g1]
      split at hr
      · rename_i hn
        rw [if_pos hn]
        rcases g2 r cs hr with h3 | ⟨h3, h4⟩
        · exact ⟨_, h3, hp⟩
        · exact ⟨_, h4, part_splice h3 hf hp⟩
      · cases hr
    · cases h
  · cases h
theorem far_read {i k : I} {a b : Nat} {x y : O} (hr : rdI i = some (a, x)) (hw : wrI k = some (b, y)) {t t' : Nat → V} {m m1 m' : Mem} {v u : V} (hf : farV a (ev E t x) b (ev E t' y) = true)
    (h : doI E call i t m = some (v, m1)) (hk : doI E call k t' m = some (u, m')) : m1 = m ∧ doI E call i t m' = some (v, m') := by
  by_cases hne : ∀ id, (ev E t x).rid = some id → (ev E t' y).rid ≠ some id
  · exact read_at hr (SameAt.of fun id hi hl => write_other hw hk (hne id hi) hl) h
  · have hx : ∃ id, (ev E t x).rid = some id ∧ (ev E t' y).rid = some id := by
      rcases Classical.em (∃ id, (ev E t x).rid = some id ∧ (ev E t' y).rid = some id) with h | h
      · exact h
      · exact absurd (fun id h1 h2 => h ⟨id, h1, h2⟩) hne
    obtain ⟨id, h1, h2⟩ := hx
    unfold farV at hf
    simp only [h1, h2] at hf
    rw [show Nat.beq id id = true from by simp] at hf
    simp only [] at hf
    split at hf
    · rename_i i1 n1 r1 o1 i2 n2 r2 o2 ex ey
      have e1 : i1 = id := by rw [ex] at h1; cases h1; rfl
      have e2 : i2 = id := by rw [ey] at h2; cases h2; rfl
      subst e1
      simp only [Bool.or_eq_true, Nat.ble_eq] at hf
      cases i with
      | load g s z =>
        cases hr
        simp only [doI, ex] at h ⊢
        obtain ⟨w, h3, h4⟩ := Option.map_eq_some_iff.1 h
        cases h4
        refine ⟨rfl, ?_⟩
        cases k with
        | store s' z' w' =>
          cases hw
          simp only [doI, ey] at hk
          obtain ⟨m2, h5, h6⟩ := Option.map_eq_some_iff.1 hk
          cases h6
          simp only [storeV, loadV] at h5 h3 ⊢
          split at h5
          · rename_i hc
            obtain ⟨bk, hb, h5⟩ := Option.bind_eq_some_iff.1 h5
            obtain ⟨bk', h6, rfl⟩ := Option.map_eq_some_iff.1 h5
            obtain ⟨bk2, hb2, h3⟩ := Option.bind_eq_some_iff.1 h3
            obtain ⟨cs, h7, h10⟩ := Option.bind_eq_some_iff.1 h3
            subst e2
            rw [hb] at hb2; cases hb2
            have hlt := (List.getElem?_eq_some_iff.1 hb).1
            obtain ⟨cs', h8, h9⟩ := put_far h6 h7 (by rw [hc.1]; exact hf) h10
            rw [List.getElem?_set, if_pos rfl, if_pos hlt, Option.bind_some, h8, Option.bind_some, h9]; rfl
          · cases h5
        | append e fl s' b' z' w' =>
          cases hw
          simp only [doI, ey, appendV] at hk; cases hk
        | copy s' z' w' =>
          cases hw
          simp only [doI, ey, copyV, deSo] at hk; cases hk
        | _ => cases hw
      | idxA s z j =>
        cases hr
        simp only [doI, ex, sizeOk] at h; cases h
      | slice s z lo hi mx =>
        cases hr
        simp only [doI, ex, deSo, sizeOk] at h; cases h
      | _ => cases hr
    · cases hf
theorem stp_doI_congr {o : OpC} {t t' : Nat → V} {m : Mem} (h : ∀ d, d ∈ o.looks → t d = t' d) : doI E call o.ins t m = doI E call o.ins t' m ∧ wantedC o.guard t = wantedC o.guard t' :=
  ⟨doI_congr (look_congr h).1, (look_congr (E := E) h).2⟩
theorem swap_ok {x y : OpC} {s sx s2 : S} (hap : apartC x y = true) (h1 : Stp E call x s sx) (h2 : Stp E call y sx s2) (hmx : sx.m = s.m)
    (hin : ∀ v u m', doI E call x.ins s.t s.m = some (v, s.m) → doI E call y.ins s.t s.m = some (u, m') → doI E call x.ins s.t m' = some (v, m')) :
    ∃ sy, Stp E call y s sy ∧ Stp E call x sy s2 := by
  obtain ⟨ap1, ap2⟩ := apartC_spec hap
  have ht : ∀ d, d ∈ y.looks → s.t d = sx.t d := fun d hd => (stp_t h1 fun e => (ap1 d e).1 hd).symm
  obtain ⟨c1, c2⟩ := stp_doI_congr (E := E) (call := call) (m := s.m) ht
  have hd : ∀ i, x.dst = some i → y.dst ≠ some i := fun i hi => (ap1 i hi).2
  rcases h2 with ⟨u, m', hw2, hd2, rfl⟩ | ⟨hw2, rfl⟩
  · rw [hmx] at hd2
    rw [← c1] at hd2
    rw [← c2] at hw2
    refine ⟨⟨putT s.t y.dst u, m'⟩, .inl ⟨u, m', hw2, hd2, rfl⟩, ?_⟩
    have ht2 : ∀ d, d ∈ x.looks → s.t d = putT s.t y.dst u d := fun d hd' => (putT_other fun e => (ap2 d e).1 hd').symm
    obtain ⟨c3, c4⟩ := stp_doI_congr (E := E) (call := call) (m := m') ht2
    rcases h1 with ⟨v, m1, hw1, hd1, rfl⟩ | ⟨hw1, rfl⟩
    · simp only at hmx; subst hmx
      refine .inl ⟨v, m', by rw [← c4]; exact hw1, by rw [← c3]; exact hin v u m' hd1 hd2, ?_⟩
      rw [putT_comm hd]
    · exact .inr ⟨by rw [← c4]; exact hw1, by rw [putT_comm hd]⟩
  · rw [← c2] at hw2
    refine ⟨⟨putT s.t y.dst (.tup []), s.m⟩, .inr ⟨hw2, rfl⟩, ?_⟩
    have ht2 : ∀ d, d ∈ x.looks → s.t d = putT s.t y.dst (.tup []) d := fun d hd' => (putT_other fun e => (ap2 d e).1 hd').symm
    obtain ⟨c3, c4⟩ := stp_doI_congr (E := E) (call := call) (m := s.m) ht2
    rcases h1 with ⟨v, m1, hw1, hd1, rfl⟩ | ⟨hw1, rfl⟩
    · simp only at hmx; subst hmx
      exact .inl ⟨v, _, by rw [← c4]; exact hw1, by rw [← c3]; exact hd1, by rw [putT_comm hd]⟩
    · exact .inr ⟨by rw [← c4]; exact hw1, by rw [putT_comm hd]⟩
theorem swap_pure {x y : OpC} {s sx s2 : S} (hap : apartC x y = true) (hp : pureI y.ins = true) (h1 : Stp E call x s sx) (h2 : Stp E call y sx s2) : ∃ sy, Stp E call y s sy ∧ Stp E call x sy s2 := by
  obtain ⟨ap1, ap2⟩ := apartC_spec hap
  have ht : ∀ d, d ∈ y.looks → s.t d = sx.t d := fun d hd => (stp_t h1 fun e => (ap1 d e).1 hd).symm
  obtain ⟨c1, c2⟩ := stp_doI_congr (E := E) (call := call) (m := s.m) ht
  have hd : ∀ i, x.dst = some i → y.dst ≠ some i := fun i hi => (ap1 i hi).2
  have key : ∀ u, Stp E call y s ⟨putT s.t y.dst u, s.m⟩ → s2 = ⟨putT sx.t y.dst u, sx.m⟩ → ∃ sy, Stp E call y s sy ∧ Stp E call x sy s2 := by
    intro u hu e
    subst e
    refine ⟨_, hu, ?_⟩
    have ht2 : ∀ d, d ∈ x.looks → s.t d = putT s.t y.dst u d := fun d hd' => (putT_other fun e => (ap2 d e).1 hd').symm
    obtain ⟨c3, c4⟩ := stp_doI_congr (E := E) (call := call) (m := s.m) ht2
    rcases h1 with ⟨v, m1, hw1, hd1, rfl⟩ | ⟨hw1, rfl⟩
    · exact .inl ⟨v, m1, by rw [← c4]; exact hw1, by rw [← c3]; exact hd1, by rw [putT_comm hd]⟩
    · exact .inr ⟨by rw [← c4]; exact hw1, by rw [putT_comm hd]⟩
  rcases h2 with ⟨u, m', hw2, hd2, rfl⟩ | ⟨hw2, rfl⟩
  · obtain ⟨e, hall⟩ := pure_doI hp hd2
    subst e
    refine key u (.inl ⟨u, s.m, by rw [c2]; exact hw2, ?_, rfl⟩) rfl
    rw [c1]; exact hall s.m
  · exact key (.tup []) (.inr ⟨by rw [c2]; exact hw2, rfl⟩) rfl
theorem front_pure {y : OpC} (hp : pureI y.ins = true) : ∀ {X : List OpC} {s s1 s2 : S}, (∀ x, x ∈ X → apartC x y = true) → opsC (doI E call) X s = some s1 → Stp E call y s1 s2 → ∃ sy, Stp E call y s sy ∧ opsC (doI E call) X sy = some s2
  | [], s, s1, s2, _, h1, h2 => by simp [opsC] at h1; subst h1; exact ⟨s2, h2, rfl⟩
  | x :: X, s, s1, s2, hap, h1, h2 => by
    obtain ⟨sx, h3, h4⟩ := opsC_stp h1
    obtain ⟨s4, h5, h6⟩ := front_pure hp (fun x hx => hap x (by simp [hx])) h4 h2
    obtain ⟨sy, h7, h8⟩ := swap_pure (hap x (by simp)) hp h3 h5
    exact ⟨sy, h7, stp_opsC h8 h6⟩
theorem float_m {o : OpC} (hf : floatI o.ins = true) {s s1 : S} (h : Stp E call o s s1) : s1.m = s.m := by
  rcases h with ⟨v, m', _, hd, rfl⟩ | ⟨_, rfl⟩
  · simp only [floatI, Bool.or_eq_true] at hf
    rcases hf with hf | hf
    · exact (pure_doI hf hd).1
    · obtain ⟨⟨a, x⟩, hx⟩ := Option.isSome_iff_exists.1 hf
      exact (read_at (m' := s.m) hx (SameAt.refl _ _) hd).1
  · rfl
theorem rd_looks {i : I} {a x} (h : rdI i = some (a, x)) : x ∈ i.ops := by
  cases i <;> simp [rdI] at h <;> simp [I.ops, h]
theorem wr_looks {i : I} {a x} (h : wrI i = some (a, x)) : x ∈ i.ops := by
  cases i <;> simp [wrI] at h <;> simp [I.ops, h]
theorem ops_looks {o : OpC} {d : Nat} (h : O.t d ∈ o.ins.ops) : d ∈ o.looks := by
  simp only [OpC.looks, List.mem_append, List.mem_filterMap]
  exact .inl ⟨.t d, h, rfl⟩
theorem ev_congr1 {t t' : Nat → V} {x : O} {o : OpC} (hx : x ∈ o.ins.ops) (h : ∀ d, d ∈ o.looks → t d = t' d) : ev E t x = ev E t' x := by
  cases x with
  | t d => exact h d (ops_looks hx)
  | _ => rfl
theorem front_float {y : OpC} : ∀ {X : List OpC} {s s1 s2 : S}, (∀ x, x ∈ X → apartC x y = true ∧ floatI x.ins = true ∧ ((rdI x.ins).isSome → ((rdI y.ins).isSome ∨ (wrI y.ins).isSome ∨ pureI y.ins = true))) →
    X.Pairwise (fun x x' => (rdI x.ins).isSome → ∀ d, x'.dst = some d → d ∉ x.looks) → (∀ x, x ∈ X → (rdI x.ins).isSome → ∀ d, x.dst = some d → d ∉ x.looks) → opsC (doI E call) X s = some s1 →
    (∀ x, x ∈ X → ∀ a u b v, rdI x.ins = some (a, u) → wrI y.ins = some (b, v) → farV a (ev E s1.t u) b (ev E s1.t v) = true) → Stp E call y s1 s2 → ∃ sy, Stp E call y s sy ∧ opsC (doI E call) X sy = some s2
  | [], s, s1, s2, _, _, _, h1, _, h2 => by simp [opsC] at h1; subst h1; exact ⟨s2, h2, rfl⟩
  | x :: X, s, s1, s2, hap, hpw, hself, h1, hfar, h2 => by
    obtain ⟨sx, h3, h4⟩ := opsC_stp h1
    obtain ⟨p1, p2⟩ := List.pairwise_cons.1 hpw
    obtain ⟨s4, h5, h6⟩ := front_float (fun x hx => hap x (by simp [hx])) p2 (fun x hx => hself x (by simp [hx])) h4 (fun x hx => hfar x (by simp [hx])) h2
    obtain ⟨ha, hf, hk⟩ := hap x (by simp)
    have hmx := float_m hf h3
    have hsw : ∃ sy, Stp E call y s sy ∧ Stp E call x sy s4 := by
      refine swap_ok ha h3 h5 hmx fun v u m' hv hu => ?_
      simp only [floatI, Bool.or_eq_true] at hf
      rcases hf with hf | hf
      · exact (pure_doI hf hv).2 m'
      · obtain ⟨⟨a, z⟩, hz⟩ := Option.isSome_iff_exists.1 hf
        rcases hk hf with hy | hy | hy
        · obtain ⟨⟨b, w⟩, hw⟩ := Option.isSome_iff_exists.1 hy
          have := (read_at (m' := s.m) hw (SameAt.refl _ _) hu).1
          subst this; exact hv
        · obtain ⟨⟨b, w⟩, hw⟩ := Option.isSome_iff_exists.1 hy
          have hall : ∀ d, d ∈ x.looks → s.t d = s1.t d := fun d hd => by
            rw [opsC_t h4 fun o ho e => p1 o ho hf d e hd, stp_t h3 fun e => hself x (by simp) hf d e hd]
          have hally : ∀ d, d ∈ y.looks → s.t d = s1.t d := fun d hd => by
            rw [opsC_t h4 fun o ho e => ((apartC_spec (hap o (by simp [ho])).1).1 d e).1 hd, stp_t h3 fun e => ((apartC_spec ha).1 d e).1 hd]
          have := hfar x (by simp) a z b w hz hw
          rw [← ev_congr1 (rd_looks hz) hall, ← ev_congr1 (wr_looks hw) hally] at this
          exact (far_read hz hw this hv hu).2
        · have := (pure_doI hy hu).1
          subst this; exact hv
    obtain ⟨sy, h7, h8⟩ := hsw
    exact ⟨sy, h7, stp_opsC h8 h6⟩
theorem chks_ok : ∀ {X : List OpC} {s s1 : S}, (∀ c, c ∈ X → ∃ a u b v, c = ⟨none, none, .chk a u b v⟩) → opsC (doI E call) X s = some s1 → s1 = s ∧ ∀ a u b v, (⟨none, none, .chk a u b v⟩ : OpC) ∈ X → farV a (ev E s.t u) b (ev E s.t v) = true
  | [], s, s1, _, h => by simp [opsC] at h; exact ⟨h.symm, by simp⟩
  | c :: X, s, s1, hc, h => by
    obtain ⟨s2, h1, h2⟩ := opsC_stp h
    obtain ⟨a, u, b, v, rfl⟩ := hc c (by simp)
    have : s2 = s ∧ farV a (ev E s.t u) b (ev E s.t v) = true := by
      rcases h1 with ⟨w, m', _, hd, rfl⟩ | ⟨hw, _⟩
      · simp only [doI] at hd
        split at hd
        · rename_i hf; cases hd; exact ⟨rfl, hf⟩
        · cases hd
      · simp [wantedC] at hw
    obtain ⟨rfl, hf⟩ := this
    obtain ⟨g1, g2⟩ := chks_ok (fun c hc' => hc c (by simp [hc'])) h2
    refine ⟨g1, fun a' u' b' v' hm => ?_⟩
    rcases List.mem_cons.1 hm with e | hm
    · cases e; exact hf
    · exact g2 a' u' b' v' hm
theorem chkOf_form {x y c : OpC} (h : c ∈ chkOf x y) : ∃ a u b v, rdI x.ins = some (a, u) ∧ wrI y.ins = some (b, v) ∧ c = ⟨none, none, .chk a u b v⟩ := by
  unfold chkOf at h
  split at h
  · rename_i a u b v h1 h2
    simp at h
    exact ⟨a, u, b, v, h1, h2, h⟩
  · cases h
theorem chksAt_form {l : List OpC} {b : Array Nat} {k : Nat} {c : OpC} (h : c ∈ chksAt l b k) : ∃ i, i < k ∧ (b.getD k 0).testBit i = false ∧ c ∈ chkOf (opAt' l i) (opAt' l k) := by
  simp only [chksAt, List.mem_flatMap, List.mem_range] at h
  obtain ⟨i, hi, h⟩ := h
  split at h
  · cases h
  · rename_i hb
    exact ⟨i, hi, by simpa using hb, h⟩
theorem chksAt_mem {l : List OpC} {b : Array Nat} {k i : Nat} {c : OpC} (hi : i < k) (hb : (b.getD k 0).testBit i = false) (h : c ∈ chkOf (opAt' l i) (opAt' l k)) : c ∈ chksAt l b k := by
  simp only [chksAt, List.mem_flatMap, List.mem_range]
  exact ⟨i, hi, by rw [hb]; exact h⟩
theorem freeZ_spec {l : List OpC} {b : Array Nat} {p : Nat} (h : freeZ l b p = true) :
    (∀ i j, i < j → j < l.length → floatZ l b p i = true → floatZ l b p j = true → (b.getD j 0).testBit i = false → freeC (opAt' l i) (opAt' l j) = true) ∧
    (∀ i j, i ≤ j → j < l.length → floatZ l b p i = true → floatZ l b p j = true → (rdI (opAt' l i).ins).isSome → ∀ d, (opAt' l j).dst = some d → d ∉ (opAt' l i).looks) ∧
    (∀ i j, i < j → j < l.length → floatZ l b p i = true → floatZ l b p j = true → ∀ c, c ∈ chksAt l b i → ∀ d, (opAt' l j).dst = some d → d ∉ c.looks) ∧
    (∀ i, i < p → floatZ l b p i = true → floatI (opAt' l i).ins = true ∧ ∀ j, i ≤ j → j < p → (∀ d, (opAt' l j).dst = some d → d ∉ (opAt' l i).looks) ∧ (j ≠ i → ∀ d, (opAt' l i).dst = some d → (opAt' l j).dst ≠ some d)) := by
  simp only [freeZ, Bool.and_eq_true, List.all_eq_true, List.mem_range] at h
  obtain ⟨⟨⟨h1, h2⟩, h3⟩, h4⟩ := h
  refine ⟨fun i j hi hj zi zj hb => ?_, fun i j hi hj zi zj hr d hd => ?_, fun i j hi hj zi zj c hc d hd => ?_, fun i hi zi => ?_⟩
  · have := h1 j hj i hi
    rw [hb, zi, zj] at this; simpa using this
  · have := h2 j hj i (by omega)
    rw [hr, zi, zj] at this
    simp only [Bool.not_true, Bool.false_or, keepsC, hd, Bool.and_self, Bool.or_false] at this
    simpa using this
  · have := h3 j hj i hi
    rw [zi, zj] at this
    simp only [Bool.and_self, Bool.not_true, Bool.or_false, List.all_eq_true] at this
    have := this c hc
    simp only [keepsC, hd] at this
    simpa using this
  · have := h4 i hi
    rw [zi] at this
    simp only [Bool.not_true, Bool.false_or, Bool.and_eq_true, List.all_eq_true, List.mem_range] at this
    refine ⟨this.1, fun j hij hj => ?_⟩
    have hk := this.2 j hj
    have hlt : Nat.blt j i = false := by
      cases hb : Nat.blt j i with
      | false => rfl
      | true => rw [Nat.blt_eq] at hb; omega
    rw [hlt] at hk
    simp only [Bool.false_or, Bool.and_eq_true] at hk
    refine ⟨fun d hd => ?_, fun hne d hd => ?_⟩
    · have := hk.1
      simp only [keepsC, hd] at this
      simpa using this
    · have h5 := hk.2
      have hbe : Nat.beq j i = false := by
        cases hb : Nat.beq j i with
        | false => rfl
        | true => exact absurd (Nat.eq_of_beq_eq_true hb) hne
      rw [hbe, hd] at h5
      simpa using h5
theorem flatMap_one {α β : Type} {f : α → List β} {g : α → β} : ∀ {R : List α}, (∀ i, i ∈ R → f i = [g i]) → R.flatMap f = R.map g
  | [], _ => rfl
  | i :: R, h => by rw [List.flatMap_cons, h i (by simp), flatMap_one fun i hi => h i (by simp [hi])]; rfl
theorem front_ok {l : List OpC} {b : Array Nat} {p : Nat} (hfree : freeZ l b p = true) {R1 R2 : List Nat} {j : Nat} (hj : j < l.length) (zj : floatZ l b p j = true) (hR : R1.Pairwise (· < ·)) (hlt' : ∀ i, i ∈ R1 → (i < j ∧ (b.getD j 0).testBit i = false) ∧ floatZ l b p i = true) {s s2 : S}
    (h : opsC (doI E call) ((R1 ++ j :: R2).flatMap (blkAt l b)) s = some s2) : ∃ sy, Stp E call (opAt' l j) s sy ∧ opsC (doI E call) ((R1 ++ R2).flatMap (blkAt l b)) sy = some s2 := by
  obtain ⟨f1, f2, f3, _⟩ := freeZ_spec hfree
  have hlt : ∀ i, i ∈ R1 → i < j ∧ (b.getD j 0).testBit i = false := fun i hi => (hlt' i hi).1
  have hz : ∀ i, i ∈ R1 → floatZ l b p i = true := fun i hi => (hlt' i hi).2
  rw [List.flatMap_append, List.flatMap_cons, blkAt, List.append_assoc] at h
  obtain ⟨s1, h1, h'⟩ := opsC_app h
  obtain ⟨s1', hc, h''⟩ := opsC_app h'
  obtain ⟨e, hfar⟩ := chks_ok (fun c hc => by obtain ⟨i, _, _, h⟩ := chksAt_form hc; obtain ⟨a, u, b, v, _, _, h⟩ := chkOf_form h; exact ⟨a, u, b, v, h⟩) hc
  subst e
  obtain ⟨s3, h3, h4⟩ := opsC_stp (o := opAt' l j) (r := R2.flatMap (blkAt l b)) h''
  rw [List.flatMap_append]
  cases hp : pureI (opAt' l j).ins with
  | true =>
    suffices hX : ∀ x, x ∈ R1.flatMap (blkAt l b) → apartC x (opAt' l j) = true by
      obtain ⟨sy, h5, h6⟩ := front_pure hp hX h1 h3
      exact ⟨sy, h5, app_opsC h6 h4⟩
    · intro x hx
      obtain ⟨i, hi, hx⟩ := List.mem_flatMap.1 hx
      obtain ⟨g1, g2⟩ := hlt i hi
      have hfr := f1 i j g1 hj (hz i hi) zj g2
      simp only [freeC, Bool.and_eq_true] at hfr
      rcases List.mem_append.1 hx with hx | hx
      · have hk := f3 i j g1 hj (hz i hi) zj x hx
        obtain ⟨i', hi', hb', hx'⟩ := chksAt_form hx
        obtain ⟨a, u, b', v, _, _, e⟩ := chkOf_form hx'
        subst e
        unfold apartC
        simp only [Bool.true_and]
        cases hd : (opAt' l j).dst with
        | none => rfl
        | some d => simpa using hk d hd
      · simp at hx; subst hx; exact hfr.1
  | false =>
    have hfl : ∀ i, i ∈ R1 → floatI (opAt' l i).ins = true ∧ apartC (opAt' l i) (opAt' l j) = true ∧ ((rdI (opAt' l i).ins).isSome → ((rdI (opAt' l j).ins).isSome ∨ (wrI (opAt' l j).ins).isSome)) := fun i hi => by
      obtain ⟨g1, g2⟩ := hlt i hi
      have hfr := f1 i j g1 hj (hz i hi) zj g2
      simp only [freeC, Bool.and_eq_true, Bool.or_eq_true, hp, Bool.false_eq_true, false_or] at hfr
      refine ⟨?_, hfr.1, fun hr => ?_⟩
      · simp only [floatI, Bool.or_eq_true]
        rcases hfr.2 with h | h
        · exact .inl h
        · exact .inr h.1
      · rcases hfr.2 with h | h
        · have : ∀ i : I, pureI i = true → rdI i = none := fun i h => by cases i <;> first | rfl | cases h
          rw [this _ h] at hr; cases hr
        · exact h.2
    have hnw : ∀ i, i ∈ R1 → blkAt l b i = [opAt' l i] := fun i hi => by
      unfold blkAt
      have : chksAt l b i = [] := by
        apply List.eq_nil_iff_forall_not_mem.2
        intro c hc
        obtain ⟨i', _, _, hx'⟩ := chksAt_form hc
        obtain ⟨a, u, b', v, _, hw, _⟩ := chkOf_form hx'
        have : ∀ i : I, floatI i = true → wrI i = none := fun i h => by cases i <;> first | rfl | cases h
        rw [this _ (hfl i hi).1] at hw; cases hw
      rw [this]; rfl
    have hmap : R1.flatMap (blkAt l b) = R1.map (opAt' l) := flatMap_one hnw
    rw [hmap] at h1
    have hff := front_float (E := E) (call := call) (y := opAt' l j) (X := R1.map (opAt' l)) (s := s) (s2 := s3) (fun x hx => ?_) ?_ (fun x hx hr d hd => ?_) h1 (fun x hx a u b' v hr hw => ?_) h3
    · obtain ⟨sy, h5, h6⟩ := hff
      exact ⟨sy, h5, app_opsC (by rw [hmap]; exact h6) h4⟩
    · obtain ⟨i, hi, rfl⟩ := List.mem_map.1 hx
      obtain ⟨g1, g2, g3⟩ := hfl i hi
      exact ⟨g2, g1, fun hr => by rcases g3 hr with h | h; exact .inl h; exact .inr (.inl h)⟩
    · rw [List.pairwise_map]
      refine (List.Pairwise.and_mem.1 hR).imp fun {i k} h hr d hd => ?_
      obtain ⟨m1, m2, hik⟩ := h
      exact f2 i k (by omega) (by have := (hlt k m2).1; omega) (hz i m1) (hz k m2) hr d hd
    · obtain ⟨i, hi, rfl⟩ := List.mem_map.1 hx
      exact f2 i i (Nat.le_refl _) (by have := (hlt i hi).1; omega) (hz i hi) (hz i hi) hr d hd
    · obtain ⟨i, hi, rfl⟩ := List.mem_map.1 hx
      obtain ⟨g1, g2⟩ := hlt i hi
      exact hfar a u b' v (chksAt_mem g1 g2 (by unfold chkOf; rw [hr, hw]; simp))
end
section
variable {E : Env} {call : CallT} {nt : Nat} {ops : Array Oper} {l : List OpC} {ro : Option Nat} {nn : Nat}
def restL (listed : Array Bool) (n : Nat) : List Nat := (List.range n).filter fun i => !lst listed i
theorem filter_tt (l : List Nat) : (l.filter fun _ => true) = l := List.filter_eq_self.2 (by simp)
theorem range_split {n j : Nat} (hj : j < n) (p : Nat → Bool) (hp : p j = true) : (List.range n).filter p = (List.range j).filter p ++ j :: ((List.range (n - j - 1)).map (· + (j + 1))).filter p := by
  have : List.range n = List.range j ++ j :: (List.range (n - j - 1)).map (· + (j + 1)) := by
    obtain ⟨k, rfl⟩ : ∃ k, n = j + (k + 1) := ⟨n - j - 1, by omega⟩
    rw [List.range_add, show j + (k + 1) - j - 1 = k by omega, List.range_succ_eq_map]
    simp only [List.map_cons, Nat.add_zero, List.map_map]
    congr 2
    apply List.map_congr_left
    intro i _
    simp only [Function.comp_apply]; omega
  rw [this, List.filter_append, List.filter_cons, if_pos hp]
theorem free_run {Q : Exit → Act → World → Prop} {a0 : Act} (hlow : lower ops = true) (hcall : CallOK P E call) (hlen : l.length = ops.size) (comp : ∀ (i : Nat) (o : Oper), ops[i]? = some o → ∃ oc, l[i]? = some oc ∧ cOpC P nt ops o = some oc)
    {p : Nat} (hfree : freeZ l (CheckFast.beforeF ops) p = true) : ∀ (n : Nat) (listed : Array Bool) (c : Cx) (s s2 : S) (a : Act), cnt (lst listed) ops.size + n = ops.size → listed.size = ops.size → (∀ i, i < ops.size → floatZ l (CheckFast.beforeF ops) p i = false → lst listed i = true) →
    Closed ops (lst listed) → SRel P E nt c s a → a.defers = a0.defers → opsC (doI E call) ((restL listed ops.size).flatMap (blkAt l (CheckFast.beforeF ops))) s = some s2 →
    (∀ c' a', Post P c c' → SRel P E nt c' s2 a' → a'.defers = a0.defers → Q .normal a' c'.w) → wpAnyIn (RF ro) nn P .any ops Q n listed a c.w
  | 0, listed, c, s, s2, a, hn, hsz, hzz, hcl, hs, hd, h, hq => by
    have hall : ∀ i, i < ops.size → lst listed i = true := fun i hi => by
      cases hL : lst listed i with
      | true => rfl
      | false => have := cnt_lt hi hL; omega
    have hr : restL listed ops.size = [] := by
      unfold restL
      rw [List.filter_eq_nil_iff]
      intro i hi
      rw [hall i (List.mem_range.1 hi)]; simp
    rw [hr] at h
    simp [opsC] at h; subst h
    refine ⟨?_, hq c a (Post.refl hs.sim) hs hd⟩
    apply List.eq_nil_iff_forall_not_mem.2
    intro j hj
    obtain ⟨h0, o, ho, _⟩ := (ready_spec hsz).1 hj
    rw [hall j (Array.getElem?_eq_some_iff.1 ho).1] at h0; cases h0
  | n + 1, listed, c, s, s2, a, hn, hsz, hzz, hcl, hs, hd, h, hq => by
    have hzl : ∀ i, i < ops.size → lst listed i = false → floatZ l (CheckFast.beforeF ops) p i = true := fun i hi hL => by
      cases hz : floatZ l (CheckFast.beforeF ops) p i with
      | true => rfl
      | false => rw [hzz i hi hz] at hL; cases hL
    refine ⟨fun hnil => ?_, fun j hj => ?_⟩
    ·
      exfalso
      have hex : ∃ i, i < ops.size ∧ lst listed i = false ∧ ∀ j, j < i → lst listed j = true := by
        have : ∀ m, m ≤ ops.size → (∀ i, i < m → lst listed i = true) ∨ ∃ i, i < ops.size ∧ lst listed i = false ∧ ∀ j, j < i → lst listed j = true := by
          intro m
          induction m with
          | zero => intro _; left; intro i hi; omega
          | succ m ihm =>
            intro hm
            rcases ihm (by omega) with h1 | h1
            · cases hL : lst listed m with
              | true =>
                left
                intro i hi
                by_cases e : i = m
                · subst e; exact hL
                · exact h1 i (by omega)
              | false => exact .inr ⟨m, by omega, hL, h1⟩
            · exact .inr h1
        rcases this ops.size (Nat.le_refl _) with h1 | h1
        · rw [cnt_all h1] at hn; omega
        · exact h1
      obtain ⟨i0, hi0, hL0, hbelow⟩ := hex
      have : i0 ∈ Region.ready .any ops listed := (ready_spec hsz).2 ⟨hL0, ops[i0], by simp [hi0], fun e he hb => hbelow _ (lower_spec hlow (i := i0) (o := ops[i0]) (by simp [hi0]) he hb)⟩
      rw [hnil] at this; cases this
    · obtain ⟨hLj, o, ho, hr⟩ := (ready_spec hsz).1 hj
      have hjl : j < ops.size := (Array.getElem?_eq_some_iff.1 ho).1
      obtain ⟨oc, hoc, hc⟩ := comp j o ho
      have hat : opAt' l j = oc := by unfold opAt'; rw [List.getD_eq_getElem?_getD, hoc]; rfl
      have hsplit := range_split (n := ops.size) hjl (fun i => !lst listed i) (by simp [hLj])
      unfold restL at h
      rw [hsplit] at h
      obtain ⟨sy, h1, h2⟩ := front_ok hfree (by omega) (hzl j hjl hLj) (List.Pairwise.filter _ List.pairwise_lt_range) (fun i hi => by
        obtain ⟨h1, h2⟩ := List.mem_filter.1 hi
        refine ⟨⟨List.mem_range.1 h1, ?_⟩, hzl i (by have := List.mem_range.1 h1; omega) (by simpa using h2)⟩
        cases hb : ((CheckFast.beforeF ops).getD j 0).testBit i with
        | false => rfl
        | true =>
          have := bits_listed hcl (j + 1) j (by omega) o ho hr i hb
          rw [this] at h2; cases h2) h
      rw [hat] at h1
      refine op_ok hcall ho hc hs h1 fun c' a' hp hs' hd' => ?_
      have hset := lst_set (listed := listed) (j := j) (by rw [hsz]; exact hjl)
      refine free_run hlow hcall hlen comp hfree n (listed.setIfInBounds j true) c' sy s2 a' ?_ (by simp [hsz]) (fun i hi hz => by rw [hset]; simp [hzz i hi hz]) ?_ hs' (hd'.trans hd) ?_ fun c2 a2 hp2 hs2 hd2 => hq c2 a2 (hp.trans hs.sim hp2) hs2 hd2
      · rw [hset, cnt_set hLj hjl]; omega
      · rw [hset]; exact closed_set hcl ho hr
      · have e : restL (listed.setIfInBounds j true) ops.size = (List.range j).filter (fun i => !lst listed i) ++ ((List.range (ops.size - j - 1)).map (· + (j + 1))).filter (fun i => !lst listed i) := by
          unfold restL
          rw [hset]
          have := range_split (n := ops.size) hjl (fun _ => true) rfl
          simp only [filter_tt] at this
          rw [this, List.filter_append, List.filter_cons]
          simp only [beq_self_eq_true, Bool.or_true, Bool.not_true, Bool.false_eq_true, if_false]
          congr 1
          · apply List.filter_congr
            intro i hi
            have : (i == j) = false := by have := List.mem_range.1 hi; simp; omega
            rw [this, Bool.or_false]
          · apply List.filter_congr
            intro i hi
            obtain ⟨k, _, rfl⟩ := List.mem_map.1 hi
            have : (k + (j + 1) == j) = false := by simp; omega
            rw [this, Bool.or_false]
        rw [e]; exact h2
end
section
variable {E : Env} {call : CallT} {nt : Nat} {ops : Array Oper} {l : List OpC} {p : Nat} {f : Nat → S} {v : Nat → V} {r : Nat → Mem} {c : Cx}
theorem WL_skip {L : Nat → Bool} {d k : Nat} : ∀ {n : Nat}, k ≤ n → (∀ j, k ≤ j → j < n → dstAt l j ≠ some d) → WL l L n d = WL l L k d
  | 0, h, _ => by have : k = 0 := by omega
                  rw [this]
  | n + 1, h, hd => by
    by_cases e : k = n + 1
    · rw [e]
    · simp only [WL]
      have : (dstAt l n == some d) = false := by simpa using hd n (by omega) (by omega)
      rw [this, Bool.and_false]
      simp only [Bool.false_eq_true, if_false]
      exact WL_skip (by omega) fun j h1 h2 => hd j h1 (by omega)
theorem dstAt_at {i : Nat} (h : i < l.length) : dstAt l i = (opAt' l i).dst := by
  simp only [dstAt, opAt', List.getElem?_eq_getElem h, Option.bind_some, List.getD_eq_getElem?_getD, Option.getD_some]
def Tof (f : Nat → S) (v : Nat → V) (l : List OpC) (p : Nat) (L : Nat → Bool) : Nat → V := fun d => tOf (f 0).t v d (WL l L p d)
theorem floats_run (H : DrH P E call nt ops l p f v r c) {b : Array Nat} (hfree : freeZ l b p = true) {L : Nat → Bool} (hz : ∀ i, i < p → floatZ l b p i = false → L i = true) : ∀ (k : Nat), k ≤ p →
    opsC (doI E call) (((List.range k).filter fun i => !L i).map (opAt' l)) ⟨Tof f v l p L, (f p).m⟩ = some ⟨Tof f v l p (fun i => L i || decide (i < k)), (f p).m⟩
  | 0, _ => by simp [opsC]
  | k + 1, hk => by
    obtain ⟨_, _, _, f4⟩ := freeZ_spec hfree
    have ih := floats_run H hfree hz k (by omega)
    have hkl : k < l.length := by have := H.len; have := H.hp; omega
    rw [List.range_succ, List.filter_append, List.map_append]
    refine app_opsC ih ?_
    cases hL : L k with
    | true =>
      have : (fun i => L i || decide (i < k + 1)) = (fun i => L i || decide (i < k)) := by
        funext i
        by_cases e : i = k
        · subst e; simp [hL]
        · have h1 : decide (i < k + 1) = decide (i < k) := by congr 1; apply propext; omega
          rw [h1]
      simp [hL, opsC, this]
    | false =>
      have zk : floatZ l b p k = true := by
        cases hz' : floatZ l b p k with
        | true => rfl
        | false => rw [hz k (by omega) hz'] at hL; cases hL
      obtain ⟨hfl, hst⟩ := f4 k (by omega) zk
      have hoc : l[k]? = some (opAt' l k) := by simp [opAt', hkl]
      have q := H.tr k (opAt' l k) (by omega) hoc
      let L' := fun i => L i || decide (i < k)
      have ht : ∀ d, d ∈ (opAt' l k).looks → (f k).t d = Tof f v l p L' d := fun d hd => by
        rw [H.tmps d k (by omega)]
        show _ = tOf (f 0).t v d (WL l L' p d)
        congr 1
        rw [WL_skip (k := k) (n := p) (by omega) fun j h1 h2 e => ?_]
        · exact WL_congr fun j hj _ => by simp [L', hj]
        · have hjl : j < l.length := by have := H.len; have := H.hp; omega
          rw [dstAt_at hjl] at e
          exact (hst j h1 h2).1 d e hd
      have hput : putT (Tof f v l p L') (opAt' l k).dst (v k) = Tof f v l p (fun i => L i || decide (i < k + 1)) := by
        funext d
        by_cases e : (opAt' l k).dst = some d
        · have hw : WL l (fun i => L i || decide (i < k + 1)) p d = some k := WL_some (by omega) (by simp) (by rw [dstAt_at hkl]; exact e) fun j h1 h2 _ => by
            have hjl : j < l.length := by have := H.len; have := H.hp; omega
            rw [dstAt_at hjl]
            exact (hst j (by omega) h2).2 (by omega) d e
          simp only [Tof, hw, tOf, e, putT, upd, if_pos]
        · rw [putT_other e]
          simp only [Tof]
          congr 1
          refine WL_congr fun j hj hd => ?_
          have hne : j ≠ k := fun e' => by subst e'; rw [dstAt_at hkl] at hd; exact e hd
          have h1 : decide (j < k + 1) = decide (j < k) := by congr 1; apply propext; omega
          simp only [L', h1]
      have hstp : Stp E call (opAt' l k) ⟨Tof f v l p L', (f p).m⟩ ⟨Tof f v l p (fun i => L i || decide (i < k + 1)), (f p).m⟩ := by
        obtain ⟨c1, c2⟩ := stp_doI_congr (E := E) (call := call) (m := (f p).m) ht
        rcases q.2.2 with ⟨hw, hd⟩ | ⟨hw, hv, _⟩
        · refine .inl ⟨v k, (f p).m, by rw [← hw]; exact c2.symm, ?_, by rw [hput]⟩
          show doI E call (opAt' l k).ins (Tof f v l p L') (f p).m = _
          rw [← c1]
          simp only [floatI, Bool.or_eq_true] at hfl
          rcases hfl with hf | hf
          · exact (pure_doI hf hd).2 _
          · obtain ⟨⟨a, x⟩, hx⟩ := Option.isSome_iff_exists.1 hf
            refine (read_at hx (fun id blk _ hb => ?_) hd).2
            rw [List.getElem?_map] at hb
            obtain ⟨b0, hb0, rfl⟩ := Option.map_eq_some_iff.1 hb
            refine ⟨b0.prot, ?_⟩
            have e := H.take (j := k) (by omega)
            rw [e, List.getElem?_take] at hb0
            split at hb0
            · rw [hb0]; congr 1; cases b0 <;> rfl
            · cases hb0
        · exact .inr ⟨by rw [← hw]; exact c2.symm, by rw [← hput, hv]⟩
      have hf1 : List.filter (fun i => !L i) [k] = [k] := by simp [hL]
      rw [hf1]
      exact stp_opsC (r := []) hstp rfl
theorem cnt_tail {L : Nat → Bool} {p : Nat} (h : ∀ i, L i = true → i < p) : ∀ {n : Nat}, p ≤ n → cnt L n = cnt L p
  | 0, hn => by have : p = 0 := by omega
                rw [this]
  | n + 1, hn => by
    by_cases e : p = n + 1
    · rw [e]
    · simp only [cnt]
      have : L n = false := by
        cases hL : L n with
        | true => have := h n hL; omega
        | false => rfl
      rw [this, cnt_tail h (by omega)]; rfl
theorem enter {ro : Option Nat} {nn : Nat} {Q : Exit → Act → World → Prop} {a0 : Act} {s2 : S} (hlow : lower ops = true) (H : DrH P E call nt ops l p f v r c) (hfree : freeZ l (CheckFast.beforeF ops) p = true)
    (h : opsC (doI E call) (tailX l (CheckFast.beforeF ops) p) (f p) = some s2)
    (hq : ∀ c' a', Post P c c' → SRel P E nt c' s2 a' → a'.defers = a0.defers → Q .normal a' c'.w) (n : Nat) (listed : Array Bool) (φ : Nat → Option Nat) (a : Act) (w : World)
    (hn : cnt (lst listed) p + n = ops.size) (hsz : listed.size = ops.size) (hcl : Closed ops (lst listed)) (hLp : ∀ i, lst listed i = true → i < p) (hz : ∀ i, i < p → floatZ l (CheckFast.beforeF ops) p i = false → lst listed i = true)
    (I : DrInv P nt l p f v c a0 (lst listed) φ a w) : wpAnyIn (RF ro) nn P .any ops Q n listed a w := by
  obtain ⟨c', hw, hpost, hsr⟩ := mid_ok H listed φ a w I
  subst hw
  obtain ⟨_, _, _, f4⟩ := freeZ_spec hfree
  have hpl : p ≤ l.length := by have := H.len; have := H.hp; omega
  have hrun := floats_run H hfree hz p (Nat.le_refl p)
  have hend : Tof f v l p (fun i => lst listed i || decide (i < p)) = (f p).t := by
    funext d
    rw [H.tmps d p (Nat.le_refl p)]
    simp only [Tof]
    congr 1
    exact WL_congr fun j hj _ => by simp [hj]
  rw [hend] at hrun
  have hblk : ((List.range p).filter fun i => !lst listed i).flatMap (blkAt l (CheckFast.beforeF ops)) = ((List.range p).filter fun i => !lst listed i).map (opAt' l) := flatMap_one fun i hi => by
    obtain ⟨h1, h2⟩ := List.mem_filter.1 hi
    have hip := List.mem_range.1 h1
    have zi : floatZ l (CheckFast.beforeF ops) p i = true := by
      cases hz' : floatZ l (CheckFast.beforeF ops) p i with
      | true => rfl
      | false => rw [hz i hip hz'] at h2; cases h2
    unfold blkAt
    have : chksAt l (CheckFast.beforeF ops) i = [] := by
      apply List.eq_nil_iff_forall_not_mem.2
      intro c hc
      obtain ⟨i', _, _, hx'⟩ := chksAt_form hc
      obtain ⟨a, u, b', v, _, hw, _⟩ := chkOf_form hx'
      have : ∀ i : InsT, floatI i = true → wrI i = none := fun i h => by cases i <;> first | rfl | cases h
      rw [this _ (f4 i hip zi).1] at hw; cases hw
    rw [this]; rfl
  refine free_run (a0 := a0) hlow H.hcall H.len H.comp hfree n listed c' _ s2 a (by rw [cnt_tail hLp H.hp]; exact hn) hsz (fun i hi hz' => ?_) hcl hsr I.defers ?_ fun c2 a2 hp2 hs2 hd2 => hq c2 a2 (hpost.trans H.sim hp2) hs2 hd2
  · rcases Nat.lt_or_ge i p with h1 | h1
    · exact hz i h1 hz'
    · simp only [floatZ, Bool.or_eq_false_iff] at hz'
      have := hz'.1
      rw [show Nat.ble p i = true from by rw [Nat.ble_eq]; exact h1] at this; cases this
  · have hsp : restL listed ops.size = (List.range p).filter (fun i => !lst listed i) ++ (List.range l.length).drop p := by
      unfold restL
      rw [← H.len]
      have : List.range l.length = List.range p ++ (List.range l.length).drop p := by
        conv => lhs; rw [← List.take_append_drop p (List.range l.length)]
        rw [List.take_range, Nat.min_eq_left hpl]
      conv => lhs; rw [this]
      rw [List.filter_append]
      congr 1
      refine List.filter_eq_self.2 fun i hi => ?_
      have hip : p ≤ i := by
        obtain ⟨j, hj⟩ := List.mem_iff_getElem?.1 hi
        rw [List.getElem?_drop] at hj
        have := (range_get hj).1; omega
      cases hL : lst listed i with
      | true => have := hLp i hL; omega
      | false => rfl
    rw [hsp, List.flatMap_append, hblk]
    refine app_opsC hrun ?_
    exact h
theorem quietX_ok {ro : Option Nat} {nn : Nat} {Q : Exit → Act → World → Prop} {a0 : Act} {s2 : S} (hlow : lower ops = true) (H : DrH P E call nt ops l p f v r c) (hfree : freeZ l (CheckFast.beforeF ops) p = true)
    (h : opsC (doI E call) (tailX l (CheckFast.beforeF ops) p) (f p) = some s2)
    (hq : ∀ c' a', Post P c c' → SRel P E nt c' s2 a' → a'.defers = a0.defers → Q .normal a' c'.w) : ∀ (n : Nat) (listed : Array Bool) (φ : Nat → Option Nat) (a : Act) (w : World),
      cnt (lst listed) p + n = ops.size → listed.size = ops.size → Closed ops (lst listed) → (∀ i, lst listed i = true → i < p) →
      DrInv P nt l p f v c a0 (lst listed) φ a w → wpAnyIn (RF ro) nn P .any ops Q n listed a w := by
  intro n
  induction n with
  | zero =>
    intro listed φ a w hn hsz hcl hLp I
    have h1 := cnt_le (lst listed) p
    have hp := H.hp
    have hall : ∀ i, i < p → lst listed i = true := fun i hi => by
      cases hL : lst listed i with
      | true => rfl
      | false => have := cnt_lt hi hL; omega
    exact enter hlow H hfree h hq 0 listed φ a w hn hsz hcl hLp (fun i hi _ => hall i hi) I
  | succ n ih =>
    intro listed φ a w hn hsz hcl hLp I
    by_cases hall : ∀ i, i < p → floatZ l (CheckFast.beforeF ops) p i = false → lst listed i = true
    · exact enter hlow H hfree h hq (n + 1) listed φ a w hn hsz hcl hLp hall I
    · have hp := H.hp
      have hlen := H.len
      have hex : ∃ i, i < p ∧ floatZ l (CheckFast.beforeF ops) p i = false ∧ lst listed i = false := by
        rcases Classical.em (∃ i, i < p ∧ floatZ l (CheckFast.beforeF ops) p i = false ∧ lst listed i = false) with h | h
        · exact h
        · refine absurd (fun i hi hz => ?_) hall
          cases hL : lst listed i with
          | true => rfl
          | false => exact absurd ⟨i, hi, hz, hL⟩ h
      obtain ⟨i0, hi0, hz0, hL0⟩ := hex
      refine ⟨fun hnil => ?_, fun j hj => ?_⟩
      · exfalso
        have : ∃ i, i < p ∧ lst listed i = false ∧ ∀ j, j < i → lst listed j = true := by
          have : ∀ m, m ≤ p → (∀ i, i < m → lst listed i = true) ∨ ∃ i, i < p ∧ lst listed i = false ∧ ∀ j, j < i → lst listed j = true := by
            intro m
            induction m with
            | zero => intro _; left; intro i hi; omega
            | succ m ihm =>
              intro hm
              rcases ihm (by omega) with h1 | h1
              · cases hL : lst listed m with
                | true =>
                  left
                  intro i hi
                  by_cases e : i = m
                  · subst e; exact hL
                  · exact h1 i (by omega)
                | false => exact .inr ⟨m, by omega, hL, h1⟩
              · exact .inr h1
          rcases this p (Nat.le_refl p) with h1 | h1
          · rw [h1 i0 hi0] at hL0; cases hL0
          · exact h1
        obtain ⟨i1, hi1, hL1, hbelow⟩ := this
        have hi1s : i1 < ops.size := by omega
        have : i1 ∈ Region.ready .any ops listed := (ready_spec hsz).2 ⟨hL1, ops[i1], by simp [hi1s], fun e he hb => hbelow _ (lower_spec hlow (i := i1) (o := ops[i1]) (by simp [hi1s]) he hb)⟩
        rw [hnil] at this; cases this
      · obtain ⟨hLj, o, ho, hr⟩ := (ready_spec hsz).1 hj
        have hjl : j < ops.size := (Array.getElem?_eq_some_iff.1 ho).1
        have hjp : j < p := by
          rcases Nat.lt_or_ge j p with h1 | h1
          · exact h1
          · simp only [floatZ, Bool.or_eq_false_iff, List.any_eq_false, List.mem_range] at hz0
            have h2 := hz0.2 j (by omega)
            rw [show Nat.ble p j = true from by rw [Nat.ble_eq]; exact h1] at h2
            have hb := bits_listed hcl (j + 1) j (by omega) o ho hr i0 (by simpa using h2)
            rw [hb] at hL0; cases hL0
        refine I.step H hjp ho hcl hLj hr fun φ' a' w' I' => ?_
        have hset := lst_set (listed := listed) (j := j) (by rw [hsz]; exact hjl)
        refine ih (listed.setIfInBounds j true) φ' a' w' ?_ (by simp [hsz]) ?_ ?_ ?_
        · rw [hset, cnt_set hLj hjp]; omega
        · rw [hset]; exact closed_set hcl ho hr
        · rw [hset]
          intro i hi
          simp only [Bool.or_eq_true, beq_iff_eq] at hi
          rcases hi with hi | hi
          · exact hLp i hi
          · omega
        · rw [hset]; exact I'
end
theorem drawX_ok (hm : P.follows .mixedOrders = true) {ro : Option Nat} {nn : Nat} {E : Env} {call : CallT} (hcall : CallOK P E call) {nt id : Nat} {ops : Array Oper} {l : List OpC} (hl : cOpsC P nt ops ops.toList = some l)
    (hlow : lower ops = true) {p : Nat} (hap : apartAll l (CheckFast.beforeF ops) p = true) (hpn : p ≤ ops.size) (hfree : freeZ l (CheckFast.beforeF ops) p = true) {Q : Exit → Act → World → Prop} {c : Cx} {s s1 s2 : S} {a : Act} (hs : SRel P E nt c s a)
    (h1 : opsC (doQ E call) (l.take p) s = some s1) (h2 : opsC (doI E call) (tailX l (CheckFast.beforeF ops) p) s1 = some s2)
    (hq : ∀ c' a', Post P c c' → SRel P E nt c' s2 a' → a'.defers = a.defers → Q .normal a' c'.w) : (Code.region id ops true).wpIn (RF ro) nn P Q a c.w := by
  obtain ⟨g1, g2⟩ := cOpsC_spec hl
  have hlen : l.length = ops.size := by simpa using g1
  obtain ⟨f, v, r, f0, f1, ftr⟩ := opsQ_trace (l.take p) s s1 h1
  have hpl : (l.take p).length = p := by simp; omega
  rw [hpl] at f1
  have H : DrH P E call nt ops l p f v r c := by
    refine ⟨hcall, fun i o ho => g2 i o (by simpa using ho), hlen, hpn, fun j oc hj hoc => ftr j oc (by rw [List.getElem?_take, if_pos hj]; exact hoc), fun i j x y hij hjp hx hy hb => ?_, hs.sim, by rw [f0]; exact hs.m, hs.gl⟩
    unfold apartAll at hap
    have h1 := List.all_eq_true.1 hap j (by simpa using hjp)
    have h2 := List.all_eq_true.1 h1 i (by simpa using hij)
    rw [hb, hx, hy] at h2
    simpa using h2
  refine wpIn_region_any hm ?_
  have hl0 : lst (Array.replicate ops.size false) = fun _ => false := by
    funext i
    simp only [lst, Array.getD_eq_getD_getElem?, Array.getElem?_replicate]
    split <;> rfl
  refine quietX_ok (a0 := a) hlow H hfree (s2 := s2) (by rw [f1]; exact h2) hq ops.size _ c.φ a _ ?_ (by simp) ?_ ?_ ?_
  · rw [hl0]
    have : ∀ n, cnt (fun _ => false) n = 0 := by intro n; induction n with | zero => rfl | succ n ih => simp [cnt, ih]
    rw [this]; omega
  · rw [hl0]; intro i o _ h; cases h
  · rw [hl0]; intro i h; cases h
  · rw [hl0]; exact DrInv.start H (by rw [f0]; exact hs.t) hs.nt _
theorem firstW_le : ∀ (l : List OpC), firstW l ≤ l.length
  | [] => Nat.le_refl _
  | o :: l => by
    simp only [firstW]
    split
    · exact Nat.zero_le _
    · have := firstW_le l; simp; omega
end Go.Proofs.YtlenjioebdmooaaDoor.Den

namespace Go.Proofs.YtlenjioebdmooaaDoor.Den
open Go
set_option linter.unusedVariables false
set_option linter.unusedSimpArgs false
mutual
theorem D.beq_eq : ∀ (a b : D), D.beq a b = true → a = b
  | .bool a, b, h => by cases b <;> simp [D.beq] at h ⊢; exact h
  | .int k n, b, h => by cases b <;> simp [D.beq] at h ⊢; exact h
  | .str a, b, h => by cases b <;> simp [D.beq] at h ⊢; exact h
  | .nilp, b, h => by cases b <;> simp [D.beq] at h ⊢
  | .nils, b, h => by cases b <;> simp [D.beq] at h ⊢
  | .nilf, b, h => by cases b <;> simp [D.beq] at h ⊢
  | .nili, b, h => by cases b <;> simp [D.beq] at h ⊢
  | .rs a b c d, e, h => by
    cases e <;> simp [D.beq] at h ⊢
    exact ⟨h.1.1.1, h.1.1.2, D.beqss_eq _ _ h.2, h.1.2⟩
  | .rp a, b, h => by cases b <;> simp [D.beq] at h ⊢; exact D.beqs_eq _ _ h
theorem D.beqs_eq : ∀ (a b : List D), D.beqs a b = true → a = b
  | [], b, h => by cases b <;> simp [D.beqs] at h ⊢
  | a :: r, b, h => by
    cases b <;> simp [D.beqs] at h ⊢
    exact ⟨D.beq_eq _ _ h.1, D.beqs_eq _ _ h.2⟩
theorem D.beqss_eq : ∀ (a b : List (List D)), D.beqss a b = true → a = b
  | [], b, h => by cases b <;> simp [D.beqss] at h ⊢
  | a :: r, b, h => by
    cases b <;> simp [D.beqss] at h ⊢
    exact ⟨D.beqs_eq _ _ h.1, D.beqss_eq _ _ h.2⟩
end
mutual
theorem D.beq_refl : ∀ (a : D), D.beq a a = true
  | .bool a => by simp [D.beq]
  | .int k n => by simp [D.beq]
  | .str a => by simp [D.beq]
  | .nilp => by simp [D.beq]
  | .nils => by simp [D.beq]
  | .nilf => by simp [D.beq]
  | .nili => by simp [D.beq]
  | .rs a b c d => by simp [D.beq, D.beqss_refl c]
  | .rp a => by simp [D.beq, D.beqs_refl a]
theorem D.beqs_refl : ∀ (a : List D), D.beqs a a = true
  | [] => by simp [D.beqs]
  | a :: r => by simp [D.beqs, D.beq_refl a, D.beqs_refl r]
theorem D.beqss_refl : ∀ (a : List (List D)), D.beqss a a = true
  | [] => by simp [D.beqss]
  | a :: r => by simp [D.beqss, D.beqs_refl a, D.beqss_refl r]
end
mutual
theorem V.beq_eq : ∀ (a b : V), V.beq a b = true → a = b
  | .d a, b, h => by cases b <;> simp [V.beq] at h ⊢; exact D.beq_eq _ _ h
  | .un, b, h => by cases b <;> simp [V.beq] at h ⊢
  | .ptr .., b, h => by cases b <;> simp [V.beq] at h ⊢; simp [h]
  | .sl .., b, h => by cases b <;> simp [V.beq] at h ⊢; simp [h]
  | .so .., b, h => by cases b <;> simp [V.beq] at h ⊢; simp [h]
  | .sa .., b, h => by cases b <;> simp [V.beq] at h ⊢; simp [h]
  | .pa .., b, h => by cases b <;> simp [V.beq] at h ⊢; simp [h]
  | .fn f x y, b, h => by
    cases b <;> simp [V.beq] at h ⊢
    exact ⟨h.1.1, V.beqs_eq _ _ h.1.2, V.beqs_eq _ _ h.2⟩
  | .yl _, b, h => by cases b <;> simp [V.beq] at h ⊢; exact h
  | .ifc t v, b, h => by cases b <;> simp [V.beq] at h ⊢; exact ⟨h.1, V.beq_eq _ _ h.2⟩
  | .agg x, b, h => by cases b <;> simp [V.beq] at h ⊢; exact V.beqs_eq _ _ h
  | .tup x, b, h => by cases b <;> simp [V.beq] at h ⊢; exact V.beqs_eq _ _ h
theorem V.beqs_eq : ∀ (a b : List V), V.beqs a b = true → a = b
  | [], b, h => by cases b <;> simp [V.beqs] at h ⊢
  | a :: r, b, h => by
    cases b <;> simp [V.beqs] at h ⊢
    exact ⟨V.beq_eq _ _ h.1, V.beqs_eq _ _ h.2⟩
end
mutual
theorem V.beq_refl : ∀ (a : V), V.beq a a = true
  | .d a => by simp [V.beq, D.beq_refl a]
  | .un => by simp [V.beq]
  | .ptr .. => by simp [V.beq]
  | .sl .. => by simp [V.beq]
  | .so .. => by simp [V.beq]
  | .sa .. => by simp [V.beq]
  | .pa .. => by simp [V.beq]
  | .fn f x y => by simp [V.beq, V.beqs_refl x, V.beqs_refl y]
  | .yl _ => by simp [V.beq]
  | .ifc t v => by simp [V.beq, V.beq_refl v]
  | .agg x => by simp [V.beq, V.beqs_refl x]
  | .tup x => by simp [V.beq, V.beqs_refl x]
theorem V.beqs_refl : ∀ (a : List V), V.beqs a a = true
  | [] => by simp [V.beqs]
  | a :: r => by simp [V.beqs, V.beq_refl a, V.beqs_refl r]
end
theorem pairB_some {r : Option (Option (V × V))} (h : pairB r = true) : r = some none ∨ ∃ a, r = some (some (a, a)) := by
  match r, h with
  | some none, _ => exact .inl rfl
  | some (some (a, b)), h => exact .inr ⟨a, by rw [V.beq_eq a b h]⟩
  | none, h => cases h
theorem opAt_eq {l : List OpC} {j : Nat} {oc : OpC} (h : l[j]? = some oc) : opAt' l j = oc := by unfold opAt'; rw [List.getD_eq_getElem?_getD, h]; rfl
theorem trace_spec {E : Env} {call : CallT} {qf : List Bool} : ∀ {l : List OpC} {k : Nat} {s : S} {tr : List S}, traceC E call qf k l s = some tr →
    tr.length = l.length + 1 ∧ atS tr 0 = s ∧ ∀ j oc, l[j]? = some oc → op1 (stepM E call (qf.getD (k + j) false)) oc (atS tr j) = some (atS tr (j + 1))
  | [], k, s, tr, h => by simp only [traceC] at h; cases h; exact ⟨rfl, rfl, by simp⟩
  | o :: l, k, s, tr, h => by
    simp only [traceC] at h
    split at h
    · rename_i s1 h1
      split at h
      · rename_i tr1 h2
        cases h
        obtain ⟨g1, g2, g3⟩ := trace_spec h2
        refine ⟨by simp [g1], rfl, fun j oc hj => ?_⟩
        cases j with
        | zero =>
          simp at hj; subst hj
          have e1 : atS (s :: tr1) 0 = s := rfl
          have e2 : atS (s :: tr1) (0 + 1) = atS tr1 0 := rfl
          rw [e1, e2, g2]; exact h1
        | succ j =>
          have e1 : atS (s :: tr1) (j + 1) = atS tr1 j := rfl
          have e2 : atS (s :: tr1) (j + 1 + 1) = atS tr1 (j + 1) := rfl
          rw [e1, e2, show k + (j + 1) = k + 1 + j by omega]
          exact g3 j oc (by simpa using hj)
      · cases h
    · cases h
theorem op1_some {step : I → (Nat → V) → Mem → Option (V × Mem)} {o : OpC} {s s1 : S} (h : op1 step o s = some s1) :
    (∃ v m', wantedC o.guard s.t = some true ∧ step o.ins s.t s.m = some (v, m') ∧ s1 = ⟨putT s.t o.dst v, m'⟩) ∨ (wantedC o.guard s.t = some false ∧ s1 = ⟨putT s.t o.dst (.tup []), s.m⟩) := by
  unfold op1 at h
  split at h
  · rename_i hw
    split at h
    · rename_i v m' hd; cases h; exact .inl ⟨v, m', hw, hd, rfl⟩
    · cases h
  · rename_i hw; cases h; exact .inr ⟨hw, rfl⟩
  · cases h
end Go.Proofs.YtlenjioebdmooaaDoor.Den

namespace Go.Proofs.YtlenjioebdmooaaDoor.Den
open Go
set_option linter.unusedVariables false
set_option linter.unusedSimpArgs false
variable {P : Program}
def idOn (R : List Nat) : Nat → Option Nat := fun i => if i ∈ R then some i else none
theorem idOn_mem {R : List Nat} {i : Nat} (h : i ∈ R) : idOn R i = some i := by simp [idOn, h]
theorem idOn_some {R : List Nat} {i j : Nat} (h : idOn R i = some j) : i = j ∧ i ∈ R := by
  unfold idOn at h
  split at h
  · cases h; exact ⟨rfl, ‹_›⟩
  · cases h
mutual
theorem V.ren_on {R : List Nat} : ∀ (v : V), (∀ i, i ∈ v.ids → i ∈ R) → v.ren (idOn R) = v
  | .d _, _ => rfl
  | .un, _ => rfl
  | .ptr id n r o, h => by simp only [V.ren, idOn_mem (h id (by simp [V.ids]))]
  | .sl id n o l, h => by simp only [V.ren, idOn_mem (h id (by simp [V.ids]))]
  | .so b id n, h => by simp only [V.ren, idOn_mem (h id (by simp [V.ids]))]
  | .sa id n r o s l, h => by simp only [V.ren, idOn_mem (h id (by simp [V.ids]))]
  | .pa id n o l, h => by simp only [V.ren, idOn_mem (h id (by simp [V.ids]))]
  | .fn f a b, h => by simp only [V.ren]; rw [V.rens_on a fun i hi => h i (by simp [V.ids, hi]), V.rens_on b fun i hi => h i (by simp [V.ids, hi])]
  | .yl id, h => by simp only [V.ren, idOn_mem (h id (by simp [V.ids]))]
  | .ifc t v, h => by simp only [V.ren]; rw [V.ren_on v fun i hi => h i (by simp [V.ids, hi])]
  | .agg cs, h => by simp only [V.ren]; rw [V.rens_on cs fun i hi => h i (by simp [V.ids, hi])]
  | .tup cs, h => by simp only [V.ren]; rw [V.rens_on cs fun i hi => h i (by simp [V.ids, hi])]
theorem V.rens_on {R : List Nat} : ∀ (l : List V), (∀ i, i ∈ V.idss l → i ∈ R) → V.rens (idOn R) l = l
  | [], _ => rfl
  | v :: r, h => by simp only [V.rens]; rw [V.ren_on v fun i hi => h i (by simp [V.idss, hi]), V.rens_on r fun i hi => h i (by simp [V.idss, hi])]
end
theorem Blk.ren_on {R : List Nat} {b : Blk} (h : ∀ i, i ∈ b.ids → i ∈ R) : b.ren (idOn R) = b := by
  cases b with
  | flat e s r p => rfl
  | gen e s rows p =>
    simp only [Blk.ren]
    congr 1
    conv => rhs; rw [← List.map_id rows]
    apply List.map_congr_left
    intro r hr
    exact V.rens_on r fun i hi => h i (by simp only [Blk.ids, List.mem_flatten, List.mem_map]; exact ⟨_, ⟨r, hr, rfl⟩, hi⟩)
  | loop st pe ts ps a b p =>
    simp only [Blk.ren]
    rw [V.rens_on ts fun i hi => h i (by simpa [Blk.ids] using hi)]
theorem RelV.on {R : List Nat} {c c' : Cx} (h : Ren (idOn R) c c') {v : V} {u : Value} (hv : ∀ i, i ∈ v.ids → i ∈ R) (hr : RelV c v u) : RelV c' v u := by
  have := RelV.ren h v u hr
  rw [V.ren_on v hv] at this; exact this
theorem rid_ids {v : V} {i : Nat} (h : v.rid = some i) : i ∈ v.ids := by
  cases v <;> simp [V.rid] at h <;> subst h <;> simp [V.ids]
theorem ids_idss {E : Env} {t : Nat → V} : ∀ {l : List O} {o : O}, o ∈ l → ∀ i, i ∈ (ev E t o).ids → i ∈ V.idss (evs E t l)
  | [], _, h, _, _ => by cases h
  | x :: l, o, h, i, hi => by
    simp only [evs, List.map_cons, V.idss, List.mem_append]
    rcases List.mem_cons.1 h with e | h
    · subst e; exact .inl hi
    · exact .inr (by have := ids_idss (E := E) (t := t) h i hi; simpa [evs] using this)
theorem subL_spec {a b : List Nat} (h : subL a b = true) : ∀ i, i ∈ a → i ∈ b := fun i hi => by
  have := List.all_eq_true.1 h i hi; simpa using this
theorem disjL_spec {a b : List Nat} (h : disjL a b = true) {i : Nat} (ha : i ∈ a) (hb : i ∈ b) : False := by
  have := List.all_eq_true.1 h i ha; simp at this; exact this hb
theorem closedL_spec {m : Mem} {l : List Nat} (h : closedL m l = true) : ∀ i, i ∈ l → ∀ blk : Blk, m[i]? = some blk → ∀ k, k ∈ blk.ids → k ∈ l := fun i hi blk hb k hk => by
  have := List.all_eq_true.1 h i hi
  rw [hb] at this
  exact subL_spec this k (by simpa using hk)
theorem newIds_mem {k k' i : Nat} : i ∈ newIds k k' ↔ k ≤ i ∧ i < k' := by
  simp only [newIds, List.mem_map, List.mem_range]
  constructor
  · rintro ⟨x, h1, rfl⟩; omega
  · rintro ⟨h1, h2⟩; exact ⟨i - k, by omega, by omega⟩
structure Strict (E : Env) (q : Bool) (oc : OpC) (s s' : S) : Prop where
  lt : ∀ i, i ∈ footR E oc.ins s.t s.m → i < s.m.length
  cl : ∀ i, i ∈ footR E oc.ins s.t s.m → ∀ blk : Blk, s.m[i]? = some blk → ∀ k, k ∈ blk.ids → k ∈ footR E oc.ins s.t s.m
  ops : ∀ i, i ∈ V.idss (evs E s.t oc.ins.ops) → i ∈ footR E oc.ins s.t s.m
  call : ∀ i, i ∈ footC E oc.ins s.t (mq q s.m) → i ∈ footR E oc.ins s.t s.m
  wr : ∀ i, i ∈ footW E q oc.ins s.t s.m → i ∈ footR E oc.ins s.t s.m
  grow : s.m.length ≤ s'.m.length
  cl' : ∀ i, i ∈ footR E oc.ins s.t s.m ++ newIds s.m.length s'.m.length → ∀ blk : Blk, s'.m[i]? = some blk → ∀ k, k ∈ blk.ids → k ∈ footR E oc.ins s.t s.m ++ newIds s.m.length s'.m.length
  res : ∀ i, i ∈ (resOf oc s').ids → i ∈ footR E oc.ins s.t s.m ++ newIds s.m.length s'.m.length
  prot : ∀ (i : Nat) (blk : Blk), s.m.length ≤ i → s'.m[i]? = some blk → blk.prot = false
theorem strict_spec {E : Env} {q : Bool} {oc : OpC} {s s' : S} (h : strictB E q oc s s' = true) (hc : clsI oc.ins = 2) (hw : wantedC oc.guard s.t = some true) : Strict E q oc s s' := by
  unfold strictB at h
  simp only [hc, hw, Bool.and_eq_true] at h
  obtain ⟨⟨⟨⟨⟨⟨⟨⟨h1, h2⟩, h3⟩, h4⟩, h5⟩, h6⟩, h7⟩, h8⟩, h9⟩ := h
  refine ⟨fun i hi => ?_, closedL_spec h2, subL_spec h3, subL_spec h4, subL_spec h5, Nat.le_of_ble_eq_true h6, closedL_spec h7, subL_spec h8, fun i blk hi hb => ?_⟩
  · have := List.all_eq_true.1 h1 i hi
    rw [Nat.blt_eq] at this; exact this
  · have hm : blk ∈ s'.m.drop s.m.length := List.mem_of_getElem? (i := i - s.m.length) (by rw [List.getElem?_drop, show s.m.length + (i - s.m.length) = i by omega]; exact hb)
    have := List.all_eq_true.1 h9 blk hm
    simpa using this
theorem callV_other {br : Bool} {call : CallT} {f : FuncId} {args : List V} {m m' : Mem} {r : List V} (h : callV br call f args m = some (r, m')) {i : Nat} (hi : i ∉ reach m 1000 (V.idss (byArgs br m args)) []) (hl : i < m.length) : m'[i]? = m[i]? := by
  simp only [callV] at h
  generalize hids : reach m 1000 (V.idss (byArgs br m args)) [] = ids at h hi
  split at h
  case isFalse => cases h
  rename_i hc
  simp only [Bool.and_eq_true] at hc
  obtain ⟨mc, _, h⟩ := Option.bind_eq_some_iff.1 h
  obtain ⟨⟨r2, mc2⟩, _, h⟩ := Option.bind_eq_some_iff.1 h
  simp only at h
  split at h
  case isFalse => cases h
  obtain ⟨m1, hm1, h⟩ := Option.map_eq_some_iff.1 h
  cases h
  obtain ⟨l1, l2, _⟩ := layBack_spec hm1 hc.1
  rw [List.getElem?_append_left (by omega)]
  exact l2 i hi
theorem mkBlk_other {m : Mem} {b : Blk} {i : Nat} (hl : i < m.length) : (m ++ [b])[i]? = m[i]? := List.getElem?_append_left hl
theorem byvalS_ids (m : Mem) (v : V) (h : (∃ a b c e, v = .sl a b c e) ∨ (∃ a b c, v = .so a b c) ∨ ∃ a b c e f g, v = .sa a b c e f g) : (byvalS m v).ids = [] := by
  rcases h with ⟨a, b, c, e, rfl⟩ | ⟨a, b, c, rfl⟩ | ⟨a, b, c, e, f, g, rfl⟩
  · simp only [byvalS]
    repeat' split
    all_goals rfl
  · simp only [byvalS]
    repeat' split
    all_goals rfl
  · simp only [byvalS]
    repeat' split
    all_goals rfl
mutual
theorem byval_bids (m : Mem) : ∀ v : V, (V.byval m v).ids = v.bids
  | .sl a b c e => by rw [V.byval, V.bids]; exact byvalS_ids m _ (.inl ⟨a, b, c, e, rfl⟩)
  | .so a b c => by rw [V.byval, V.bids]; exact byvalS_ids m _ (.inr (.inl ⟨a, b, c, rfl⟩))
  | .sa a b c e f g => by rw [V.byval, V.bids]; exact byvalS_ids m _ (.inr (.inr ⟨a, b, c, e, f, g, rfl⟩))
  | .agg cs => by rw [V.byval, V.bids, V.ids]; exact byvals_bids m cs
  | .d _ => by simp [V.byval, V.bids]
  | .un => by simp [V.byval, V.bids]
  | .ptr .. => by simp [V.byval, V.bids]
  | .pa .. => by simp [V.byval, V.bids]
  | .fn .. => by simp [V.byval, V.bids]
  | .yl .. => by simp [V.byval, V.bids]
  | .ifc .. => by simp [V.byval, V.bids]
  | .tup .. => by simp [V.byval, V.bids]
theorem byvals_bids (m : Mem) : ∀ l : List V, V.idss (V.byvals m l) = V.bidss l
  | [] => by simp [V.byvals, V.bidss, V.idss]
  | v :: r => by rw [V.byvals, V.bidss, V.idss, byval_bids m v, byvals_bids m r]
end
theorem footC_eq (E : Env) (i : I) (t : Nat → V) (m : Mem) : footC E i t m = reach m 1000 (V.idss (byArgs (refI E i t) m (callArgs E i t))) [] := by unfold footC byArgs; cases refI E i t <;> simp only [byvals_bids]
theorem doI_other {E : Env} {call : CallT} {i : I} (hc : clsI i = 2) {t : Nat → V} {m m' : Mem} {v : V} (h : doI E call i t m = some (v, m')) {k : Nat} (hk : k ∉ footW E false i t m) (hC : ∀ x, x ∈ footC E i t m → x ∈ footR E i t m) (hl : k < m.length) : m'[k]? = m[k]? := by
  have hcls : pureI i = false ∧ (rdI i).isSome = false := by
    unfold clsI at hc
    split at hc
    · cases hc
    · rename_i hp
      split at hc
      · cases hc
      · rename_i hr; exact ⟨hp, by simpa using hr⟩
  have wr : ∀ b y, wrI i = some (b, y) → footW E false i t m = (ev E t y).ids → m'[k]? = m[k]? := fun b y hw hf =>
    write_other hw h (fun e => hk (by rw [hf]; exact rid_ids e)) hl
  cases i with
  | store s x y => exact wr _ _ rfl rfl
  | append e fl s b x y => exact wr _ _ rfl rfl
  | copy s x y => exact wr _ _ rfl rfl
  | call f args =>
    have hk' : k ∉ footC E (.call f args) t m := fun hm => hk (hC k hm)
    simp only [doI] at h
    generalize hf : ev E t f = g at h
    cases g with
    | fn g first cap =>
      cases g with
      | func g =>
        simp only [callOf] at h
        split at h
        · cases h
        · obtain ⟨⟨r, m1⟩, hr, h⟩ := Option.map_eq_some_iff.1 h
          cases h
          refine callV_other hr ?_ hl
          simpa only [footC_eq, callArgs, refI, hf] using hk'
      | _ => simp [callOf] at h
    | yl id =>
      simp only [callOf] at h
      obtain ⟨⟨r, m1⟩, hr, h⟩ := Option.map_eq_some_iff.1 h
      cases h
      refine callV_other hr ?_ hl
      simpa only [footC_eq, callArgs, refI, hf] using hk'
    | _ => simp [callOf] at h
  | inv tbl x args =>
    have hk' : k ∉ footC E (.inv tbl x args) t m := fun hm => hk (hC k hm)
    simp only [doI] at h
    generalize hf : ev E t x = g at h
    cases g with
    | ifc ty u =>
      simp only at h
      split at h
      · rename_i g hg
        simp only [callOf] at h
        split at h
        · cases h
        · obtain ⟨⟨r, m1⟩, hr, h⟩ := Option.map_eq_some_iff.1 h
          cases h
          refine callV_other hr ?_ hl
          simpa only [footC_eq, callArgs, refI, hf] using hk'
      · cases h
    | _ => simp at h
  | alloc e z fl =>
    simp only [doI] at h
    obtain ⟨b, hb, h⟩ := Option.map_eq_some_iff.1 h
    cases h; exact mkBlk_other hl
  | nsl e fl s =>
    simp only [doI] at h
    obtain ⟨b, hb, h⟩ := Option.map_eq_some_iff.1 h
    cases h; exact mkBlk_other hl
  | allocn ty e fl s =>
    simp only [doI] at h
    obtain ⟨b1, hb1, h⟩ := Option.bind_eq_some_iff.1 h
    obtain ⟨b, hb, h⟩ := Option.map_eq_some_iff.1 h
    cases h
    rw [mkBlk_other (by simp; omega), mkBlk_other hl]
  | box e fl s x =>
    simp only [doI] at h
    split at h
    · obtain ⟨b, hb, h⟩ := Option.map_eq_some_iff.1 h
      cases h; exact mkBlk_other hl
    · cases h
  | bslice e fl s n z ps =>
    simp only [doI] at h
    obtain ⟨rows, hr, h⟩ := Option.bind_eq_some_iff.1 h
    obtain ⟨b, hb, h⟩ := Option.map_eq_some_iff.1 h
    cases h; exact mkBlk_other hl
  | conv ck x =>
    cases ck with
    | int _ => simp [pureI] at hcls
    | same => simp [pureI] at hcls
    | ofStr e =>
      simp only [doI] at h
      split at h
      · split at h
        · cases h; exact mkBlk_other hl
        · cases h
      · cases h
    | toStr =>
      simp only [doI] at h
      split at h
      · obtain ⟨rows, hr, h⟩ := Option.bind_eq_some_iff.1 h
        obtain ⟨b, hb, h⟩ := Option.map_eq_some_iff.1 h
        cases h; rfl
      · cases h
    | mark =>
      simp only [doI] at h
      split at h
      · split at h
        · split at h
          · cases h; rfl
          · cases h
        · cases h
      · cases h
  | mksl e fl z b n c =>
    simp only [doI] at h
    split at h
    · split at h
      · obtain ⟨b, hb, h⟩ := Option.map_eq_some_iff.1 h
        cases h; exact mkBlk_other hl
      · cases h
    · cases h
  | del g x i j =>
    have hk' : k ∉ (ev E t x).ids := hk
    simp only [doI] at h
    split at h
    · unfold delV at h
      split at h
      · rename_i id n a b hx _ _
        split at h
        · split at h
          · cases h
            have hne : k ≠ id := fun e => hk' (by rw [hx, e]; simp [V.ids])
            exact set_other hne
          · cases h
        · cases h
      · cases h
    · cases h
  | appz e s b z x n =>
    have hk' : k ∉ (ev E t x).ids := hk
    simp only [doI] at h
    split at h
    · split at h
      · unfold appendZ at h
        split at h
        · rename_i nl id n hx
          obtain ⟨blk, hb, h⟩ := Option.bind_eq_some_iff.1 h
          split at h
          · split at h
            · cases h
              have hne : k ≠ id := fun e => hk' (by rw [hx, e]; simp [V.ids])
              exact set_other hne
            · cases h
          · cases h
        · cases h
      · cases h
    · cases h
  | arrP n s x =>
    simp only [doI] at h
    split at h
    · obtain ⟨b, hb, h⟩ := Option.map_eq_some_iff.1 h
      cases h; rfl
    · cases h
  | _ => first | (simp [pureI] at hcls; done) | (simp [rdI] at hcls; done)
def spB (q : Bool) (b : Blk) : Blk := match q with | true => b.setProt true | false => b
theorem mq_get (q : Bool) (m : Mem) (i : Nat) : (mq q m)[i]? = (m[i]?).map (spB q) := by
  cases q with
  | true => simp only [mq, List.getElem?_map]; rfl
  | false =>
    simp only [mq]
    cases m[i]? <;> rfl
theorem spB_spec (q : Bool) (b : Blk) : (spB q b).len = b.len ∧ (spB q b).size = b.size ∧ (spB q b).isLoop = b.isLoop ∧ (spB q b).ids = b.ids := by
  cases q with
  | true => exact ⟨(setProt_len true b).1, (setProt_len true b).2.1, (setProt_len true b).2.2.1, by cases b <;> rfl⟩
  | false => exact ⟨rfl, rfl, rfl, rfl⟩
theorem spB_true {q : Bool} (h : q = true) (b : Blk) : (spB q b).prot = true := by subst h; exact (setProt_len true b).2.2.2.1
theorem spB_false {q : Bool} (h : q = false) (b : Blk) : spB q b = b := by subst h; rfl
theorem qOf_two {q : Bool} {i : I} (h : clsI i = 2) : qOf q i = q := by simp only [qOf, h]
theorem qOf_le {q : Bool} {i : I} (h : clsI i ≠ 2) : qOf q i = false := by
  unfold qOf
  split
  · rename_i e; exact absurd e h
  · rfl
theorem stepM_some {E : Env} {call : CallT} {q : Bool} {i : I} {t : Nat → V} {m m' : Mem} {v : V} (h : stepM E call q i t m = some (v, m')) : ∃ r, doI E call i t (mq (qOf q i) m) = some (v, r) ∧ m' = rq (qOf q i) m r := by
  unfold stepM at h
  split at h
  · rename_i v' r hd; cases h; exact ⟨r, hd, rfl⟩
  · cases h
theorem soft_m {E : Env} {call : CallT} {i : I} (h : clsI i ≠ 2) {t : Nat → V} {m m' : Mem} {v : V} (hd : doI E call i t m = some (v, m')) : m' = m := by
  unfold clsI at h
  split at h
  · rename_i hp; exact (pure_doI hp hd).1
  · split at h
    · rename_i hr
      obtain ⟨⟨a, x⟩, hx⟩ := Option.isSome_iff_exists.1 hr
      exact (read_at (m' := m) hx (SameAt.refl _ _) hd).1
    · exact absurd rfl h
end Go.Proofs.YtlenjioebdmooaaDoor.Den
