/- A call, whole. -/
import Derived.Test.YtgalchmjpfmemaaDenCall
namespace Go.Proofs.Ytgalchmjpfmemaa.Den
open Go
set_option linter.unusedVariables false
set_option linter.unusedSimpArgs false

variable {P : Program}

mutual
theorem byval_ok {c : Cx} (hs : PSim P c) {bv : List Nat} : ∀ (v : V) (u : Value), (∀ i, i ∈ v.slids → i ∈ bv) → RelV c v u → RelV { c with I := immOf c bv } (v.byval c.m) u
  | .d x, u, _, h => by simp only [V.byval]; simp only [RelV] at h ⊢; exact RelD.keep (fun b o h => ⟨.inl h, fun _ h => h⟩) x u h
  | .un, u, _, h => by simp only [V.byval, RelV]
  | .ptr id n row off, u, _, h => by simp only [V.byval]; simp only [RelV] at h ⊢; exact h
  | .sl id n off len, u, hb, h => by simp only [V.byval]; exact byvalS_ok hs _ u (.inl ⟨id, n, off, len, rfl⟩) hb h
  | .sa id n row off s len, u, hb, h => by simp only [V.byval]; exact byvalS_ok hs _ u (.inr ⟨id, n, row, off, s, len, rfl⟩) hb h
  | .pa id n off len, u, _, h => by simp only [V.byval]; simp only [RelV] at h ⊢; exact h
  | .fn f a b, u, _, h => by
    simp only [V.byval]
    exact RelV.mono (c' := { c with I := immOf c bv }) ⟨fun b o h => ⟨.inl h, fun _ h => h⟩, (St.refl c).blk⟩ _ _ h
  | .yl id, u, _, h => by simp only [V.byval]; simp only [RelV] at h ⊢; exact h
  | .ifc t x, u, _, h => by
    simp only [V.byval]
    exact RelV.mono (c' := { c with I := immOf c bv }) ⟨fun b o h => ⟨.inl h, fun _ h => h⟩, (St.refl c).blk⟩ _ _ h
  | .agg cs, u, hb, h => by
    simp only [V.byval]
    simp only [RelV] at h ⊢
    obtain ⟨a, e, h1, h2⟩ := h
    exact ⟨a, e, byvals_ok hs cs a (fun i hi => hb i (by simpa [V.slids] using hi)) h1, h2⟩
  | .tup vs, u, _, h => by
    simp only [V.byval]
    exact RelV.mono (c' := { c with I := immOf c bv }) ⟨fun b o h => ⟨.inl h, fun _ h => h⟩, (St.refl c).blk⟩ _ _ h
theorem byvals_ok {c : Cx} (hs : PSim P c) {bv : List Nat} : ∀ (l : List V) (us : List Value), (∀ i, i ∈ V.slidss l → i ∈ bv) → RelVs c l us → RelVs { c with I := immOf c bv } (V.byvals c.m l) us
  | [], us, _, h => by simp only [V.byvals, RelVs] at h ⊢; exact h
  | v :: l, us, hb, h => by
    simp only [V.byvals, RelVs] at h ⊢
    obtain ⟨u, us', e, h1, h2⟩ := h
    exact ⟨u, us', e, byval_ok hs v u (fun i hi => hb i (by simp [V.slidss, hi])) h1, byvals_ok hs l us' (fun i hi => hb i (by simp [V.slidss, hi])) h2⟩
end

theorem idxFrom_some : ∀ {l : List Nat} {k i j : Nat}, idxFrom k l i = some j → ∃ t, j = k + t ∧ l[t]? = some i
  | [], k, i, j, h => by simp [idxFrom] at h
  | x :: l, k, i, j, h => by
    simp only [idxFrom] at h
    split at h
    · rename_i e; cases h; exact ⟨0, by simp, by simp [e]⟩
    · obtain ⟨t, h1, h2⟩ := idxFrom_some h
      exact ⟨t + 1, by omega, by simpa using h2⟩

theorem idxOf_some {l : List Nat} {i j : Nat} (h : idxOf l i = some j) : l[j]? = some i := by
  obtain ⟨t, h1, h2⟩ := idxFrom_some h
  rw [show j = t by omega]; exact h2

theorem distinct_cons {x : Nat} {l : List Nat} (h : distinct (x :: l) = true) : x ∉ l ∧ distinct l = true := by
  simp [distinct] at h; exact h

theorem idxFrom_of : ∀ {l : List Nat} {k t i : Nat}, distinct l = true → l[t]? = some i → idxFrom k l i = some (k + t)
  | [], k, t, i, _, h => by simp at h
  | x :: l, k, t, i, hd, h => by
    obtain ⟨h1, h2⟩ := distinct_cons hd
    simp only [idxFrom]
    cases t with
    | zero => simp at h; simp [h]
    | succ t =>
      have hm : l[t]? = some i := by simpa using h
      have hne : x ≠ i := fun e => h1 (e ▸ List.mem_of_getElem? hm)
      rw [if_neg hne, idxFrom_of h2 hm]; congr 1; omega

theorem idxOf_of {l : List Nat} {t i : Nat} (hd : distinct l = true) (h : l[t]? = some i) : idxOf l i = some t := by
  have := idxFrom_of (k := 0) hd h; simpa [idxOf] using this

theorem idxOf_none {l : List Nat} {i : Nat} (h : idxOf l i = none) (hd : distinct l = true) : i ∉ l := fun hm => by
  obtain ⟨t, ht, e⟩ := List.getElem_of_mem hm
  have := idxOf_of hd (show l[t]? = some i by rw [List.getElem?_eq_getElem ht, e])
  rw [h] at this; cases this

theorem pickBlks_spec {m : Mem} {ρ : Nat → Option Nat} : ∀ {ids : List Nat} {mc : Mem}, pickBlks m ρ ids = some mc → mc.length = ids.length ∧ ∀ t i : Nat, ids[t]? = some i → ∃ b, m[i]? = some b ∧ mc[t]? = some (b.ren ρ)
  | [], mc, h => by simp [pickBlks] at h; subst h; simp
  | x :: ids, mc, h => by
    simp only [pickBlks] at h
    cases h1 : m[x]? with
    | none => simp [h1] at h
    | some b =>
      cases h2 : pickBlks m ρ ids with
      | none => simp [h1, h2] at h
      | some l =>
        simp [h1, h2] at h; subst h
        obtain ⟨g1, g2⟩ := pickBlks_spec h2
        refine ⟨by simp [g1], fun t i ht => ?_⟩
        cases t with
        | zero => simp at ht; subst ht; exact ⟨b, h1, by simp⟩
        | succ t => simpa using g2 t i (by simpa using ht)

theorem layBack_spec {mc : Mem} {ρ : Nat → Option Nat} : ∀ {ids : List Nat} {j : Nat} {m m1 : Mem}, layBack mc ρ j ids m = some m1 → distinct ids = true →
    m1.length = m.length ∧ (∀ i, i ∉ ids → m1[i]? = m[i]?) ∧ ∀ t i : Nat, ids[t]? = some i → i < m.length → ∃ b, mc[j + t]? = some b ∧ m1[i]? = some (b.ren ρ)
  | [], j, m, m1, h, _ => by simp [layBack] at h; subst h; simp
  | x :: ids, j, m, m1, h, hd => by
    obtain ⟨d1, d2⟩ := distinct_cons hd
    simp only [layBack] at h
    cases hb : mc[j]? with
    | none => simp [hb] at h
    | some b =>
      simp only [hb] at h
      obtain ⟨g1, g2, g3⟩ := layBack_spec h d2
      refine ⟨by simpa using g1, fun i hi => ?_, fun t i ht hlt => ?_⟩
      · rw [g2 i (fun h => hi (by simp [h]))]
        have : x ≠ i := fun e => hi (by simp [e])
        simp [List.getElem?_set, this]
      · cases t with
        | zero =>
          simp at ht; subst ht
          refine ⟨b, by simpa using hb, ?_⟩
          rw [g2 x d1]; simp [List.getElem?_set, hlt]
        | succ t =>
          obtain ⟨b', q1, q2⟩ := g3 t i (by simpa using ht) (by simpa using hlt)
          exact ⟨b', by rw [show j + (t + 1) = j + 1 + t by omega]; exact q1, q2⟩

def packR : List Value → Value
  | [v] => v
  | vs => .tuple ⟨vs⟩

theorem pack_rel {c : Cx} {r : List V} {rv : List Value} (h : RelVs c r rv) : RelV c (packV r) (packR rv) := by
  match r, rv, h with
  | [], rv, h => simp only [RelVs] at h; subst h; simp only [packV, packR, RelV]; exact ⟨[], rfl, by simp [RelVs]⟩
  | [v], rv, h =>
    simp only [RelVs] at h
    obtain ⟨u, us, rfl, h1, rfl⟩ := h
    exact h1
  | v :: v' :: r, rv, h =>
    have h0 := h
    simp only [RelVs] at h
    obtain ⟨u, us, rfl, h1, u', us', rfl, h2, h3⟩ := h
    simp only [packV, packR, RelV]
    exact ⟨_, rfl, h0⟩

/-- Can the function be entered? -/
def Enterable (P : Program) (f : FuncId) : Prop := ∃ fn, P.funcs[f]? = some fn ∧ (fn.name == "runtime.NumGoroutine") = false ∧ fn.body.isSome = true

/-- What a call leaves. -/
def Left (P : Program) (c : Cx) (r : List V) (m' : Mem) (e : Ending) (w' : World) : Prop :=
  ∃ rv c', e = .returned (packR rv) ∧ c'.w = w' ∧ c'.m = m' ∧ Post P c c' ∧ RelVs c' r rv

def CallOK (P : Program) (E : Env) (call : CallT) : Prop :=
  ∀ f args m r m', call f args m = some (r, m') → ∀ (c : Cx) (vals : List Value), PSim P c → c.m = m → GlOK E c → RelVs c args vals →
    Enterable P f ∧ Calls P f ⟨vals⟩ c.w (Left P c r m')

/-- What the callee is handed. -/
def cxIn (c : Cx) (ids bv : List Nat) (mc : Mem) : Cx := ⟨fun k => (ids[k]?).bind c.φ, mc, immOf c bv, c.w⟩

/-- What comes back. -/
def cxOut (c c2 : Cx) (ids : List Nat) (m' : Mem) : Cx :=
  ⟨fun i => if i < c.m.length then (match idxOf ids i with | some j => c2.φ j | none => c.φ i) else c2.φ (i - c.m.length + ids.length), m', c.I, c2.w⟩

theorem immOf_nil (c : Cx) : immOf c [] = c.I := by funext b o; simp [immOf]

theorem callV_ok {E : Env} {call : CallT} (hcall : CallOK P E call) {c : Cx} (hs : PSim P c) (hg : GlOK E c) {f : FuncId} {args : List V} {vals : List Value} (ha : RelVs c args vals) {r : List V} {m' : Mem} (h : callV call f args c.m = some (r, m')) :
    Enterable P f ∧ Calls P f ⟨vals⟩ c.w (Left P c r m') := by
  simp only [callV] at h
  generalize hbv : V.slidss args = bv at h
  generalize hids : reach c.m 1000 (V.idss (V.byvals c.m args)) [] = ids at h
  split at h
  case isFalse => cases h
  rename_i hcond
  simp only [Bool.and_eq_true] at hcond
  obtain ⟨hdist, hdisj⟩ := hcond
  obtain ⟨mc, hmc, h⟩ := Option.bind_eq_some_iff.1 h
  obtain ⟨⟨r2, mc2⟩, hr2, h⟩ := Option.bind_eq_some_iff.1 h
  simp only at h
  split at h
  case isFalse => cases h
  rename_i hpure
  obtain ⟨m1, hm1, h⟩ := Option.map_eq_some_iff.1 h
  cases h
  obtain ⟨p1, p2⟩ := pickBlks_spec hmc
  obtain ⟨l1, l2, l3⟩ := layBack_spec hm1 hdist
  -- the ids are places of the memory
  have hin : ∀ t i : Nat, ids[t]? = some i → i < c.m.length := fun t i ht => by
    obtain ⟨b, hb, _⟩ := p2 t i ht; exact (List.getElem?_eq_some_iff.1 hb).1
  have hbvids : ∀ i, i ∈ bv → i ∉ ids := fun i hi hm => by
    have := List.all_eq_true.1 hdisj i hi
    simp at this; exact this hm
  -- the callee's context
  let cc := cxIn c ids bv mc
  have cφ : ∀ k B, cc.φ k = some B → ∃ i, ids[k]? = some i ∧ c.φ i = some B := fun k B hk => by
    simp only [cc, cxIn] at hk
    obtain ⟨i, h1, h2⟩ := Option.bind_eq_some_iff.1 hk
    exact ⟨i, h1, h2⟩
  have hren : Ren (idxOf ids) { c with I := immOf c bv } cc := by
    refine ⟨fun b o h => ⟨h, fun _ h => h⟩, fun i j hij blk hb => ?_⟩
    have ht := idxOf_some hij
    obtain ⟨b, q1, q2⟩ := p2 j i ht
    rw [hb] at q1; cases q1
    obtain ⟨r1, r2, r3, _, _⟩ := ren_len (idxOf ids) blk
    exact ⟨_, q2, r1, r2, r3, fun B hB => ⟨by simp only [cc, cxIn, ht, Option.bind_some]; exact hB, fun _ _ h => h⟩⟩
  have noIc : ∀ k B, cc.φ k = some B → ∀ o, ¬ cc.I B o := fun k B hk o hI => by
    obtain ⟨i, hi, hφ⟩ := cφ k B hk
    rcases hI with hI | ⟨id, hid, blk, hb, hφ', _⟩
    · exact hs.noI hφ o hI
    · have e := hs.inj i id B hφ hφ'
      subst e
      exact hbvids i hid (List.mem_of_getElem? hi)
  have hsI : ∀ (i : Nat) (blk : Blk) (B : Nat), c.m[i]? = some blk → c.φ i = some B → i ∈ ids → BlkOK P cc B (blk.ren (idxOf ids)) := fun i blk B hb hφ hi => by
    have hk := hs.blk i blk B hb hφ
    obtain ⟨t, ht, e⟩ := List.getElem_of_mem hi
    have htt : ids[t]? = some i := by rw [List.getElem?_eq_getElem ht, e]
    have hkc : cc.φ t = some B := by simp only [cc, cxIn, htt, Option.bind_some]; exact hφ
    -- grow what is unchanging, then rename
    have hren0 : Ren (idxOf ids) c cc := ⟨fun b o h => ⟨.inl h, fun _ h => h⟩, hren.blk⟩
    exact hk.ren hren0 (noIc t B hkc) (fun x hx => hx)
  have hcc : PSim P cc := by
    refine ⟨fun k blk B hk hφ => ?_, fun i j B hi hj => ?_, fun i B hi => ?_, fun b o hI => ?_⟩
    · obtain ⟨i, hi, hφ'⟩ := cφ k B hφ
      obtain ⟨b, q1, q2⟩ := p2 k i hi
      have : blk = b.ren (idxOf ids) := by simp only [cc, cxIn] at hk; rw [hk] at q2; exact Option.some.inj q2
      subst this
      exact hsI i b B q1 hφ' (List.mem_of_getElem? hi)
    · obtain ⟨i', h1, h2⟩ := cφ i B hi
      obtain ⟨j', h3, h4⟩ := cφ j B hj
      have e := hs.inj i' j' B h2 h4
      subst e
      have e1 := idxOf_of hdist h1
      have e2 := idxOf_of hdist h3
      rw [e1] at e2; exact Option.some.inj e2
    · obtain ⟨i', h1, _⟩ := cφ i B hi
      simp only [cc, cxIn, p1]
      exact (List.getElem?_eq_some_iff.1 h1).1
    · rcases hI with hI | ⟨id, hid, blk, hb, hφ', _⟩
      · exact hs.imm b o hI
      · exact hs.lt hφ'
  have hgc : GlOK E cc := fun g cs hgl => RelD.keep (fun b o h => ⟨.inl h, fun _ h => h⟩) _ _ (hg g cs hgl)
  have hargs : RelVs cc (V.rens (idxOf ids) (V.byvals c.m args)) vals := RelVs.ren hren _ _ (byvals_ok hs args vals (by rw [hbv]; exact fun i h => h) ha)
  obtain ⟨hent, hcalls⟩ := hcall f _ mc r2 mc2 hr2 cc vals hcc rfl hgc hargs
  refine ⟨hent, Calls.mono hcalls ?_⟩
  rintro e w' ⟨rv, c2, rfl, rfl, hm2, hpost, hrv⟩
  -- back
  have hk2 : ids.length ≤ mc2.length := by
    rcases Nat.eq_zero_or_pos ids.length with h0 | h0
    · omega
    · obtain ⟨i, hi⟩ : ∃ i, ids[ids.length - 1]? = some i := ⟨_, List.getElem?_eq_getElem (by omega)⟩
      obtain ⟨b, hb, _⟩ := l3 _ i hi (hin _ i hi)
      have := (List.getElem?_eq_some_iff.1 hb).1
      omega
  let c2' : Cx := { c2 with I := c.I }
  have noI2 : ∀ k B, c2.φ k = some B → ∀ o, ¬ c.I B o := fun k B hk o hI => by
    have : c2.I B o := by rw [hpost.imm]; exact .inl hI
    exact hpost.sim.noI hk o this
  have hblk2 : ∀ (k : Nat) (blk : Blk) (B : Nat), c2.m[k]? = some blk → c2.φ k = some B → BlkOK P c2' B blk := fun k blk B hb hφ => by
    have hk := hpost.sim.blk k blk B hb hφ
    simp only [Bool.or_eq_true, Bool.and_eq_true] at hpure
    rcases hpure with h0 | ⟨_, hall⟩
    · have : bv = [] := by simpa using h0
      have e : c2' = c2 := by
        simp only [c2']; rw [show c.I = c2.I by rw [hpost.imm]; simp only [cc, cxIn]; rw [this, immOf_nil]]
      rw [e]; exact hk
    · rw [hm2] at hb
      exact hk.noI c.I (List.all_eq_true.1 hall blk (List.mem_of_getElem? hb)) (noI2 k B hφ)
  have hrv2 : RelVs c2' r2 rv := by
    simp only [Bool.or_eq_true, Bool.and_eq_true] at hpure
    rcases hpure with h0 | ⟨hno, _⟩
    · have : bv = [] := by simpa using h0
      have e : c2' = c2 := by
        simp only [c2']; rw [show c.I = c2.I by rw [hpost.imm]; simp only [cc, cxIn]; rw [this, immOf_nil]]
      rw [e]; exact hrv
    · exact RelVs.noI c.I _ _ hno hrv
  let M' : Mem := m1 ++ restBlks mc2 (backRen ids c.m.length) ids.length
  let c' : Cx := cxOut c c2 ids M'
  have hM1 : ∀ i, i < c.m.length → M'[i]? = m1[i]? := fun i hi => by simp only [M']; rw [List.getElem?_append_left (by omega)]
  have hM2 : ∀ k, M'[c.m.length + k]? = (mc2[ids.length + k]?).map (Blk.ren (backRen ids c.m.length)) := fun k => by
    simp only [M', restBlks]
    rw [List.getElem?_append_right (by omega)]
    simp [l1]
  have wr : ∀ b, Wr cc b → Wr c b := fun b ⟨k, blk, h1, h2, h3⟩ => by
    obtain ⟨i, hi, hφ⟩ := cφ k b h3
    obtain ⟨b0, q1, q2⟩ := p2 k i hi
    have : blk = b0.ren (idxOf ids) := by simp only [cc, cxIn] at h1; rw [h1] at q2; exact Option.some.inj q2
    subst this
    exact ⟨i, b0, q1, by rw [← (ren_len (idxOf ids) b0).2.2.2.1]; exact h2, hφ⟩
  have kept : ∀ i B, c.φ i = some B → i ∉ ids → ∀ x, c.w.heap[B]? = some x → c2.w.heap[B]? = some x := fun i B hφ hi x hx => by
    refine hpost.keeps.heap B x hx fun hw => ?_
    obtain ⟨k, blk, h1, h2, h3⟩ := hw
    obtain ⟨i', hi', hφ'⟩ := cφ k B h3
    have e := hs.inj i i' B hφ hφ'
    subst e
    exact hi (List.mem_of_getElem? hi')
  have φin : ∀ i t, i < c.m.length → ids[t]? = some i → c'.φ i = c2.φ t := fun i t hi ht => by
    simp only [c', cxOut, hi, if_true, idxOf_of hdist ht]
  have φout : ∀ i, i < c.m.length → i ∉ ids → c'.φ i = c.φ i := fun i hi hn => by
    simp only [c', cxOut, hi, if_true]
    cases hx : idxOf ids i with
    | none => rfl
    | some j => exact absurd (List.mem_of_getElem? (idxOf_some hx)) hn
  have φnew : ∀ k, c'.φ (c.m.length + k) = c2.φ (ids.length + k) := fun k => by
    simp only [c', cxOut]
    rw [if_neg (by omega)]
    congr 1; omega
  have hkeepI : KeepI c.I c.I c.w c2.w := fun b o hI => ⟨hI, fun u hu => by
    have hb := hs.imm b o hI
    refine cell?_of_heap (fun x hx => hpost.keeps.heap b x hx fun hw => ?_) hu
    obtain ⟨k, blk, h1, h2, h3⟩ := hw
    exact noIc k b h3 o (.inl hI)⟩
  have hst : St c c' := by
    refine ⟨hkeepI, fun i blk hb => ?_⟩
    have hi : i < c.m.length := (List.getElem?_eq_some_iff.1 hb).1
    by_cases hm : i ∈ ids
    · obtain ⟨t, ht, e⟩ := List.getElem_of_mem hm
      have htt : ids[t]? = some i := by rw [List.getElem?_eq_getElem ht, e]
      obtain ⟨b0, q1, q2⟩ := p2 t i htt
      rw [hb] at q1; cases q1
      obtain ⟨b2, g1, g2, g3, g4⟩ := hpost.st.blk t (blk.ren (idxOf ids)) q2
      obtain ⟨b3, s1, s2⟩ := l3 t i htt hi
      rw [Nat.zero_add] at s1
      rw [hm2] at g1
      rw [s1] at g1; cases g1
      obtain ⟨r1, r2', r3, _, _⟩ := ren_len (idxOf ids) blk
      obtain ⟨o1, o2, o3, _, _⟩ := ren_len (backRen ids c.m.length) b2
      refine ⟨_, by show M'[i]? = _; rw [hM1 i hi]; exact s2, by rw [o1]; omega, fun hl => ?_, fun he => ?_⟩
      · have := g3 (by rw [r3]; exact hl)
        exact ⟨by rw [o3]; exact this.1, by rw [o1]; omega⟩
      · have := g4 (by omega)
        refine ⟨by rw [o2, this.1, r2'], fun B hB => ?_⟩
        have hB' : cc.φ t = some B := by simp only [cc, cxIn, htt, Option.bind_some]; exact hB
        obtain ⟨k1, k2⟩ := this.2 B hB'
        exact ⟨by rw [φin i t hi htt]; exact k1, k2⟩
    · refine ⟨blk, by show M'[i]? = _; rw [hM1 i hi, l2 i hm]; exact hb, Nat.le_refl _, fun hl => ⟨hl, rfl⟩, fun _ => ⟨rfl, fun B hB => ⟨by rw [φout i hi hm]; exact hB, fun e n hsh => ?_⟩⟩⟩
      exact shape?_of_heap (kept i B hB hm) hsh
  have hren2 : Ren (backRen ids c.m.length) c2' c' := by
    refine ⟨fun b o h => ⟨h, fun _ h => h⟩, fun i j hij blk hb => ?_⟩
    have hb' : mc2[i]? = some blk := by rw [← hm2]; exact hb
    simp only [backRen] at hij
    obtain ⟨o1, o2, o3, _, _⟩ := ren_len (backRen ids c.m.length) blk
    split at hij
    · rename_i hlt
      have hj := hin i j hij
      obtain ⟨b3, s1, s2⟩ := l3 i j hij hj
      rw [Nat.zero_add, hb'] at s1; cases s1
      exact ⟨_, by show M'[j]? = _; rw [hM1 j hj]; exact s2, o1, o2, o3, fun B hB => ⟨by rw [φin j i hj hij]; exact hB, fun _ _ h => h⟩⟩
    · rename_i hge
      cases hij
      refine ⟨blk.ren (backRen ids c.m.length), ?_, o1, o2, o3, fun B hB => ⟨?_, fun _ _ h => h⟩⟩
      · show M'[_]? = _
        rw [hM2, show ids.length + (i - ids.length) = i by omega, hb']; rfl
      · rw [φnew, show ids.length + (i - ids.length) = i by omega]; exact hB
  -- what a place of the new context stands for
  have hφ' : ∀ i B, c'.φ i = some B → (∃ t, i < c.m.length ∧ ids[t]? = some i ∧ c2.φ t = some B) ∨ (i < c.m.length ∧ i ∉ ids ∧ c.φ i = some B) ∨ (∃ k, i = c.m.length + k ∧ c2.φ (ids.length + k) = some B) := fun i B hi => by
    by_cases hlt : i < c.m.length
    · by_cases hm : i ∈ ids
      · obtain ⟨t, ht, e⟩ := List.getElem_of_mem hm
        have htt : ids[t]? = some i := by rw [List.getElem?_eq_getElem ht, e]
        rw [φin i t hlt htt] at hi
        exact .inl ⟨t, hlt, htt, hi⟩
      · rw [φout i hlt hm] at hi
        exact .inr (.inl ⟨hlt, hm, hi⟩)
    · obtain ⟨k, rfl⟩ : ∃ k, i = c.m.length + k := ⟨i - c.m.length, by omega⟩
      rw [φnew] at hi
      exact .inr (.inr ⟨k, rfl, hi⟩)
  -- a callee's place and one that it didn't get stand for different blocks
  have apart : ∀ k i B, c2.φ k = some B → c.φ i = some B → i ∉ ids → False := fun k i B hk hi hm => by
    rcases hpost.keeps.fresh k B hk with h1 | h1
    · obtain ⟨i', hi', hφ''⟩ := cφ k B h1
      have e := hs.inj i i' B hi hφ''
      subst e
      exact hm (List.mem_of_getElem? hi')
    · have := hs.lt hi
      have e : cc.w = c.w := rfl
      rw [e] at h1; omega
  refine ⟨rv, c', rfl, rfl, rfl, ⟨hst, ⟨fun i blk B hb hφ => ?_, fun i j B hi hj => ?_, fun i B hi => ?_, fun b o hI => ?_⟩, ⟨hpost.keeps.size, hpost.keeps.os, hpost.keeps.tape, hpost.keeps.output, fun b o hx hw => ?_, fun i B hi => ?_, fun i blk hb => ?_, fun i blk hb hpr => ?_, fun i B hi hlt => ?_⟩, rfl⟩, RelVs.ren hren2 _ _ hrv2⟩
  · have hb' : M'[i]? = some blk := hb
    rcases hφ' i B hφ with ⟨t, hlt, ht, h2⟩ | ⟨hlt, hm, h2⟩ | ⟨k, rfl, h2⟩
    · obtain ⟨b3, s1, s2⟩ := l3 t i ht hlt
      rw [hM1 i hlt, s2] at hb'; cases hb'
      rw [Nat.zero_add] at s1
      exact (hblk2 t b3 B (by rw [hm2]; exact s1) h2).ren hren2 (noI2 t B h2) (fun x hx => hx)
    · rw [hM1 i hlt, l2 i hm] at hb'
      exact BlkOK.mono hst rfl (kept i B h2 hm) (hs.blk i blk B hb' h2)
    · rw [hM2] at hb'
      obtain ⟨b3, s1, rfl⟩ := Option.map_eq_some_iff.1 hb'
      exact (hblk2 _ b3 B (by rw [hm2]; exact s1) h2).ren hren2 (noI2 _ B h2) (fun x hx => hx)
  · rcases hφ' i B hi with ⟨t, hlt, ht, h2⟩ | ⟨hlt, hm, h2⟩ | ⟨k, rfl, h2⟩ <;> rcases hφ' j B hj with ⟨t', hlt', ht', h2'⟩ | ⟨hlt', hm', h2'⟩ | ⟨k', rfl, h2'⟩
    · have e := hpost.sim.inj t t' B h2 h2'
      subst e; rw [ht] at ht'; exact Option.some.inj ht'
    · exact (apart t j B h2 h2' hm').elim
    · have e := hpost.sim.inj t _ B h2 h2'
      have := (List.getElem?_eq_some_iff.1 ht).1
      omega
    · exact (apart t' i B h2' h2 hm).elim
    · exact hs.inj i j B h2 h2'
    · exact (apart _ i B h2' h2 hm).elim
    · have e := hpost.sim.inj _ t' B h2 h2'
      have := (List.getElem?_eq_some_iff.1 ht').1
      omega
    · exact (apart _ j B h2 h2' hm').elim
    · have e := hpost.sim.inj _ _ B h2 h2'
      omega
  · show i < M'.length
    have hMl : M'.length = c.m.length + (mc2.length - ids.length) := by simp [M', restBlks, l1]
    rcases hφ' i B hi with ⟨t, hlt, _⟩ | ⟨hlt, _⟩ | ⟨k, rfl, h2⟩
    · omega
    · omega
    · have := hpost.sim.dom _ B h2
      rw [hm2] at this
      omega
  · exact Nat.lt_of_lt_of_le (hs.imm b o hI) hpost.keeps.size
  · exact hpost.keeps.heap b o hx fun hw' => hw (wr b hw')
  · rcases hφ' i B hi with ⟨t, hlt, ht, h2⟩ | ⟨hlt, hm, h2⟩ | ⟨k, rfl, h2⟩
    · rcases hpost.keeps.fresh t B h2 with h1 | h1
      · obtain ⟨i', hi', hφ''⟩ := cφ t B h1
        rw [ht] at hi'; cases hi'
        exact .inl hφ''
      · exact .inr h1
    · exact .inl h2
    · rcases hpost.keeps.fresh _ B h2 with h1 | h1
      · obtain ⟨i', hi', hφ''⟩ := cφ _ B h1
        have := (List.getElem?_eq_some_iff.1 hi').1
        omega
      · exact .inr h1
  · have hi : i < c.m.length := (List.getElem?_eq_some_iff.1 hb).1
    by_cases hm : i ∈ ids
    · obtain ⟨t, ht, e⟩ := List.getElem_of_mem hm
      have htt : ids[t]? = some i := by rw [List.getElem?_eq_getElem ht, e]
      obtain ⟨b0, q1, q2⟩ := p2 t i htt
      rw [hb] at q1; cases q1
      obtain ⟨b2, g1, g2⟩ := hpost.keeps.prot t (blk.ren (idxOf ids)) q2
      obtain ⟨b3, s1, s2⟩ := l3 t i htt hi
      rw [Nat.zero_add] at s1
      rw [hm2, s1] at g1; cases g1
      exact ⟨_, by show M'[i]? = _; rw [hM1 i hi]; exact s2, by rw [(ren_len _ b2).2.2.2.1, g2, (ren_len _ blk).2.2.2.1]⟩
    · exact ⟨blk, by show M'[i]? = _; rw [hM1 i hi, l2 i hm]; exact hb, rfl⟩
  · have hi : i < c.m.length := (List.getElem?_eq_some_iff.1 hb).1
    by_cases hm : i ∈ ids
    · obtain ⟨t, ht, e⟩ := List.getElem_of_mem hm
      have htt : ids[t]? = some i := by rw [List.getElem?_eq_getElem ht, e]
      obtain ⟨b0, q1, q2⟩ := p2 t i htt
      rw [hb] at q1; cases q1
      obtain ⟨n1, n2, n3, n4, _⟩ := ren_len (idxOf ids) blk
      obtain ⟨b2, g1, g2, g3, g4⟩ := hpost.keeps.same t (blk.ren (idxOf ids)) q2 (by rw [n4]; exact hpr)
      obtain ⟨b3, s1, s2⟩ := l3 t i htt hi
      rw [Nat.zero_add] at s1
      rw [hm2, s1] at g1
      have e := Option.some.inj g1
      subst e
      obtain ⟨o1, o2, o3, _, _⟩ := ren_len (backRen ids c.m.length) b3
      exact ⟨_, by show M'[i]? = _; rw [hM1 i hi]; exact s2, by rw [o1, g2, n1], by rw [o2, g3, n2], by rw [o3, g4, n3]⟩
    · exact ⟨blk, by show M'[i]? = _; rw [hM1 i hi, l2 i hm]; exact hb, rfl, rfl, rfl⟩
  · rcases hφ' i B hi with ⟨t, _, ht, h2⟩ | ⟨_, hm, h2⟩ | ⟨k, e, h2⟩
    · obtain ⟨b0, q1, q2⟩ := p2 t i ht
      obtain ⟨B0, hB0⟩ := hpost.keeps.old t B h2 (List.getElem?_eq_some_iff.1 q2).1
      obtain ⟨i', hi', hφ''⟩ := cφ t B0 hB0
      rw [ht] at hi'; cases hi'
      exact ⟨B0, hφ''⟩
    · exact ⟨B, h2⟩
    · have : i < c.m.length := hlt
      omega

end Go.Proofs.Ytgalchmjpfmemaa.Den
