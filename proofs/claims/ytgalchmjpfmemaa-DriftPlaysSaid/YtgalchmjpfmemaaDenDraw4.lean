/- Regions that draw their order: sound. -/
import Derived.Test.YtgalchmjpfmemaaDenDraw3
namespace Go.Proofs.Ytgalchmjpfmemaa.Den
open Go
set_option linter.unusedVariables false
set_option linter.unusedSimpArgs false

variable {P : Program}

theorem lower_spec {ops : Array Oper} (h : lower ops = true) {i : Nat} {o : Oper} (ho : ops[i]? = some o) {e : Edge} (he : e ∈ o.after) (hb : Region.binds .any e = true) : e.on < i := by
  unfold lower at h
  rw [List.all_eq_true] at h
  have hi : i < ops.size := (Array.getElem?_eq_some_iff.1 ho).1
  have ho' : ops.toList[i]? = some o := by simpa using ho
  have hm : (o, i) ∈ ops.toList.zipIdx := by
    rw [List.mem_zipIdx_iff_getElem?]; exact ho'
  have := h _ hm
  simp only [Array.all_eq_true_iff_forall_mem] at this
  have := this e he
  simpa [hb] using this

/-- How many are listed. -/
def cnt (L : Nat → Bool) : Nat → Nat
  | 0 => 0
  | n + 1 => cnt L n + (if L n then 1 else 0)

theorem cnt_le (L : Nat → Bool) : ∀ n, cnt L n ≤ n
  | 0 => Nat.le_refl _
  | n + 1 => by have := cnt_le L n; simp only [cnt]; split <;> omega

theorem cnt_all {L : Nat → Bool} : ∀ {n : Nat}, (∀ i, i < n → L i = true) → cnt L n = n
  | 0, _ => rfl
  | n + 1, h => by simp only [cnt]; rw [cnt_all fun i hi => h i (by omega), h n (by omega)]; rfl

theorem cnt_lt {L : Nat → Bool} {i : Nat} : ∀ {n : Nat}, i < n → L i = false → cnt L n < n
  | 0, h, _ => by omega
  | n + 1, h, hi => by
    simp only [cnt]
    by_cases e : i = n
    · subst e; rw [hi]; have := cnt_le L i; simp; omega
    · have := cnt_lt (L := L) (n := n) (by omega) hi; split <;> omega

theorem cnt_congr {L L' : Nat → Bool} : ∀ {n : Nat}, (∀ i, i < n → L i = L' i) → cnt L n = cnt L' n
  | 0, _ => rfl
  | n + 1, h => by simp only [cnt]; rw [cnt_congr fun i hi => h i (by omega), h n (by omega)]

theorem cnt_set {L : Nat → Bool} {j : Nat} (hL : L j = false) : ∀ {n : Nat}, j < n → cnt (fun i => L i || i == j) n = cnt L n + 1
  | 0, h => by omega
  | n + 1, h => by
    simp only [cnt]
    by_cases e : j = n
    · subst e
      have : cnt (fun i => L i || i == j) j = cnt L j := cnt_congr fun i hi => by
        have : ¬ (i = j) := by omega
        simp [this]
      simp only [this, hL]; simp
    · rw [cnt_set hL (by omega)]
      have : ¬ (n = j) := by omega
      simp only [this, beq_iff_eq, Bool.or_eq_true, or_false]
      split <;> omega

def lst (listed : Array Bool) : Nat → Bool := fun i => listed.getD i false

theorem lst_set {listed : Array Bool} {j : Nat} (hj : j < listed.size) : lst (listed.setIfInBounds j true) = fun i => lst listed i || i == j := by
  funext i
  simp only [lst, Array.getD_eq_getD_getElem?]
  by_cases e : i = j
  · subst e; rw [Array.getElem?_setIfInBounds_self_of_lt hj]; simp
  · rw [Array.getElem?_setIfInBounds_ne (Ne.symm e)]; simp [e]

theorem ready_spec {ops : Array Oper} {listed : Array Bool} (hsz : listed.size = ops.size) {j : Nat} : j ∈ Region.ready .any ops listed ↔
    lst listed j = false ∧ ∃ o, ops[j]? = some o ∧ ∀ e, e ∈ o.after → Region.binds .any e = true → lst listed e.on = true := by
  rw [mem_ready]
  constructor
  · rintro ⟨h0, o, ho, h⟩
    have hj : j < listed.size := by rw [hsz]; exact (Array.getElem?_eq_some_iff.1 ho).1
    refine ⟨?_, o, ho, h⟩
    simp [hj] at h0
    simp [lst, hj, h0]
  · rintro ⟨h0, o, ho, h⟩
    have hj : j < listed.size := by rw [hsz]; exact (Array.getElem?_eq_some_iff.1 ho).1
    refine ⟨?_, o, ho, h⟩
    simp [lst, hj] at h0
    simp [hj, h0]

theorem closed_set {ops : Array Oper} {L : Nat → Bool} (hL : Closed ops L) {j : Nat} {o : Oper} (ho : ops[j]? = some o) (hr : ∀ e, e ∈ o.after → Region.binds .any e = true → L e.on = true) : Closed ops (fun i => L i || i == j) := by
  intro i o' ho' hi e he hb
  simp only [Bool.or_eq_true, beq_iff_eq] at hi ⊢
  rcases hi with hi | hi
  · exact .inl (hL i o' ho' hi e he hb)
  · subst hi; rw [ho] at ho'; cases ho'; exact .inl (hr e he hb)

section
variable {E : Env} {call : CallT} {nt : Nat} {ops : Array Oper} {l : List OpC} {p : Nat} {f : Nat → S} {v : Nat → V} {r : Nat → Mem} {c : Cx}

/-- The tail, one by one. -/
theorem tail_ok {Q : Exit → Act → World → Prop} {a0 : Act} (hlow : lower ops = true) (hcall : CallOK P E call) (hlen : l.length = ops.size) (comp : ∀ (i : Nat) (o : Oper), ops[i]? = some o → ∃ oc, l[i]? = some oc ∧ cOpC P nt ops o = some oc)
    (htail : ∀ q, p ≤ q → q < ops.size → (CheckFast.beforeF ops).getD q 0 = 2 ^ q - 1) : ∀ (n q : Nat) (listed : Array Bool) (c : Cx) (s s2 : S) (a : Act), q + n = ops.size → p ≤ q → listed.size = ops.size →
    Closed ops (lst listed) → (∀ i, i < ops.size → lst listed i = decide (i < q)) → SRel P E nt c s a → a.defers = a0.defers → opsC (doI E call) (l.drop q) s = some s2 →
    (∀ c' a', Post P c c' → SRel P E nt c' s2 a' → a'.defers = a0.defers → Q .normal a' c'.w) → wpAny P .any ops Q n listed a c.w
  | 0, q, listed, c, s, s2, a, hn, hpq, hsz, hcl, hlist, hs, hd, h, hq => by
    simp only [Nat.add_zero] at hn
    rw [List.drop_eq_nil_of_le (by omega)] at h
    simp [opsC] at h; subst h
    refine ⟨?_, hq c a (Post.refl hs.sim) hs hd⟩
    apply List.eq_nil_iff_forall_not_mem.2
    intro j hj
    obtain ⟨h0, o, ho, _⟩ := (ready_spec hsz).1 hj
    have hjl : j < ops.size := (Array.getElem?_eq_some_iff.1 ho).1
    rw [hlist j hjl] at h0
    simp at h0; omega
  | n + 1, q, listed, c, s, s2, a, hn, hpq, hsz, hcl, hlist, hs, hd, h, hq => by
    have hql : q < ops.size := by omega
    have only : ∀ j, j ∈ Region.ready .any ops listed → j = q := fun j hj => by
      obtain ⟨h0, o, ho, hr⟩ := (ready_spec hsz).1 hj
      have hjl : j < ops.size := (Array.getElem?_eq_some_iff.1 ho).1
      rw [hlist j hjl] at h0
      simp at h0
      rcases Nat.lt_or_ge q j with hlt | hge
      · have hb := bits_listed hcl (j + 1) j (by omega) o ho hr q (by rw [htail j (by omega) hjl, Nat.testBit_two_pow_sub_one]; simpa using hlt)
        rw [hlist q hql] at hb
        simp at hb
      · omega
    obtain ⟨oc, hoc, hc⟩ := comp q ops[q] (by simp [hql])
    have hdrop : l.drop q = oc :: l.drop (q + 1) := by
      rw [List.drop_eq_getElem_cons (by omega)]
      obtain ⟨_, e⟩ := List.getElem?_eq_some_iff.1 hoc
      rw [e]
    rw [hdrop] at h
    obtain ⟨s1, hstep, hrest⟩ := opsC_cons h
    refine ⟨fun hnil => ?_, fun j hj => ?_⟩
    · -- the first one that isn't listed is ready
      exfalso
      have : q ∈ Region.ready .any ops listed := by
        refine (ready_spec hsz).2 ⟨by rw [hlist q hql]; simp, ops[q], by simp [hql], fun e he hb => ?_⟩
        have hlt := lower_spec hlow (i := q) (o := ops[q]) (by simp [hql]) he hb
        rw [hlist e.on (by omega)]; simpa using hlt
      rw [hnil] at this; cases this
    · have := only j hj; subst this
      obtain ⟨h0, o, ho, hr⟩ := (ready_spec hsz).1 hj
      have ho' : ops[j]? = some ops[j] := by simp [hql]
      rw [ho'] at ho; cases ho
      refine op_ok hcall ho' hc hs hstep fun c' a' hp hs' hd' => ?_
      refine tail_ok hlow hcall hlen comp htail n (j + 1) _ c' s1 s2 a' (by omega) (by omega) (by simp [hsz]) ?_ (fun i hi => ?_) hs' (hd'.trans hd) hrest fun c2 a2 hp2 hs2 hd2 => hq c2 a2 (hp.trans hs.sim hp2) hs2 hd2
      · rw [lst_set (by rw [hsz]; exact hql)]; exact closed_set hcl ho' hr
      · rw [lst_set (by rw [hsz]; exact hql)]
        show (lst listed i || i == j) = decide (i < j + 1)
        rw [hlist i hi]
        by_cases e : i = j
        · subst e; simp
        · have h1 : (i == j) = false := by simpa using e
          rw [h1, Bool.or_false]
          congr 1
          apply propext; omega

/-- All of the operations that leave all as it was are done. -/
theorem done {Q : Exit → Act → World → Prop} {a0 : Act} {s2 : S} (hlow : lower ops = true) (H : DrH P E call nt ops l p f v r c)
    (htail : ∀ q, p ≤ q → q < ops.size → (CheckFast.beforeF ops).getD q 0 = 2 ^ q - 1) (h : opsC (doI E call) (l.drop p) (f p) = some s2)
    (hq : ∀ c' a', Post P c c' → SRel P E nt c' s2 a' → a'.defers = a0.defers → Q .normal a' c'.w) (n : Nat) (listed : Array Bool) (φ : Nat → Option Nat) (a : Act) (w : World)
    (hn : p + n = ops.size) (hsz : listed.size = ops.size) (hcl : Closed ops (lst listed)) (hLp : ∀ i, lst listed i = true → i < p) (hall : ∀ i, i < p → lst listed i = true)
    (I : DrInv P nt l p f v c a0 (lst listed) φ a w) : wpAny P .any ops Q n listed a w := by
  let c' : Cx := ⟨φ, (f p).m, c.I, w⟩
  have hlt : ∀ id B, φ id = some B → id < (f p).m.length := fun id B hi => by
    have h0 := H.mono (Nat.zero_le p) (Nat.le_refl p)
    rcases Nat.lt_or_ge id (f 0).m.length with h1 | h1
    · omega
    · obtain ⟨_, i, hi, _, _, h5⟩ := I.φL id B hi h1
      have := H.mono (show i + 1 ≤ p by omega) (Nat.le_refl p)
      omega
  have hst : St (cxK c ((f p).m.map (Blk.setProt true)) φ w (f p).m.length) c' := by
    refine ⟨KeepI.refl _ _, fun id blk hb => ?_⟩
    have hb' : ∃ b0, (f p).m[id]? = some b0 ∧ blk = b0.setProt true := by
      simp only [cxK, List.getElem?_take] at hb
      split at hb
      · rw [List.getElem?_map] at hb
        obtain ⟨b0, hb0, rfl⟩ := Option.map_eq_some_iff.1 hb
        exact ⟨b0, hb0, rfl⟩
      · cases hb
    obtain ⟨b0, hb0, rfl⟩ := hb'
    obtain ⟨l1, l2, l3, _⟩ := setProt_len true b0
    exact ⟨b0, hb0, by omega, fun h => ⟨by rw [← l3]; exact h, l1.symm⟩, fun _ => ⟨l2.symm, fun B hB => ⟨(cxK_id hB).2, fun _ _ h => h⟩⟩⟩
  have hmap : ∀ (id : Nat) (b0 : Blk), (f p).m[id]? = some b0 → ((f p).m.map (Blk.setProt true))[id]? = some (b0.setProt true) := fun id b0 h => by rw [List.getElem?_map, h]; rfl
  have hsim : PSim P c' := by
    refine ⟨fun id blk B hb hφ => ?_, I.inj, hlt, fun b o hI => Nat.lt_of_lt_of_le (H.sim.imm b o hI) I.size⟩
    have hb0 : (f p).m[id]? = some blk := hb
    have := I.blk id (blk.setProt true) B p (Nat.le_refl p) (hmap id blk hb0) hφ (hlt id B hφ)
    exact BlkOK.mono hst rfl (fun x hx => hx) this.unProt
  have hcm : ∀ (id : Nat) (blk : Blk), c.m[id]? = some blk → (f p).m[id]? = some blk := fun id blk hb => by
    rw [H.hm] at hb
    have e := H.take (Nat.zero_le p)
    have hlt' : id < (f 0).m.length := (List.getElem?_eq_some_iff.1 hb).1
    rw [e, List.getElem?_take, if_pos hlt'] at hb
    exact hb
  have hφc : ∀ id B, c.φ id = some B → φ id = some B := fun id B h => by
    rw [I.φ0 id (by rw [← H.hm]; exact H.sim.dom id B h)]; exact h
  have hpost : Post P c c' := by
    refine ⟨⟨keepI_heap I.heap, fun id blk hb => ⟨blk, hcm id blk hb, Nat.le_refl _, fun h => ⟨h, rfl⟩, fun _ => ⟨rfl, fun B hB => ⟨hφc id B hB, fun e n hs => shape?_of_heap (I.heap B) hs⟩⟩⟩⟩, hsim,
      ⟨I.size, I.os, I.tape, I.output, fun b x hx _ => I.heap b x hx, fun id B hB => ?_, fun id blk hb => ⟨blk, hcm id blk hb, rfl⟩, fun id blk hb _ => ⟨blk, hcm id blk hb, rfl, rfl, rfl⟩, fun id B hB hid => ?_⟩, rfl⟩
    · rcases Nat.lt_or_ge id (f 0).m.length with h1 | h1
      · left; rw [← I.φ0 id h1]; exact hB
      · exact .inr (I.φL id B hB h1).1
    · exact ⟨B, by rw [← I.φ0 id (by rw [← H.hm]; exact hid)]; exact hB⟩
  have hWL : ∀ d, WL l (lst listed) p d = WL l (fun _ => true) p d := fun d => WL_congr fun i hi _ => hall i hi
  have hsr : SRel P E nt c' (f p) a := by
    refine ⟨hsim, rfl, fun d => ?_, fun g cs hg => RelD.keep (keepI_heap I.heap) _ _ (H.gl g cs hg), I.nt⟩
    rw [H.tmps d p (Nat.le_refl p), ← hWL d]
    refine RelV.mono hst _ _ (I.tmp d p (Nat.le_refl p) ?_)
    have hs := WL_spec l (lst listed) d p
    cases hw : WL l (lst listed) p d with
    | none => exact H.mono (Nat.zero_le p) (Nat.le_refl p)
    | some i => rw [hw] at hs; exact H.mono (show i + 1 ≤ p from hs.1) (Nat.le_refl p)
  refine tail_ok hlow H.hcall H.len H.comp htail n p listed c' (f p) s2 a hn (Nat.le_refl p) hsz hcl (fun i hi => ?_) hsr I.defers h fun c2 a2 hp2 hs2 hd2 => hq c2 a2 (hpost.trans H.sim hp2) hs2 hd2
  cases hL : lst listed i with
  | true => have := hLp i hL; simp [this]
  | false =>
    rcases Nat.lt_or_ge i p with h1 | h1
    · rw [hall i h1] at hL; cases hL
    · simp; omega

/-- The operations that leave all as it was, in any order, and the tail behind them. -/
theorem quiet_ok {Q : Exit → Act → World → Prop} {a0 : Act} {s2 : S} (hlow : lower ops = true) (H : DrH P E call nt ops l p f v r c)
    (htail : ∀ q, p ≤ q → q < ops.size → (CheckFast.beforeF ops).getD q 0 = 2 ^ q - 1) (h : opsC (doI E call) (l.drop p) (f p) = some s2)
    (hq : ∀ c' a', Post P c c' → SRel P E nt c' s2 a' → a'.defers = a0.defers → Q .normal a' c'.w) : ∀ (n : Nat) (listed : Array Bool) (φ : Nat → Option Nat) (a : Act) (w : World),
      cnt (lst listed) p + n = ops.size → listed.size = ops.size → Closed ops (lst listed) → (∀ i, lst listed i = true → i < p) →
      DrInv P nt l p f v c a0 (lst listed) φ a w → wpAny P .any ops Q n listed a w := by
  intro n
  induction n with
  | zero =>
    intro listed φ a w hn hsz hcl hLp I
    have h1 := cnt_le (lst listed) p
    have hp := H.hp
    have hpe : p = ops.size := by omega
    have hall : ∀ i, i < p → lst listed i = true := fun i hi => by
      cases hL : lst listed i with
      | true => rfl
      | false => have := cnt_lt hi hL; omega
    exact done hlow H htail h hq 0 listed φ a w (by omega) hsz hcl hLp hall I
  | succ n ih =>
    intro listed φ a w hn hsz hcl hLp I
    by_cases hall : ∀ i, i < p → lst listed i = true
    · exact done hlow H htail h hq (n + 1) listed φ a w (by rw [cnt_all hall] at hn; exact hn) hsz hcl hLp hall I
    · have hp := H.hp
      -- the first one that isn't listed
      have hfirst : ∃ i, i < p ∧ lst listed i = false ∧ ∀ j, j < i → lst listed j = true := by
        have : ∀ m, m ≤ p → (∀ i, i < m → lst listed i = true) ∨ ∃ i, i < p ∧ lst listed i = false ∧ ∀ j, j < i → lst listed j = true := by
          intro m
          induction m with
          | zero => intro _; left; intro i hi; omega
          | succ m ihm =>
            intro hm
            rcases ihm (by omega) with h1 | h1
            · cases hL : lst listed m with
              | true =>
                left
                intro i hi
                by_cases e : i = m
                · subst e; exact hL
                · exact h1 i (by omega)
              | false => exact .inr ⟨m, by omega, hL, h1⟩
            · exact .inr h1
        rcases this p (Nat.le_refl p) with h1 | h1
        · exact (hall h1).elim
        · exact h1
      obtain ⟨i0, hi0, hL0, hbelow⟩ := hfirst
      refine ⟨fun hnil => ?_, fun j hj => ?_⟩
      · exfalso
        have hi0s : i0 < ops.size := by omega
        have : i0 ∈ Region.ready .any ops listed := (ready_spec hsz).2 ⟨hL0, ops[i0], by simp [hi0s], fun e he hb => hbelow _ (lower_spec hlow (i := i0) (o := ops[i0]) (by simp [hi0s]) he hb)⟩
        rw [hnil] at this; cases this
      · obtain ⟨hLj, o, ho, hr⟩ := (ready_spec hsz).1 hj
        have hjl : j < ops.size := (Array.getElem?_eq_some_iff.1 ho).1
        have hjp : j < p := by
          rcases Nat.lt_or_ge j p with h1 | h1
          · exact h1
          · have hb := bits_listed hcl (j + 1) j (by omega) o ho hr i0 (by rw [htail j h1 hjl, Nat.testBit_two_pow_sub_one]; simp; omega)
            rw [hb] at hL0; cases hL0
        refine I.step H hjp ho hcl hLj hr fun φ' a' w' I' => ?_
        have hset := lst_set (listed := listed) (j := j) (by rw [hsz]; exact hjl)
        refine ih (listed.setIfInBounds j true) φ' a' w' ?_ (by simp [hsz]) ?_ ?_ ?_
        · rw [hset, cnt_set hLj hjp]; omega
        · rw [hset]; exact closed_set hcl ho hr
        · rw [hset]
          intro i hi
          simp only [Bool.or_eq_true, beq_iff_eq] at hi
          rcases hi with hi | hi
          · exact hLp i hi
          · omega
        · rw [hset]; exact I'

end

theorem draw_ok (hm : P.follows .mixedOrders = true) : DrawOK P := by
  intro E call hcall nt id ops qs ts hc Q c s s1 s2 a hs h1 h2 hq
  unfold cRegion at hc
  cases hl : cOpsC P nt ops ops.toList with
  | none => simp [hl] at hc
  | some l =>
    simp only [hl, Bool.not_true, Bool.false_eq_true, if_false] at hc
    split at hc
    case isFalse => cases hc
    rename_i hcond
    simp only [Bool.and_eq_true] at hcond
    obtain ⟨hlow, hap⟩ := hcond
    generalize hp : tailAt (CheckFast.beforeF ops) ops.size = p at *
    cases hc
    obtain ⟨g1, g2⟩ := cOpsC_spec hl
    have hlen : l.length = ops.size := by simpa using g1
    have hple : p ≤ ops.size := by rw [← hp]; exact tailAt_le _ _
    obtain ⟨f, v, r, f0, f1, ftr⟩ := opsQ_trace (l.take p) s s1 h1
    have hpl : (l.take p).length = p := by simp; omega
    rw [hpl] at f1
    have H : DrH P E call nt ops l p f v r c := by
      refine ⟨hcall, fun i o ho => g2 i o (by simpa using ho), hlen, hple, fun j oc hj hoc => ftr j oc (by rw [List.getElem?_take, if_pos hj]; exact hoc), fun i j x y hij hjp hx hy hb => ?_, hs.sim, by rw [f0]; exact hs.m, hs.gl⟩
      unfold apartAll at hap
      have h1 := List.all_eq_true.1 hap j (by simpa using hjp)
      have h2 := List.all_eq_true.1 h1 i (by simpa using hij)
      rw [hb, hx, hy] at h2
      simpa using h2
    have htail : ∀ q, p ≤ q → q < ops.size → (CheckFast.beforeF ops).getD q 0 = 2 ^ q - 1 := fun q h1 h2 => tailAt_spec _ ops.size q (by rw [hp]; exact h1) h2
    refine wp_region_any hm ?_
    have hl0 : lst (Array.replicate ops.size false) = fun _ => false := by
      funext i
      simp only [lst, Array.getD_eq_getD_getElem?, Array.getElem?_replicate]
      split <;> rfl
    refine quiet_ok (a0 := a) hlow H htail (s2 := s2) (by rw [f1]; exact h2) hq ops.size _ c.φ a _ ?_ (by simp) ?_ ?_ ?_
    · rw [hl0]
      have : ∀ n, cnt (fun _ => false) n = 0 := by intro n; induction n with | zero => rfl | succ n ih => simp [cnt, ih]
      rw [this]; omega
    · rw [hl0]; intro i o _ h; cases h
    · rw [hl0]; intro i h; cases h
    · rw [hl0]; exact DrInv.start H (by rw [f0]; exact hs.t) hs.nt _

end Go.Proofs.Ytgalchmjpfmemaa.Den
