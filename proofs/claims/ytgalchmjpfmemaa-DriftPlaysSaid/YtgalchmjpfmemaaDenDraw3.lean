/- Regions that draw their order: one operation more. -/
import Derived.Test.YtgalchmjpfmemaaDenDraw2
namespace Go.Proofs.Ytgalchmjpfmemaa.Den
open Go
set_option linter.unusedVariables false
set_option linter.unusedSimpArgs false

variable {P : Program}

section
variable {E : Env} {call : CallT} {nt : Nat} {ops : Array Oper} {l : List OpC} {p : Nat} {f : Nat → S} {v : Nat → V} {r : Nat → Mem} {c : Cx}

theorem St.grow {P : Program} {c c' : Cx} (h : St c c') : c.m.length ≤ c'.m.length := by
  rcases Nat.eq_zero_or_pos c.m.length with h0 | h0
  · omega
  · obtain ⟨b, hb, _⟩ := h.blk (c.m.length - 1) _ (List.getElem?_eq_getElem (by omega))
    have := (List.getElem?_eq_some_iff.1 hb).1
    omega

theorem DrInv.next (H : DrH P E call nt ops l p f v r c) {a0 : Act} {L : Nat → Bool} {φ : Nat → Option Nat} {a : Act} {w : World} (I : DrInv P nt l p f v c a0 L φ a w) {j : Nat} {oc : OpC} (hj : j < p) (hoc : l[j]? = some oc)
    (hdst : ∀ i, oc.dst = some i → i < nt) (hLj : L j = false)
    (hlate : ∀ (i : Nat) (y : OpC), j < i → i < p → L i = true → l[i]? = some y → apartC oc y = true)
    {c' : Cx} {u : Value} (hm : c'.m = r j) (hp : Post P (cxK c ((f p).m.map (Blk.setProt true)) φ w (f j).m.length) c') (hr : RelV c' (v j) u)
    (hq : (f (j + 1)).m = (f j).m ++ (r j).drop (f j).m.length) :
    ∃ φ', DrInv P nt l p f v c a0 (fun i => L i || i == j) φ' (a.put oc.dst u) c'.w := by
  have hdl : ∀ i x, l[i]? = some x → dstAt l i = x.dst := fun i x h => by simp [dstAt, h]
  have hpsim := I.psim H (Nat.le_of_lt hj)
  generalize hN : (f p).m.map (Blk.setProt true) = N at *
  have hCm : (cxK c N φ w (f j).m.length).m.length = (f j).m.length := by
    have := H.mono (Nat.le_of_lt hj) (Nat.le_refl p)
    simp only [cxK, ← hN, List.length_take, List.length_map]; omega
  have hgrow := St.grow (P := P) hp.st
  rw [hCm, hm] at hgrow
  have hk1 : (f (j + 1)).m.length = (r j).length := by rw [hq]; simp; omega
  have hkk : (f j).m.length ≤ (f (j + 1)).m.length := by omega
  -- nothing of the heap is written
  have hNprot : ∀ (id : Nat) (blk : Blk), (cxK c N φ w (f j).m.length).m[id]? = some blk → blk.prot = true := fun id blk hb => by
    simp only [cxK, List.getElem?_take] at hb
    split at hb
    · rw [← hN, List.getElem?_map] at hb
      obtain ⟨b0, _, rfl⟩ := Option.map_eq_some_iff.1 hb
      exact (setProt_len true b0).2.2.2.1
    · cases hb
  have hw' : ∀ (b : Nat) (x : Obj), w.heap[b]? = some x → c'.w.heap[b]? = some x := fun b x hx => hp.keeps.heap b x hx fun ⟨id, blk, h1, h2, _⟩ => by
    rw [hNprot id blk h1] at h2; cases h2
  -- no one stood at the new places
  have hnew : ∀ id B, φ id = some B → (f j).m.length ≤ id → id < (f (j + 1)).m.length → False := fun id B h1 h2 h3 => by
    have h0 := H.mono (Nat.zero_le j) (Nat.le_of_lt hj)
    obtain ⟨_, i, hi, hLi, h4, h5⟩ := I.φL id B h1 (by omega)
    rcases Nat.lt_trichotomy i j with h | h | h
    · have := H.mono (show i + 1 ≤ j by omega) (Nat.le_of_lt hj); omega
    · subst h; rw [hLj] at hLi; cases hLi
    · have := H.mono (show j + 1 ≤ i by omega) (Nat.le_of_lt hi); omega
  let φ' : Nat → Option Nat := fun id => if id < (f j).m.length then φ id else if id < (f (j + 1)).m.length then c'.φ id else φ id
  have hφ' : ∀ id B, φ id = some B → φ' id = some B := fun id B h => by
    simp only [φ']
    split
    · exact h
    · split
      · exact (hnew id B h (by omega) (by omega)).elim
      · exact h
  have hφc : ∀ id B, φ' id = some B → φ id = some B ∨ ((f j).m.length ≤ id ∧ id < (f (j + 1)).m.length ∧ c'.φ id = some B) := fun id B h => by
    simp only [φ'] at h
    split at h
    · exact .inl h
    · split at h
      · exact .inr ⟨by omega, by omega, h⟩
      · exact .inl h
  have hfresh : ∀ id B, (f j).m.length ≤ id → c'.φ id = some B → w.heap.size ≤ B := fun id B h1 h2 => by
    rcases hp.keeps.fresh id B h2 with h3 | h3
    · have := (cxK_id h3).1; omega
    · exact h3
  -- from what comes back to the next context
  have hst : St c' (cxK c N φ' c'.w (f (j + 1)).m.length) := by
    refine ⟨by rw [show (cxK c N φ' c'.w (f (j + 1)).m.length).I = c'.I by rw [hp.imm]; rfl]; exact keepI_heap fun b x h => h, fun id blk hb => ?_⟩
    have hidl : id < (f (j + 1)).m.length := by rw [hk1, ← hm]; exact (List.getElem?_eq_some_iff.1 hb).1
    by_cases hid : id < (f j).m.length
    · have hC : ∃ b0, (cxK c N φ w (f j).m.length).m[id]? = some b0 := ⟨_, List.getElem?_eq_getElem (by rw [hCm]; exact hid)⟩
      obtain ⟨b0, hb0⟩ := hC
      obtain ⟨b1, g1, g2, g3, g4⟩ := hp.keeps.same id b0 hb0 (hNprot id b0 hb0)
      rw [hb] at g1; cases g1
      have hNid : N[id]? = some b0 := by simpa [cxK, List.getElem?_take, hid] using hb0
      refine ⟨b0, by simp only [cxK, List.getElem?_take]; rw [if_pos hidl]; exact hNid, by omega, fun h => ⟨by rw [← g4]; exact h, g2.symm⟩, fun _ => ⟨g3.symm, fun B hB => ⟨?_, fun e n hs => hs⟩⟩⟩
      obtain ⟨B0, hB0⟩ := hp.keeps.old id B hB (by rw [hCm]; exact hid)
      obtain ⟨b2, q1, q2, q3, q4⟩ := hp.st.blk id b0 hb0
      rw [hb] at q1; cases q1
      have := ((q4 g2).2 B0 hB0).1
      rw [hB] at this; cases this
      simp only [cxK]; rw [if_pos hidl]
      exact hφ' id B (cxK_id hB0).2
    · have e := H.at hj (Nat.le_of_not_lt hid) hidl
      rw [hm] at hb
      rw [hb] at e
      refine ⟨blk.setProt true, by simp only [cxK, List.getElem?_take]; rw [if_pos hidl, ← hN, List.getElem?_map, e]; rfl, by rw [(setProt_len true blk).1]; exact Nat.le_refl _, fun h => ⟨by rw [(setProt_len true blk).2.2.1]; exact h, (setProt_len true blk).1⟩, fun _ => ⟨(setProt_len true blk).2.1, fun B hB => ⟨?_, fun e n hs => hs⟩⟩⟩
      simp only [cxK, φ']; rw [if_pos hidl, if_neg hid, if_pos hidl]; exact hB
  have hj1 : ∀ j', (f j).m.length < (f j').m.length → j' ≤ p → (f (j + 1)).m.length ≤ (f j').m.length := fun j' h hj' => by
    rcases Nat.lt_or_ge j j' with h1 | h1
    · exact H.mono h1 hj'
    · have := H.mono h1 (Nat.le_of_lt hj); omega
  refine ⟨φ', Nat.le_trans I.size hp.keeps.size, hp.keeps.os.trans I.os, hp.keeps.tape.trans I.tape, hp.keeps.output.trans I.output, fun b x h => hw' b x (I.heap b x h), fun id hid => ?_, fun id B h hid => ?_, fun x y B hx hy => ?_, fun id B h => ?_, fun id B h => ?_, fun id blk B j' hj' hb h hid => ?_, fun d j' hj' hk => ?_, ?_, ?_⟩
  · have := H.mono (Nat.zero_le j) (Nat.le_of_lt hj)
    simp only [φ']; rw [if_pos (by omega)]; exact I.φ0 id hid
  · rcases hφc id B h with h1 | ⟨h1, h2, h3⟩
    · obtain ⟨g1, i, g2, g3, g4, g5⟩ := I.φL id B h1 hid
      exact ⟨g1, i, g2, by simp [g3], g4, g5⟩
    · exact ⟨Nat.le_trans I.size (hfresh id B h1 h3), j, hj, by simp, h1, h2⟩
  · rcases hφc x B hx with h1 | ⟨h1, h2, h3⟩ <;> rcases hφc y B hy with g1 | ⟨g1, g2, g3⟩
    · exact I.inj x y B h1 g1
    · have := I.lt x B h1; have := hfresh y B g1 g3; omega
    · have := I.lt y B g1; have := hfresh x B h1 h3; omega
    · exact hp.sim.inj x y B h3 g3
  · rcases hφc id B h with h1 | ⟨h1, h2, h3⟩
    · exact Nat.lt_of_lt_of_le (I.lt id B h1) hp.keeps.size
    · exact hp.sim.lt h3
  · rcases hφc id B h with h1 | ⟨h1, h2, h3⟩
    · exact I.noI id B h1
    · intro o hI
      exact hp.sim.noI h3 o (by rw [hp.imm]; exact hI)
  · rw [hN] at hb ⊢
    rcases hφc id B h with h1 | ⟨h1, h2, h3⟩
    · have := I.blk id blk B j' hj' (by rw [hN]; exact hb) h1 hid
      rw [hN] at this
      exact BlkOK.mono (cxK_st (Nat.le_refl _) hφ' hw') rfl (hw' B) this
    · have e := H.at hj h1 h2
      rw [← hN, List.getElem?_map] at hb
      obtain ⟨b0, hb0, rfl⟩ := Option.map_eq_some_iff.1 hb
      rw [hb0] at e
      have hk' := hj1 j' (by omega) hj'
      have hb1 := hp.sim.blk id b0 B (by rw [hm]; exact e.symm) h3
      have hb2 := BlkOK.mono hst (by rw [hp.imm]; rfl) (fun x hx => hx) hb1
      exact (BlkOK.mono (cxK_st hk' (fun _ _ h => h) (fun _ _ h => h)) rfl (fun x hx => hx) hb2).setProt true
  · rw [hN]
    by_cases e : oc.dst = some d
    · have hW : WL l (fun i => L i || i == j) p d = some j := WL_some hj (by simp) (by rw [hdl j oc hoc]; exact e) fun i h1 h2 h3 h4 => by
        have hLi : L i = true := by
          have : ¬ (i = j) := by omega
          simpa [this] using h3
        have hlt : i < l.length := by have := H.len; have := H.hp; omega
        have ha := hlate i l[i] h1 h2 hLi (by simp [hlt])
        exact ((apartC_spec ha).1 d e).2 (by rw [← hdl i l[i] (by simp [hlt])]; exact h4)
      rw [hW] at hk ⊢
      simp only [kOf, tOf] at hk ⊢
      have hd : d < a.tmps.size := by rw [I.nt]; exact hdst d e
      rw [e]
      simp only [Act.put, Array.getD_eq_getD_getElem?]
      rw [Array.getElem?_setIfInBounds_self_of_lt hd]
      exact RelV.mono (cxK_st hk (fun _ _ h => h) (fun _ _ h => h)) _ _ (RelV.mono hst _ _ hr)
    · have hW : WL l (fun i => L i || i == j) p d = WL l L p d := WL_congr fun i hi hd => by
        have : i ≠ j := fun h => by subst h; rw [hdl i oc hoc] at hd; exact e hd
        simp [this]
      rw [hW] at hk ⊢
      have ht := I.tmp d j' hj' hk
      rw [hN] at ht
      have hput : (a.put oc.dst u).tmps.getD d undef = a.tmps.getD d undef := by
        cases hd : oc.dst with
        | none => rfl
        | some x =>
          have hne : x ≠ d := fun h => e (by rw [hd, h])
          simp only [Act.put, Array.getD_eq_getD_getElem?]
          rw [Array.getElem?_setIfInBounds_ne hne]
      rw [hput]
      exact RelV.mono (cxK_st (Nat.le_refl _) hφ' hw') _ _ ht
  · rw [← I.nt]; cases oc.dst <;> simp [Act.put]
  · rw [← I.defers]; exact put_defers a oc.dst u

/-- One operation more, wherever it stands. -/
theorem DrInv.step (H : DrH P E call nt ops l p f v r c) {a0 : Act} {L : Nat → Bool} {φ : Nat → Option Nat} {a : Act} {w : World} (I : DrInv P nt l p f v c a0 L φ a w) {j : Nat} {o : Oper} (hj : j < p) (ho : ops[j]? = some o)
    (hL : Closed ops L) (hLj : L j = false) (hready : ∀ e, e ∈ o.after → Region.binds .any e = true → L e.on = true)
    {Q : Exit → Act → World → Prop} {K : Act → World → Prop} (hk : ∀ φ' a' w', DrInv P nt l p f v c a0 (fun i => L i || i == j) φ' a' w' → K a' w') : wpOp P ops Q j K a w := by
  obtain ⟨oc, hoc, hc⟩ := H.comp j o ho
  obtain ⟨h1, h2, h3, h4⟩ := cOpC_spec hc
  have hbits := bits_listed hL (j + 1) j (by omega) o ho hready
  have hbefore : ∀ (i : Nat) (x : OpC), i < j → L i = false → l[i]? = some x → apartC x oc = true := fun i x hi hLi hx => by
    refine H.apart i j x oc hi hj hx hoc ?_
    cases hb : ((CheckFast.beforeF ops).getD j 0).testBit i with
    | false => rfl
    | true => rw [hbits i hb] at hLi; cases hLi
  have hlate : ∀ (i : Nat) (y : OpC), j < i → i < p → L i = true → l[i]? = some y → apartC oc y = true := fun i y hi hip hLi hy => by
    refine H.apart j i oc y hi hip hoc hy ?_
    cases hb : ((CheckFast.beforeF ops).getD i 0).testBit j with
    | false => rfl
    | true =>
      have hlt : i < ops.size := by have := H.hp; omega
      have := bits_listed hL (i + 1) i (by omega) ops[i] (by simp [hlt]) (hL i _ (by simp [hlt]) hLi) j hb
      rw [this] at hLj; cases hLj
  have hdl : ∀ i x, l[i]? = some x → dstAt l i = x.dst := fun i x h => by simp [dstAt, h]
  have hllt : ∀ i, i < p → i < l.length := fun i hi => by have := H.len; have := H.hp; omega
  -- what it looks at
  have hlook : ∀ d, d ∈ oc.looks → WL l L p d = WL l (fun _ => true) j d := fun d hd => by
    have hs := WL_spec l (fun _ => true) d j
    cases hw : WL l (fun _ => true) j d with
    | none =>
      rw [hw] at hs
      refine WL_none fun i hi hLi hdi => ?_
      rcases Nat.lt_trichotomy i j with h | h | h
      · exact hs i h rfl hdi
      · subst h; rw [hLj] at hLi; cases hLi
      · have hli := hllt i hi
        have ha := hlate i l[i] h hi hLi (by simp [hli])
        rw [hdl i l[i] (by simp [hli])] at hdi
        exact ((apartC_spec ha).2 d hdi).1 hd
    | some i =>
      rw [hw] at hs
      obtain ⟨g1, _, g3, g4⟩ := hs
      have hli := hllt i (by omega)
      refine WL_some (by omega) ?_ g3 fun i' hi hip hLi hdi => ?_
      · cases hLi : L i with
        | true => rfl
        | false =>
          have ha := hbefore i l[i] g1 hLi (by simp [hli])
          rw [hdl i l[i] (by simp [hli])] at g3
          exact (((apartC_spec ha).1 d g3).1 hd).elim
      · rcases Nat.lt_trichotomy i' j with h | h | h
        · exact g4 i' hi h rfl hdi
        · subst h; rw [hLj] at hLi; cases hLi
        · have hli' := hllt i' hip
          have ha := hlate i' l[i'] h hip hLi (by simp [hli'])
          rw [hdl i' l[i'] (by simp [hli'])] at hdi
          exact ((apartC_spec ha).2 d hdi).1 hd
  let t' : Nat → V := fun d => if oc.looks.contains d then (f j).t d else .un
  have ht' : ∀ d, d ∈ oc.looks → (f j).t d = t' d := fun d hd => by simp [t', hd]
  have hC : (cxK c ((f p).m.map (Blk.setProt true)) φ w (f j).m.length).m = (f j).m.map (Blk.setProt true) := by
    have e := H.take (Nat.le_of_lt hj)
    simp only [cxK]
    rw [← List.map_take, ← e]
  have htrel : TRel (cxK c ((f p).m.map (Blk.setProt true)) φ w (f j).m.length) t' a := fun d => by
    by_cases hd : d ∈ oc.looks
    · rw [← ht' d hd, H.tmps d j (Nat.le_of_lt hj), ← hlook d hd]
      refine I.tmp d j (Nat.le_of_lt hj) ?_
      rw [hlook d hd]
      have hs := WL_spec l (fun _ => true) d j
      cases hw : WL l (fun _ => true) j d with
      | none => exact H.mono (Nat.zero_le j) (Nat.le_of_lt hj)
      | some i => rw [hw] at hs; exact H.mono (show i + 1 ≤ j from hs.1) (Nat.le_of_lt hj)
    · have : t' d = .un := by simp [t', hd]
      rw [this]; simp only [RelV]
  have hgl : GlOK E (cxK c ((f p).m.map (Blk.setProt true)) φ w (f j).m.length) := fun g cs hg => RelD.keep (keepI_heap I.heap) _ _ (H.gl g cs hg)
  have hsim := I.psim H (Nat.le_of_lt hj)
  obtain ⟨cg1, cg2⟩ := look_congr (E := E) ht'
  obtain ⟨q1, q2, q3⟩ := H.tr j oc hj hoc
  unfold wpOp
  simp only [ho]
  rcases q3 with ⟨hw, hd⟩ | ⟨hw, hv, hr⟩
  · rw [cg2] at hw
    rw [if_pos (wanted_ok htrel h4 hw)]
    left
    rw [doI_congr cg1, ← hC] at hd
    refine (doI_good H.hcall hsim hgl htrel h1 hd).wp fun c' u hm hp hr => ?_
    obtain ⟨φ', h⟩ := DrInv.next H I hj hoc (by rw [h2]; exact h3) hLj hlate hm hp hr q2
    rw [← h2]
    exact hk _ _ _ h
  · rw [cg2] at hw
    rw [if_neg (by rw [wanted_ok htrel h4 hw]; simp)]
    obtain ⟨φ', h⟩ := DrInv.next H I hj hoc (by rw [h2]; exact h3) hLj hlate (hC.trans hr.symm) (Post.refl hsim) (u := undef) (by rw [hv]; exact undef_rel _) q2
    rw [← h2]
    exact hk _ _ _ h

end
end Go.Proofs.Ytgalchmjpfmemaa.Den
