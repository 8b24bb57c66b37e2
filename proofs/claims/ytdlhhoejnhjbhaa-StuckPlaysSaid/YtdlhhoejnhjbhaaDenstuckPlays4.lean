/- StuckPlays: part 4 of what its proof rests on: an evaluator of the program's code, proved sound; plain functions printed from the code by a program of this session, with proofs; plain laws. No condition. -/
import Derived.Test.YtdlhhoejnhjbhaaDenstuckPlays3
import Derived.ProofKit
import Derived.Carry
import Derived.OpenShut
import Derived.SizedLaws
import Derived.Shelf.Slices.Delete
import Derived.KernelRfl
import Derived.Test.YtdlhhoejnhjbhaaProg

namespace Go.Proofs.Ytdlhhoejnhjbhaa.Den
open Go
set_option linter.unusedVariables false
set_option linter.unusedSimpArgs false
variable {P : Program} {ro : Option Nat} {nn : Nat}
theorem Z2j {E : Env} {call : CallT} (hcall : CallOK P E call) {nt : Nat} {c : Cx} {t : Nat → V} {m : Mem} {a : Act} (hs : SRel P E nt c ⟨t, m⟩ a) {o : Oper} {i : I} (h : cOp P o = some i) (hc : clsI i ≠ 2) {v : V} (hd : doI E call i t m = some (v, m))
    {next : Act → World → Prop} {Q : Exit → Act → World → Prop} (hk : ∀ (c' : Cx) (u : Value), c'.φ = c.φ → c'.m = c.m → Post P c c' → RelV c' v u → next (a.put o.dst u) c'.w) : o.wpIn (RF ro) nn P a c.w next Q := by
  let K : Cx := ⟨c.φ, c.m.map (Blk.setProt true), c.I, c.w⟩
  have hKat : ∀ (id : Nat) (blk : Blk), K.m[id]? = some blk → ∃ b0, c.m[id]? = some b0 ∧ blk = b0.setProt true := fun id blk hb => by
    simp only [K, List.getElem?_map] at hb
    obtain ⟨b0, h1, h2⟩ := Option.map_eq_some_iff.1 hb
    exact ⟨b0, h1, h2.symm⟩
  have hst : St c K := by
    refine ⟨KeepI.refl _ _, fun id blk hb => ⟨blk.setProt true, by simp only [K, List.getElem?_map, hb, Option.map_some], by rw [(Zfj true blk).1]; exact Nat.le_refl _, fun h => ⟨by rw [(Zfj true blk).2.2.1]; exact h, (Zfj true blk).1⟩, fun _ => ⟨(Zfj true blk).2.1, fun B hB => ⟨hB, fun e n hs => hs⟩⟩⟩⟩
  have hKp : PSim P K := by
    refine ⟨fun id blk B hb hφ => ?_, hs.sim.inj, fun id B hφ => by simpa [K] using hs.sim.dom id B hφ, hs.sim.imm⟩
    obtain ⟨b0, h1, rfl⟩ := hKat id blk hb
    exact (BlkOK.mono hst rfl (fun x hx => hx) (hs.sim.blk id b0 B h1 hφ)).setProt true
  have hd' : doI E call i t K.m = some (v, K.m) := by
    have hm : m = c.m := hs.m.symm
    subst hm
    have hc' := hc
    unfold clsI at hc'
    split at hc'
    · rename_i hp; exact (Zn5 hp hd).2 _
    · split at hc'
      · rename_i hr
        obtain ⟨⟨sz, x⟩, hx⟩ := Option.isSome_iff_exists.1 hr
        exact (Zp8 hx (fun id blk _ hb => ⟨true, by simp only [K, List.getElem?_map, hb, Option.map_some]⟩) hd).2
      · exact absurd rfl hc'
  refine (Zuq hcall hKp (fun g cs hg => hs.gl g cs hg) (hs.t.mono hst) h hd').wp (cOp_nd h) fun c' u hm hp hr => ?_
  have hnw : ∀ b, ¬ Wr K b := fun b ⟨id, blk, h1, h2, _⟩ => by
    obtain ⟨b0, _, rfl⟩ := hKat id blk h1
    rw [(Zfj true b0).2.2.2.1] at h2; cases h2
  have hheap : ∀ (b : Nat) (x : Obj), c.w.heap[b]? = some x → c'.w.heap[b]? = some x := fun b x hx => hp.keeps.heap b x hx (hnw b)
  have hφ1 : ∀ id B, c.φ id = some B → c'.φ id = some B := fun id B hB => by
    have hid := hs.sim.dom id B hB
    obtain ⟨b0, hb0⟩ : ∃ x, c.m[id]? = some x := ⟨_, List.getElem?_eq_getElem hid⟩
    have hKb : K.m[id]? = some (b0.setProt true) := by simp only [K, List.getElem?_map, hb0, Option.map_some]
    obtain ⟨b1, g1, g2, g3, g4⟩ := hp.st.blk id _ hKb
    rw [hm, hKb] at g1; cases g1
    exact ((g4 rfl).2 B hB).1
  have hφ2 : ∀ id B, c'.φ id = some B → c.φ id = some B := fun id B hB => by
    have hid := hp.sim.dom id B hB
    rw [hm] at hid
    obtain ⟨bk, hbk⟩ : ∃ x, K.m[id]? = some x := ⟨_, List.getElem?_eq_getElem hid⟩
    obtain ⟨b0, _, e⟩ := hKat id bk hbk
    obtain ⟨B0, hB0⟩ := hp.keeps.old id B bk hB hbk (by rw [e]; exact (Zfj true b0).2.2.2.1)
    have := hφ1 id B0 hB0
    rw [hB] at this; cases this; exact hB0
  let c2 : Cx := ⟨c.φ, c.m, c.I, c'.w⟩
  have hst2 : St c c2 := by
    refine ⟨Zkx hheap, fun id blk hb => ⟨blk, hb, Nat.le_refl _, fun h => ⟨h, rfl⟩, fun _ => ⟨rfl, fun B hB => ⟨hB, fun e n hsh => shape?_of_heap (hheap B) hsh⟩⟩⟩⟩
  have hpost : Post P c c2 := by
    refine ⟨hst2, ⟨fun id blk B hb hφ => BlkOK.mono hst2 rfl (hheap B) (hs.sim.blk id blk B hb hφ), hs.sim.inj, hs.sim.dom, fun b o hI => Nat.lt_of_lt_of_le (hs.sim.imm b o hI) hp.keeps.size⟩,
      ⟨hp.keeps.size, hp.keeps.os, hp.keeps.tape, hp.keeps.output, fun b x hx _ => hheap b x hx, fun id B hB => .inl hB, fun id blk hb => ⟨blk, hb, rfl⟩, fun id blk hb _ => ⟨blk, hb, rfl, rfl, rfl⟩, fun id B blk hB _ _ => ⟨B, hB⟩⟩, rfl⟩
  have hst3 : St c' c2 := by
    refine ⟨?_, fun id blk hb => ?_⟩
    · have e : c2.I = c'.I := by rw [hp.imm]
      rw [e]; exact KeepI.refl _ _
    · rw [hm] at hb
      obtain ⟨b0, h1, rfl⟩ := hKat id blk hb
      obtain ⟨l1, l2, l3, _⟩ := Zfj true b0
      exact ⟨b0, h1, by omega, fun h => ⟨by rw [← l3]; exact h, l1.symm⟩, fun _ => ⟨l2.symm, fun B hB => ⟨hφ2 id B hB, fun _ _ h => h⟩⟩⟩
  exact hk c2 u rfl rfl hpost (RelV.mono hst3 _ _ hr)
section
variable {E : Env} {call : CallT} {nt : Nat} {ops : Array Oper} {l : List OpC} {qf : List Bool} {f : Nat → S} {c : Cx}
def TL (l : List OpC) (f : Nat → S) (L : Nat → Bool) : Nat → V := fun d => tOf (f 0).t (vOf l f) d (WL l L l.length d)
theorem MxH.looks (H : MxH P E call nt ops l qf f c) {L : Nat → Bool} {j : Nat} (hj : j < l.length) (R : Rdy ops L j) : ∀ d, d ∈ (opAt' l j).looks → (f j).t d = TL l f L d := fun d hd => by
  rw [H.tmps d j (by omega)]
  unfold TL
  congr 1
  have hs := Zpo l (fun _ => true) d j
  have hbefore : ∀ i, i < j → L i = false → apartC (opAt' l i) (opAt' l j) = true := fun i hi hL => H.apart i j _ _ hi (H.at (by omega)) (H.at hj) (R.before i hi hL)
  have hlate : ∀ i, j < i → i < l.length → L i = true → apartC (opAt' l j) (opAt' l i) = true := fun i hi hil hL => H.apart j i _ _ hi (H.at hj) (H.at hil) (R.late i hi (by rw [← H.len]; exact hil) hL)
  symm
  cases hw : WL l (fun _ => true) j d with
  | none =>
    rw [hw] at hs
    refine Zws fun i hi hLi hdi => ?_
    rcases Nat.lt_trichotomy i j with h | h | h
    · exact hs i h rfl hdi
    · subst h; rw [R.no] at hLi; cases hLi
    · rw [H.dstE hi] at hdi
      exact ((Zj5 (hlate i h hi hLi)).2 d hdi).1 hd
  | some i =>
    rw [hw] at hs
    obtain ⟨g1, _, g3, g4⟩ := hs
    refine Zt7 (by omega) ?_ g3 fun i' hi hip hLi hdi => ?_
    · cases hLi : L i with
      | true => rfl
      | false =>
        rw [H.dstE (by omega)] at g3
        exact (((Zj5 (hbefore i g1 hLi)).1 d g3).1 hd).elim
    · rcases Nat.lt_trichotomy i' j with h | h | h
      · exact g4 i' hi h rfl hdi
      · subst h; rw [R.no] at hLi; cases hLi
      · rw [H.dstE hip] at hdi
        exact ((Zj5 (hlate i' h hip hLi)).2 d hdi).1 hd
theorem MxH.TL_put (H : MxH P E call nt ops l qf f c) {L : Nat → Bool} {j : Nat} (hj : j < l.length) (R : Rdy ops L j) : TL l f (fun i => L i || i == j) = putT (TL l f L) (opAt' l j).dst (vOf l f j) := by
  funext d
  by_cases e : (opAt' l j).dst = some d
  · have hW : WL l (fun i => L i || i == j) l.length d = some j := Zt7 hj (by simp) (by rw [H.dstE hj]; exact e) fun i h1 h2 h3 h4 => by
      have hLi : L i = true := by
        have : ¬ (i = j) := by omega
        simpa [this] using h3
      have ha := H.apart j i _ _ h1 (H.at hj) (H.at h2) (R.late i h1 (by rw [← H.len]; exact h2) hLi)
      exact ((Zj5 ha).1 d e).2 (by rw [← H.dstE h2]; exact h4)
    simp only [TL, hW, tOf, e, putT, upd, if_pos]
  · rw [Zow e]
    simp only [TL]
    congr 1
    exact Zop fun i hi hd => by
      have : i ≠ j := fun h => by subst h; rw [H.dstE hi] at hd; exact e hd
      simp [this]
structure MxInv (P : Program) (E : Env) (nt : Nat) (l : List OpC) (qf : List Bool) (f : Nat → S) (c : Cx) (a0 : Act) (L : Nat → Bool) (cL : Cx) (a : Act) : Prop where
  rel : SRel P E nt cL ⟨TL l f L, ML E l qf f L⟩ a
  post : Post P c cL
  unb : ∀ id B, cL.φ id = some B → id < (f 0).m.length ∨ ∃ k, k < l.length ∧ L k = true ∧ (f k).m.length ≤ id ∧ id < (f (k + 1)).m.length
  defers : a.defers = a0.defers
theorem MxH.ML_soft (H : MxH P E call nt ops l qf f c) {L : Nat → Bool} {j : Nat} (hj : j < l.length) (h : ∀ id, wrB E l qf f j id = false) : ML E l qf f (fun i => L i || i == j) = ML E l qf f L := by
  unfold ML
  apply List.map_congr_left
  intro id _
  congr 2
  unfold ver
  rw [Zxt (L' := L) fun k hk hw => by
    have : k ≠ j := fun e => by subst e; rw [h] at hw; cases hw
    simp [this]]
theorem Zy1 {a : Act} {cL : Cx} {t : Nat → V} {m : Mem} (hs : SRel P E nt cL ⟨t, m⟩ a) {o : Oper} {oc : OpC} (hc : cOpC P nt ops o = some oc) {b : Bool} (hw : Zfk oc.guard t = some b) : Region.wanted o (yielded ops a.tmps) = b :=
  Zq6 hs.t (Zta hc).2.2.2 hw
theorem MxInv.step (H : MxH P E call nt ops l qf f c) {a0 : Act} {L : Nat → Bool} {cL : Cx} {a : Act} (I : MxInv P E nt l qf f c a0 L cL a) {j : Nat} {o : Oper} (ho : ops[j]? = some o) (R : Rdy ops L j)
    {Q : Exit → Act → World → Prop} {K : Act → World → Prop} (hk : ∀ c' a', MxInv P E nt l qf f c a0 (fun i => L i || i == j) c' a' → K a' c'.w) : wpOpIn (RF ro) nn P ops Q j K a cL.w := by
  have hj : j < l.length := by rw [H.len]; exact (Array.getElem?_eq_some_iff.1 ho).1
  obtain ⟨oc, hoc, hcomp⟩ := H.comp j o ho
  have hat : opAt' l j = oc := Zr5 hoc
  obtain ⟨h1, h2, h3, h4⟩ := Zta hcomp
  have hlooks := H.looks hj R
  rw [hat] at hlooks
  obtain ⟨cg1, cg2⟩ := Zrv (E := E) hlooks
  have hTL := H.TL_put hj R
  rw [hat] at hTL
  have hLsub : ∀ {id : Nat}, (∃ k, k < l.length ∧ L k = true ∧ (f k).m.length ≤ id ∧ id < (f (k + 1)).m.length) → ∃ k, k < l.length ∧ (L k || k == j) = true ∧ (f k).m.length ≤ id ∧ id < (f (k + 1)).m.length := fun ⟨k, g1, g2, g3⟩ => ⟨k, g1, by simp [g2], g3⟩
  unfold wpOpIn
  simp only [ho]
  have finish : ∀ (c' : Cx) (u : Value), c'.φ = cL.φ → c'.m = cL.m → Post P cL c' → RelV c' (vOf l f j) u → (∀ id, wrB E l qf f j id = false) → K (a.put o.dst u) c'.w := by
    intro c' u hφ hm hp hr hnw
    refine hk c' _ ⟨?_, I.post.trans H.sim hp, fun id B hB => ?_, (Zpw a o.dst u).trans I.defers⟩
    · have := (I.rel.mono hp (m' := ML E l qf f L) (by rw [hm]; exact I.rel.m)).put (d := o.dst) h3 hr
      rw [hTL, H.ML_soft hj hnw, h2]; exact this
    · rw [hφ] at hB
      rcases I.unb id B hB with h | h
      · exact .inl h
      · exact .inr (hLsub h)
  rcases H.step hj with ⟨v, r, hw, hd, hm1, ht1⟩ | ⟨hw, hm1, ht1⟩
  case inr =>
    rw [hat] at hw
    rw [if_neg (by rw [Zy1 I.rel hcomp (by rw [← cg2]; exact hw)]; simp)]
    refine ⟨fun _ _ => trivial, ?_⟩
    have hv : RelV cL (vOf l f j) undef := by
      unfold vOf
      cases hdd : dstAt l j with
      | none => simp only [RelV]
      | some d =>
        simp only
        rw [ht1, ← H.dstE hj, hdd]
        simp only [putT, upd, if_true]
        exact Zqv cL
    exact finish cL undef rfl rfl (Post.refl I.rel.sim) hv (H.soft hj fun h => by rw [hat, hw] at h; cases h.2).2
  have hvOf : ∀ (c' : Cx) (u : Value), RelV c' v u → RelV c' (vOf l f j) u := fun c' u hr => by
    unfold vOf
    cases hdd : dstAt l j with
    | none => simp only [RelV]
    | some d =>
      simp only
      rw [ht1, ← H.dstE hj, hdd]
      simp only [putT, upd, if_true]
      exact hr
  rw [hat] at hw hd hm1
  rw [if_pos (Zy1 I.rel hcomp (by rw [← cg2]; exact hw))]
  rcases Classical.em (clsI oc.ins = 2) with hcl | hcl
  case inr =>
    rw [qOf_le hcl] at hd
    have hrd := H.read_ok hj R (by rw [hat]; exact hcl) (by rw [hat]; exact hw) (by rw [hat]; exact hd)
    rw [hat, Ztb cg1] at hrd
    refine Z2j H.hcall I.rel h1 hcl hrd fun c' u g1 g2 g3 g4 => ?_
    exact finish c' u g1 g2 g3 (hvOf c' u g4) (H.soft hj fun h => by rw [hat] at h; exact hcl h.1).2
  have hcl' : clsI (opAt' l j).ins = 2 := by rw [hat]; exact hcl
  have hw' : Zfk (opAt' l j).guard (f j).t = some true := by rw [hat]; exact hw
  have S := H.str hj hcl' hw'
  have hreach := fun {id : Nat} hid {k : Nat} hk hkj hkw => H.reach_ok hj R hcl' hw' (id := id) hid (k := k) hk hkj hkw
  rw [hat] at S hreach
  rw [Z1x hcl] at hd hm1
  generalize hq : qf.getD j false = q at *
  generalize hRe : footR E oc.ins (f j).t (f j).m = Re at *
  obtain ⟨s_lt, s_cl, s_ops, s_call, s_wr, s_grow, s_cl', s_res, s_prot⟩ := S
  rw [hRe] at s_lt s_cl s_ops s_call s_wr s_cl' s_res
  have hlenj := H.mono (show j ≤ l.length by omega) (Nat.le_refl _)
  have hlenj1 := H.mono (show j + 1 ≤ l.length by omega) (Nat.le_refl _)
  have hcLm : cL.m = ML E l qf f L := I.rel.m
  have noj : ∀ {id : Nat}, (∀ k, k < l.length → k ≠ j → wrB E l qf f k id = true → (L k = true ↔ k < j)) → ∀ k, k < l.length → wrB E l qf f k id = true → (L k = true ↔ k < j) := fun h k hk hkw => by
    by_cases e : k = j
    · subst e; rw [R.no]; simp
    · exact h k hk e hkw
  have m4 : ∀ id, id ∈ Re → cL.m[id]? = (f j).m[id]? := fun id hid => by
    rw [hcLm]
    exact H.ML_prefix (by omega) (s_lt id hid) (noj fun k hk hkj hkw => hreach (List.mem_append_left _ hid) hk hkj hkw)
  have LWj : ∀ id, id ∈ Re ++ newIds (f j).m.length (f (j + 1)).m.length → wrB E l qf f j id = true → LW (wrB E l qf f) (fun i => L i || i == j) l.length id = some j := fun id hid hwj => by
    have hs := Zr0 (wrB E l qf f) (fun i => L i || i == j) id l.length
    cases hk : LW (wrB E l qf f) (fun i => L i || i == j) l.length id with
    | none => rw [hk] at hs; have := hs j hj (by simp); rw [this] at hwj; cases hwj
    | some k =>
      rw [hk] at hs
      obtain ⟨g1, g2, g3, g4⟩ := hs
      rcases Nat.lt_trichotomy k j with h | h | h
      · have := g4 j h hj (by simp); rw [this] at hwj; cases hwj
      · rw [h]
      · exfalso
        have hne : k ≠ j := by omega
        have hL : L k = true := by simpa [hne] using g2
        have := (hreach hid g1 hne g3).1 hL
        omega
  have LWn : ∀ id, wrB E l qf f j id = false → LW (wrB E l qf f) (fun i => L i || i == j) l.length id = LW (wrB E l qf f) L l.length id := fun id h =>
    Zxt fun k hk hkw => by
      have : k ≠ j := fun e => by rw [e, h] at hkw; cases hkw
      simp [this]
  have m3 : ∀ id, id < (f l.length).m.length → wrB E l qf f j id = false → (ML E l qf f fun i => L i || i == j)[id]? = cL.m[id]? := fun id hid hwj => by
    rw [hcLm, H.ML_at hid, H.ML_at hid]
    unfold ver
    rw [LWn id hwj]
  have m12 : ∀ id, id ∈ Re ++ newIds (f j).m.length (f (j + 1)).m.length → (ML E l qf f fun i => L i || i == j)[id]? = (f (j + 1)).m[id]? := fun id hid => by
    have hN : id < (f l.length).m.length := by
      rcases List.mem_append.1 hid with h | h
      · have := s_lt id h; omega
      · have := (Zjl.1 h).2; omega
    cases hwj : wrB E l qf f j id with
    | true =>
      rw [H.ML_at hN]
      unfold ver
      rw [LWj id hid hwj]
    | false =>
      rw [m3 id hN hwj]
      rcases List.mem_append.1 hid with h | h
      · rw [m4 id h, H.frame hj (s_lt id h) hwj]
      · have := H.wr_new hj (Zjl.1 h).1 (Zjl.1 h).2
        rw [this] at hwj; cases hwj
  have m5 : ∀ id, id ∈ newIds (f j).m.length (f (j + 1)).m.length → cL.m[id]? = (f (j + 1)).m[id]? := fun id hid => by
    rw [hcLm]
    obtain ⟨n1, n2⟩ := Zjl.1 hid
    have hN : id < (f l.length).m.length := by omega
    rw [H.ML_at hN]
    have hnone : LW (wrB E l qf f) L l.length id = none := by
      have hs := Zr0 (wrB E l qf f) L id l.length
      cases hk : LW (wrB E l qf f) L l.length id with
      | none => rfl
      | some k =>
        rw [hk] at hs
        obtain ⟨g1, g2, g3, g4⟩ := hs
        exfalso
        by_cases e : k = j
        · subst e; rw [R.no] at g2; cases g2
        · have h1 := (hreach (List.mem_append_right _ hid) g1 e g3).1 g2
          have h2 := H.wr_lt g1 g3
          have h3 := H.mono (show k + 1 ≤ j by omega) (by omega)
          omega
    have hb : born f l.length id = j + 1 := by
      obtain ⟨b1, b2, b3⟩ := Zqu f id l.length hN
      generalize born f l.length id = b at *
      rcases Nat.lt_trichotomy b (j + 1) with h | h | h
      · have := H.mono (show b ≤ j by omega) (by omega); omega
      · exact h
      · rcases b3 with e | ⟨k, rfl, hk⟩
        · omega
        · have := H.mono (show j + 1 ≤ k by omega) (by omega); omega
    unfold ver
    rw [hnone]
    simp only [hb]
  let KC : Cx := ⟨fun id => if id ∈ Re then cL.φ id else none, mq q (f j).m, cL.I, cL.w⟩
  have hKφ : ∀ id B, KC.φ id = some B → id ∈ Re ∧ cL.φ id = some B := fun id B h => by
    simp only [KC] at h
    split at h
    · exact ⟨‹_›, h⟩
    · cases h
  have hKφ' : ∀ id, id ∈ Re → KC.φ id = cL.φ id := fun id h => by simp only [KC]; rw [if_pos h]
  have hsp := Z4v q
  have hKm : ∀ id, KC.m[id]? = ((f j).m[id]?).map (spB q) := fun id => mq_get q (f j).m id
  have hRenK : Ren (idOn Re) cL KC := by
    refine ⟨KeepI.refl _ _, fun i k hik blk hb => ?_⟩
    obtain ⟨rfl, hi⟩ := Zy8 hik
    rw [m4 i hi] at hb
    obtain ⟨e1, e2, e3, _⟩ := hsp blk
    exact ⟨spB q blk, by rw [hKm, hb]; rfl, e1, e2, e3, fun B hB => ⟨by rw [hKφ' i hi]; exact hB, fun _ _ h => h⟩⟩
  have hKsim : PSim P KC := by
    refine ⟨fun id blk B hb hφ => ?_, fun x y B hx hy => I.rel.sim.inj x y B (hKφ x B hx).2 (hKφ y B hy).2, fun id B hφ => ?_, I.rel.sim.imm⟩
    · obtain ⟨hid, hφ'⟩ := hKφ id B hφ
      rw [hKm] at hb
      obtain ⟨b0, hb0, rfl⟩ := Option.map_eq_some_iff.1 hb
      have k0 := I.rel.sim.blk id b0 B (by rw [m4 id hid]; exact hb0) hφ'
      have k1 := BlkOK.ren hRenK (I.rel.sim.noI hφ') (fun x hx => hx) k0
      rw [Blk.ren_on (s_cl id hid b0 hb0)] at k1
      cases hq' : q with
      | true => exact k1.setProt true
      | false => exact k1
    · have := s_lt id (hKφ id B hφ).1
      simp only [KC]
      cases q <;> simpa [mq] using this
  have htl : ∀ d, d ∈ oc.ins.ops.filterMap O.tmp? ↔ O.t d ∈ oc.ins.ops := fun d => by
    rw [List.mem_filterMap]
    refine ⟨fun ⟨x, hx, hd⟩ => ?_, fun h => ⟨_, h, rfl⟩⟩
    cases x <;> simp [O.tmp?] at hd
    subst hd; exact hx
  let t' : Nat → V := fun d => if d ∈ oc.ins.ops.filterMap O.tmp? then (f j).t d else .un
  have ht' : ∀ o, o ∈ oc.ins.ops → ev E (f j).t o = ev E t' o := fun o ho => by
    cases o with
    | t d => simp only [ev, t']; rw [if_pos ((htl d).2 ho)]
    | v x => rfl
    | g x => rfl
  have htrel : TRel KC t' a := fun d => by
    by_cases hd : d ∈ oc.ins.ops.filterMap O.tmp?
    · have e : t' d = (f j).t d := by simp only [t']; rw [if_pos hd]
      rw [e]
      have hd := (htl d).1 hd
      refine RelV.on hRenK (fun i hi => s_ops i (Z0j hd i hi)) ?_
      rw [hlooks d (Zzd hd)]
      exact I.rel.t d
    · have e : t' d = .un := by simp only [t']; rw [if_neg hd]
      rw [e]; simp only [RelV]
  rw [Ztb ht'] at hd
  refine (Zuq H.hcall hKsim (fun g cs hg => I.rel.gl g cs hg) htrel h1 hd).wp (cOp_nd h1) fun c' u hm hp hr => ?_
  let Rn := Re ++ newIds (f j).m.length (f (j + 1)).m.length
  have hKw : KC.w = cL.w := rfl
  have hKI : KC.I = cL.I := rfl
  have hwr : ∀ b, Wr KC b → ∃ id, id ∈ Re ∧ q = false ∧ (∃ blk, cL.m[id]? = some blk ∧ blk.prot = false) ∧ cL.φ id = some b := fun b ⟨id, blk, g1, g2, g3⟩ => by
    obtain ⟨hid, hφ⟩ := hKφ id b g3
    rw [hKm] at g1
    obtain ⟨b0, hb0, rfl⟩ := Option.map_eq_some_iff.1 g1
    have hqf : q = false := by
      cases hq' : q with
      | true => rw [Zu6 hq'] at g2; cases g2
      | false => rfl
    rw [Zv7 hqf] at g2
    exact ⟨id, hid, hqf, ⟨b0, by rw [m4 id hid]; exact hb0, g2⟩, hφ⟩
  have kept : ∀ id B, cL.φ id = some B → (id ∉ Re ∨ q = true) → ∀ x, cL.w.heap[B]? = some x → c'.w.heap[B]? = some x := fun id B hφ hor x hx => by
    refine hp.keeps.heap B x hx fun hw => ?_
    obtain ⟨id', hid', hqf, _, hφ'⟩ := hwr B hw
    have e := I.rel.sim.inj id id' B hφ hφ'
    subst e
    rcases hor with h | h
    · exact h hid'
    · rw [hqf] at h; cases h
  have hgrow := St.grow (P := P) hp.st
  have hKl : KC.m.length = (f j).m.length := by simp only [KC]; cases q <;> simp [mq]
  rw [hKl, hm] at hgrow
  have hm1r : ∀ id, id ∈ newIds (f j).m.length (f (j + 1)).m.length → (f (j + 1)).m[id]? = r[id]? := fun id hid => by
    have hn := (Zjl.1 hid).1
    rw [hm1]
    cases hq' : q with
    | true =>
      simp only [rq, Zr4]
      rw [List.getElem?_append_right hn, List.getElem?_drop]
      congr 1; omega
    | false => rfl
  have hblk : ∀ id, id ∈ Re → ∃ b0 b1 rb : Blk, (f j).m[id]? = some b0 ∧ (f (j + 1)).m[id]? = some b1 ∧ r[id]? = some rb ∧ rb.len = b1.len ∧ rb.size = b1.size ∧ rb.isLoop = b1.isLoop ∧ (q = false → rb = b1) ∧ (q = true → b1 = b0) := fun id hid => by
    have hl := s_lt id hid
    obtain ⟨b0, hb0⟩ : ∃ x, (f j).m[id]? = some x := ⟨_, List.getElem?_eq_getElem hl⟩
    obtain ⟨rb, hrb⟩ : ∃ x, r[id]? = some x := ⟨_, List.getElem?_eq_getElem (by omega)⟩
    cases hq' : q with
    | false =>
      refine ⟨b0, rb, rb, hb0, ?_, hrb, rfl, rfl, rfl, fun _ => rfl, fun h => absurd h (by simp)⟩
      rw [hm1, hq']; exact hrb
    | true =>
      have hb1 : (f (j + 1)).m[id]? = some b0 := by
        rw [hm1, hq']
        simp only [rq, Zr4]
        rw [List.getElem?_append_left hl]; exact hb0
      have hK0 : KC.m[id]? = some (spB q b0) := by rw [hKm, hb0]; rfl
      have hpr : (spB q b0).prot = true := Zu6 hq' b0
      obtain ⟨b2, g1, g2, g3, g4⟩ := hp.keeps.same id _ hK0 hpr
      rw [hm, hrb] at g1; cases g1
      obtain ⟨e1, e2, e3, _⟩ := hsp b0
      exact ⟨b0, b0, rb, hb0, hb1, hrb, by omega, g3.trans e2, g4.trans e3, fun h => absurd h (by simp), fun _ => rfl⟩
  let C' : Cx := ⟨fun id => if id ∈ Rn then c'.φ id else cL.φ id, ML E l qf f fun i => L i || i == j, cL.I, c'.w⟩
  have hCin : ∀ id, id ∈ Rn → C'.φ id = c'.φ id := fun id h => by simp only [C']; rw [if_pos h]
  have hCout : ∀ id, id ∉ Rn → C'.φ id = cL.φ id := fun id h => by simp only [C']; rw [if_neg h]
  have hCm : ∀ id, id ∈ Rn → C'.m[id]? = (f (j + 1)).m[id]? := m12
  have hcLlen : cL.m.length = (f l.length).m.length := by rw [hcLm, ML_len]
  have hClen : C'.m.length = (f l.length).m.length := ML_len _ _ _ _ _
  have hCmo : ∀ id, id ∉ Rn → C'.m[id]? = cL.m[id]? := fun id h => by
    rcases Nat.lt_or_ge id (f l.length).m.length with hN | hN
    · refine m3 id hN ?_
      cases hwj : wrB E l qf f j id with
      | false => rfl
      | true =>
        obtain ⟨_, _, hmem⟩ := Znj hwj
        rw [hat, hq] at hmem
        exfalso
        rcases List.mem_append.1 hmem with h' | h'
        · exact h (List.mem_append_left _ (s_wr id h'))
        · exact h (List.mem_append_right _ h')
    · rw [List.getElem?_eq_none (by omega), List.getElem?_eq_none (by omega)]
  have hunb : ∀ id, id ∈ newIds (f j).m.length (f (j + 1)).m.length → cL.φ id = none := fun id hid => by
    cases hφ : cL.φ id with
    | none => rfl
    | some B =>
      exfalso
      obtain ⟨n1, n2⟩ := Zjl.1 hid
      rcases I.unb id B hφ with h | ⟨k, k1, k2, k3, k4⟩
      · have := H.mono (Nat.zero_le j) (by omega); omega
      · rcases Nat.lt_trichotomy k j with h | h | h
        · have := H.mono (show k + 1 ≤ j by omega) (by omega); omega
        · subst h; rw [R.no] at k2; cases k2
        · have := H.mono (show j + 1 ≤ k by omega) (by omega); omega
  have hst : St cL C' := by
    refine ⟨by have hkp := hp.st.keep; rw [hp.imm] at hkp; exact hkp, fun id blk hb => ?_⟩
    by_cases hid : id ∈ Rn
    · rcases List.mem_append.1 hid with hR | hN
      · obtain ⟨b0, b1, rb, e0, e1, er, l1, l2, l3, _, _⟩ := hblk id hR
        rw [m4 id hR, e0] at hb; have eb := Option.some.inj hb; subst eb
        obtain ⟨b2, g1, g2, g3, g4⟩ := hp.st.blk id (spB q b0) (by rw [hKm, e0]; rfl)
        rw [hm, er] at g1; cases g1
        obtain ⟨p1, p2, p3, _⟩ := hsp b0
        refine ⟨b1, by rw [hCm id hid]; exact e1, by omega, fun hl => ?_, fun he => ?_⟩
        · obtain ⟨q1, q2⟩ := g3 (by rw [p3]; exact hl)
          exact ⟨by rw [← l3]; exact q1, by omega⟩
        · obtain ⟨q1, q2⟩ := g4 (by omega)
          refine ⟨by omega, fun B hB => ?_⟩
          rw [hCin id hid]
          exact q2 B (by rw [hKφ' id hR]; exact hB)
      · rw [m5 id hN] at hb
        refine ⟨blk, by rw [hCm id hid]; exact hb, Nat.le_refl _, fun h => ⟨h, rfl⟩, fun _ => ⟨rfl, fun B hB => ?_⟩⟩
        rw [hunb id hN] at hB; cases hB
    · refine ⟨blk, by rw [hCmo id hid]; exact hb, Nat.le_refl _, fun h => ⟨h, rfl⟩, fun _ => ⟨rfl, fun B hB => ⟨by rw [hCout id hid]; exact hB, fun e n hsh => ?_⟩⟩⟩
      exact shape?_of_heap (kept id B hB (.inl fun h => hid (List.mem_append_left _ h))) hsh
  have hrm : ∀ id, id ∈ Rn → ∀ blk, c'.m[id]? = some blk → ∃ b1, (f (j + 1)).m[id]? = some b1 ∧ b1.len = blk.len ∧ b1.size = blk.size ∧ b1.isLoop = blk.isLoop := fun id hid blk hb => by
    rw [hm] at hb
    rcases List.mem_append.1 hid with hR | hN
    · obtain ⟨b0, b1, rb, e0, e1, er, l1, l2, l3, _, _⟩ := hblk id hR
      rw [er] at hb; cases hb
      exact ⟨b1, e1, l1.symm, l2.symm, l3.symm⟩
    · exact ⟨blk, by rw [hm1r id hN]; exact hb, rfl, rfl, rfl⟩
  have hRen' : Ren (idOn Rn) c' C' := by
    refine ⟨?_, fun i k hik blk hb => ?_⟩
    · have e : c'.I = cL.I := hp.imm
      rw [show C'.I = c'.I from e.symm]; exact KeepI.refl _ _
    · obtain ⟨rfl, hi⟩ := Zy8 hik
      obtain ⟨b1, e1, l1, l2, l3⟩ := hrm i hi blk hb
      exact ⟨b1, by rw [hCm i hi]; exact e1, l1, l2, l3, fun B hB => ⟨by rw [hCin i hi]; exact hB, fun _ _ h => h⟩⟩
  have hold : ∀ id B, id ∈ Rn → c'.φ id = some B → (id ∈ Re ∧ cL.φ id = some B) ∨ cL.w.heap.size ≤ B := fun id B hid hB => by
    rcases hp.keeps.fresh id B hB with h | h
    · exact .inl (hKφ id B h)
    · exact .inr h
  have hsim' : PSim P C' := by
    refine ⟨fun id blk B hb hφ => ?_, fun x y B hx hy => ?_, fun id B hφ => ?_, fun b o hI => Nat.lt_of_lt_of_le (I.rel.sim.imm b o hI) hp.keeps.size⟩
    · by_cases hid : id ∈ Rn
      · rw [hCin id hid] at hφ
        rw [hCm id hid] at hb
        have told : c'.m[id]? = some blk → BlkOK P C' B blk := fun hc => by
          have k0 := hp.sim.blk id blk B hc hφ
          have k1 := BlkOK.ren hRen' (fun o hI => hp.sim.noI hφ o (by rw [hp.imm]; exact hI)) (fun x hx => hx) k0
          rw [Blk.ren_on (s_cl' id hid blk hb)] at k1
          exact k1
        rcases List.mem_append.1 hid with hR | hN
        · obtain ⟨b0, b1, rb, e0, e1, er, l1, l2, l3, hf, ht⟩ := hblk id hR
          rw [e1] at hb; cases hb
          cases hq' : q with
          | false => exact told (by rw [hm, er, hf hq'])
          | true =>
            have eb1 := ht hq'
            rw [eb1] at l1 ⊢
            have hK0 : KC.m[id]? = some (spB q b0) := by rw [hKm, e0]; rfl
            have hpr : (spB q b0).prot = true := Zu6 hq' b0
            obtain ⟨B0, hB0⟩ := hp.keeps.old id B _ hφ hK0 hpr
            obtain ⟨b2, g1, g2, g3, g4⟩ := hp.st.blk id _ hK0
            rw [hm, er] at g1; cases g1
            have := ((g4 (by rw [(hsp b0).1]; exact l1)).2 B0 hB0).1
            rw [hφ] at this; cases this
            have hcφ := (hKφ id B hB0).2
            exact BlkOK.mono hst rfl (kept id B hcφ (.inr hq')) (I.rel.sim.blk id b0 B (by rw [m4 id hR]; exact e0) hcφ)
        · exact told (by rw [hm, ← hm1r id hN]; exact hb)
      · rw [hCout id hid] at hφ
        rw [hCmo id hid] at hb
        exact BlkOK.mono hst rfl (kept id B hφ (.inl fun h => hid (List.mem_append_left _ h))) (I.rel.sim.blk id blk B hb hφ)
    · by_cases hxr : x ∈ Rn <;> by_cases hyr : y ∈ Rn
      · rw [hCin x hxr] at hx; rw [hCin y hyr] at hy
        exact hp.sim.inj x y B hx hy
      · rw [hCin x hxr] at hx; rw [hCout y hyr] at hy
        rcases hold x B hxr hx with ⟨_, h⟩ | h
        · exact I.rel.sim.inj x y B h hy
        · have := I.rel.sim.lt hy; omega
      · rw [hCout x hxr] at hx; rw [hCin y hyr] at hy
        rcases hold y B hyr hy with ⟨_, h⟩ | h
        · exact I.rel.sim.inj x y B hx h
        · have := I.rel.sim.lt hx; omega
      · rw [hCout x hxr] at hx; rw [hCout y hyr] at hy
        exact I.rel.sim.inj x y B hx hy
    · show id < C'.m.length
      rw [hClen]
      by_cases hid : id ∈ Rn
      · rcases List.mem_append.1 hid with h | h
        · have := s_lt id h; omega
        · have := (Zjl.1 h).2; omega
      · rw [hCout id hid] at hφ
        have := I.rel.sim.dom id B hφ
        omega
  have hprotid : ∀ id, id ∈ Re → ∀ b0 b1, (f j).m[id]? = some b0 → (f (j + 1)).m[id]? = some b1 → b1.prot = b0.prot := fun id hid b0 b1 e0 e1 => by
    obtain ⟨b0', b1', rb, f0, f1, fr, l1, l2, l3, hf, ht⟩ := hblk id hid
    rw [e0] at f0; cases f0
    rw [e1] at f1; cases f1
    cases hq' : q with
    | true => rw [ht hq']
    | false =>
      have hK0 : KC.m[id]? = some b0 := by rw [hKm, e0, Option.map_some, Zv7 hq']
      obtain ⟨b2, g1, g2⟩ := hp.keeps.prot id b0 hK0
      rw [hm, fr] at g1; cases g1
      rw [← hf hq']; exact g2
  have hpost : Post P cL C' := by
    refine ⟨hst, hsim', ⟨hp.keeps.size, hp.keeps.os, hp.keeps.tape, hp.keeps.output, fun b x hx hw => ?_, fun id B hB => ?_, fun id blk hb => ?_, fun id blk hb hpr => ?_, fun id B blk hB hb hpr => ?_⟩, rfl⟩
    · refine hp.keeps.heap b x hx fun hwK => hw ?_
      obtain ⟨id, hid, _, ⟨blk, g1, g2⟩, g3⟩ := hwr b hwK
      exact ⟨id, blk, g1, g2, g3⟩
    · by_cases hid : id ∈ Rn
      · rw [hCin id hid] at hB
        rcases hold id B hid hB with ⟨_, h⟩ | h
        · exact .inl h
        · exact .inr h
      · rw [hCout id hid] at hB; exact .inl hB
    · by_cases hid : id ∈ Rn
      · rcases List.mem_append.1 hid with hR | hN
        · obtain ⟨b0, b1, rb, e0, e1, _⟩ := hblk id hR
          rw [m4 id hR, e0] at hb; have eb := Option.some.inj hb; subst eb
          exact ⟨b1, by rw [hCm id hid]; exact e1, hprotid id hR _ b1 e0 e1⟩
        · rw [m5 id hN] at hb
          exact ⟨blk, by rw [hCm id hid]; exact hb, rfl⟩
      · exact ⟨blk, by rw [hCmo id hid]; exact hb, rfl⟩
    · by_cases hid : id ∈ Rn
      · rcases List.mem_append.1 hid with hR | hN
        · obtain ⟨b0, b1, rb, e0, e1, er, l1, l2, l3, hf, ht⟩ := hblk id hR
          rw [m4 id hR, e0] at hb; have eb := Option.some.inj hb; subst eb
          refine ⟨b1, by rw [hCm id hid]; exact e1, ?_⟩
          cases hq' : q with
          | true => rw [ht hq']; exact ⟨rfl, rfl, rfl⟩
          | false =>
            have hK0 : KC.m[id]? = some b0 := by rw [hKm, e0, Option.map_some, Zv7 hq']
            obtain ⟨b2, g1, g2⟩ := hp.keeps.same id b0 hK0 hpr
            rw [hm, er] at g1; cases g1
            rw [← hf hq']; exact g2
        · rw [m5 id hN] at hb
          exact ⟨blk, by rw [hCm id hid]; exact hb, rfl, rfl, rfl⟩
      · exact ⟨blk, by rw [hCmo id hid]; exact hb, rfl, rfl, rfl⟩
    · by_cases hid : id ∈ Rn
      · rcases List.mem_append.1 hid with hR | hN
        · obtain ⟨b0, b1, rb, e0, e1, er, l1, l2, l3, hf, ht⟩ := hblk id hR
          rw [m4 id hR, e0] at hb; have eb := Option.some.inj hb; subst eb
          rw [hCin id hid] at hB
          have hK0 : KC.m[id]? = some (spB q b0) := by rw [hKm, e0]; rfl
          have hpr' : (spB q b0).prot = true := by
            cases hq' : q with
            | true => exact Zu6 rfl b0
            | false => exact hpr
          obtain ⟨B0, hB0⟩ := hp.keeps.old id B _ hB hK0 hpr'
          exact ⟨B0, (hKφ id B0 hB0).2⟩
        · rw [m5 id hN] at hb
          have := s_prot id blk (Zjl.1 hN).1 hb
          rw [hpr] at this; cases this
      · rw [hCout id hid] at hB; exact ⟨B, hB⟩
  have hrv : RelV C' (vOf l f j) u := by
    unfold vOf
    cases hdd : dstAt l j with
    | none => simp only [RelV]
    | some d =>
      simp only
      have hdst : oc.dst = some d := by rw [← hat, ← H.dstE hj]; exact hdd
      have hv : (f (j + 1)).t d = v := by rw [ht1, hat, hdst]; simp [putT, upd]
      rw [hv]
      refine RelV.on hRen' (fun i hi => s_res i ?_) hr
      unfold resOf
      rw [hdst]; simp only; rw [hv]; exact hi
  refine hk C' _ ⟨?_, I.post.trans H.sim hpost, fun id B hB => ?_, (Zpw a o.dst u).trans I.defers⟩
  · have := (I.rel.mono hpost (m' := ML E l qf f fun i => L i || i == j) rfl).put (d := o.dst) h3 hrv
    rw [hTL, h2]; exact this
  · by_cases hid : id ∈ Rn
    · rcases List.mem_append.1 hid with hR | hN
      · have hlt := s_lt id hR
        obtain ⟨b1, b2, b3⟩ := Zqu f id j hlt
        generalize born f j id = b at *
        rcases b3 with e | ⟨k, rfl, hk'⟩
        · subst e; exact .inl b2
        · refine .inr ⟨k, by omega, ?_, hk', b2⟩
          have hwk := H.wr_new (show k < l.length by omega) hk' b2
          have := (hreach (List.mem_append_left _ hR) (show k < l.length by omega) (by omega) hwk).2 (by omega)
          simp [this]
      · exact .inr ⟨j, hj, by simp, Zjl.1 hN⟩
    · rw [hCout id hid] at hB
      rcases I.unb id B hB with h | h
      · exact .inl h
      · exact .inr (hLsub h)
theorem Z12 {Q : Exit → Act → World → Prop} {a0 : Act} (H : MxH P E call nt ops l qf f c)
    (hq : ∀ c' a', Post P c c' → SRel P E nt c' (f l.length) a' → a'.defers = a0.defers → Q .normal a' c'.w) : ∀ (n : Nat) (listed : Array Bool) (cL : Cx) (a : Act), cnt (lst listed) ops.size + n = ops.size → listed.size = ops.size →
    Closed ops (lst listed) → MxInv P E nt l qf f c a0 (lst listed) cL a → wpAnyIn (RF ro) nn P .any ops Q n listed a cL.w
  | 0, listed, cL, a, hn, hsz, hcl, I => by
    have hall : ∀ i, i < ops.size → lst listed i = true := fun i hi => by
      cases hL : lst listed i with
      | true => rfl
      | false => have := cnt_lt hi hL; omega
    have hlen := H.len
    refine ⟨?_, ?_⟩
    · apply List.eq_nil_iff_forall_not_mem.2
      intro j hj
      obtain ⟨h0, o, ho, _⟩ := (Zjx hsz).1 hj
      rw [hall j (Array.getElem?_eq_some_iff.1 ho).1] at h0; cases h0
    · refine hq cL a I.post ?_ I.defers
      have e1 : TL l f (lst listed) = (f l.length).t := by
        funext d
        rw [H.tmps d l.length (Nat.le_refl _)]
        unfold TL
        congr 1
        exact Zop fun i hi _ => by rw [hall i (by omega)]
      have e2 : ML E l qf f (lst listed) = (f l.length).m := by
        apply List.ext_getElem?
        intro id
        rcases Nat.lt_or_ge id (f l.length).m.length with h | h
        · exact H.ML_prefix (Nat.le_refl _) h fun k hk _ => ⟨fun _ => hk, fun _ => hall k (by omega)⟩
        · rw [List.getElem?_eq_none (by rw [ML_len]; exact h), List.getElem?_eq_none h]
      have := I.rel
      rw [e1, e2] at this
      exact this
  | n + 1, listed, cL, a, hn, hsz, hcl, I => by
    refine ⟨fun hnil => ?_, fun j hj => ?_⟩
    · exfalso
      have hex : ∃ i, i < ops.size ∧ lst listed i = false ∧ ∀ j, j < i → lst listed j = true := by
        have : ∀ m, m ≤ ops.size → (∀ i, i < m → lst listed i = true) ∨ ∃ i, i < ops.size ∧ lst listed i = false ∧ ∀ j, j < i → lst listed j = true := by
          intro m
          induction m with
          | zero => intro _; left; intro i hi; omega
          | succ m ihm =>
            intro hm
            rcases ihm (by omega) with h1 | h1
            · cases hL : lst listed m with
              | true =>
                left
                intro i hi
                by_cases e : i = m
                · subst e; exact hL
                · exact h1 i (by omega)
              | false => exact .inr ⟨m, by omega, hL, h1⟩
            · exact .inr h1
        rcases this ops.size (Nat.le_refl _) with h1 | h1
        · rw [Zwm h1] at hn; omega
        · exact h1
      obtain ⟨i0, hi0, hL0, hbelow⟩ := hex
      have : i0 ∈ Region.ready .any ops listed := (Zjx hsz).2 ⟨hL0, ops[i0], by simp [hi0], fun e he hb => hbelow _ (Zp3 H.low (i := i0) (o := ops[i0]) (by simp [hi0]) he hb)⟩
      rw [hnil] at this; cases this
    · obtain ⟨hLj, o, ho, hr⟩ := (Zjx hsz).1 hj
      have hjl : j < ops.size := (Array.getElem?_eq_some_iff.1 ho).1
      refine I.step H ho (rdy_of ho hcl hLj hr) fun c' a' I' => ?_
      have hset := Zr3 (listed := listed) (j := j) (by rw [hsz]; exact hjl)
      refine Z12 H hq n (listed.setIfInBounds j true) c' a' ?_ (by simp [hsz]) ?_ ?_
      · rw [hset, Zt6 hLj hjl]; omega
      · rw [hset]; exact Zp2 hcl ho hr
      · rw [hset]; exact I'
end
theorem mix_ok (hm : P.follows .mixedOrders = true) {E : Env} {call : CallT} (hcall : CallOK P E call) {nt id : Nat} {ops : Array Oper} {l : List OpC} {un : List (List Nat)} {qf : List Bool} (hl : cOpsC P nt ops ops.toList = some l)
    (hlow : lower ops = true) (hap : Zm2 l (CheckFast.beforeF ops) l.length = true) (hun : un = (List.range l.length).map (unAt l (CheckFast.beforeF ops))) {Q : Exit → Act → World → Prop} {c : Cx} {s : S} {a : Act} (hs : SRel P E nt c s a)
    {tr : List S} (ht : traceC E call qf 0 l s = some tr) (hb : mixB E l un qf tr = true)
    (hq : ∀ c' a', Post P c c' → SRel P E nt c' (atS tr l.length) a' → a'.defers = a.defers → Q .normal a' c'.w) : (Code.region id ops true).wpIn (RF ro) nn P Q a c.w := by
  obtain ⟨g1, g2⟩ := Zox hl
  have hlen : l.length = ops.size := by simpa using g1
  obtain ⟨t1, t2, t3⟩ := Zye ht
  unfold mixB at hb
  rw [List.all_eq_true] at hb
  have hb' : ∀ k, k < l.length → Zqd E (qf.getD k false) (opAt' l k) (atS tr k) (atS tr (k + 1)) = true ∧ ∀ i, i ∈ un.getD k [] → pairB (pairN E (qf.getD i false) (qf.getD k false) (opAt' l i) (opAt' l k) (atS tr i) (atS tr (i + 1)) (atS tr k) (atS tr (k + 1))) = true := fun k hk => by
    have := hb k (List.mem_range.2 hk)
    rw [Bool.and_eq_true, List.all_eq_true] at this
    exact this
  have H : MxH P E call nt ops l qf (atS tr) c := by
    refine ⟨hcall, hlow, fun i o ho => g2 i o (by simpa using ho), hlen, fun j oc hoc => by have := t3 j oc hoc; rwa [Nat.zero_add] at this, fun i j x y hij hx hy hbit => ?_, fun j oc hoc => ?_, fun i j x y hij hx hy hbit => ?_, hs.sim, by rw [t2]; exact hs.m, hs.gl⟩
    · have hjl := (List.getElem?_eq_some_iff.1 hy).1
      unfold Zm2 at hap
      have h1 := List.all_eq_true.1 hap j (by simpa using hjl)
      have h2 := List.all_eq_true.1 h1 i (by simpa using hij)
      rw [hbit, hx, hy] at h2
      simpa using h2
    · have hjl := (List.getElem?_eq_some_iff.1 hoc).1
      have := (hb' j hjl).1
      rw [Zr5 hoc] at this; exact this
    · have hjl := (List.getElem?_eq_some_iff.1 hy).1
      have key : Zu2 x y = true → pairB (pairN E (qf.getD i false) (qf.getD j false) x y (atS tr i) (atS tr (i + 1)) (atS tr j) (atS tr (j + 1))) = true := fun hn => by
        have := (hb' j hjl).2 i (by
          rw [hun, List.getD_eq_getElem?_getD, List.getElem?_map, List.getElem?_range hjl, Option.map_some, Option.getD_some]
          unfold unAt
          rw [List.mem_filter]
          exact ⟨List.mem_range.2 hij, by rw [Zr5 hx, Zr5 hy, hn, hbit]; rfl⟩)
        rw [Zr5 hx, Zr5 hy] at this
        exact this
      cases hn : Zu2 x y with
      | true =>
        rcases Z2c (key hn) with h | ⟨v, h⟩
        · exact ⟨none, h, fun a b e => by cases e⟩
        · exact ⟨some (v, v), h, fun a b e => by cases e; rfl⟩
      | false =>
        refine ⟨none, ?_, fun a b e => by cases e⟩
        unfold Zu2 at hn
        unfold pairN
        split at hn
        · rename_i h1; simp only [h1]
        · rename_i h1 h2; simp only [h1]
        · rename_i h1 h2; simp only [h1, h2]
        · cases hn
  refine wpIn_region_any hm ?_
  have hl0 : lst (Array.replicate ops.size false) = fun _ => false := by
    funext i
    simp only [lst, Array.getD_eq_getD_getElem?, Array.getElem?_replicate]
    split <;> rfl
  have hML0 : ∀ id, id < (atS tr 0).m.length → (ML E l qf (atS tr) fun _ => false)[id]? = (atS tr 0).m[id]? := fun id hid =>
    H.ML_prefix (Nat.zero_le _) hid fun k _ _ => ⟨fun h => (by cases h), fun h => (by omega)⟩
  have hlt : ∀ id B, c.φ id = some B → id < (atS tr 0).m.length := fun id B h => by rw [← H.hm]; exact H.sim.dom id B h
  have hgr := H.mono (Nat.zero_le l.length) (Nat.le_refl _)
  have key : ∀ w : World, w.heap = c.w.heap → w.os = c.w.os → w.tape = c.w.tape → w.output = c.w.output → MxInv P E nt l qf (atS tr) c a (fun _ => false) ⟨c.φ, ML E l qf (atS tr) fun _ => false, c.I, w⟩ a := by
    intro w h1 h2 h3 h4
    have hw0 : ∀ (b : Nat) (x : Obj), c.w.heap[b]? = some x → w.heap[b]? = some x := fun b x h => by rw [h1]; exact h
    have hst : St c ⟨c.φ, ML E l qf (atS tr) fun _ => false, c.I, w⟩ := by
      refine ⟨Zkx hw0, fun id blk hb => ⟨blk, ?_, Nat.le_refl _, fun h => ⟨h, rfl⟩, fun _ => ⟨rfl, fun B hB => ⟨hB, fun e n hsh => shape?_of_heap (hw0 B) hsh⟩⟩⟩⟩
      have hid := (List.getElem?_eq_some_iff.1 hb).1
      rw [H.hm] at hb hid
      show (ML E l qf (atS tr) fun _ => false)[id]? = _
      rw [hML0 id hid]; exact hb
    have hsim : PSim P ⟨c.φ, ML E l qf (atS tr) fun _ => false, c.I, w⟩ := by
      refine ⟨fun id blk B hb hφ => ?_, H.sim.inj, fun id B hφ => ?_, fun b o hI => by show b < w.heap.size; rw [h1]; exact H.sim.imm b o hI⟩
      · have hid := hlt id B hφ
        have hb' : (ML E l qf (atS tr) fun _ => false)[id]? = some blk := hb
        rw [hML0 id hid, ← H.hm] at hb'
        exact BlkOK.mono hst rfl (hw0 B) (H.sim.blk id blk B hb' hφ)
      · show id < (ML E l qf (atS tr) fun _ => false).length
        rw [ML_len]
        have := hlt id B hφ; omega
    have hpost : Post P c ⟨c.φ, ML E l qf (atS tr) fun _ => false, c.I, w⟩ := by
      have hb : ∀ (id : Nat) (blk : Blk), c.m[id]? = some blk → (ML E l qf (atS tr) fun _ => false)[id]? = some blk := fun id blk hb => by
        have hid := (List.getElem?_eq_some_iff.1 hb).1
        rw [H.hm] at hb hid
        rw [hML0 id hid]; exact hb
      exact ⟨hst, hsim, ⟨by show c.w.heap.size ≤ w.heap.size; rw [h1]; exact Nat.le_refl _, h2, h3, h4, fun b x hx _ => hw0 b x hx, fun id B h => .inl h, fun id blk h => ⟨blk, hb id blk h, rfl⟩, fun id blk h _ => ⟨blk, hb id blk h, rfl, rfl, rfl⟩, fun id B blk h _ _ => ⟨B, h⟩⟩, rfl⟩
    refine ⟨⟨hsim, rfl, fun d => ?_, fun g cs hg => RelD.keep (Zkx hw0) _ _ (hs.gl g cs hg), hs.nt⟩, hpost, fun id B h => .inl (hlt id B h), rfl⟩
    have e : TL l (atS tr) (fun _ => false) d = s.t d := by
      unfold TL
      rw [Zws fun j _ h => by cases h]
      simp only [tOf, t2]
    show RelV _ (TL l (atS tr) (fun _ => false) d) _
    rw [e]
    exact RelV.mono hst _ _ (hs.t d)
  refine Z12 (a0 := a) H hq ops.size _ ⟨c.φ, ML E l qf (atS tr) fun _ => false, c.I, _⟩ a ?_ (by simp) ?_ ?_
  · rw [hl0]
    have : ∀ n, cnt (fun _ => false) n = 0 := by intro n; induction n with | zero => rfl | succ n ih => simp [cnt, ih]
    rw [this]; omega
  · rw [hl0]; intro i o _ h; cases h
  · rw [hl0]; exact key _ rfl rfl rfl rfl
theorem Z6e (hm : P.follows .mixedOrders = true) : DrawOK P := by
  intro ro nn E call hcall nt id ops C0 hc Q c s s2 x a hs hr hq
  have reg : ∀ qs ts, C0 = .reg qs ts → ∃ s1, opsC (doQ E call) qs s = some s1 ∧ opsC (doI E call) ts s1 = some s2 ∧ x = .normal := by
    rintro qs ts rfl
    simp only [runC] at hr
    split at hr
    · rename_i s1 h1
      split at hr
      · rename_i s3 h2; cases hr; exact ⟨s1, h1, h2, rfl⟩
      · cases hr
    · cases hr
  unfold Zql at hc
  cases hl : cOpsC P nt ops ops.toList with
  | none => simp [hl] at hc
  | some l =>
    obtain ⟨g1, _⟩ := Zox hl
    have hlen : l.length = ops.size := by simpa using g1
    simp only [hl, Bool.not_true, Bool.false_eq_true, if_false] at hc
    split at hc
    · rename_i hcond
      simp only [Bool.and_eq_true] at hcond
      obtain rfl := er_reg (Option.some.inj hc).symm
      obtain ⟨s1, h1, h2, hx⟩ := reg _ _ rfl
      exact Z5b hm hcall hl hcond.1.1.1 hcond.1.1.2 hs h1 h2 fun c' a' p1 p2 p3 => hq c' a' p1 p2 p3 hx
    · split at hc
      · rename_i hcond
        simp only [Bool.and_eq_true] at hcond
        obtain rfl := er_reg (Option.some.inj hc).symm
        obtain ⟨s1, h1, h2, hx⟩ := reg _ _ rfl
        exact Z0c hm hcall hl hcond.1 (p := 0) (by simp [Zm2]) (Nat.zero_le _) hcond.2 hs (by simpa using h1) h2 fun c' a' p1 p2 p3 => hq c' a' p1 p2 p3 hx
      · split at hc
        · rename_i hcond
          simp only [Bool.and_eq_true] at hcond
          obtain rfl := er_reg (Option.some.inj hc).symm
          obtain ⟨s1, h1, h2, hx⟩ := reg _ _ rfl
          exact Z0c hm hcall hl hcond.1.1.1 hcond.1.1.2 (by rw [← hlen]; exact Zzo l) hcond.1.2 hs h1 h2 fun c' a' p1 p2 p3 => hq c' a' p1 p2 p3 hx
        · split at hc
          · rename_i hcond
            simp only [Bool.and_eq_true] at hcond
            obtain ⟨qf, rfl⟩ := er_mix (Option.some.inj hc).symm
            simp only [runC] at hr
            split at hr
            · rename_i tr ht
              split at hr
              · rename_i hb
                cases hr
                exact mix_ok hm hcall hl hcond.1 hcond.2 rfl hs ht hb fun c' a' p1 p2 p3 => hq c' a' p1 p2 p3 rfl
              · cases hr
            · cases hr
          · cases hc
end Go.Proofs.Ytdlhhoejnhjbhaa.Den

namespace Go.Proofs.Ytdlhhoejnhjbhaa.Den
open Go
set_option linter.unusedVariables false
set_option linter.unusedSimpArgs false
def immAll (w : World) : Imm := fun b _ => b < w.heap.size
def RelDs (I : Imm) (w : World) : List D → List Value → Prop
  | [], cs => cs = []
  | d :: ds, cs => ∃ v vs, cs = v :: vs ∧ OneC v ∧ RelD I w d v ∧ RelDs I w ds vs
theorem RelDs.append {I : Imm} {w : World} : ∀ {a : List D} {as1 : List Value} {b : List D} {bs : List Value}, RelDs I w a as1 → RelDs I w b bs → RelDs I w (a ++ b) (as1 ++ bs)
  | [], _, _, _, h, k => by simp only [RelDs] at h; subst h; simpa using k
  | d :: a, _, _, _, h, k => by
    simp only [RelDs] at h
    obtain ⟨v, vs, rfl, h1, h2, h3⟩ := h
    simp only [List.cons_append, RelDs]
    exact ⟨v, _, rfl, h1, h2, RelDs.append h3 k⟩
theorem RelDs.len {I : Imm} {w : World} : ∀ {a : List D} {as1 : List Value}, RelDs I w a as1 → as1.length = a.length
  | [], _, h => by simp only [RelDs] at h; subst h; rfl
  | d :: a, _, h => by
    simp only [RelDs] at h
    obtain ⟨v, vs, rfl, _, _, h3⟩ := h
    simp [RelDs.len h3]
theorem RelDs.rel {w : World} {φ : Nat → Option Nat} {m : Mem} {I : Imm} : ∀ {a : List D} {as1 : List Value}, RelDs I w a as1 → RelVs ⟨φ, m, I, w⟩ (a.map V.d) as1 ∧ ∀ u, u ∈ as1 → OneC u
  | [], _, h => by simp only [RelDs] at h; subst h; simp [RelVs]
  | d :: a, _, h => by
    simp only [RelDs] at h
    obtain ⟨v, vs, rfl, h1, h2, h3⟩ := h
    obtain ⟨g1, g2⟩ := RelDs.rel (φ := φ) (m := m) h3
    refine ⟨?_, ?_⟩
    · simp only [List.map_cons, RelVs]
      exact ⟨v, vs, rfl, by simpa only [RelV] using h2, g1⟩
    · intro u hu
      rcases List.mem_cons.1 hu with rfl | hu
      · exact h1
      · exact g2 u hu
theorem RelDs.held {I : Imm} {w : World} {b : Nat} : ∀ {a : List D} {as1 : List Value} {o : Nat}, RelDs I w a as1 → (∀ j v, as1[j]? = some v → w.cell? ⟨b, o + j, none⟩ = some v ∧ I b (o + j)) → Held I w b o a
  | [], _, _, _, _ => by simp [Held]
  | d :: a, _, o, h, hc => by
    simp only [RelDs] at h
    obtain ⟨v, vs, rfl, h1, h2, h3⟩ := h
    simp only [Held]
    have h0 := hc 0 v (by simp)
    refine ⟨⟨v, by simpa using h0.1, by simpa using h0.2, h1, h2⟩, RelDs.held h3 fun j u hj => ?_⟩
    have := hc (j + 1) u (by simpa using hj)
    rw [show o + 1 + j = o + (j + 1) by omega]; exact this
theorem Zuk {α β : Type} {f : α → Option β} : ∀ {l : List α} {r : List β}, l.mapM f = some r → r.length = l.length ∧ ∀ (i : Nat) (x : α), l[i]? = some x → ∃ y, f x = some y ∧ r[i]? = some y
  | [], r, h => by simp at h; subst h; simp
  | a :: l, r, h => by
    rw [List.mapM_cons] at h
    cases ha : f a with
    | none => simp [ha] at h
    | some b =>
      cases hl : l.mapM f with
      | none => simp [ha, hl] at h
      | some r' =>
        simp [ha, hl] at h; subst h
        obtain ⟨h1, h2⟩ := Zuk hl
        refine ⟨by simp [h1], fun i x hi => ?_⟩
        cases i with
        | zero => simp at hi; subst hi; exact ⟨b, ha, by simp⟩
        | succ i => simpa using h2 i x (by simpa using hi)
section
variable (P : Program)
def TyFs (T : TypeId → List D → Prop) : List Field → List D → Prop
  | [], ds => ds = []
  | f :: fs, ds => ∃ a b, ds = a ++ b ∧ T f.type a ∧ TyFs T fs b
def Ty : Nat → TypeId → List D → Prop
  | 0, _, _ => False
  | n + 1, t, ds => match P.underlying t with
    | some .bool => ∃ b, ds = [.bool b]
    | some (.int k) => ∃ z, ds = [.int k z] ∧ (Lit.int k z).wf = true
    | some .string => ∃ s, ds = [.str s] ∧ s.size ≤ 140737488351232
    | some (.slice e) => ds = [.nils] ∨ ∃ rows, ds = [.rs (isFlat P e) (P.cellsOf e) rows false] ∧ rows.length ≤ maxLen ∧ rows.length * P.bytesOf e ≤ 140737488351232 ∧ ∀ r, r ∈ rows → Ty n e r
    | some (.struct fs) => TyFs (Ty n) fs.toList ds
    | some (.array m e) => ∃ rows : List (List D), rows.length = m ∧ ds = rows.flatten ∧ ∀ r, r ∈ rows → Ty n e r
    | _ => False
def contig (fs : List Field) (o total : Nat) : Bool :=
  match fs with
  | [] => o == total
  | f :: r => f.offset == o && contig r (o + P.cellsOf f.type) total
def goodT : Nat → TypeId → Bool
  | 0, _ => false
  | n + 1, t => match P.underlying t with
    | some .bool | some (.int _) | some .string => true
    | some (.slice e) => goodT n e && decide (0 < P.cellsOf e)
    | some (.struct fs) => contig P fs.toList 0 (P.cellsOf t) && fs.toList.all fun f => goodT n f.type
    | some (.array m e) => goodT n e && m * P.cellsOf e == P.cellsOf t
    | _ => false
end
variable {P : Program}
theorem Zw8 {n : Nat} {T : TypeId → List D → Prop} (hT : ∀ t ds, flatT P n t = true → T t ds → ∀ x, x ∈ ds → D.scalar x = true) : ∀ (fs : List Field) (ds : List D), (fs.all fun f => flatT P n f.type) = true → TyFs T fs ds → ∀ x, x ∈ ds → D.scalar x = true
  | [], ds, _, h, x, hx => by simp only [TyFs] at h; subst h; simp at hx
  | f :: fs, ds, hf, h, x, hx => by
    simp only [TyFs] at h
    obtain ⟨a, b, rfl, h1, h2⟩ := h
    simp only [List.all_cons, Bool.and_eq_true] at hf
    rcases List.mem_append.1 hx with hx | hx
    · exact hT _ _ hf.1 h1 x hx
    · exact Zw8 hT fs b hf.2 h2 x hx
theorem Zti : ∀ (n m : Nat) (t : TypeId) (ds : List D), flatT P n t = true → Ty P m t ds → ∀ x, x ∈ ds → D.scalar x = true
  | 0, _, _, _, h, _, _, _ => by simp [flatT] at h
  | n + 1, 0, _, _, _, h, _, _ => by simp [Ty] at h
  | n + 1, m + 1, t, ds, hf, h, x, hx => by
    simp only [flatT] at hf
    simp only [Ty] at h
    split at hf
    · rename_i hu; rw [hu] at h; obtain ⟨b, rfl⟩ := h; simp at hx; subst hx; rfl
    · rename_i hu; rw [hu] at h; obtain ⟨b, rfl, _⟩ := h; simp at hx; subst hx; rfl
    · rename_i hu; rw [hu] at h; obtain ⟨b, rfl, _⟩ := h; simp at hx; subst hx; rfl
    · rename_i fs hu
      rw [hu] at h
      exact Zw8 (n := n) (T := Ty P m) (fun t ds h1 h2 => Zti n m t ds h1 h2) fs.toList ds hf h x hx
    · rename_i k e hu
      rw [hu] at h
      obtain ⟨rows, _, rfl, hr⟩ := h
      obtain ⟨r, hr1, hr2⟩ := List.mem_flatten.1 hx
      exact Zti n m e r hf (hr r hr1) x hr2
    · cases hf
section
variable {H : Type} {enc : TypeId × Value → H} {w : World}
theorem Zto {Q : Nat → List D → Prop} : ∀ (len : Nat), (∀ i, i < len → ∃ r, Q i r) → ∃ rows : List (List D), rows.length = len ∧ ∀ i r, rows[i]? = some r → Q i r
  | 0, _ => ⟨[], rfl, by simp⟩
  | len + 1, h => by
    obtain ⟨rows, h1, h2⟩ := Zto len fun i hi => h i (by omega)
    obtain ⟨r, hr⟩ := h len (by omega)
    refine ⟨rows ++ [r], by simp [h1], fun i x hx => ?_⟩
    rcases Nat.lt_or_ge i rows.length with hlt | hge
    · exact h2 i x (by rw [List.getElem?_append_left hlt] at hx; exact hx)
    · rw [List.getElem?_append_right hge] at hx
      have hi : i - rows.length = 0 := by
        rcases Nat.eq_zero_or_pos (i - rows.length) with h0 | h0
        · exact h0
        · rw [List.getElem?_eq_none (by simp; omega)] at hx; cases hx
      rw [hi] at hx
      simp at hx; subst hx
      have : i = len := by omega
      subst this; exact hr
theorem Zvf {I : Imm} {s : Nat} : ∀ (rows : List (List D)) (cs : List Value), cs.length = rows.length * s → (∀ i r, rows[i]? = some r → RelDs I w r ((cs.drop (i * s)).take s)) → RelDs I w rows.flatten cs
  | [], cs, h, _ => by
    simp at h; subst h; simp [RelDs]
  | r :: rows, cs, h, hr => by
    have h0 := hr 0 r (by simp)
    simp at h0
    have ih := Zvf (s := s) rows (cs.drop s) (by rw [List.length_drop, h]; simp [Nat.add_mul]) fun i x hx => by
      have := hr (i + 1) x (by simpa using hx)
      rw [List.drop_drop, show s + i * s = (i + 1) * s by rw [Nat.add_mul]; omega]; exact this
    have := RelDs.append h0 ih
    rw [List.take_append_drop] at this
    simpa using this
theorem Zp9 {e : TypeId} : ∀ {l : List (DataW H)} {d : DataW H} {n : Nat}, d ∈ l → n ∈ d.weights P e → n ∈ DataW.weightsAll P e l
  | d0 :: l, d, n, h, k => by
    simp only [DataW.weightsAll, List.mem_append]
    rcases List.mem_cons.1 h with rfl | h
    · exact .inl k
    · exact .inr (Zp9 h k)
theorem Zw9 {fuel n : Nat} (ih : ∀ (t : TypeId) (cs : List Value) (x : DataW H × List MemPlace), goodT P n t = true → (∀ m, m ∈ x.1.weights P t → m ≤ 140737488351232) → DataW.trod enc P w 0 (fun _ => true) true fuel t cs = some x → ∃ ds, Ty P n t ds ∧ RelDs (immAll w) w ds cs)
    {cs : List Value} {total : Nat} (hcs : cs.length = total) : ∀ (fs : List Field) (o : Nat) (xs : List (DataW H × List MemPlace)), contig P fs o total = true → (fs.all fun f => goodT P n f.type) = true → (∀ m, m ∈ DataW.weightsEach P (fs.map (·.type)) (xs.map (·.1)) → m ≤ 140737488351232) →
      (fs.mapM fun f => DataW.trod enc P w 0 (fun _ => true) true fuel f.type ((cs.drop f.offset).take (P.cellsOf f.type))) = some xs → ∃ ds, TyFs (Ty P n) fs ds ∧ RelDs (immAll w) w ds (cs.drop o)
  | [], o, xs, hc, _, _, _ => by
    simp [contig] at hc
    refine ⟨[], by simp [TyFs], ?_⟩
    simp only [RelDs]
    exact List.drop_eq_nil_of_le (by omega)
  | f :: fs, o, xs, hc, hg, hwt, h => by
    simp only [contig, Bool.and_eq_true, beq_iff_eq] at hc
    simp only [List.all_cons, Bool.and_eq_true] at hg
    rw [List.mapM_cons] at h
    cases h1 : DataW.trod enc P w 0 (fun _ => true) true fuel f.type ((cs.drop f.offset).take (P.cellsOf f.type)) with
    | none => simp [h1] at h
    | some x1 =>
      cases h2 : (fs.mapM fun f => DataW.trod enc P w 0 (fun _ => true) true fuel f.type ((cs.drop f.offset).take (P.cellsOf f.type))) with
      | none => simp [h1, h2] at h
      | some x2 =>
        simp [h1, h2] at h; subst h
        simp only [List.map_cons, DataW.weightsEach, List.mem_append] at hwt
        obtain ⟨a, ha, hra⟩ := ih f.type _ x1 hg.1 (fun m hm => hwt m (.inl hm)) h1
        obtain ⟨b, hb, hrb⟩ := Zw9 ih hcs fs (o + P.cellsOf f.type) x2 hc.2 hg.2 (fun m hm => hwt m (.inr hm)) h2
        refine ⟨a ++ b, by simp only [TyFs]; exact ⟨a, b, rfl, ha, hb⟩, ?_⟩
        rw [hc.1] at hra
        have := RelDs.append hra hrb
        rw [← List.drop_drop, List.take_append_drop] at this
        exact this
theorem Z04 {a : Addr} {n : Nat} {cs : List Value} (h : w.cells? 0 a n = some cs) : cs.length = n ∧ ∀ (j : Nat) (v : Value), cs[j]? = some v → w.cell? (a.add j) = some v := by
  unfold World.cells? at h
  simp only [Nat.zero_le, if_true] at h
  obtain ⟨h1, h2⟩ := Zuk h
  refine ⟨by simpa using h1, fun j v hj => ?_⟩
  have hlt : j < n := by have := (List.getElem?_eq_some_iff.1 hj).1; simp at h1; omega
  obtain ⟨y, hy, hy2⟩ := h2 j j (by simp [hlt])
  rw [hj] at hy2; cases hy2; exact hy
theorem Z6f {b o : Nat} {v : Value} (h : w.cell? ⟨b, o, none⟩ = some v) : b < w.heap.size := by
  unfold World.cell? at h
  cases hb : w.heap[b]? with
  | none => simp [hb] at h
  | some x => exact Zke hb
theorem Zzh {a : Addr} {v : Value} (h : w.cell? a = some v) : a.spot = none := by
  unfold World.cell? at h
  split at h
  · split at h
    · cases h
    · rename_i hs; cases hsp : a.spot with | none => rfl | some x => simp [hsp] at hs
  · cases h
theorem Zza : ∀ (fuel n : Nat) (t : TypeId) (cs : List Value) (x : DataW H × List MemPlace), goodT P n t = true → (∀ m, m ∈ x.1.weights P t → m ≤ 140737488351232) → DataW.trod enc P w 0 (fun _ => true) true fuel t cs = some x →
    ∃ ds, Ty P n t ds ∧ RelDs (immAll w) w ds cs
  | 0, _, _, _, _, _, _, h => by simp [DataW.trod] at h
  | fuel + 1, 0, _, _, _, hg, _, _ => by simp [goodT] at hg
  | fuel + 1, n + 1, t, cs, x, hg, hwt, h => by
    have ih := Zza fuel n
    simp only [goodT] at hg
    simp only [Ty]
    cases hu : P.underlying t with
    | none => simp [hu] at hg
    | some d =>
      simp only [hu] at hg
      cases d with
      | bool =>
        unfold DataW.trod at h
        simp only [hu] at h
        split at h
        case h_1 b _ => exact ⟨[.bool b], ⟨b, rfl⟩, by simp only [RelDs]; exact ⟨_, [], rfl, by simp [OneC], by simp only [RelD], rfl⟩⟩
        all_goals (first | (cases h; done) | (rename_i hh; cases hh; done) | simp_all)
      | int k =>
        unfold DataW.trod at h
        simp only [hu] at h
        split at h
        case h_2 k0 k' z hk =>
          cases hk
          split at h
          case isFalse => cases h
          rename_i hw
          obtain ⟨rfl, hw⟩ := hw
          exact ⟨[.int k' z], ⟨z, rfl, hw⟩, by simp only [RelDs]; exact ⟨_, [], rfl, by simp [OneC], by simp only [RelD], rfl⟩⟩
        all_goals (first | (cases h; done) | (rename_i hh; cases hh; done) | simp_all)
      | string =>
        unfold DataW.trod at h
        simp only [hu] at h
        split at h
        case h_4 s _ =>
          split at h
          case isFalse => cases h
          cases h
          exact ⟨[.str s], ⟨s, rfl, hwt _ (by simp [DataW.weights])⟩, by simp only [RelDs]; exact ⟨_, [], rfl, by simp [OneC], by simp only [RelD], rfl⟩⟩
        all_goals (first | (cases h; done) | (rename_i hh; cases hh; done) | simp_all)
      | slice e =>
        simp only [Bool.and_eq_true, decide_eq_true_eq] at hg
        unfold DataW.trod at h
        simp only [hu] at h
        split at h
        case h_7 =>
          exact ⟨[.nils], .inl rfl, by simp only [RelDs]; exact ⟨_, [], rfl, by simp [OneC], by simp only [RelD], rfl⟩⟩
        case h_8 e' a len cap he =>
          cases he
          split at h
          case isFalse => cases h
          rename_i hc
          obtain ⟨_, hlc, hcm⟩ := hc
          obtain ⟨elems, hel, h⟩ := Option.bind_eq_some_iff.1 h
          obtain ⟨el, hel2⟩ := Zuk hel
          simp at el
          obtain ⟨rest, _, rfl⟩ := Option.map_eq_some_iff.1 h
          simp only [DataW.weights, hu, List.length_map] at hwt
          have hbytes : len * P.bytesOf e ≤ 140737488351232 := Nat.le_trans (Nat.mul_le_mul_right _ (by omega)) (hwt _ (List.mem_cons_self ..))
          obtain ⟨b, o, sp⟩ := a
          have hrow : ∀ i, i < len → ∃ r : List D, (Ty P n e r) ∧ r.length = P.cellsOf e ∧ sp = none ∧ Held (immAll w) w b (o + i * P.cellsOf e) r := fun i hi => by
            obtain ⟨y, hy, hy9⟩ := hel2 i i (by simp [hi])
            have hyw : ∀ m, m ∈ y.1.weights P e → m ≤ 140737488351232 := fun m hm => hwt m (List.mem_cons_of_mem _ (List.mem_append_left _ (Zp9 (List.mem_map.2 ⟨y, List.mem_of_getElem? hy9, rfl⟩) hm)))
            obtain ⟨ci, hci, hy⟩ := Option.bind_eq_some_iff.1 hy
            obtain ⟨c1, c2⟩ := Z04 hci
            obtain ⟨r, hr1, hr2⟩ := ih e ci y hg.1 hyw hy
            obtain ⟨j0, hj0⟩ : ∃ v, ci[0]? = some v := ⟨_, List.getElem?_eq_getElem (by omega)⟩
            have hs0 := Zzh (c2 0 j0 hj0)
            have hsp : (i * P.cellsOf e = 0 → sp = none) := fun h0 => by
              simpa [Addr.add, h0] using hs0
            have hadd : ∀ j, ((⟨b, o, sp⟩ : Addr).add (i * P.cellsOf e)).add j = ⟨b, o + i * P.cellsOf e + j, none⟩ := fun j => by
              by_cases h0 : i * P.cellsOf e = 0
              · rw [hsp h0, Zje, Zje]
              · simp only [Addr.add, h0, if_false]
                split <;> simp_all
            have hsp0 : sp = none := by
              obtain ⟨y0, hy0, _⟩ := hel2 0 0 (List.getElem?_range (Nat.lt_of_le_of_lt (Nat.zero_le i) hi))
              obtain ⟨c0, hc0, _⟩ := Option.bind_eq_some_iff.1 hy0
              obtain ⟨d1, d2⟩ := Z04 hc0
              obtain ⟨v0, hv0⟩ : ∃ v, c0[0]? = some v := ⟨_, List.getElem?_eq_getElem (by omega)⟩
              have := Zzh (d2 0 v0 hv0)
              simpa [Addr.add] using this
            refine ⟨r, hr1, by rw [← hr2.len]; exact c1, hsp0, hr2.held fun j v hj => ?_⟩
            have := c2 j v hj
            rw [hadd j] at this
            exact ⟨this, Z6f this⟩
          obtain ⟨rows, hrl, hrows⟩ := Zto len hrow
          have hall : ∀ r, r ∈ rows → Ty P n e r ∧ r.length = P.cellsOf e := fun r hr => by
            obtain ⟨i, hi, e⟩ := List.getElem_of_mem hr
            have := hrows i r (by rw [List.getElem?_eq_getElem hi, e])
            exact ⟨this.1, this.2.1⟩
          refine ⟨_, .inr ⟨rows, rfl, by omega, by rw [hrl]; exact hbytes, fun r hr => (hall r hr).1⟩, ?_⟩
          simp only [RelDs]
          refine ⟨_, [], rfl, by simp [OneC], ?_, rfl⟩
          simp only [RelD]
          refine ⟨hg.2, fun hf r hr y hy => Zti 20 n e r hf (hall r hr).1 y hy, fun r hr => (hall r hr).2, b, o, sp, cap, by rw [hrl], ?_, by omega, (fun h => by cases h), ?_⟩
          · rcases Nat.eq_zero_or_pos rows.length with h0 | h0
            · exact .inl (List.length_eq_zero_iff.1 h0)
            · exact .inr (hrows 0 rows[0] (by simp)).2.2.1
          · have key : ∀ (l : List (List D)) (k : Nat), (∀ i r, l[i]? = some r → Held (immAll w) w b (o + (k + i) * P.cellsOf e) r) → HeldR (immAll w) w (P.cellsOf e) b (o + k * P.cellsOf e) l := by
              intro l
              induction l with
              | nil => intro k _; simp [HeldR]
              | cons r l ihl =>
                intro k hl
                simp only [HeldR]
                refine ⟨by simpa using hl 0 r (by simp), ?_⟩
                have := ihl (k + 1) fun i x hx => by
                  have := hl (i + 1) x (by simpa using hx)
                  rw [show k + 1 + i = k + (i + 1) by omega]; exact this
                rw [show o + k * P.cellsOf e + P.cellsOf e = o + (k + 1) * P.cellsOf e by rw [Nat.add_mul]; omega]; exact this
            have := key rows 0 fun i r hi => by rw [Nat.zero_add]; exact (hrows i r hi).2.2.2
            simpa using this
        all_goals simp_all
      | struct fs =>
        simp only [Bool.and_eq_true] at hg
        unfold DataW.trod at h
        simp only [hu] at h
        split at h
        case isFalse => cases h
        rename_i hlen
        obtain ⟨xs, hxs, rfl⟩ := Option.map_eq_some_iff.1 h
        simp only [DataW.weights, hu] at hwt
        obtain ⟨ds, h1, h2⟩ := Zw9 ih hlen fs.toList 0 xs hg.1 hg.2 hwt hxs
        exact ⟨ds, h1, by simpa using h2⟩
      | array m e =>
        simp only [Bool.and_eq_true, beq_iff_eq] at hg
        unfold DataW.trod at h
        simp only [hu] at h
        split at h
        case isFalse => cases h
        rename_i hlen
        obtain ⟨xs, hxs, rfl⟩ := Option.map_eq_some_iff.1 h
        simp only [DataW.weights, hu] at hwt
        obtain ⟨xl, hx2⟩ := Zuk hxs
        obtain ⟨rows, hrl, hrows⟩ := Zto (Q := fun i r => Ty P n e r ∧ RelDs (immAll w) w r ((cs.drop (i * P.cellsOf e)).take (P.cellsOf e))) m fun i hi => by
          obtain ⟨y, hy, hy9⟩ := hx2 i i (by simp [hi])
          obtain ⟨r, hr1, hr2⟩ := ih e _ y hg.1 (fun m hm => hwt m (Zp9 (List.mem_map.2 ⟨y, List.mem_of_getElem? hy9, rfl⟩) hm)) hy
          exact ⟨r, hr1, hr2⟩
        refine ⟨rows.flatten, ⟨rows, hrl, rfl, fun r hr => ?_⟩, Zvf (s := P.cellsOf e) rows cs (by rw [hrl, hg.2]; exact hlen) fun i r hi => (hrows i r hi).2⟩
        obtain ⟨i, hi, e'⟩ := List.getElem_of_mem hr
        exact (hrows i r (by rw [List.getElem?_eq_getElem hi, e'])).1
      | _ => simp at hg
end
end Go.Proofs.Ytdlhhoejnhjbhaa.Den

namespace Go.Proofs.Ytdlhhoejnhjbhaa.Den
open Go Go.ChangeShapes Go.WideShapes Go.ChangeAt Go.RowKit
set_option linter.unusedVariables false
set_option linter.unusedSimpArgs false
def argV (P : Program) (t : TypeId) (ds : List D) : V :=
  match P.underlying t with
  | some (.struct _) | some (.array _ _) => .agg (ds.map V.d)
  | _ => match ds with | d :: _ => .d d | [] => .un
def argsV (P : Program) : List TypeId → List (List D) → List V
  | t :: ts, ds :: r => argV P t ds :: argsV P ts r
  | _, _ => []
def TyAll (P : Program) (n : Nat) : List TypeId → List (List D) → Prop
  | [], r => r = []
  | t :: ts, r => ∃ ds r', r = ds :: r' ∧ Ty P n t ds ∧ TyAll P n ts r'
def cx0 (w : World) : Cx := ⟨fun _ => none, [], immAll w, w⟩
theorem Z6n (P : Program) (w : World) : PSim P (cx0 w) :=
  ⟨fun _ _ _ h => by simp [cx0] at h, fun _ _ _ h => by simp [cx0] at h, fun _ _ h => by simp [cx0] at h, fun b o h => h⟩
section
variable {P : Program} {H : Type} {enc : TypeId × Value → H} {w : World}
theorem Z46 {n base : Nat} {r : Reach} {t : TypeId} {v : Value} {d : DataW H} {ps : List MemPlace} (hg : goodT P n t = true) (hval : Value.okWide P w r base t v) (hwt : ∀ m, m ∈ d.weights P t → m ≤ 140737488351232) (h : DataW.Trod enc P w 0 (fun _ => true) true t v d ps) :
    ∃ ds, Ty P n t ds ∧ RelV (cx0 w) (argV P t ds) v := by
  obtain ⟨fuel, h⟩ := h
  obtain ⟨ds, h1, h2⟩ := Zza fuel n t _ _ hg hwt h
  refine ⟨ds, h1, ?_⟩
  obtain ⟨g1, g2⟩ := RelDs.rel (φ := fun _ => none) (m := []) h2
  have one : (∀ cs, v ≠ .agg cs) → (∃ d r, ds = d :: r) → (∀ d r, ds = d :: r → RelV (cx0 w) (.d d) v) := fun hna _ d r e => by
    have hc : v.cells.toList = [v] := by cases v <;> first | rfl | exact absurd rfl (hna _)
    rw [hc] at h2
    subst e
    simp only [RelDs] at h2
    obtain ⟨u, us, e, _, hr, _⟩ := h2
    cases e
    simp only [RelV]
    exact hr
  cases n with
  | zero => simp [Ty] at h1
  | succ n =>
    simp only [Ty] at h1
    simp only [argV]
    cases hu : P.underlying t with
    | none => simp [hu] at h1
    | some dsc =>
      rw [hu] at h1
      have hnag : (∀ fs, dsc ≠ .struct fs) → (∀ m e, dsc ≠ .array m e) → ∀ cs, v ≠ .agg cs := fun h1 h2 cs hv => by
        subst hv
        simp only [Value.okWide, hu, Cell.okWide] at hval
        cases dsc <;> simp_all [Cell.ok]
      cases dsc with
      | bool => obtain ⟨b, rfl⟩ := h1; exact one (hnag (by simp) (by simp)) ⟨_, _, rfl⟩ _ _ rfl
      | int k => obtain ⟨b, rfl, _⟩ := h1; exact one (hnag (by simp) (by simp)) ⟨_, _, rfl⟩ _ _ rfl
      | string => obtain ⟨b, rfl, _⟩ := h1; exact one (hnag (by simp) (by simp)) ⟨_, _, rfl⟩ _ _ rfl
      | slice e =>
        rcases h1 with rfl | ⟨rows, rfl, _⟩
        · exact one (hnag (by simp) (by simp)) ⟨_, _, rfl⟩ _ _ rfl
        · exact one (hnag (by simp) (by simp)) ⟨_, _, rfl⟩ _ _ rfl
      | struct fs =>
        simp only [Value.okWide, hu] at hval
        obtain ⟨cs, rfl, _⟩ := hval
        simp only [RelV]
        exact ⟨cs.toList, rfl, g1, g2⟩
      | array m e =>
        simp only [Value.okWide, hu] at hval
        obtain ⟨cs, rfl, _⟩ := hval
        simp only [RelV]
        exact ⟨cs.toList, rfl, g1, g2⟩
      | _ => simp at h1
theorem Zzc {n base : Nat} {r : Reach} : ∀ (ts : List TypeId) (vs : List Value) (ds : List (DataW H)) (ps : List MemPlace), (ts.all fun t => goodT P n t) = true →
    (∀ (j : Nat) t v, ts[j]? = some t → vs[j]? = some v → Value.okWide P w r base t v) → (∀ m, m ∈ DataW.weightsEach P ts ds → m ≤ 140737488351232) → DataW.TrodAll enc P w 0 (fun _ => true) true ts vs ds ps → ∃ rs, TyAll P n ts rs ∧ RelVs (cx0 w) (argsV P ts rs) vs
  | [], vs, ds, ps, _, _, _, h => by
    obtain ⟨rfl, _, _⟩ := trodAll_nil h
    exact ⟨[], rfl, by simp [argsV, RelVs]⟩
  | t :: ts, vs, ds, ps, hg, hval, hwt, h => by
    simp only [List.all_cons, Bool.and_eq_true] at hg
    obtain ⟨v, vs', d, ds', p, q, rfl, rfl, rfl, h1, h2⟩ := trodAll_cons h
    simp only [DataW.weightsEach, List.mem_append] at hwt
    obtain ⟨rs, g1, g2⟩ := Zzc ts vs' ds' q hg.2 (fun j t v ht hv => hval (j + 1) t v (by simpa using ht) (by simpa using hv)) (fun m hm => hwt m (.inr hm)) h2
    obtain ⟨r0, k1, k2⟩ := Z46 hg.1 (hval 0 t v (by simp) (by simp)) (fun m hm => hwt m (.inl hm)) h1
    refine ⟨r0 :: rs, ⟨r0, rs, rfl, k1, g1⟩, ?_⟩
    simp only [argsV, RelVs]
    exact ⟨v, vs', rfl, k2, g2⟩
theorem Zs6 {ts' : List TypeId} {ds' : List (DataW H)} {m : Nat} : ∀ {ts : List TypeId} {ds : List (DataW H)}, m ∈ DataW.weightsEach P ts ds → m ∈ DataW.weightsEach P (ts ++ ts') (ds ++ ds')
  | t :: ts, d :: ds, h => by
    simp only [List.cons_append, DataW.weightsEach, List.mem_append] at h ⊢
    exact h.imp id Zs6
  | [], _, h => by simp [DataW.weightsEach] at h
  | _ :: _, [], h => by simp [DataW.weightsEach] at h
theorem Zzz (hl : laidOutB P = true) {W' : World} (hb : Below w.heap.size w W') : ∀ (ts : List TypeId) (vs : List Value) (ds : List (DataW H)) (ps : List MemPlace), (∀ t, t ∈ ts → P.readableRec t = true ∧ t < P.types.size) →
    (∀ x, x ∈ ps → x.block < w.heap.size) → DataW.TrodAll enc P w 0 (fun _ => true) true ts vs ds ps → DataW.TrodAll enc P W' 0 (fun b => decide (b < w.heap.size)) true ts vs ds ps
  | [], vs, ds, ps, _, _, h => by
    obtain ⟨rfl, rfl, rfl⟩ := trodAll_nil h
    exact trodAll_mk0
  | t :: ts, vs, ds, ps, hr, hlt, h => by
    obtain ⟨v, vs', d, ds', p, q, rfl, rfl, rfl, h1, h2⟩ := trodAll_cons h
    obtain ⟨g1, g2⟩ := hr t (by simp)
    exact trodAll_cons_mk (Below.trod hl g1 g2 h1 hb fun x hx => hlt x (List.mem_append_left _ hx)) (Zzz hl hb ts vs' ds' q (fun t ht => hr t (by simp [ht])) (fun x hx => hlt x (List.mem_append_right _ hx)) h2)
theorem Z3e (hm : P.follows .mixedOrders = true) {E : Env} (hE : EnvOK P E) {f : FuncId} {args : List V} {vals : List Value} {k : Nat} {m' : Mem} (hgl : GlOK E (cx0 w)) (ha : RelVs (cx0 w) args vals) (h : callD E k f args [] = some ([.d (.bool true)], m')) :
    Calls P f ⟨vals⟩ w fun e w' => e = .returned (.bool true) ∧ Below w.heap.size w w' := by
  have hny : f ≠ yfn := by
    rintro rfl
    cases k with
    | zero => simp [callD] at h
    | succ k =>
      simp only [callD, if_true, runY] at h
      split at h
      · simp at h
      · cases h
  refine ((((Zxx hE (Z6e hm) k).1) f args [] _ m' h (cx0 w) vals (Z6n P w) rfl hgl ha).1 hny).2.mono ?_
  rintro e w' ⟨rv, c', rfl, rfl, _, hp, hr⟩
  refine ⟨?_, hp.keeps.os, hp.keeps.tape, hp.keeps.output, hp.keeps.size, fun b hb => ?_⟩
  · simp only [RelVs] at hr
    obtain ⟨u, us, rfl, hu, rfl⟩ := hr
    simp only [RelV, RelD] at hu
    rw [hu]; rfl
  · have hb' : ∃ o, w.heap[b]? = some o := ⟨w.heap[b], by simp [hb]⟩
    obtain ⟨o, ho⟩ := hb'
    rw [ho]
    exact hp.keeps.heap b o ho fun ⟨id, blk, h1, _⟩ => by simp [cx0] at h1
end
theorem Z2o {C : Checked} (hm : C.prog.follows .mixedOrders = true) {E : Env} (hE : EnvOK C.prog E) (hgl : ∀ w, GlOK E (cx0 w)) {os : Os} {f : FuncId} {fn : Func} {s : ChangeSpec} {H : Type} {enc : TypeId × Value → H}
    (own : ownKnob C.prog.godebug = none) (started : os.Started) (noInit : C.prog.inits.idxOf? f = none) (hfn : C.prog.funcs[f]? = some fn) (hl : laidOutB C.prog = true)
    (witness : ∃ (w : World) (tape : Tape) (i : Input), w.os = os ∧ (w.forCall tape i).Shaped C.prog ∧ i.vars = [] ∧ Input.okWide C.prog (w.forCall tape i) .any w.heap.size f i ∧
      s.pre6 enc C.prog fn [] false (w.forCall tape i).memory i.args ∧ Assume.holds {} C.prog (lone (Frame.enter C.prog f i.args .normal) [] (w.forCall tape i)))
    (hgood : (fn.params.toList.all fun t => goodT C.prog 20 t && C.prog.readableRec t && decide (t < C.prog.types.size)) = true) {rt : TypeId} (hres : fn.resultTypes = #[rt]) (hrt : C.prog.underlying rt = some .bool)
    (hvars : s.vars = []) (hspec : ∀ ds : List (DataW H), ds.length = fn.params.toList.length → s.fn H ds = { results := [.lit (.bool true)], args := ds })
    (hlaw : ∀ rs, TyAll C.prog 20 fn.params.toList rs → ∃ k m', callD E k f (argsV C.prog fn.params.toList rs) [] = some ([.d (.bool true)], m')) :
    ReturnsInHanded {} C os f .any (s.pre6 enc C.prog fn [] false) (s.post enc C.prog fn false true false false) := by
  refine returnsInHanded_of_change_sized own started noInit hfn witness ?_
  intro W base args ds gs before hval hW _ hsz _
  have hW' := hW
  obtain ⟨p, q, hA, hV, rfl, hfz, hnd⟩ := hW
  rw [hvars] at hV
  obtain ⟨rfl, rfl⟩ := trodVars_none hV
  have hgd : ∀ t, t ∈ fn.params.toList → goodT C.prog 20 t = true ∧ C.prog.readableRec t = true ∧ t < C.prog.types.size := fun t ht => by
    have := List.all_eq_true.1 hgood t ht
    simpa [Bool.and_eq_true, and_assoc] using this
  obtain ⟨rs, h1, h2⟩ := Zzc (n := 20) fn.params.toList args.toList ds p (List.all_eq_true.2 fun t ht => (hgd t ht).1) (fun j t v ht hv => hval j t v (by simpa using ht) (by simpa using hv)) (fun m hm => of_decide_eq_true (List.all_eq_true.1 hsz m (Zs6 hm))) hA
  obtain ⟨k, m', hk⟩ := hlaw rs h1
  refine (Z3e hm hE (hgl W) h2 hk).mono fun e W' ⟨he, bel⟩ => ?_
  subst he
  have hlen : ds.length = fn.params.toList.length := by
    have : ∀ (ts : List TypeId) (vs : List Value) (ds : List (DataW H)) (ps : List MemPlace), DataW.TrodAll enc C.prog W 0 (fun _ => true) true ts vs ds ps → ds.length = ts.length := by
      intro ts
      induction ts with
      | nil => intro vs ds ps h; obtain ⟨_, rfl, _⟩ := trodAll_nil h; rfl
      | cons t ts ih => intro vs ds ps h; obtain ⟨v, vs', d, ds', p, q, rfl, rfl, rfl, _, h2⟩ := trodAll_cons h; simp [ih _ _ _ h2]
    exact this _ _ _ _ hA
  have hs := hspec ds hlen
  refine ⟨_, rfl, ds, [], _, [], p, [], hW', ?_, ?_, ?_, bel.frame _, fun h => by cases h⟩
  · rw [List.append_nil, hs, hres]
    exact trodAll_mk1 (shut_bool hrt _)
  · rw [List.append_nil, hs]
    exact Zzz hl bel _ _ _ _ (fun t ht => (hgd t ht).2) (fun x hx => by simpa using hW'.lt x (by simpa using hx)) hA
  · rw [hvars, List.append_nil, hs]; rfl
section
variable {P : Program} {n : Nat} {t : TypeId} {ds : List D}
theorem Z5l (h : Ty P (n + 1) t ds) (hu : P.underlying t = some .bool) : ∃ b, ds = [.bool b] := by simpa only [Ty, hu] using h
theorem ty_int {k : IntKind} (h : Ty P (n + 1) t ds) (hu : P.underlying t = some (.int k)) : ∃ z, ds = [.int k z] ∧ (Lit.int k z).wf = true := by simpa only [Ty, hu] using h
theorem ty_str (h : Ty P (n + 1) t ds) (hu : P.underlying t = some .string) : ∃ s, ds = [.str s] ∧ s.size ≤ 140737488351232 := by simpa only [Ty, hu] using h
theorem Z41 {e : TypeId} (h : Ty P (n + 1) t ds) (hu : P.underlying t = some (.slice e)) : ds = [.nils] ∨ ∃ rows, ds = [.rs (isFlat P e) (P.cellsOf e) rows false] ∧ rows.length ≤ maxLen ∧ rows.length * P.bytesOf e ≤ 140737488351232 ∧ ∀ r, r ∈ rows → Ty P n e r := by simpa only [Ty, hu] using h
theorem Z3y {fs : Array Field} (h : Ty P (n + 1) t ds) (hu : P.underlying t = some (.struct fs)) : TyFs (Ty P n) fs.toList ds := by simpa only [Ty, hu] using h
theorem ty_arr {m : Nat} {e : TypeId} (h : Ty P (n + 1) t ds) (hu : P.underlying t = some (.array m e)) : ∃ rows : List (List D), rows.length = m ∧ ds = rows.flatten ∧ ∀ r, r ∈ rows → Ty P n e r := by simpa only [Ty, hu] using h
theorem Z4m {T : TypeId → List D → Prop} (h : TyFs T [] ds) : ds = [] := h
theorem Zyz {T : TypeId → List D → Prop} {f : Field} {fs : List Field} (h : TyFs T (f :: fs) ds) : ∃ a b, ds = a ++ b ∧ T f.type a ∧ TyFs T fs b := h
end
end Go.Proofs.Ytdlhhoejnhjbhaa.Den

namespace Go.Proofs.Ytdlhhoejnhjbhaa.Den
open Go
set_option linter.unusedVariables false
set_option linter.unusedSimpArgs false
inductive A (E : Env) : Type where
  | b {x c : Bool} (h : x = c)
  | c {f : FuncId} {args : List V} {m : Mem} {rs : List V} {m' : Mem} (h : cl E f args m = some (rs, m'))
  | l {g : List V × Mem → Option (X × (List V × Mem))} {h0 : List V × Mem} {x : X} {h' : List V × Mem} (h : loopG g bound h0 = some (x, h'))
  | s {f : S → Option (X × S)} {lv lx ln : List Nat} {k : Nat} {h0 : List V × Mem} {x : X} {h' : List V × Mem} (h : segG f lv lx ln k h0 = some (x, h'))
  | e {u u' : V} (h : u = u')
  | y {mm : Mem} {args args1 : List V} (h : V.byvals mm args = args1)
  | o (d : Nat) {i : I} {v : V} (h : ∀ m, doI E (cl E) i (fun _ => .un) m = some (v, m))
  | m (d : Nat) {i : I} {m : Mem} {v : V} {m' : Mem} (h : doI E (cl E) i (fun _ => .un) m = some (v, m'))
abbrev A.k {E : Env} (c : Bool) : A E := .b (x := c) (c := c) rfl
def A.prop {E : Env} : A E → Prop
  | @A.b _ x w _ => x = w
  | @A.c _ f args mm rs m' _ => cl E f args mm = some (rs, m')
  | @A.l _ g h0 x h' _ => loopG g bound h0 = some (x, h')
  | @A.s _ f lv lx ln k h0 x h' _ => segG f lv lx ln k h0 = some (x, h')
  | @A.e _ u u' _ => u = u'
  | @A.y _ mm args args1 _ => V.byvals mm args = args1
  | @A.o _ _ i v _ => ∀ mm, doI E (cl E) i (fun _ => .un) mm = some (v, mm)
  | @A.m _ _ i mm v m' _ => doI E (cl E) i (fun _ => .un) mm = some (v, m')
theorem A.holds {E : Env} : ∀ (a : A E), a.prop
  | .b h => h
  | .c h => h
  | .l h => h
  | .s h => h
  | .e h => h
  | .y h => h
  | .o _ h => h
  | .m _ h => h
structure W (E : Env) where
  t : List (Nat × V × Bool)
  d : V
  m : Mem
  os : List (A E)
  qs : List Prop
def lookW (d : V) : List (Nat × V × Bool) → Nat → V × Bool
  | [], _ => (d, false)
  | (i, x) :: r, j => match Nat.beq j i with | true => x | false => lookW d r j
noncomputable section
variable {E : Env}
def W.tOf (w : W E) : Nat → V := fun j => (lookW w.d w.t j).1
def knW (w : W E) : O → Option Bool
  | .v (.d (.bool c)) => some c
  | .t i => match lookW w.d w.t i with
    | (.d (.bool c), true) => some c
    | _ => none
  | _ => none
def isK : Option Bool → Bool
  | some _ => true
  | none => false
def testW (o : O) (w : W E) : Option (Bool × W E) :=
  match knW w o with
  | some c => some (c, w)
  | none => match ev E w.tOf o with
    | .d (.bool x) => match w.os with
      | @A.b _ _ c _ :: r => some (c, ⟨(match o with | .t j => (j, .d (.bool c), true) :: w.t | _ => w.t), w.d, w.m, r, (x = c) :: w.qs⟩)
      | _ => none
    | _ => none
def Zuc (br : Bool) (args args1 : List V) (m : Mem) : Option (List Nat × Bool × List V × Mem) :=
  match Zmz (reach m 1000 (V.idss args1) []) && (byIds br args).all (fun i => !(reach m 1000 (V.idss args1) []).contains i) with
  | true => match Zol m (idxOf (reach m 1000 (V.idss args1) [])) (reach m 1000 (V.idss args1) []) with
    | some mc => some (reach m 1000 (V.idss args1) [], (byIds br args).isEmpty, V.rens (idxOf (reach m 1000 (V.idss args1) [])) args1, mc)
    | none => none
  | false => none
def Zsm (m : Mem) (ids : List Nat) (e : Bool) (rs : List V) (m' : Mem) : Option (List V × Mem) :=
  match e || (V.noRss rs && m'.all Blk.noRs) with
  | true => match Zrz m' (Zl8 ids m.length) 0 ids m with
    | some m1 => some (V.rens (Zl8 ids m.length) rs, m1 ++ Zse m' (Zl8 ids m.length) ids.length)
    | none => none
  | false => none
theorem Zv9 {call : CallT} {f : FuncId} {args : List V} {m : Mem} {ids : List Nat} {e : Bool} {a : List V} {mc : Mem} {rs : List V} {m' : Mem} {r : List V × Mem} {args1 : List V} {br : Bool} (h0 : byArgs br m args = args1) (h1 : Zuc br args args1 m = some (ids, e, a, mc)) (h2 : call f a mc = some (rs, m')) (h3 : Zsm m ids e rs m' = some r) :
    callV br call f args m = some r := by
  subst h0
  unfold Zuc at h1
  split at h1
  · rename_i hc
    split at h1
    · rename_i mc' hp
      cases h1
      simp only [callV]
      rw [if_pos hc, hp, Option.bind_some, h2, Option.bind_some]
      unfold Zsm at h3
      split at h3
      · rename_i he
        rw [if_pos he]
        split at h3
        · rename_i m1 hl
          simp only [hl, Option.map_some]; exact h3
        · cases h3
      · cases h3
    · cases h1
  · cases h1
def I.mapO (f : O → O) : I → I
  | .mov x => .mov (f x)
  | .pick c a b => .pick (f c) (f a) (f b)
  | .alloc e z fl => .alloc e z fl
  | .nsl e fl s => .nsl e fl s
  | .allocn t e fl s => .allocn t e fl s
  | .box e fl s x => .box e fl s (f x)
  | .build z parts => .build z (parts.map fun p => (p.1, p.2.1, f p.2.2))
  | .bslice e fl s n z parts => .bslice e fl s n z (parts.map fun p => (p.1, f p.2))
  | .load g s x => .load g s (f x)
  | .store s x v => .store s (f x) (f v)
  | .nilck x => .nilck (f x)
  | .bin op x y => .bin op (f x) (f y)
  | .beq k n x y => .beq k n (f x) (f y)
  | .unop op x => .unop op (f x)
  | .conv k x => .conv k (f x)
  | .mkfn g a b => .mkfn g (a.map f) (b.map f)
  | .mkif t x => .mkif t (f x)
  | .mksl e fl z b l c => .mksl e fl z b (f l) (f c)
  | .slice s x lo hi mz => .slice s (f x) (lo.map f) (hi.map f) (mz.map f)
  | .slstr x lo hi => .slstr (f x) (lo.map f) (hi.map f)
  | .slarr n s x lo hi mz => .slarr n s (f x) (lo.map f) (hi.map f) (mz.map f)
  | .fieldA o x => .fieldA o (f x)
  | .field g o s x => .field g o s (f x)
  | .idxA s x i => .idxA s (f x) (f i)
  | .idxAA n s x i => .idxAA n s (f x) (f i)
  | .idx g n s x i => .idx g n s (f x) (f i)
  | .idxs x i => .idxs (f x) (f i)
  | .arrP n s x => .arrP n s (f x)
  | .extract i x => .extract i (f x)
  | .call g args => .call (f g) (args.map f)
  | .inv tbl x args => .inv tbl (f x) (args.map f)
  | .len x => .len (f x)
  | .lens x => .lens (f x)
  | .lenc n => .lenc n
  | .append e fl s b x y => .append e fl s b (f x) (f y)
  | .copy s x y => .copy s (f x) (f y)
  | .mx xs => .mx (xs.map f)
  | .mn xs => .mn (xs.map f)
  | .chk a x b y => .chk a (f x) b (f y)
  | .del g x i j => .del g (f x) (f i) (f j)
  | .appz e s b z x n => .appz e s b z (f x) (f n)
def subO (E : Env) (t : Nat → V) (o : O) : O := .v (ev E t o)
theorem Z5o (t u : Nat → V) (l : List O) : evs E u (l.map (subO E t)) = evs E t l := by simp [evs, subO, ev, Function.comp_def]
theorem Zzs (t u : Nat → V) : ∀ (l : List (Nat × Nat × O)) (cs : List V), fillV E u (l.map fun p => (p.1, p.2.1, subO E t p.2.2)) cs = fillV E t l cs
  | [], _ => rfl
  | (a, b, x) :: r, cs => by simp only [List.map_cons, fillV, subO, ev]; rw [← Zzs t u r]; rfl
theorem Zv3 (t u : Nat → V) (s : Nat) : ∀ (l : List (Nat × O)) (cs : List (List V)), Zmb E u s (l.map fun p => (p.1, subO E t p.2)) cs = Zmb E t s l cs
  | [], _ => rfl
  | (a, x) :: r, cs => by simp only [List.map_cons, Zmb, subO, ev]; rw [← Zv3 t u s r]; rfl
theorem Z2q (t u : Nat → V) (o : Option O) (d : Nat) : optNat E u (o.map (subO E t)) d = optNat E t o d := by cases o <;> rfl
theorem Z1z (call : CallT) (i : I) (t u : Nat → V) (m : Mem) : doI E call (i.mapO (subO E t)) u m = doI E call i t m := by
  cases i <;> simp only [I.mapO, doI, Z5o, Zzs, Zv3, Z2q] <;> try rfl
  case slice s x lo hi mx => cases mx <;> rfl
  case slarr n s x lo hi mx => cases mx <;> rfl
def keyOf (dst : Option Nat) (i : I) : Option Nat :=
  match dst with
  | some d => some d
  | none => match i with
    | .store _ (.t j) _ => some (j + 100000)
    | .copy _ (.t j) _ => some (j + 200000)
    | _ => none
def callR (g : FuncId) (args : List V) (mm : Mem) (os : List (A E)) : Option (List V × Mem × List (A E) × List Prop) :=
  match os with
  | @A.c _ _ _ _ rs m' _ :: r => match Zuc true args args mm with
    | some (ids, e, a, mc) => match Zsm mm ids e rs m' with
      | some (rs', m1) => some (rs', m1, r, [cl E g a mc = some (rs, m')])
      | none => none
    | none => none
  | _ => none
def callW (br : Bool) (g : FuncId) (args : List V) (mm : Mem) (os : List (A E)) : Option (List V × Mem × List (A E) × List Prop) :=
  match br with
  | true => callR g args mm os
  | false => match os with
  | @A.y _ _ _ args1 _ :: @A.c _ _ _ _ rs m' _ :: r => match Zuc false args args1 mm with
    | some (ids, e, a, mc) => match Zsm mm ids e rs m' with
      | some (rs', m1) => some (rs', m1, r, [cl E g a mc = some (rs, m'), V.byvals mm args = args1])
      | none => none
    | none => none
  | @A.c _ _ _ _ rs m' _ :: r => match Zuc false args (V.byvals mm args) mm with
    | some (ids, e, a, mc) => match Zsm mm ids e rs m' with
      | some (rs', m1) => some (rs', m1, r, [cl E g a mc = some (rs, m')])
      | none => none
    | none => none
  | _ => none
def stepW (q : Bool) (dst : Option Nat) (i : I) (w : W E) : Option (V × Bool × W E) :=
  match i with
  | .mov x => some (ev E w.tOf x, isK (knW w x), w)
  | .pick c a b => match testW c w with
    | some (true, w') => some (ev E w.tOf a, isK (knW w a), w')
    | some (false, w') => some (ev E w.tOf b, isK (knW w b), w')
    | none => none
  | .unop .not x => match ev E w.tOf x with
    | .d (.bool b) => some (.d (.bool !b), isK (knW w x), w)
    | _ => none
  | .call f args => match ev E w.tOf f with
    | .fn (.func g) first cap => match Nat.beq g yfn with
      | true => none
      | false => match callW (E.ref g) g (first ++ evs E w.tOf args ++ cap) (mq q w.m) w.os with
        | some (rs', m1, r, ps) => some (packV rs', false, ⟨w.t, w.d, rq q w.m m1, r, ps ++ w.qs⟩)
        | none => none
    | .yl id => match callW false yfn (.yl id :: evs E w.tOf args) (mq q w.m) w.os with
      | some (rs', m1, r, ps) => some (packV rs', false, ⟨w.t, w.d, rq q w.m m1, r, ps ++ w.qs⟩)
      | none => none
    | _ => none
  | .inv tbl x args => match ev E w.tOf x with
    | .ifc ty v => match lookM tbl ty with
      | some g => match Nat.beq g yfn with
        | true => none
        | false => match callW false g ([v] ++ evs E w.tOf args ++ []) (mq q w.m) w.os with
          | some (rs', m1, r, ps) => some (packV rs', false, ⟨w.t, w.d, rq q w.m m1, r, ps ++ w.qs⟩)
          | none => none
      | none => none
    | _ => none
  | i => match (match w.os with
      | @A.o _ d _ v _ :: r => (match keyOf dst i with
        | some d' => (match Nat.beq d d' with | true => some (v, w.m, r, ∀ m, doI E (cl E) (i.mapO (subO E w.tOf)) (fun _ => .un) m = some (v, m)) | false => none)
        | none => none)
      | @A.m _ d _ _ v m' _ :: r => (match keyOf dst i with
        | some d' => (match Nat.beq d d' with | true => some (v, rq q w.m m', r, doI E (cl E) (i.mapO (subO E w.tOf)) (fun _ => .un) (mq q w.m) = some (v, m')) | false => none)
        | none => none)
      | _ => none : Option (V × Mem × List (A E) × Prop)) with
    | some (v, m', r, p) => some (v, false, ⟨w.t, w.d, m', r, p :: w.qs⟩)
    | none => match doI E (fun _ _ _ => none) i w.tOf (mq q w.m) with
      | some (v, m') => some (v, false, ⟨w.t, w.d, rq q w.m m', w.os, w.qs⟩)
      | none => none
def putW (w : W E) (d : Option Nat) (v : V) (k : Bool) : W E :=
  match d with
  | some i => ⟨(i, v, k) :: w.t, w.d, w.m, w.os, w.qs⟩
  | none => w
def guardW (g : Option (Nat × Bool)) (w : W E) : Option (Bool × W E) :=
  match g with
  | none => some (true, w)
  | some (j, want) => match w.tOf j with
    | .tup [] => some (false, w)
    | _ => match testW (.t j) w with
      | some (c, w') => some (c == want, w')
      | none => none
def opsW (q : Bool) : List OpC → W E → Option (W E)
  | [], w => some w
  | o :: r, w => match guardW o.guard w with
    | some (true, w1) => match stepW q o.dst o.ins w1 with
      | some (v, k, w2) => opsW q r (putW w2 o.dst v k)
      | none => none
    | some (false, w1) => opsW q r (putW w1 o.dst (.tup []) false)
    | none => none
def op1W (q : Bool) (o : OpC) (w : W E) : Option (W E) :=
  match guardW o.guard w with
  | some (true, w1) => match stepW (qOf q o.ins) o.dst o.ins w1 with
    | some (v, k, w2) => some (putW w2 o.dst v k)
    | none => none
  | some (false, w1) => some (putW w1 o.dst (.tup []) false)
  | none => none
def traceW (qf : List Bool) : Nat → List OpC → W E → Option (List (W E))
  | _, [], w => some [w]
  | k, o :: r, w => match op1W (qf.getD k false) o w with
    | some w1 => match traceW qf (k + 1) r w1 with
      | some l => some (w :: l)
      | none => none
    | none => none
def W.st (w : W E) : S := ⟨w.tOf, w.m⟩
def atW (tr : List (W E)) (k : Nat) : S := match tr[k]? with | some w => w.st | none => S.nil
def pairW (r : Option (Option (V × V))) (w : W E) : Option (W E) :=
  match r with
  | some none => some w
  | some (some (a, b)) => match w.os with
    | @A.e _ _ _ _ :: r => some ⟨w.t, w.d, w.m, r, (a = b) :: w.qs⟩
    | _ => none
  | none => none
def pairsW (E : Env) (l : List OpC) (qf : List Bool) (at_ : Nat → S) (k : Nat) : List Nat → W E → Option (W E)
  | [], w => some w
  | i :: r, w => match pairW (pairN E (qf.getD i false) (qf.getD k false) (opAt' l i) (opAt' l k) (at_ i) (at_ (i + 1)) (at_ k) (at_ (k + 1))) w with
    | some w1 => pairsW E l qf at_ k r w1
    | none => none
def mixW (E : Env) (l : List OpC) (un : List (List Nat)) (qf : List Bool) (at_ : Nat → S) : List Nat → W E → Option (W E)
  | [], w => some w
  | k :: r, w => match Zqd E (qf.getD k false) (opAt' l k) (at_ k) (at_ (k + 1)) with
    | true => match pairsW E l qf at_ k (un.getD k []) w with
      | some w1 => mixW E l un qf at_ r w1
      | none => none
    | false => none
def zipW : List Nat → List V → List (Nat × V × Bool)
  | i :: l, v :: r => (i, v, false) :: zipW l r
  | _, _ => []
def walkC : C → W E → Option (X × W E)
  | .skip, w => some (.normal, w)
  | .reg qs ts, w => match opsW true qs w with
    | some w1 => match opsW false ts w1 with
      | some w2 => some (.normal, w2)
      | none => none
    | none => none
  | .mix l un qf, w => match traceW qf 0 l w with
    | some tr => match tr[l.length]? with
      | some w1 => match mixW E l un qf (atW tr) (List.range l.length) w1 with
        | some w2 => some (.normal, w2)
        | none => none
      | none => none
    | none => none
  | .seq a b, w => match walkC a w with
    | some (.normal, w') => walkC b w'
    | r => r
  | .cond c a b, w => match testW c w with
    | some (true, w') => walkC a w'
    | some (false, w') => walkC b w'
    | none => none
  | .block id b, w => match walkC b w with
    | some (.exit i, w') => match Nat.beq i id with | true => some (.normal, w') | false => some (.exit i, w')
    | r => r
  | .loop lv lx b, w => match w.os with
    | @A.l _ _ _ x h' _ :: r => some (x, ⟨zipW lx h'.1, .un, h'.2, r, (loopG (roundG (runC E (cl E) b) lv lx w.m.length) bound (lv.map w.tOf, w.m) = some (x, h')) :: w.qs⟩)
    | _ => none
  | .rfun nt lv f ps a b, w => match ev E w.tOf f with
    | .fn (.func g) first cap => match Nat.beq g yfn with
      | true => none
      | false => match callW false g (first ++ [.yl w.m.length] ++ cap) (w.m ++ [.loop .ready none ((List.range nt).map (look lv (lv.map w.tOf))) ps a b false]) w.os with
        | some (_, m2, r, qs) => match m2[w.m.length]? with
          | some (.loop .ready none ts zs a' b' false) => some (.normal, ⟨w.t, w.d, m2.set w.m.length (.loop .exhausted none ts zs a' b' false), r, qs ++ w.qs⟩)
          | some (.loop .done (some .ret) ts zs a' b' false) => some (.ret, ⟨w.t, w.d, m2.set w.m.length (.loop .exhausted (some .ret) ts zs a' b' false), r, qs ++ w.qs⟩)
          | some (.loop .done (some (.exit i)) ts zs a' b' false) => some (.exit i, ⟨w.t, w.d, m2.set w.m.length (.loop .exhausted (some (.exit i)) ts zs a' b' false), r, qs ++ w.qs⟩)
          | _ => none
        | none => none
    | _ => none
  | .seq1 a b, w => match walkC a w with
    | some (.normal, w') => walkC b w'
    | r => r
  | .cut lv lx ln a b, w => match w.os with
    | @A.s _ _ _ _ _ _ _ x h' _ :: r => match x with
      | .normal => walkC b ⟨zipW ln h'.1, .un, h'.2, r, (segG (runC E (cl E) a) lv lx ln w.m.length (lv.map w.tOf, w.m) = some (.normal, h')) :: w.qs⟩
      | x => some (x, ⟨zipW lx h'.1, .un, h'.2, r, (segG (runC E (cl E) a) lv lx ln w.m.length (lv.map w.tOf, w.m) = some (x, h')) :: w.qs⟩)
    | _ => none
  | .exit id, w => some (.exit id, w)
  | .scope b, w => walkC b w
  | .ret, w => some (.ret, w)
theorem Zpu {d : V} {i : Nat} {x : V × Bool} {r : List (Nat × V × Bool)} (j : Nat) : lookW d ((i, x) :: r) j = if j = i then x else lookW d r j := by
  simp only [lookW]
  by_cases h : j = i
  · subst h; simp
  · have : Nat.beq j i = false := by
      cases hb : Nat.beq j i with
      | true => exact absurd (Nat.eq_of_beq_eq_true hb) h
      | false => rfl
    simp [this, h]
theorem knW_ev {w : W E} {o : O} {c : Bool} (h : knW w o = some c) : ev E w.tOf o = .d (.bool c) := by
  unfold knW at h
  split at h
  · cases h; rfl
  · split at h
    · rename_i e; cases h; simp only [ev, W.tOf, e]
    · cases h
  · cases h
def W.fine (w : W E) : Prop := ∀ p, p ∈ w.qs → p
theorem Zmv {o : O} {w w' : W E} {c : Bool} (h : testW o w = some (c, w')) : w'.m = w.m ∧ ∀ p, p ∈ w.qs → p ∈ w'.qs := by
  unfold testW at h
  split at h
  · cases h; exact ⟨rfl, fun _ h => h⟩
  · split at h
    · split at h
      · cases h; exact ⟨rfl, fun p hp => List.mem_cons_of_mem _ hp⟩
      · cases h
    · cases h
theorem Zst {o : O} {w w' : W E} {c : Bool} (h : testW o w = some (c, w')) (hf : w'.fine) : ev E w.tOf o = .d (.bool c) ∧ w'.tOf = w.tOf := by
  unfold testW at h
  split at h
  · rename_i hk; cases h; exact ⟨knW_ev hk, rfl⟩
  · split at h
    · rename_i x he
      split at h
      · rename_i c0 _ r _
        cases h
        have hx : x = c := hf _ (by simp)
        subst hx
        refine ⟨he, ?_⟩
        cases o with
        | t j =>
          funext i
          simp only [W.tOf, Zpu]
          by_cases e : i = j
          · subst e; rw [if_pos rfl]; exact he.symm
          · rw [if_neg e]
        | v x => rfl
        | g x => rfl
      · cases h
    · cases h
theorem rq_eq (q : Bool) (m : Mem) (i : I) (t : Nat → V) (v : V) (m' : Mem) (h : doI E (cl E) i t (mq q m) = some (v, m')) : (match q with | true => doQ E (cl E) | false => doI E (cl E)) i t m = some (v, rq q m m') := by
  cases q with
  | true => simp only [doQ, mq, rq] at h ⊢; rw [h]; rfl
  | false => simpa only [mq, rq] using h
theorem Z5s (c : CallT) : Le (fun _ _ _ => none) c := fun _ _ _ _ h => by cases h
abbrev stepOf (E : Env) (q : Bool) : I → (Nat → V) → Mem → Option (V × Mem) := match q with | true => doQ E (cl E) | false => doI E (cl E)
theorem Z4q {g : FuncId} {args : List V} {mm : Mem} {os r : List (A E)} {rs : List V} {m1 : Mem} {ps : List Prop} (h : callR g args mm os = some (rs, m1, r, ps)) (hf : ∀ p, p ∈ ps → p) : callV true (cl E) g args mm = some (rs, m1) := by
  unfold callR at h
  split at h
  · rename_i rs0 m' hcl r0
    split at h
    · rename_i ids e a mc hpre
      split at h
      · rename_i rs' m1' hpost
        cases h
        have hc : cl E g a mc = some (rs0, m') := hf _ (by simp)
        exact Zv9 (br := true) rfl hpre hc hpost
      · cases h
    · cases h
  · cases h
theorem Zqk {br : Bool} {g : FuncId} {args : List V} {mm : Mem} {os r : List (A E)} {rs : List V} {m1 : Mem} {ps : List Prop} (h : callW br g args mm os = some (rs, m1, r, ps)) (hf : ∀ p, p ∈ ps → p) : callV br (cl E) g args mm = some (rs, m1) := by
  cases br with
  | true => exact Z4q h hf
  | false =>
  simp only [callW] at h
  split at h
  · rename_i args1 hv _ _ _ rs0 m' hcl r0
    split at h
    · rename_i ids e a mc hpre
      split at h
      · rename_i rs' m1' hpost
        cases h
        have hc : cl E g a mc = some (rs0, m') := hf _ (by simp)
        have hb : V.byvals mm args = args1 := hf _ (by simp)
        exact Zv9 (br := false) hb hpre hc hpost
      · cases h
    · cases h
  · rename_i rs0 m' hcl r0
    split at h
    · rename_i ids e a mc hpre
      split at h
      · rename_i rs' m1' hpost
        cases h
        have hc : cl E g a mc = some (rs0, m') := hf _ (by simp)
        exact Zv9 rfl hpre hc hpost
      · cases h
    · cases h
  · cases h
theorem Zs8 {q : Bool} {dst : Option Nat} {i : I} {w w' : W E} {v : V} {k : Bool} (h : stepW q dst i w = some (v, k, w')) : ∀ p, p ∈ w.qs → p ∈ w'.qs := by
  unfold stepW at h
  split at h
  · cases h; exact fun _ h => h
  · split at h
    · rename_i ht; cases h; exact (Zmv ht).2
    · rename_i ht; cases h; exact (Zmv ht).2
    · cases h
  · split at h
    · cases h; exact fun _ h => h
    · cases h
  · split at h
    · split at h
      · cases h
      · split at h
        · cases h; exact fun p hp => List.mem_append_right _ hp
        · cases h
    · split at h
      · cases h; exact fun p hp => List.mem_append_right _ hp
      · cases h
    · cases h
  · split at h
    · split at h
      · split at h
        · cases h
        · split at h
          · cases h; exact fun p hp => List.mem_append_right _ hp
          · cases h
      · cases h
    · cases h
  · split at h
    · cases h; exact fun p hp => List.mem_cons_of_mem _ hp
    · split at h
      · cases h; exact fun _ h => h
      · cases h
theorem Zq4 {q : Bool} {i : I} {t : Nat → V} {m : Mem} {v : V} (h : ∀ m, doI E (cl E) i t m = some (v, m)) : stepOf E q i t m = some (v, m) := by
  cases q with
  | true => simp only [stepOf, doQ, h, Option.map_some, Zr4]; simp
  | false => simp only [stepOf, h]
theorem Z0k {q : Bool} {dst : Option Nat} {i : I} {w w' : W E} {v : V} {k : Bool} (h : stepW q dst i w = some (v, k, w')) (hf : w'.fine) : stepOf E q i w.tOf w.m = some (v, w'.m) ∧ w'.tOf = w.tOf := by
  unfold stepW at h
  split at h
  · cases h; exact ⟨Zq4 fun m => rfl, rfl⟩
  · split at h
    · rename_i ht; cases h
      obtain ⟨h1, h2⟩ := Zst ht hf
      exact ⟨by rw [(Zmv ht).1]; exact Zq4 fun m => by simp only [doI, h1], h2⟩
    · rename_i ht; cases h
      obtain ⟨h1, h2⟩ := Zst ht hf
      exact ⟨by rw [(Zmv ht).1]; exact Zq4 fun m => by simp only [doI, h1], h2⟩
    · cases h
  · split at h
    · rename_i he; cases h; exact ⟨Zq4 fun m => by simp only [doI, he, unV, Option.map_some], rfl⟩
    · cases h
  · rename_i f0 args0
    split at h
    · rename_i g first cap hfn
      split at h
      · cases h
      rename_i hbq
      have hny : g ≠ yfn := fun e => by rw [e, Nat.beq_refl] at hbq; cases hbq
      split at h
      · rename_i rs' m1 r ps hc
        cases h
        refine ⟨?_, rfl⟩
        refine rq_eq q w.m _ _ _ _ ?_
        simp only [doI, hfn, callOf]
        rw [if_neg hny, Zqk hc (fun p hp => hf p (List.mem_append_left _ hp))]; rfl
      · cases h
    · rename_i id hfn
      split at h
      · rename_i rs' m1 r ps hc
        cases h
        refine ⟨?_, rfl⟩
        refine rq_eq q w.m _ _ _ _ ?_
        simp only [doI, hfn, callOf]
        rw [Zqk hc (fun p hp => hf p (List.mem_append_left _ hp))]; rfl
      · cases h
    · cases h
  · split at h
    · rename_i ty u hx
      split at h
      · rename_i g hg
        split at h
        · cases h
        rename_i hbq
        have hny : g ≠ yfn := fun e => by rw [e, Nat.beq_refl] at hbq; cases hbq
        split at h
        · rename_i rs' m1 r ps hc
          cases h
          refine ⟨?_, rfl⟩
          refine rq_eq q w.m _ _ _ _ ?_
          simp only [doI, hx, hg, callOf]
          rw [if_neg hny, Zqk hc (fun p hp => hf p (List.mem_append_left _ hp))]; rfl
        · cases h
      · cases h
    · cases h
  · split at h
    · rename_i v' m' r pp hx
      cases h
      have hd : pp := hf _ (List.mem_cons_self ..)
      refine ⟨?_, rfl⟩
      split at hx
      · split at hx
        · split at hx
          · cases hx
            exact Zq4 fun m => by have := hd m; rw [Z1z] at this; exact this
          · cases hx
        · cases hx
      · split at hx
        · split at hx
          · cases hx
            refine rq_eq q w.m _ _ _ _ ?_
            rw [Z1z] at hd; exact hd
          · cases hx
        · cases hx
      · cases hx
    · split at h
      · rename_i v' m' hd
        cases h
        exact ⟨rq_eq q w.m _ _ _ _ (Zof (Z5s _) hd), rfl⟩
      · cases h
theorem Zkb {w : W E} {d : Option Nat} {v : V} {k : Bool} : (putW w d v k).tOf = putT w.tOf d v ∧ (putW w d v k).m = w.m ∧ (putW w d v k).qs = w.qs := by
  cases d with
  | none => exact ⟨rfl, rfl, rfl⟩
  | some i =>
    refine ⟨?_, rfl, rfl⟩
    funext j
    simp only [putW, W.tOf, putT, upd, Zpu]
    split <;> rfl
theorem Zmx {g : Option (Nat × Bool)} {w w' : W E} {b : Bool} (h : guardW g w = some (b, w')) : w'.m = w.m ∧ ∀ p, p ∈ w.qs → p ∈ w'.qs := by
  unfold guardW at h
  split at h
  · cases h; exact ⟨rfl, fun _ h => h⟩
  · split at h
    · cases h; exact ⟨rfl, fun _ h => h⟩
    · split at h
      · rename_i ht; cases h; exact Zmv ht
      · cases h
theorem Zs5 {g : Option (Nat × Bool)} {w w' : W E} {b : Bool} (h : guardW g w = some (b, w')) (hf : w'.fine) : Zfk g w.tOf = some b ∧ w'.tOf = w.tOf := by
  unfold guardW at h
  split at h
  · cases h; exact ⟨rfl, rfl⟩
  · rename_i j want
    split at h
    · rename_i e; cases h; exact ⟨by simp only [Zfk, e], rfl⟩
    · split at h
      · rename_i c w1 ht; cases h
        obtain ⟨h1, h2⟩ := Zst ht hf
        simp only [ev] at h1
        exact ⟨by simp only [Zfk, h1], h2⟩
      · cases h
theorem Zpb {q : Bool} : ∀ {l : List OpC} {w w' : W E}, opsW q l w = some w' → ∀ p, p ∈ w.qs → p ∈ w'.qs
  | [], w, w', h => by simp only [opsW] at h; cases h; exact fun _ h => h
  | o :: l, w, w', h => by
    simp only [opsW] at h
    split at h
    · rename_i w1 hg
      split at h
      · rename_i v k w2 hs
        intro p hp
        exact Zpb h p (by rw [Zkb.2.2]; exact Zs8 hs p ((Zmx hg).2 p hp))
      · cases h
    · rename_i w1 hg
      intro p hp
      exact Zpb h p (by rw [Zkb.2.2]; exact (Zmx hg).2 p hp)
    · cases h
theorem Zwv {q : Bool} : ∀ {l : List OpC} {w w' : W E}, opsW q l w = some w' → w'.fine → opsC (stepOf E q) l ⟨w.tOf, w.m⟩ = some ⟨w'.tOf, w'.m⟩
  | [], w, w', h, _ => by simp only [opsW] at h; cases h; rfl
  | o :: l, w, w', h, hf => by
    simp only [opsW] at h
    split at h
    · rename_i w1 hg
      split at h
      · rename_i v k w2 hs
        have hsub := Zpb h
        have hf2 : w2.fine := fun p hp => hf p (hsub p (by rw [Zkb.2.2]; exact hp))
        have hf1 : w1.fine := fun p hp => hf2 p (Zs8 hs p hp)
        obtain ⟨g1, g2⟩ := Zs5 hg hf1
        obtain ⟨s1, s2⟩ := Z0k hs hf2
        have ih := Zwv h hf
        rw [Zkb.1, Zkb.2.1] at ih
        simp only [opsC, g1]
        rw [g2, (Zmx hg).1] at s1
        simp only [s1]
        rw [← g2, ← s2]; exact ih
      · cases h
    · rename_i w1 hg
      have hsub := Zpb h
      have hf1 : w1.fine := fun p hp => hf p (hsub p (by rw [Zkb.2.2]; exact hp))
      obtain ⟨g1, g2⟩ := Zs5 hg hf1
      have ih := Zwv h hf
      rw [Zkb.1, Zkb.2.1, g2, (Zmx hg).1] at ih
      simp only [opsC, g1]
      exact ih
    · cases h
theorem Z4s {q : Bool} {o : OpC} {w w' : W E} (h : op1W q o w = some w') : ∀ p, p ∈ w.qs → p ∈ w'.qs := by
  unfold op1W at h
  split at h
  · rename_i w1 hg
    split at h
    · rename_i v k w2 hs
      cases h
      intro p hp
      rw [Zkb.2.2]; exact Zs8 hs p ((Zmx hg).2 p hp)
    · cases h
  · rename_i w1 hg
    cases h
    intro p hp
    rw [Zkb.2.2]; exact (Zmx hg).2 p hp
  · cases h
theorem Z5d {q : Bool} {i : I} {t : Nat → V} {m m' : Mem} {v : V} (h : stepOf E (qOf q i) i t m = some (v, m')) : stepM E (cl E) q i t m = some (v, m') := by
  unfold stepM
  cases hq : qOf q i with
  | true =>
    rw [hq] at h
    simp only [stepOf, doQ] at h
    obtain ⟨⟨v1, r⟩, h1, h2⟩ := Option.map_eq_some_iff.1 h
    cases h2
    simp only [mq, h1, rq]
  | false =>
    rw [hq] at h
    simp only [stepOf] at h
    simp only [mq, h, rq]
theorem Z6b {q : Bool} {o : OpC} {w w' : W E} (h : op1W q o w = some w') (hf : w'.fine) : op1 (stepM E (cl E) q) o w.st = some w'.st := by
  unfold op1W at h
  split at h
  · rename_i w1 hg
    split at h
    · rename_i v k w2 hs
      cases h
      have hf2 : w2.fine := fun p hp => hf p (by rw [Zkb.2.2]; exact hp)
      have hf1 : w1.fine := fun p hp => hf2 p (Zs8 hs p hp)
      obtain ⟨g1, g2⟩ := Zs5 hg hf1
      obtain ⟨s1, s2⟩ := Z0k hs hf2
      unfold op1
      simp only [W.st, g1]
      rw [g2, (Zmx hg).1] at s1
      simp only [Z5d s1]
      rw [Zkb.1, Zkb.2.1, s2, g2]
    · cases h
  · rename_i w1 hg
    cases h
    have hf1 : w1.fine := fun p hp => hf p (by rw [Zkb.2.2]; exact hp)
    obtain ⟨g1, g2⟩ := Zs5 hg hf1
    unfold op1
    simp only [W.st, g1]
    rw [Zkb.1, Zkb.2.1, g2, (Zmx hg).1]
  · cases h
theorem Zvz {qf : List Bool} : ∀ {l : List OpC} {k : Nat} {w : W E} {tr : List (W E)}, traceW qf k l w = some tr → tr.length = l.length + 1 ∧ tr[0]? = some w ∧ ∀ w1, tr[l.length]? = some w1 → (∀ p, p ∈ w.qs → p ∈ w1.qs) ∧ (w1.fine → traceC E (cl E) qf k l w.st = some (tr.map W.st))
  | [], k, w, tr, h => by
    simp only [traceW] at h; cases h
    refine ⟨rfl, rfl, fun w1 h1 => ?_⟩
    simp at h1; subst h1
    exact ⟨fun _ h => h, fun _ => rfl⟩
  | o :: l, k, w, tr, h => by
    simp only [traceW] at h
    split at h
    · rename_i w1 h1
      split at h
      · rename_i tr1 h2
        cases h
        obtain ⟨g1, g2, g3⟩ := Zvz h2
        refine ⟨by simp [g1], rfl, fun w2 hw2 => ?_⟩
        obtain ⟨g4, g5⟩ := g3 w2 (by simpa using hw2)
        refine ⟨fun p hp => g4 p (Z4s h1 p hp), fun hf => ?_⟩
        have hf1 : w1.fine := fun p hp => hf p (g4 p hp)
        simp only [traceC, Z6b h1 hf1, g5 hf, List.map_cons]
      · cases h
    · cases h
theorem Z5h {r : Option (Option (V × V))} {w w' : W E} (h : pairW r w = some w') : (∀ p, p ∈ w.qs → p ∈ w'.qs) ∧ w'.tOf = w.tOf ∧ w'.m = w.m ∧ (w'.fine → pairB r = true) := by
  unfold pairW at h
  split at h
  · cases h; exact ⟨fun _ h => h, rfl, rfl, fun _ => rfl⟩
  · split at h
    · cases h
      refine ⟨fun p hp => List.mem_cons_of_mem _ hp, rfl, rfl, fun hf => ?_⟩
      rename_i a b _ _ _ _ _ _
      have e : a = b := hf _ (List.mem_cons_self ..)
      subst e
      exact V.beq_refl _
    · cases h
  · cases h
theorem Zy6 {l : List OpC} {qf : List Bool} {at_ : Nat → S} {k : Nat} : ∀ {is : List Nat} {w w' : W E}, pairsW E l qf at_ k is w = some w' → (∀ p, p ∈ w.qs → p ∈ w'.qs) ∧ w'.tOf = w.tOf ∧ w'.m = w.m ∧
      (w'.fine → is.all (fun i => pairB (pairN E (qf.getD i false) (qf.getD k false) (opAt' l i) (opAt' l k) (at_ i) (at_ (i + 1)) (at_ k) (at_ (k + 1)))) = true)
  | [], w, w', h => by simp only [pairsW] at h; cases h; exact ⟨fun _ h => h, rfl, rfl, fun _ => rfl⟩
  | i :: is, w, w', h => by
    simp only [pairsW] at h
    split at h
    · rename_i w1 h1
      obtain ⟨a1, a2, a3, a4⟩ := Z5h h1
      obtain ⟨b1, b2, b3, b4⟩ := Zy6 h
      refine ⟨fun p hp => b1 p (a1 p hp), b2.trans a2, b3.trans a3, fun hf => ?_⟩
      rw [List.all_cons, a4 fun p hp => hf p (b1 p hp), b4 hf]; rfl
    · cases h
theorem Zyu {l : List OpC} {un : List (List Nat)} {qf : List Bool} {at_ : Nat → S} : ∀ {ks : List Nat} {w w' : W E}, mixW E l un qf at_ ks w = some w' → (∀ p, p ∈ w.qs → p ∈ w'.qs) ∧ w'.tOf = w.tOf ∧ w'.m = w.m ∧
      (w'.fine → ks.all (fun k => Zqd E (qf.getD k false) (opAt' l k) (at_ k) (at_ (k + 1)) && (un.getD k []).all fun i => pairB (pairN E (qf.getD i false) (qf.getD k false) (opAt' l i) (opAt' l k) (at_ i) (at_ (i + 1)) (at_ k) (at_ (k + 1)))) = true)
  | [], w, w', h => by simp only [mixW] at h; cases h; exact ⟨fun _ h => h, rfl, rfl, fun _ => rfl⟩
  | k :: ks, w, w', h => by
    simp only [mixW] at h
    split at h
    · rename_i hst
      split at h
      · rename_i w1 h1
        obtain ⟨a1, a2, a3, a4⟩ := Zy6 h1
        obtain ⟨b1, b2, b3, b4⟩ := Zyu h
        refine ⟨fun p hp => b1 p (a1 p hp), b2.trans a2, b3.trans a3, fun hf => ?_⟩
        rw [List.all_cons, hst, a4 fun p hp => hf p (b1 p hp), b4 hf]; rfl
      · cases h
    · cases h
theorem Z1w (tr : List (W E)) (k : Nat) : atS (tr.map W.st) k = atW tr k := by
  unfold atS atW
  rw [List.getD_eq_getElem?_getD, List.getElem?_map]
  cases tr[k]? <;> rfl
theorem Zod : ∀ (l : List Nat) (vs : List V) (m : Mem) (os : List (A E)) (qs : List Prop), W.tOf ⟨zipW l vs, .un, m, os, qs⟩ = look l vs
  | [], vs, _, _, _ => by funext j; simp [zipW, W.tOf, lookW, look]
  | i :: l, [], _, _, _ => by funext j; simp [zipW, W.tOf, lookW, look]
  | i :: l, v :: vs, m, os, qs => by
    have ih := Zod l vs m os qs
    funext j
    have := congrFun ih j
    simp only [W.tOf] at this
    simp only [zipW, W.tOf, Zpu, look]
    split
    · rfl
    · exact this
theorem Zii : ∀ {c : C} {w w' : W E} {x : X}, walkC c w = some (x, w') → ∀ p, p ∈ w.qs → p ∈ w'.qs
  | .skip, w, w', x, h => by simp only [walkC] at h; cases h; exact fun _ h => h
  | .reg qs ts, w, w', x, h => by
    simp only [walkC] at h
    split at h
    · rename_i w1 h1
      split at h
      · rename_i w2 h2
        cases h
        exact fun p hp => Zpb h2 p (Zpb h1 p hp)
      · cases h
    · cases h
  | .mix l un qf, w, w', x, h => by
    simp only [walkC] at h
    split at h
    · rename_i tr h1
      split at h
      · rename_i w1 h2
        split at h
        · rename_i w2 h3
          cases h
          exact fun p hp => (Zyu h3).1 p (((Zvz h1).2.2 w1 h2).1 p hp)
        · cases h
      · cases h
    · cases h
  | .seq a b, w, w', x, h => by
    simp only [walkC] at h
    cases h1 : walkC a w with
    | none => simp [h1] at h
    | some r =>
      obtain ⟨y, w1⟩ := r
      rw [h1] at h
      cases y with
      | normal => exact fun p hp => Zii h p (Zii h1 p hp)
      | exit i => cases h; exact Zii h1
      | ret => cases h; exact Zii h1
  | .cond o a b, w, w', x, h => by
    simp only [walkC] at h
    split at h
    · rename_i w1 h1; exact fun p hp => Zii h p ((Zmv h1).2 p hp)
    · rename_i w1 h1; exact fun p hp => Zii h p ((Zmv h1).2 p hp)
    · cases h
  | .block i b, w, w', x, h => by
    simp only [walkC] at h
    cases h1 : walkC b w with
    | none => simp [h1] at h
    | some r =>
      obtain ⟨y, w1⟩ := r
      rw [h1] at h
      cases y with
      | normal => cases h; exact Zii h1
      | exit i => simp only at h; split at h <;> cases h <;> exact Zii h1
      | ret => cases h; exact Zii h1
  | .loop lv lx b, w, w', x, h => by
    simp only [walkC] at h
    split at h
    · cases h; exact fun p hp => List.mem_cons_of_mem _ hp
    · cases h
  | .rfun nt lv f ps a b, w, w', x, h => by
    simp only [walkC] at h
    split at h
    · split at h
      · cases h
      · split at h
        · split at h <;> cases h <;> exact fun p hp => List.mem_append_right _ hp
        · cases h
    · cases h
  | .seq1 a b, w, w', x, h => by
    simp only [walkC] at h
    cases h1 : walkC a w with
    | none => simp [h1] at h
    | some r =>
      obtain ⟨y, w1⟩ := r
      rw [h1] at h
      cases y with
      | normal => exact fun p hp => Zii h p (Zii h1 p hp)
      | exit i => cases h; exact Zii h1
      | ret => cases h; exact Zii h1
  | .cut lv lx ln a b, w, w', x, h => by
    simp only [walkC] at h
    split at h
    · split at h
      · exact fun p hp => Zii h p (List.mem_cons_of_mem _ hp)
      · cases h; exact fun p hp => List.mem_cons_of_mem _ hp
    · cases h
  | .exit _, w, w', x, h => by simp only [walkC] at h; cases h; exact fun _ h => h
  | .scope b, w, w', x, h => by simp only [walkC] at h; exact Zii h
  | .ret, w, w', x, h => by simp only [walkC] at h; cases h; exact fun _ h => h
theorem Zja : ∀ {c : C} {w w' : W E} {x : X}, walkC c w = some (x, w') → w'.fine → runC E (cl E) c ⟨w.tOf, w.m⟩ = some (x, ⟨w'.tOf, w'.m⟩)
  | .skip, w, w', x, h, _ => by simp only [walkC] at h; cases h; rfl
  | .reg qs ts, w, w', x, h, hf => by
    simp only [walkC] at h
    split at h
    · rename_i w1 h1
      split at h
      · rename_i w2 h2
        cases h
        have e2 := Zwv h2 hf
        have e1 := Zwv h1 fun p hp => hf p (Zpb h2 p hp)
        simp only [stepOf] at e1 e2
        simp only [runC, e1, e2]
      · cases h
    · cases h
  | .mix l un qf, w, w', x, h, hf => by
    simp only [walkC] at h
    split at h
    · rename_i tr h1
      split at h
      · rename_i w1 h2
        split at h
        · rename_i w2 h3
          cases h
          obtain ⟨b1, b2, b3, b4⟩ := Zyu h3
          have hf1 : w1.fine := fun p hp => hf p (b1 p hp)
          have e1 := ((Zvz h1).2.2 w1 h2).2 hf1
          have e2 : mixB E l un qf (tr.map W.st) = true := by
            unfold mixB
            simp only [Z1w]
            exact b4 hf
          have e3 : atS (tr.map W.st) l.length = ⟨w'.tOf, w'.m⟩ := by
            rw [Z1w]
            unfold atW
            rw [h2, b2, b3]; rfl
          have e1' : traceC E (cl E) qf 0 l ⟨w.tOf, w.m⟩ = some (tr.map W.st) := e1
          simp only [runC, e1', e2, e3]
        · cases h
      · cases h
    · cases h
  | .seq a b, w, w', x, h, hf => by
    simp only [walkC] at h
    cases h1 : walkC a w with
    | none => simp [h1] at h
    | some r =>
      obtain ⟨y, w1⟩ := r
      rw [h1] at h
      cases y with
      | normal =>
        have e1 := Zja h1 fun p hp => hf p (Zii h p hp)
        simp only [runC, e1]
        exact Zja h hf
      | exit i => cases h; simp only [runC, Zja h1 hf]
      | ret => cases h; simp only [runC, Zja h1 hf]
  | .cond o a b, w, w', x, h, hf => by
    simp only [walkC] at h
    split at h
    · rename_i w1 h1
      obtain ⟨g1, g2⟩ := Zst h1 fun p hp => hf p (Zii h p hp)
      simp only [runC, g1]
      rw [← g2, ← (Zmv h1).1]; exact Zja h hf
    · rename_i w1 h1
      obtain ⟨g1, g2⟩ := Zst h1 fun p hp => hf p (Zii h p hp)
      simp only [runC, g1]
      rw [← g2, ← (Zmv h1).1]; exact Zja h hf
    · cases h
  | .block i b, w, w', x, h, hf => by
    simp only [walkC] at h
    cases h1 : walkC b w with
    | none => simp [h1] at h
    | some r =>
      obtain ⟨y, w1⟩ := r
      rw [h1] at h
      cases y with
      | normal => cases h; simp only [runC, Zja h1 hf]
      | exit k =>
        simp only at h
        split at h
        · rename_i hb
          cases h
          simp only [runC, Zja h1 hf, Nat.eq_of_beq_eq_true hb, if_true]
        · rename_i hb
          cases h
          have hne : ¬ (k = i) := fun e => by rw [e, Nat.beq_refl] at hb; cases hb
          simp only [runC, Zja h1 hf, hne, if_false]
      | ret => cases h; simp only [runC, Zja h1 hf]
  | .loop lv lx b, w, w', x, h, hf => by
    simp only [walkC] at h
    split at h
    · rename_i y h' hl r hos
      cases h
      have hq : loopG (roundG (runC E (cl E) b) lv lx w.m.length) bound (lv.map w.tOf, w.m) = some (x, h') := hf _ (List.mem_cons_self ..)
      simp only [runC, hq, Zod]
    · cases h
  | .rfun nt lv f ps a b, w, w', x, h, hf => by
    simp only [walkC] at h
    split at h
    · rename_i g first cap hfn
      split at h
      · cases h
      rename_i hbq
      have hny : g ≠ yfn := fun e => by rw [e, Nat.beq_refl] at hbq; cases hbq
      split at h
      · rename_i rs' m2 r qs hc
        split at h
        · rename_i hm; cases h
          simp only [runC, hfn]
          rw [if_neg hny, Zqk hc (fun p hp => hf p (List.mem_append_left _ hp))]
          simp only [hm]; rfl
        · rename_i hm; cases h
          simp only [runC, hfn]
          rw [if_neg hny, Zqk hc (fun p hp => hf p (List.mem_append_left _ hp))]
          simp only [hm]; rfl
        · rename_i hm; cases h
          simp only [runC, hfn]
          rw [if_neg hny, Zqk hc (fun p hp => hf p (List.mem_append_left _ hp))]
          simp only [hm]; rfl
        · cases h
      · cases h
    · cases h
  | .seq1 a b, w, w', x, h, hf => by
    simp only [walkC] at h
    cases h1 : walkC a w with
    | none => simp [h1] at h
    | some r =>
      obtain ⟨y, w1⟩ := r
      rw [h1] at h
      cases y with
      | normal =>
        have e1 := Zja h1 fun p hp => hf p (Zii h p hp)
        simp only [runC, e1]
        exact Zja h hf
      | exit i => cases h; simp only [runC, Zja h1 hf]
      | ret => cases h; simp only [runC, Zja h1 hf]
  | .cut lv lx ln a b, w, w', x, h, hf => by
    simp only [walkC] at h
    split at h
    · split at h
      · have hq := hf _ (Zii h _ (List.mem_cons_self ..))
        have := Zja h hf
        rw [Zod] at this
        simp only [runC, hq]; exact this
      · cases h
        have hq := hf _ (List.mem_cons_self ..)
        simp only [runC, hq, Zod]
        cases x with
        | normal => rename_i hs _ hne; exact (hne hs rfl (HEq.refl _)).elim
        | exit i => rfl
        | ret => rfl
    · cases h
  | .exit _, w, w', x, h, _ => by simp only [walkC] at h; cases h; rfl
  | .scope b, w, w', x, h, hf => by simp only [walkC] at h; simp only [runC]; exact Zja h hf
  | .ret, w, w', x, h, _ => by simp only [walkC] at h; cases h; rfl
def argsW : Nat → List V → List (Nat × V × Bool)
  | _, [] => []
  | i, v :: r => (i, v, false) :: argsW (i + 1) r
theorem Zx1 (m : Mem) (os : List (A E)) (qs : List Prop) : ∀ (l : List V) (k j : Nat), W.tOf ⟨argsW k l, .tup [], m, os, qs⟩ j = if k ≤ j then l.getD (j - k) (.tup []) else .tup []
  | [], k, j => by simp [argsW, W.tOf, lookW]
  | v :: r, k, j => by
    have ih := Zx1 m os qs r (k + 1) j
    simp only [W.tOf] at ih
    simp only [argsW, W.tOf, Zpu]
    by_cases h : j = k
    · subst h; simp
    · rw [if_neg h, ih]
      by_cases h1 : k ≤ j
      · have h2 : k + 1 ≤ j := by omega
        rw [if_pos h2, if_pos h1]
        obtain ⟨n, rfl⟩ : ∃ n, j = k + 1 + n := ⟨j - (k + 1), by omega⟩
        have e1 : k + 1 + n - (k + 1) = n := by omega
        have e2 : k + 1 + n - k = n + 1 := by omega
        rw [e1, e2]; simp
      · have h2 : ¬ (k + 1 ≤ j) := by omega
        rw [if_neg h2, if_neg h1]
def walkF (E : Env) (F : CFunc) (args : List V) (m : Mem) (os : List (A E)) : Option ((List V × Mem) × List Prop) :=
  match Nat.ble args.length F.ntmps with
  | true => match walkC F.body (⟨argsW 0 args, .tup [], m, os, []⟩ : W E) with
    | some (.exit _, _) => none
    | some (_, w) => match resVs ⟨w.tOf, w.m⟩ F.results with
      | some vs => match tidy m.length (vs, w.m) with
        | some r => some (r, w.qs)
        | none => none
      | none => none
    | none => none
  | false => none
def want (os : List (A E)) : List Prop := (os.map A.prop).reverse
theorem Zs4 {os : List (A E)} : ∀ p, p ∈ want os → p := by
  intro p hp
  simp only [want, List.mem_reverse, List.mem_map] at hp
  obtain ⟨a, _, rfl⟩ := hp
  exact a.holds
theorem Z22 {F : CFunc} {args : List V} {m : Mem} (os : List (A E)) {r : List V × Mem} (h : walkF E F args m os = some (r, want os)) : runF E (cl E) F args m = some r := by
  unfold walkF at h
  split at h
  case h_2 => cases h
  rename_i hl
  have hl := Nat.le_of_ble_eq_true hl
  have e0 : ∀ (os : List (A E)) (qs : List Prop), W.tOf ⟨argsW 0 args, .tup [], m, os, qs⟩ = initT args := by
    intro os qs; funext j; rw [Zx1]; simp [initT]
  have fin : ∀ (x : X) (w : W E), walkC F.body (⟨argsW 0 args, .tup [], m, os, []⟩ : W E) = some (x, w) → (match resVs ⟨w.tOf, w.m⟩ F.results with
      | some vs => (match tidy m.length (vs, w.m) with | some r => some (r, w.qs) | none => none)
      | none => none) = some (r, want os) → runC E (cl E) F.body ⟨initT args, m⟩ = some (x, ⟨w.tOf, w.m⟩) ∧ (resVs ⟨w.tOf, w.m⟩ F.results).bind (fun vs => tidy m.length (vs, w.m)) = some r := by
    intro x w hw hx
    cases h1 : resVs ⟨w.tOf, w.m⟩ F.results with
    | none => simp [h1] at hx
    | some vs =>
      simp only [h1] at hx
      cases h2 : tidy m.length (vs, w.m) with
      | none => simp [h2] at hx
      | some r0 =>
        simp only [h2] at hx
        obtain ⟨rfl, hq⟩ := Prod.mk.inj (Option.some.inj hx)
        have := Zja hw (fun p hp => Zs4 p (by rw [← hq]; exact hp))
        rw [e0] at this
        exact ⟨this, by simp [h2]⟩
  simp only [runF, hl, if_true]
  split at h
  · cases h
  · rename_i x w hne hw
    obtain ⟨h1, h2⟩ := fin x w hw h
    rw [h1]
    cases x with
    | normal => exact h2
    | exit i => exact (hne i rfl).elim
    | ret => exact h2
  · cases h
theorem Zht {f : FuncId} (hE : ∀ a m, E.ext f a m = none) {F : CFunc} (hF : E.cf f = some F) (hny : f ≠ yfn) {args : List V} {m : Mem} (os : List (A E)) {r : List V × Mem} (h : walkF E F args m os = some (r, want os)) : cl E f args m = some r :=
  cl_run hE hF hny (Z22 os h)
def walkR (E : Env) (b : C) (lv lx : List Nat) (k : Nat) (g : List V × Mem) (os : List (A E)) : Option ((X × (List V × Mem)) × List Prop) :=
  match walkC b (⟨zipW lv g.1, .un, g.2, os, []⟩ : W E) with
  | some (.normal, w) => match tidy k (lv.map w.tOf, w.m) with
    | some h => some ((.normal, h), w.qs)
    | none => none
  | some (x, w) => match tidy k (lx.map w.tOf, w.m) with
    | some h => some ((x, h), w.qs)
    | none => none
  | none => none
def walkS (E : Env) (b : C) (lv lx ln : List Nat) (k : Nat) (g : List V × Mem) (os : List (A E)) : Option ((X × (List V × Mem)) × List Prop) :=
  match walkC b (⟨zipW lv g.1, .un, g.2, os, []⟩ : W E) with
  | some (.normal, w) => match tidy k (ln.map w.tOf, w.m) with
    | some h => some ((.normal, h), w.qs)
    | none => none
  | some (x, w) => match tidy k (lx.map w.tOf, w.m) with
    | some h => some ((x, h), w.qs)
    | none => none
  | none => none
theorem Z2 {b : C} {lv lx ln : List Nat} {k : Nat} {g : List V × Mem} (os : List (A E)) {r : X × (List V × Mem)} (h : walkS E b lv lx ln k g os = some (r, want os)) : segG (runC E (cl E) b) lv lx ln k g = some r := by
  unfold walkS at h
  cases hw : walkC b (⟨zipW lv g.1, .un, g.2, os, []⟩ : W E) with
  | none => simp [hw] at h
  | some y =>
    obtain ⟨x, w⟩ := y
    have key : w.qs = want os → runC E (cl E) b ⟨look lv g.1, g.2⟩ = some (x, ⟨w.tOf, w.m⟩) := fun hq => by
      have := Zja hw (fun p hp => Zs4 p (by rw [← hq]; exact hp))
      rw [Zod] at this; exact this
    have fin : ∀ l, (match tidy k (List.map w.tOf l, w.m) with | some h => some ((x, h), w.qs) | none => none) = some (r, want os) → ∃ h', tidy k (List.map w.tOf l, w.m) = some h' ∧ r = (x, h') ∧ w.qs = want os := by
      intro l hx
      cases ht : tidy k (List.map w.tOf l, w.m) with
      | none => simp [ht] at hx
      | some h' =>
        simp only [ht] at hx
        obtain ⟨h1, h2⟩ := Prod.mk.inj (Option.some.inj hx)
        exact ⟨h', rfl, h1.symm, h2⟩
    cases x with
    | normal =>
      simp only [hw] at h
      obtain ⟨h', h1, rfl, h3⟩ := fin ln h
      simp only [segG, key h3, h1, Option.map_some]
    | exit i =>
      simp only [hw] at h
      obtain ⟨h', h1, rfl, h3⟩ := fin lx h
      simp only [segG, key h3, h1, Option.map_some]
    | ret =>
      simp only [hw] at h
      obtain ⟨h', h1, rfl, h3⟩ := fin lx h
      simp only [segG, key h3, h1, Option.map_some]
theorem Zv {b : C} {lv lx : List Nat} {k : Nat} {g : List V × Mem} (os : List (A E)) {r : X × (List V × Mem)} (h : walkR E b lv lx k g os = some (r, want os)) : roundG (runC E (cl E) b) lv lx k g = some r := by
  unfold walkR at h
  cases hw : walkC b (⟨zipW lv g.1, .un, g.2, os, []⟩ : W E) with
  | none => simp [hw] at h
  | some y =>
    obtain ⟨x, w⟩ := y
    have key : w.qs = want os → runC E (cl E) b ⟨look lv g.1, g.2⟩ = some (x, ⟨w.tOf, w.m⟩) := fun hq => by
      have := Zja hw (fun p hp => Zs4 p (by rw [← hq]; exact hp))
      rw [Zod] at this; exact this
    have fin : ∀ l, (match tidy k (List.map w.tOf l, w.m) with | some h => some ((x, h), w.qs) | none => none) = some (r, want os) → ∃ h', tidy k (List.map w.tOf l, w.m) = some h' ∧ r = (x, h') ∧ w.qs = want os := by
      intro l hx
      cases ht : tidy k (List.map w.tOf l, w.m) with
      | none => simp [ht] at hx
      | some h' =>
        simp only [ht] at hx
        obtain ⟨h1, h2⟩ := Prod.mk.inj (Option.some.inj hx)
        exact ⟨h', rfl, h1.symm, h2⟩
    cases x with
    | normal =>
      simp only [hw] at h
      obtain ⟨h', h1, rfl, h3⟩ := fin lv h
      simp only [roundG, key h3, h1, Option.map_some]
    | exit i =>
      simp only [hw] at h
      obtain ⟨h', h1, rfl, h3⟩ := fin lx h
      simp only [roundG, key h3, h1, Option.map_some]
    | ret =>
      simp only [hw] at h
      obtain ⟨h', h1, rfl, h3⟩ := fin lx h
      simp only [roundG, key h3, h1, Option.map_some]
def putPsW : List Nat → List V → List (Nat × V × Bool) → List (Nat × V × Bool)
  | i :: r, v :: vs, t => putPsW r vs ((i, v, false) :: t)
  | _, _, t => t
theorem Zyb (m : Mem) (os : List (A E)) (qs : List Prop) : ∀ (l : List Nat) (vs : List V) (t : List (Nat × V × Bool)), W.tOf ⟨putPsW l vs t, .un, m, os, qs⟩ = putPs l vs (W.tOf ⟨t, .un, m, os, qs⟩)
  | [], vs, t => by simp [putPsW, putPs]
  | i :: l, [], t => by simp [putPsW, putPs]
  | i :: l, v :: vs, t => by
    simp only [putPsW, putPs]
    rw [Zyb m os qs l vs]
    congr 1
    funext j
    simp only [W.tOf, upd, Zpu]
    split <;> rfl
def pendB : X → Bool
  | .normal => true
  | _ => false
def walkY (E : Env) (args : List V) (m : Mem) (os : List (A E)) : Option ((List V × Mem) × List Prop) :=
  match args with
  | .yl id :: args => match m[id]? with
    | some (.loop .ready none ts ps a b false) => match Nat.beq args.length ps.length && ps.all (fun i => Nat.blt i ts.length) with
      | true => match walkC a (⟨putPsW ps args (zipW (List.range ts.length) ts), .un, m, os, []⟩ : W E) with
        | some (.normal, w1) => match w1.m[id]? with
          | some (.loop .ready none ts1 ps1 a1 b1 false) => match walkC b (⟨w1.t, w1.d, w1.m.set id (.loop .busy none ts1 ps1 a1 b1 false), w1.os, w1.qs⟩ : W E) with
            | some (x, w2) => match w2.m[id]? with
              | some (.loop .busy none ts2 ps2 a2 b2 false) => match tidy m.length ([.d (.bool (pendB x))], w2.m.set id (.loop (match pendB x with | true => .ready | false => .done) (pendOf x) ts2 ps2 a2 b2 false)) with
                | some r => some (r, w2.qs)
                | none => none
              | _ => none
            | none => none
          | _ => none
        | _ => none
      | false => none
    | _ => none
  | _ => none
theorem Z4h (x : X) : (pendOf x).isNone = pendB x := by cases x <;> rfl
theorem Z1j {args : List V} {m : Mem} (os : List (A E)) {r : List V × Mem} (h : walkY E args m os = some (r, want os)) : cl E yfn args m = some r := by
  refine Z4e ?_
  unfold walkY at h
  split at h
  case h_2 => cases h
  rename_i id args
  split at h
  case h_2 => cases h
  rename_i ts ps a b hb
  split at h
  case h_2 => cases h
  rename_i hc
  have hc' : args.length = ps.length ∧ ps.all (fun x => decide (x < ts.length)) = true := by
    rw [Bool.and_eq_true] at hc
    refine ⟨Nat.eq_of_beq_eq_true hc.1, ?_⟩
    have h2 := hc.2
    rw [List.all_eq_true] at h2 ⊢
    intro i hi
    exact decide_eq_true (Nat.le_of_ble_eq_true (h2 i hi))
  split at h
  case h_2 => cases h
  rename_i w1 h1
  split at h
  case h_2 => cases h
  rename_i ts1 ps1 a1 b1 hb1
  split at h
  case h_2 => cases h
  rename_i x w2 h2
  split at h
  case h_2 => cases h
  rename_i ts2 ps2 a2 b2 hb2
  split at h
  case h_2 => cases h
  rename_i r0 ht
  obtain ⟨rfl, hq⟩ := Prod.mk.inj (Option.some.inj h)
  have hf2 : w2.fine := fun p hp => Zs4 p (by rw [← hq]; exact hp)
  have hf1 : w1.fine := fun p hp => hf2 p (Zii h2 p hp)
  have e1 := Zja h1 hf1
  have e2 := Zja h2 hf2
  rw [Zyb, Zod] at e1
  have e2' : runC E (cl E) b ⟨w1.tOf, w1.m.set id (.loop .busy none ts1 ps1 a1 b1 false)⟩ = some (x, ⟨w2.tOf, w2.m⟩) := e2
  unfold runY
  simp only [hb, if_pos hc', e1, hb1, e2', hb2, Z4h]
  cases x <;> exact ht
end
end Go.Proofs.Ytdlhhoejnhjbhaa.Den

namespace Go.Proofs.Ytdlhhoejnhjbhaa.Den
open Go
set_option linter.unusedVariables false
set_option linter.unusedSimpArgs false
inductive XK where
  | grow (e : TypeId) (flat : Bool) (size bytes : Nat)
def Zyk (e : TypeId) (flat : Bool) (size bytes : Nat) (args : List V) (m : Mem) : Option (List V × Mem) :=
  match args with
  | [.d .nils, .d (.int .i64 n)] => if 0 ≤ n ∧ n.toNat * bytes ≤ 140737488355328 then (mkBlk e flat size []).map fun b => ([.so (Nat.beq n.toNat 0) m.length 0], m ++ [b]) else none
  | _ => none
def runX : XK → List V → Mem → Option (List V × Mem)
  | .grow e flat size bytes => Zyk e flat size bytes
def GrowOK (P : Program) (f : FuncId) (e : TypeId) (size bytes : Nat) : Prop :=
  0 < size ∧ 0 < bytes ∧ (∀ w, Calls P f #[.slice none 0 0, .int .i64 0] w fun r w' => r = .returned (.slice none 0 0) ∧ w' = w) ∧
    ∀ (n : Nat) (w : World), 0 < n → n * bytes ≤ 140737488355328 → Calls P f #[.slice none 0 0, .int .i64 (n : Int)] w fun r w' => ∃ cap us, r = .returned (.slice (some ⟨w.heap.size, 0, none⟩) 0 cap) ∧ us.length = cap * size ∧ w' = w.drew.alloc (.cells ⟨us⟩ e)
def XOK (P : Program) (f : FuncId) (k : XK) : Prop :=
  f ≠ yfn ∧ Zpg P f ∧ match k with
    | .grow e _ size bytes => GrowOK P f e size bytes
variable {P : Program}
theorem Z6p {f : FuncId} {e : TypeId} {flat : Bool} {size bytes : Nat} (hf : f ≠ yfn) (he : Zpg P f) (h : GrowOK P f e size bytes) {args : List V} {m : Mem} {r : List V} {m' : Mem} (hr : Zyk e flat size bytes args m = some (r, m'))
    {c : Cx} {vals : List Value} (hs : PSim P c) (hm : c.m = m) (ha : RelVs c args vals) : Done P f c.w vals (Left P c r m') := by
  subst hm
  unfold Zyk at hr
  split at hr
  case h_2 => cases hr
  rename_i n
  split at hr
  case isFalse => cases hr
  rename_i hc
  obtain ⟨b, hb, hr⟩ := Option.map_eq_some_iff.1 hr
  cases hr
  simp only [RelVs, RelV, RelD] at ha
  obtain ⟨u, us, rfl, rfl, u2, us2, rfl, rfl, rfl⟩ := ha
  obtain ⟨hsz, hby, h0, h1⟩ := h
  obtain ⟨b1, b2, b3, b4, b5, b6, b7⟩ := Zmf hb
  refine ⟨fun _ => ⟨he, ?_⟩, fun hy => absurd hy hf⟩
  by_cases hn : n.toNat = 0
  · have hn0 : n = 0 := by omega
    subst hn0
    refine Calls.mono (h0 c.w) ?_
    rintro r w' ⟨rfl, rfl⟩
    refine ⟨[.slice none 0 0], cxPad c b, rfl, rfl, rfl, Zxy hs b, ?_⟩
    simp only [RelVs]
    refine ⟨_, _, rfl, ?_, rfl⟩
    simp only [Int.toNat_zero, Nat.beq_refl, RelV]
    exact ⟨trivial, trivial, b, by simp [cxPad]⟩
  · have en : n = ((n.toNat : Nat) : Int) := by omega
    have hc1 := h1 n.toNat c.w (by omega) hc.2
    rw [← en] at hc1
    refine Calls.mono hc1 ?_
    rintro r w' ⟨cap, us, rfl, hl, rfl⟩
    have hN : New P c b (c.w.drew.alloc (.cells ⟨us⟩ e)) :=
      ⟨hs, fun k o hk => by rw [Znk c.w.drew _ k (by simpa using Zke hk)]; exact hk, by simp, rfl, rfl, rfl⟩
    have hheap : (c.w.drew.alloc (.cells ⟨us⟩ e)).heap[c.w.heap.size]? = some (.cells ⟨[] ++ us⟩ b.elem (0, 0)) := by
      have := Zjw c.w.drew (.cells ⟨us⟩ e)
      rw [World.size_drew] at this
      rw [this, b2]; rfl
    have hP := hN.cells b1 hheap (.inl rfl) (by rw [b3]; exact hsz) (cap := cap) (by rw [b3]; simpa using hl) (by rw [b4]; simp [RelVs]) (by simp) (by rw [b4]; simp) b7
    refine ⟨[.slice (some ⟨c.w.heap.size, 0, none⟩) 0 cap], cxNew c b _, rfl, rfl, rfl, hP, ?_⟩
    simp only [RelVs]
    refine ⟨_, _, rfl, ?_, rfl⟩
    have hbl : b.len = 0 := b5
    have := new_sl (c := c) (b := b) (w' := c.w.drew.alloc (.cells ⟨us⟩ e)) (cap := cap) (e := b.elem) (by omega) (by simp only [World.shape?, hheap, b3]; simpa using hl)
    rw [hbl] at this
    have hq : Nat.beq n.toNat 0 = false := by cases hq : Nat.beq n.toNat 0 with | false => rfl | true => exact absurd (Nat.eq_of_beq_eq_true hq) hn
    rw [hq]
    exact Zqs this
def lookX : List (FuncId × XK) → FuncId → Option XK
  | [], _ => none
  | (i, k) :: r, f => match Nat.beq f i with | true => some k | false => lookX r f
def extOf (l : List (FuncId × XK)) : CallT := fun f a m => match lookX l f with | some k => runX k a m | none => none
theorem Z0w : ∀ (l : List (FuncId × XK)), (∀ p, p ∈ l → XOK P p.1 p.2) → ∀ f k, lookX l f = some k → XOK P f k
  | [], _, f, k, h => by simp [lookX] at h
  | (i, q) :: r, hl, f, k, h => by
    simp only [lookX] at h
    split at h
    · rename_i hb
      cases h
      rw [Nat.eq_of_beq_eq_true hb]
      exact hl (i, _) (List.mem_cons_self ..)
    · exact Z0w r (fun p hp => hl p (by simp [hp])) f k h
theorem ext_ok {E : Env} {l : List (FuncId × XK)} (hE : E.ext = extOf l) (hl : ∀ p, p ∈ l → XOK P p.1 p.2) : ∀ f args m r m', E.ext f args m = some (r, m') → ∀ (c : Cx) (vals : List Value), PSim P c → c.m = m → GlOK E c → RelVs c args vals → Done P f c.w vals (Left P c r m') := by
  intro f args m r m' h c vals hs hm hg ha
  rw [hE] at h
  unfold extOf at h
  split at h
  case h_2 => cases h
  rename_i k hk
  obtain ⟨h1, h2, h3⟩ := Z0w l hl f k hk
  cases k with
  | grow e flat size bytes => exact Z6p h1 h2 h3 h hs hm ha
theorem Z39 {l : List (FuncId × XK)} {f : FuncId} (h : lookX l f = none) : ∀ a m, extOf l f a m = none := fun a m => by simp only [extOf, h]
end Go.Proofs.Ytdlhhoejnhjbhaa.Den

namespace Go.Proofs.Ytdlhhoejnhjbhaa.Den
open Go Go.Proofs Go.Shelf Go.RowKit Go.Lib Go.Sort
variable {P : Program} {ρ : Shelf.Ren}
set_option maxHeartbeats 4000000 in
set_option maxRecDepth 1000000 in
theorem Z52 (L : Lays2.n23 P ρ) (blk off cap i j : Nat) (d : Array Int) (w : World) (hH : Holds encI w blk off d) (hcap : d.size ≤ cap) (hm : d.size ≤ 9223372036854775807) (hij : i ≤ j) (hj : j ≤ d.size) :
    Calls P (ρ.f 23) #[.slice (some ⟨blk, off, none⟩) d.size cap, .int .i64 i, .int .i64 j] w fun e w' => e = .returned (.slice (some ⟨blk, off, none⟩) (d.size - (j - i)) cap) ∧ ∃ q, w' = putRow encI (Sort.ahead w q) blk off (d.toList.take i ++ d.toList.drop j ++ List.replicate (j - i) 0).toArray := by
  have mixed := L.mixed; have t0 := L.t0; have a0 := L.a0; have z0 := L.z0; have v0 := L.v0; have t3 := L.t3; have a3 := L.a3; have z3 := L.z3; have v3 := L.v3; have t4 := L.t4; have a4 := L.a4; have z4 := L.z4; have v4 := L.v4; have t22 := L.t22; have a22 := L.a22; have z22 := L.z22; have v22 := L.v22
  obtain ⟨i0, hi0, hz0, hz1, hz2⟩ := info_parts L.i3
  by_cases heq : i = j
  · subst heq
    have h0 : Calls P (ρ.f 23) #[.slice (some ⟨blk, off, none⟩) d.size cap, .int .i64 i, .int .i64 i] w fun e w' => e = .returned (.slice (some ⟨blk, off, none⟩) d.size cap) ∧ w' = w := by
      clear hH
      go_enter L.f23, Body2.n23_ntmps ρ
      go_wp2
      all_goals (go_ret; exact ⟨rfl, rfl⟩)
    refine h0.mono ?_
    rintro e w' ⟨rfl, rfl⟩
    have e : (d.toList.take i ++ d.toList.drop i ++ List.replicate (i - i) 0).toArray = d := by simp
    refine ⟨by rw [Nat.sub_self, Nat.sub_zero], 0, ?_⟩
    rw [e]
    exact (putRow_self encI (Sort.ahead w' 0) blk off d hH).symm
  · have hlt : i < j := by omega
    obtain ⟨news, hnews⟩ : ∃ news, news = (d.toList.drop j).map encI := ⟨_, rfl⟩
    have hlen : news.length = d.size - j := by rw [hnews]; simp
    have hget : ∀ t, t < d.size - j → news[t]? = some (encI d[j + t]!) := by
      intro t ht
      rw [hnews, List.getElem?_map, List.getElem?_drop, Array.getElem?_toList, getElem!_pos d (j + t) (by omega), Array.getElem?_eq_getElem (by omega)]
      rfl
    obtain ⟨A, hA, hsrc⟩ : ∃ A : Addr, (if cap = j then some (⟨blk, off, none⟩ : Addr) else some ⟨blk, off + j, none⟩) = some A ∧ Hid (∀ t u, news[t]? = some u → w.drew.cell? (A.add t) = some u) := by
      by_cases h : cap = j
      · refine ⟨⟨blk, off, none⟩, by simp [h], fun t u hu => ?_⟩
        have h0 : news.length = 0 := by rw [hlen]; omega
        rw [List.length_eq_zero_iff.1 h0] at hu
        simp at hu
      · refine ⟨⟨blk, off + j, none⟩, by simp [h], fun t u hu => ?_⟩
        have ht : t < d.size - j := by
          have := (List.getElem?_eq_some_iff.1 hu).1
          rwa [hlen] at this
        rw [hget t ht] at hu
        rw [Addr.add_lit, show off + j + t = off + (j + t) by omega]
        exact (hH (j + t) (by omega)).1.trans hu
    have s1 : Hid (news.length = (d.size - j) * 1) := by rw [Nat.mul_one]; exact hlen
    have s2 : Hid (∀ u ∈ news, u.oneCell' = true) := by
      intro u hu
      rw [hnews] at hu
      obtain ⟨x, _, rfl⟩ := List.mem_map.1 hu
      rfl
    have s3 : Hid (∀ t, t < news.length → (w.drew.cell? ⟨blk, off + i * 1 + t, none⟩).isSome = true ∧ w.drew.frozen? ⟨blk, off + i * 1 + t, none⟩ = false) := by
      intro t ht
      rw [hlen] at ht
      rw [Nat.mul_one, Nat.add_assoc]
      exact ⟨by show (w.cell? _).isSome = true; rw [(hH (i + t) (by omega)).1]; rfl, (hH (i + t) (by omega)).2⟩
    obtain ⟨W1, hW1⟩ : ∃ W1, W1 = w.drew.setCells blk (off + i * 1) news := ⟨_, rfl⟩
    have hW1' : W1 = putRow encI (Sort.ahead w 1) blk off (lay d i (d.toList.drop j)) := by
      rw [hW1, hnews, Nat.mul_one, ← putRow_setCells encI (Sort.ahead w 1) blk off _ d i (by simp; omega), putRow_self encI (Sort.ahead w 1) blk off d (holds_ahead encI w 1 blk off d hH)]
      rfl
    have hH1 : Holds encI W1 blk off (lay d i (d.toList.drop j)) := by rw [hW1']; exact holds_putRow encI _ blk off d _ (holds_ahead encI w 1 blk off d hH) (lay_size _ _ _)
    have hcl : ∀ ty, (Builtin.clear_ #[ρ.t 22] ty #[.slice (some ⟨blk, off + (i + (d.size - j)), none⟩) (d.size - (i + (d.size - j))) (cap - (i + (d.size - j)))]).run P W1 = .ok (.tuple #[]) (W1.setCells blk (off + (i + (d.size - j))) (List.replicate (d.size - (i + (d.size - j))) (encI 0))) :=
      fun ty => Lib.run_clear_slice W1 _ _ ty _ t22 v3 rfl rfl blk (off + (i + (d.size - j))) _ _ (by omega) (fun t ht => by rw [show off + (i + (d.size - j)) + t = off + (i + (d.size - j) + t) by omega, (hH1 _ (by rw [lay_size]; omega)).1]; rfl) (fun t ht => by rw [show off + (i + (d.size - j)) + t = off + (i + (d.size - j) + t) by omega]; exact (hH1 _ (by rw [lay_size]; omega)).2)
    have X : Aside (W1 = putRow encI (Sort.ahead w 1) blk off (lay d i (d.toList.drop j))) := hW1'
    have hW : Hid (W1 = w.drew.setCells blk (off + i * 1) news) := hW1
    have hic : i ≤ cap := by omega
    have hjc : j ≤ cap := by omega
    clear hW1 hW1' hH1 hH hget hnews hlen
    go_enter L.f23, Body2.n23_ntmps ρ
    go_wp2_with fail
    go_region_law_o (refine step_append_room rfl (.tmp 22) (.tmp 25) (ρ.t 22) rfl (ρ.t 3) i0 1 t22 hi0 hz1 blk off i cap (by simp [Act.eval, Act.put]) A (d.size - j) (cap - j) news (by simp [Act.eval, Act.put]) s1.out hsrc.out s2.out (by omega) s3.out ?_; rw [← hW.out])
    go_wp2
    go_ret
    refine ⟨by rw [show d.size - (j - i) = i + (d.size - j) by omega]; rfl, 1, ?_⟩
    rw [← delete_arr d i j 0 hij hj, ← putRow_setCells encI _ blk off _ _ (i + (d.size - j)) (by rw [lay_size]; simp; omega), ← X.out, List.map_replicate, show d.size - (i + (d.size - j)) = j - i by omega]
theorem Z4i {f : FuncId} (L : Lays2.n23 P ρ) (hf : ρ.f 23 = f) (he : Zpg P f) : DelOK P f :=
  ⟨he, fun blk cap i j d w hH hc hm hij hj => by rw [← hf]; exact Z52 L blk 0 cap i j d w hH hc hm hij hj⟩
end Go.Proofs.Ytdlhhoejnhjbhaa.Den

namespace Go.Proofs.Ytdlhhoejnhjbhaa.Den
open Go Go.Proofs
set_option maxRecDepth 100000
def S10_0 : C := (.seq1 (.reg [] [⟨(some 25), none, (.mov (.t 2))⟩, ⟨(some 26), none, (.len (.t 25))⟩, ⟨(some 27), none, (.bin .gtr (.t 26) (.v (.d (.int .i64 200))))⟩]) (.cond (.t 27) (.seq (.reg [] [⟨(some 28), none, (.call (.v (.fn (.func 43) [] [])) [])⟩, ⟨(some 6), none, (.mov (.t 28))⟩]) .ret) .skip))
def S10_1 : C := (.seq1 (.reg [] [⟨(some 64), none, (.mov (.t 13))⟩, ⟨(some 65), none, (.mov (.t 2))⟩, ⟨(some 66), none, (.len (.t 65))⟩, ⟨(some 67), none, (.bin .lss (.t 64) (.t 66))⟩]) (.cond (.t 67) .skip (.exit 0)))
def S10_2 : C := (.reg [] [⟨(some 120), none, (.mov (.t 7))⟩, ⟨(some 121), none, (.call (.v (.fn (.func 53) [] [])) [(.t 120)])⟩, ⟨(some 122), none, (.mov (.t 11))⟩, ⟨(some 123), none, (.call (.v (.fn (.func 54) [] [])) [(.t 122)])⟩, ⟨(some 124), none, (.call (.v (.fn (.func 17) [] [])) [(.t 121), (.t 123)])⟩, ⟨(some 20), none, (.mov (.t 124))⟩])
def S10_3 : C := (.reg [] [⟨(some 125), none, (.mov (.t 20))⟩, ⟨(some 126), none, (.unop .not (.t 125))⟩, ⟨(some 127), none, (.mov (.t 126))⟩, ⟨(some 128), (some (127, false)), (.mov (.t 7))⟩, ⟨(some 129), (some (127, false)), (.call (.v (.fn (.func 55) [] [])) [(.t 128)])⟩, ⟨(some 130), (some (127, false)), (.mov (.t 11))⟩, ⟨(some 131), (some (127, false)), (.call (.v (.fn (.func 56) [] [])) [(.t 130)])⟩, ⟨(some 132), (some (127, false)), (.beq .bool true (.t 129) (.t 131))⟩, ⟨(some 133), none, (.pick (.t 127) (.v (.d (.bool true))) (.t 132))⟩, ⟨(some 134), none, (.mov (.t 133))⟩, ⟨(some 135), (some (134, false)), (.mov (.t 10))⟩, ⟨(some 136), (some (134, false)), (.call (.v (.fn (.func 57) [] [])) [(.t 135)])⟩, ⟨(some 137), (some (134, false)), (.mov (.t 12))⟩, ⟨(some 138), (some (134, false)), (.len (.t 137))⟩, ⟨(some 139), (some (134, false)), (.mov (.t 0))⟩, ⟨(some 140), (some (134, false)), (.mn [(.t 138), (.t 139)])⟩, ⟨(some 141), (some (134, false)), (.bin .neq (.t 136) (.t 140))⟩, ⟨(some 142), none, (.pick (.t 134) (.v (.d (.bool true))) (.t 141))⟩])
def L10_4 : C := (.cut [0, 2, 7, 10, 11, 12, 13] [] [0, 2, 7, 10, 11, 12, 13] S10_1 (.seq (.block 1 (.seq (.reg [] [⟨(some 70), none, (.mov (.t 2))⟩, ⟨(some 71), none, (.mov (.t 13))⟩, ⟨(some 72), none, (.idxA 3 (.t 70) (.t 71))⟩, ⟨(some 73), none, (.fieldA 1 (.t 72))⟩, ⟨(some 74), none, (.load true 2 (.t 73))⟩, ⟨(some 14), none, (.alloc 53 [(.bool false), (.int .i64 0)] true)⟩, ⟨none, none, (.store 2 (.t 14) (.t 74))⟩]) (.seq (.seq (.reg [] [⟨(some 75), none, (.mov (.t 2))⟩, ⟨(some 76), none, (.mov (.t 13))⟩, ⟨(some 77), none, (.idxA 3 (.t 75) (.t 76))⟩, ⟨(some 78), none, (.fieldA 0 (.t 77))⟩, ⟨(some 79), none, (.load false 1 (.t 78))⟩, ⟨(some 80), none, (.bin .rem (.t 79) (.v (.d (.int .u8 2))))⟩, ⟨(some 81), none, (.bin .eql (.t 80) (.v (.d (.int .u8 1))))⟩]) (.cond (.t 81) (.seq (.mix [⟨(some 82), none, (.mov (.t 7))⟩, ⟨(some 83), none, (.fieldA 1 (.t 14))⟩, ⟨(some 84), none, (.load false 1 (.t 83))⟩, ⟨(some 85), none, (.call (.v (.fn (.func 48) [] [])) [(.t 82), (.t 84)])⟩, ⟨(some 86), none, (.mov (.t 11))⟩, ⟨(some 87), none, (.fieldA 1 (.t 14))⟩, ⟨(some 88), none, (.load false 1 (.t 87))⟩, ⟨(some 89), none, (.call (.v (.fn (.func 49) [] [])) [(.t 86), (.t 88)])⟩, ⟨(some 90), none, (.bin .neq (.t 85) (.t 89))⟩] [[], [], [], [], [], [], [3], [], []] [false, false, false, false, false, false, false, false, false]) (.cond (.t 90) (.seq (.reg [] [⟨(some 6), none, (.mov (.v (.d (.bool false))))⟩]) .ret) .skip)) (.seq (.reg [] [⟨(some 91), none, (.fieldA 0 (.t 14))⟩, ⟨(some 92), none, (.load false 1 (.t 91))⟩]) (.cond (.t 92) (.seq (.reg [] [⟨(some 93), none, (.mov (.t 10))⟩, ⟨(some 94), none, (.call (.v (.fn (.func 50) [] [])) [(.t 93)])⟩]) (.reg [] [⟨(some 12), none, (.nsl 3 true 1)⟩])) (.seq (.reg [] [⟨(some 96), none, (.mov (.t 10))⟩, ⟨(some 97), none, (.fieldA 1 (.t 14))⟩, ⟨(some 98), none, (.load false 1 (.t 97))⟩, ⟨(some 99), none, (.call (.v (.fn (.func 51) [] [])) [(.t 96), (.t 98)])⟩, ⟨(some 95), none, (.mov (.t 99))⟩, ⟨(some 100), none, (.extract 0 (.t 95))⟩, ⟨(some 101), none, (.extract 1 (.t 95))⟩, ⟨(some 15), none, (.mov (.t 100))⟩, ⟨(some 16), none, (.mov (.t 101))⟩]) (.seq (.reg [] [⟨(some 103), none, (.mov (.t 11))⟩, ⟨(some 104), none, (.mov (.t 12))⟩, ⟨(some 105), none, (.fieldA 1 (.t 14))⟩, ⟨(some 106), none, (.load false 1 (.t 105))⟩, ⟨(some 107), none, (.call (.v (.fn (.func 52) [] [])) [(.t 103), (.t 104), (.t 106)])⟩, ⟨(some 102), none, (.mov (.t 107))⟩, ⟨(some 108), none, (.extract 0 (.t 102))⟩, ⟨(some 109), none, (.extract 1 (.t 102))⟩, ⟨(some 110), none, (.extract 2 (.t 102))⟩, ⟨(some 17), none, (.mov (.t 108))⟩, ⟨(some 18), none, (.mov (.t 109))⟩, ⟨(some 19), none, (.mov (.t 110))⟩]) (.seq (.reg [] [⟨(some 111), none, (.mov (.t 17))⟩, ⟨(some 12), none, (.mov (.t 111))⟩]) (.seq (.reg [] [⟨(some 112), none, (.mov (.t 15))⟩, ⟨(some 113), none, (.mov (.t 18))⟩, ⟨(some 114), none, (.beq .bool true (.t 112) (.t 113))⟩, ⟨(some 115), none, (.mov (.t 114))⟩, ⟨(some 116), (some (115, false)), (.mov (.t 16))⟩, ⟨(some 117), (some (115, false)), (.mov (.t 19))⟩, ⟨(some 118), (some (115, false)), (.bin .neq (.t 116) (.t 117))⟩, ⟨(some 119), none, (.pick (.t 115) (.v (.d (.bool true))) (.t 118))⟩]) (.cond (.t 119) (.seq (.reg [] [⟨(some 6), none, (.mov (.v (.d (.bool false))))⟩]) .ret) .skip))))))))) (.cut [0, 2, 7, 10, 11, 12, 13] [] [0, 2, 7, 10, 11, 12, 13, 20] S10_2 (.cut [0, 2, 7, 10, 11, 12, 13, 20] [] [0, 2, 7, 10, 11, 12, 13, 142] S10_3 (.cond (.t 142) (.seq (.reg [] [⟨(some 6), none, (.mov (.v (.d (.bool false))))⟩]) .ret) .skip)))))) (.reg [] [⟨(some 68), none, (.mov (.t 13))⟩, ⟨(some 69), none, (.bin .add (.t 68) (.v (.d (.int .i64 1))))⟩, ⟨(some 13), none, (.mov (.t 69))⟩])))
def S10_5 : C := (.seq (.reg [] [⟨(some 30), none, (.mov (.t 0))⟩, ⟨(some 31), none, (.mov (.t 1))⟩, ⟨(some 32), none, (.call (.v (.fn (.func 44) [] [])) [(.t 30), (.t 31)])⟩, ⟨(some 29), none, (.mov (.t 32))⟩, ⟨(some 33), none, (.extract 0 (.t 29))⟩, ⟨(some 34), none, (.extract 1 (.t 29))⟩, ⟨(some 7), none, (.mov (.t 33))⟩, ⟨(some 8), none, (.mov (.t 34))⟩]) (.seq (.reg [] [⟨(some 35), none, (.mov (.t 0))⟩, ⟨(some 36), none, (.mov (.t 1))⟩, ⟨(some 37), none, (.call (.v (.fn (.func 45) [] [])) [(.t 35), (.t 36)])⟩, ⟨(some 9), none, (.mov (.t 37))⟩]) (.seq (.seq (.reg [] [⟨(some 38), none, (.mov (.t 9))⟩, ⟨(some 39), none, (.unop .not (.t 38))⟩]) (.cond (.t 39) (.seq (.reg [] [⟨(some 40), none, (.call (.v (.fn (.func 43) [] [])) [])⟩, ⟨(some 41), none, (.mov (.t 40))⟩, ⟨(some 42), (some (41, true)), (.mov (.t 7))⟩, ⟨(some 43), (some (41, true)), (.beq .ptr false (.t 42) (.v (.d .nilp)))⟩, ⟨(some 44), none, (.pick (.t 41) (.t 43) (.v (.d (.bool false))))⟩, ⟨(some 45), none, (.mov (.t 44))⟩, ⟨(some 46), (some (45, true)), (.mov (.t 8))⟩, ⟨(some 47), (some (45, true)), (.bin .eql (.t 46) (.v (.d (.int .i64 1))))⟩, ⟨(some 48), none, (.pick (.t 45) (.t 47) (.v (.d (.bool false))))⟩, ⟨(some 6), none, (.mov (.t 48))⟩]) .ret) .skip)) (.seq (.reg [] [⟨(some 49), none, (.mov (.t 7))⟩, ⟨(some 50), none, (.call (.v (.fn (.func 46) [] [])) [(.t 49)])⟩, ⟨(some 10), none, (.mov (.t 50))⟩]) (.seq (.seq (.reg [] [⟨(some 51), none, (.mov (.t 7))⟩, ⟨(some 52), none, (.beq .ptr false (.t 51) (.v (.d .nilp)))⟩, ⟨(some 53), none, (.mov (.t 52))⟩, ⟨(some 54), (some (53, false)), (.mov (.t 10))⟩, ⟨(some 55), (some (53, false)), (.beq .ptr false (.t 54) (.v (.d .nilp)))⟩, ⟨(some 56), none, (.pick (.t 53) (.v (.d (.bool true))) (.t 55))⟩, ⟨(some 57), none, (.mov (.t 56))⟩, ⟨(some 58), (some (57, false)), (.mov (.t 8))⟩, ⟨(some 59), (some (57, false)), (.bin .neq (.t 58) (.v (.d (.int .i64 0))))⟩, ⟨(some 60), none, (.pick (.t 57) (.v (.d (.bool true))) (.t 59))⟩]) (.cond (.t 60) (.seq (.reg [] [⟨(some 6), none, (.mov (.v (.d (.bool false))))⟩]) .ret) .skip)) (.seq (.reg [] [⟨(some 61), none, (.mov (.t 0))⟩, ⟨(some 62), none, (.mov (.t 1))⟩, ⟨(some 63), none, (.call (.v (.fn (.func 47) [] [])) [(.t 61), (.t 62)])⟩, ⟨(some 11), none, (.mov (.t 63))⟩]) (.seq (.reg [] [⟨(some 12), none, (.nsl 3 true 1)⟩]) (.seq1 (.reg [] [⟨(some 13), none, (.mov (.v (.d (.int .i64 0))))⟩]) (.block 0 (.loop [0, 2, 7, 10, 11, 12, 13] [6] L10_4))))))))))
def S10_6 : C := (.reg [] [⟨(some 143), none, (.mov (.t 22))⟩, ⟨(some 144), none, (.call (.v (.fn (.func 50) [] [])) [(.t 143)])⟩])
def S10_7 : C := (.reg [] [⟨(some 146), none, (.mov (.t 22))⟩, ⟨(some 147), none, (.call (.v (.fn (.func 51) [] [])) [(.t 146), (.v (.d (.int .i64 0)))])⟩, ⟨(some 145), none, (.mov (.t 147))⟩, ⟨(some 148), none, (.extract 0 (.t 145))⟩, ⟨(some 149), none, (.extract 1 (.t 145))⟩, ⟨(some 23), none, (.mov (.t 148))⟩, ⟨(some 24), none, (.mov (.t 149))⟩])
def S10_8 : C := (.reg [] [⟨(some 150), none, (.call (.v (.fn (.func 43) [] [])) [])⟩, ⟨(some 151), none, (.mov (.t 150))⟩, ⟨(some 152), (some (151, true)), (.mov (.t 21))⟩, ⟨(some 153), (some (151, true)), (.call (.v (.fn (.func 48) [] [])) [(.t 152), (.v (.d (.int .i64 0)))])⟩, ⟨(some 154), (some (151, true)), (.bin .eql (.t 153) (.v (.d (.int .i64 1))))⟩, ⟨(some 155), none, (.pick (.t 151) (.t 154) (.v (.d (.bool false))))⟩, ⟨(some 156), none, (.mov (.t 155))⟩, ⟨(some 157), (some (156, true)), (.mov (.t 21))⟩, ⟨(some 158), (some (156, true)), (.call (.v (.fn (.func 53) [] [])) [(.t 157)])⟩, ⟨(some 159), (some (156, true)), (.len (.t 158))⟩, ⟨(some 160), (some (156, true)), (.bin .eql (.t 159) (.v (.d (.int .i64 0))))⟩, ⟨(some 161), none, (.pick (.t 156) (.t 160) (.v (.d (.bool false))))⟩, ⟨(some 162), none, (.mov (.t 161))⟩, ⟨(some 163), (some (162, true)), (.mov (.t 21))⟩, ⟨(some 164), (some (162, true)), (.call (.v (.fn (.func 55) [] [])) [(.t 163)])⟩, ⟨(some 165), (some (162, true)), (.unop .not (.t 164))⟩, ⟨(some 166), none, (.pick (.t 162) (.t 165) (.v (.d (.bool false))))⟩, ⟨(some 167), none, (.mov (.t 166))⟩, ⟨(some 168), (some (167, true)), (.mov (.t 21))⟩, ⟨(some 169), (some (167, true)), (.call (.v (.fn (.func 46) [] [])) [(.t 168)])⟩, ⟨(some 170), (some (167, true)), (.beq .ptr false (.t 169) (.v (.d .nilp)))⟩, ⟨(some 171), none, (.pick (.t 167) (.t 170) (.v (.d (.bool false))))⟩, ⟨(some 172), none, (.mov (.t 171))⟩, ⟨(some 173), (some (172, true)), (.mov (.t 23))⟩, ⟨(some 174), (some (172, true)), (.unop .not (.t 173))⟩, ⟨(some 175), none, (.pick (.t 172) (.t 174) (.v (.d (.bool false))))⟩, ⟨(some 176), none, (.mov (.t 175))⟩, ⟨(some 177), (some (176, true)), (.mov (.t 24))⟩, ⟨(some 178), (some (176, true)), (.bin .eql (.t 177) (.v (.d (.int .i64 1))))⟩, ⟨(some 179), none, (.pick (.t 176) (.t 178) (.v (.d (.bool false))))⟩, ⟨(some 180), none, (.mov (.t 179))⟩, ⟨(some 181), (some (180, true)), (.mov (.t 22))⟩, ⟨(some 182), (some (180, true)), (.call (.v (.fn (.func 57) [] [])) [(.t 181)])⟩, ⟨(some 183), (some (180, true)), (.bin .eql (.t 182) (.v (.d (.int .i64 0))))⟩, ⟨(some 184), none, (.pick (.t 180) (.t 183) (.v (.d (.bool false))))⟩, ⟨(some 6), none, (.mov (.t 184))⟩])
def F10 : CFunc := ⟨185, [(.tmp 6)], (.seq (.reg [] [⟨(some 6), none, (.mov (.v (.d (.bool false))))⟩]) (.cut [0, 1, 2] [6] [0, 1, 2] S10_0 (.cut [0, 1, 2] [6] [] S10_5 (.seq (.reg [] [⟨(some 21), none, (.mov (.v (.d .nilp)))⟩]) (.seq (.reg [] [⟨(some 22), none, (.mov (.v (.d .nilp)))⟩]) (.cut [21, 22] [] [21, 22] S10_6 (.cut [21, 22] [] [21, 22, 23, 24] S10_7 (.cut [21, 22, 23, 24] [] [6] S10_8 .ret))))))))⟩
theorem c10 : cAt Try.prog 10 = some F10.er := by kernel_rfl
def L17_0 : C := (.seq (.seq (.reg [] [⟨(some 11), none, (.mov (.t 5))⟩, ⟨(some 12), none, (.mov (.t 0))⟩, ⟨(some 13), none, (.len (.t 12))⟩, ⟨(some 14), none, (.bin .lss (.t 11) (.t 13))⟩]) (.cond (.t 14) .skip (.exit 0))) (.seq (.block 1 (.seq (.reg [⟨(some 17), none, (.mov (.t 0))⟩, ⟨(some 18), none, (.mov (.t 5))⟩, ⟨(some 19), none, (.idxA 1 (.t 17) (.t 18))⟩, ⟨(some 20), none, (.load false 1 (.t 19))⟩, ⟨(some 21), none, (.mov (.t 1))⟩, ⟨(some 22), none, (.mov (.t 5))⟩, ⟨(some 23), none, (.idxA 1 (.t 21) (.t 22))⟩, ⟨(some 24), none, (.load false 1 (.t 23))⟩] [⟨(some 25), none, (.bin .neq (.t 20) (.t 24))⟩]) (.cond (.t 25) (.seq (.reg [] [⟨(some 4), none, (.mov (.v (.d (.bool false))))⟩]) .ret) .skip))) (.reg [] [⟨(some 15), none, (.mov (.t 5))⟩, ⟨(some 16), none, (.bin .add (.t 15) (.v (.d (.int .i64 1))))⟩, ⟨(some 5), none, (.mov (.t 16))⟩])))
def F17 : CFunc := ⟨26, [(.tmp 4)], (.seq (.reg [] [⟨(some 4), none, (.mov (.v (.d (.bool false))))⟩]) (.seq (.seq (.reg [] [⟨(some 6), none, (.mov (.t 0))⟩, ⟨(some 7), none, (.len (.t 6))⟩, ⟨(some 8), none, (.mov (.t 1))⟩, ⟨(some 9), none, (.len (.t 8))⟩, ⟨(some 10), none, (.bin .neq (.t 7) (.t 9))⟩]) (.cond (.t 10) (.seq (.reg [] [⟨(some 4), none, (.mov (.v (.d (.bool false))))⟩]) .ret) .skip)) (.seq (.seq (.reg [] [⟨(some 5), none, (.mov (.v (.d (.int .i64 0))))⟩]) (.block 0 (.loop [0, 1, 5] [4] L17_0))) (.seq (.reg [] [⟨(some 4), none, (.mov (.v (.d (.bool true))))⟩]) .ret))))⟩
theorem c17 : cAt Try.prog 17 = some F17.er := by kernel_rfl
def S19_0 : C := (.seq1 (.reg [] [⟨(some 11), none, (.mov (.t 3))⟩, ⟨(some 12), none, (.unop .not (.t 11))⟩]) (.cond (.t 12) (.seq (.reg [] [⟨(some 2), none, (.nsl 3 true 1)⟩]) .ret) .skip))
def S19_1 : C := (.seq1 (.reg [] [⟨(some 13), none, (.mov (.t 5))⟩, ⟨(some 14), none, (.mov (.t 0))⟩, ⟨(some 15), none, (.len (.t 14))⟩, ⟨(some 16), none, (.bin .lss (.t 13) (.t 15))⟩]) (.cond (.t 16) .skip (.exit 0)))
def L19_2 : C := (.seq (.seq (.reg [] [⟨(some 19), none, (.mov (.t 8))⟩, ⟨(some 20), none, (.mov (.t 4))⟩, ⟨(some 21), none, (.len (.t 20))⟩, ⟨(some 22), none, (.bin .lss (.t 19) (.t 21))⟩]) (.cond (.t 22) .skip (.exit 2))) (.seq (.block 3 (.seq (.seq (.reg [⟨(some 25), none, (.mov (.t 7))⟩, ⟨(some 26), none, (.unop .not (.t 25))⟩, ⟨(some 27), none, (.mov (.t 26))⟩, ⟨(some 28), (some (27, true)), (.mov (.t 4))⟩, ⟨(some 29), (some (27, true)), (.mov (.t 8))⟩, ⟨(some 30), (some (27, true)), (.idxA 1 (.t 28) (.t 29))⟩, ⟨(some 31), (some (27, true)), (.load false 1 (.t 30))⟩, ⟨(some 32), (some (27, true)), (.mov (.t 0))⟩, ⟨(some 33), (some (27, true)), (.mov (.t 5))⟩, ⟨(some 34), (some (27, true)), (.idxA 1 (.t 32) (.t 33))⟩, ⟨(some 35), (some (27, true)), (.load false 1 (.t 34))⟩] [⟨(some 36), (some (27, true)), (.bin .gtr (.t 31) (.t 35))⟩, ⟨(some 37), none, (.pick (.t 27) (.t 36) (.v (.d (.bool false))))⟩]) (.cond (.t 37) (.seq (.reg [] [⟨(some 38), none, (.mov (.t 6))⟩, ⟨(some 39), none, (.mov (.t 0))⟩, ⟨(some 40), none, (.mov (.t 5))⟩, ⟨(some 41), none, (.idxA 1 (.t 39) (.t 40))⟩, ⟨(some 42), none, (.load false 1 (.t 41))⟩, ⟨(some 43), none, (.bslice 3 true 1 1 [(.int .i64 0)] [(0, (.t 42))])⟩, ⟨(some 44), none, (.append 3 true 1 8 (.t 38) (.t 43))⟩, ⟨(some 6), none, (.mov (.t 44))⟩]) (.reg [] [⟨(some 7), none, (.mov (.v (.d (.bool true))))⟩])) .skip)) (.reg [] [⟨(some 45), none, (.mov (.t 6))⟩, ⟨(some 46), none, (.mov (.t 4))⟩, ⟨(some 47), none, (.mov (.t 8))⟩, ⟨(some 48), none, (.idxA 1 (.t 46) (.t 47))⟩, ⟨(some 49), none, (.load false 1 (.t 48))⟩, ⟨(some 50), none, (.bslice 3 true 1 1 [(.int .i64 0)] [(0, (.t 49))])⟩, ⟨(some 51), none, (.append 3 true 1 8 (.t 45) (.t 50))⟩, ⟨(some 6), none, (.mov (.t 51))⟩]))) (.reg [] [⟨(some 23), none, (.mov (.t 8))⟩, ⟨(some 24), none, (.bin .add (.t 23) (.v (.d (.int .i64 1))))⟩, ⟨(some 8), none, (.mov (.t 24))⟩])))
def L19_3 : C := (.cut [0, 4, 5] [4] [0, 4, 5] S19_1 (.seq (.block 1 (.seq (.reg [] [⟨(some 6), none, (.nsl 3 true 1)⟩]) (.seq (.reg [] [⟨(some 7), none, (.mov (.v (.d (.bool false))))⟩]) (.seq (.seq (.reg [] [⟨(some 8), none, (.mov (.v (.d (.int .i64 0))))⟩]) (.block 2 (.loop [0, 4, 5, 6, 7, 8] [0, 5, 6, 7] L19_2))) (.seq (.seq (.reg [] [⟨(some 52), none, (.mov (.t 7))⟩, ⟨(some 53), none, (.unop .not (.t 52))⟩]) (.cond (.t 53) (.reg [] [⟨(some 54), none, (.mov (.t 6))⟩, ⟨(some 55), none, (.mov (.t 0))⟩, ⟨(some 56), none, (.mov (.t 5))⟩, ⟨(some 57), none, (.idxA 1 (.t 55) (.t 56))⟩, ⟨(some 58), none, (.load false 1 (.t 57))⟩, ⟨(some 59), none, (.bslice 3 true 1 1 [(.int .i64 0)] [(0, (.t 58))])⟩, ⟨(some 60), none, (.append 3 true 1 8 (.t 54) (.t 59))⟩, ⟨(some 6), none, (.mov (.t 60))⟩]) .skip)) (.reg [] [⟨(some 61), none, (.mov (.t 6))⟩, ⟨(some 4), none, (.mov (.t 61))⟩])))))) (.reg [] [⟨(some 17), none, (.mov (.t 5))⟩, ⟨(some 18), none, (.bin .add (.t 17) (.v (.d (.int .i64 1))))⟩, ⟨(some 5), none, (.mov (.t 18))⟩])))
def F19 : CFunc := ⟨63, [(.tmp 2)], (.seq (.reg [] [⟨(some 2), none, (.nsl 3 true 1)⟩]) (.seq (.reg [] [⟨(some 9), none, (.mov (.t 0))⟩, ⟨(some 10), none, (.call (.v (.fn (.func 24) [] [])) [(.t 9)])⟩, ⟨(some 3), none, (.mov (.t 10))⟩]) (.cut [0, 3] [2] [0] S19_0 (.seq (.reg [] [⟨(some 4), none, (.nsl 3 true 1)⟩]) (.seq (.seq (.reg [] [⟨(some 5), none, (.mov (.v (.d (.int .i64 0))))⟩]) (.block 0 (.loop [0, 4, 5] [4] L19_3))) (.seq (.reg [] [⟨(some 62), none, (.mov (.t 4))⟩, ⟨(some 2), none, (.mov (.t 62))⟩]) .ret))))))⟩
theorem c19 : cAt Try.prog 19 = some F19.er := by kernel_rfl
def F22 : CFunc := ⟨16, [(.tmp 2)], (.seq (.reg [] [⟨(some 2), none, (.mov (.v (.d (.int .i64 0))))⟩]) (.seq (.seq (.reg [] [⟨(some 3), none, (.mov (.t 0))⟩, ⟨(some 4), none, (.call (.v (.fn (.func 63) [] [])) [(.t 3)])⟩, ⟨(some 5), none, (.unop .not (.t 4))⟩, ⟨(some 6), none, (.mov (.t 5))⟩, ⟨(some 7), (some (6, false)), (.mov (.t 0))⟩, ⟨(some 8), (some (6, false)), (.len (.t 7))⟩, ⟨(some 9), (some (6, false)), (.bin .eql (.t 8) (.v (.d (.int .i64 0))))⟩, ⟨(some 10), none, (.pick (.t 6) (.v (.d (.bool true))) (.t 9))⟩]) (.cond (.t 10) (.seq (.reg [] [⟨(some 2), none, (.mov (.v (.d (.int .i64 0))))⟩]) .ret) .skip)) (.seq (.reg [] [⟨(some 11), none, (.mov (.t 0))⟩, ⟨(some 12), none, (.call (.v (.fn (.func 67) [] [])) [(.t 11)])⟩, ⟨(some 13), none, (.mov (.t 0))⟩, ⟨(some 14), none, (.call (.v (.fn (.func 68) [] [])) [(.t 13)])⟩, ⟨(some 15), none, (.bin .sub (.t 12) (.t 14))⟩, ⟨(some 2), none, (.mov (.t 15))⟩]) .ret)))⟩
theorem c22 : cAt Try.prog 22 = some F22.er := by kernel_rfl
def F23 : CFunc := ⟨19, [(.tmp 2)], (.seq (.reg [] [⟨(some 2), none, (.mov (.v (.d (.int .i64 0))))⟩]) (.seq (.reg [] [⟨(some 4), none, (.mov (.t 0))⟩, ⟨(some 5), none, (.call (.v (.fn (.func 19) [] [])) [(.t 4)])⟩, ⟨(some 3), none, (.mov (.t 5))⟩]) (.seq (.seq (.reg [] [⟨(some 6), none, (.mov (.t 3))⟩, ⟨(some 7), none, (.len (.t 6))⟩, ⟨(some 8), none, (.bin .eql (.t 7) (.v (.d (.int .i64 0))))⟩]) (.cond (.t 8) (.seq (.reg [] [⟨(some 2), none, (.mov (.v (.d (.int .i64 0))))⟩]) .ret) .skip)) (.seq (.reg [⟨(some 9), none, (.mov (.t 3))⟩, ⟨(some 10), none, (.mov (.t 3))⟩, ⟨(some 11), none, (.len (.t 10))⟩, ⟨(some 12), none, (.bin .sub (.t 11) (.v (.d (.int .i64 1))))⟩, ⟨(some 13), none, (.idxA 1 (.t 9) (.t 12))⟩, ⟨(some 14), none, (.load false 1 (.t 13))⟩, ⟨(some 15), none, (.mov (.t 3))⟩, ⟨(some 16), none, (.idxA 1 (.t 15) (.v (.d (.int .i64 0))))⟩, ⟨(some 17), none, (.load false 1 (.t 16))⟩] [⟨(some 18), none, (.bin .sub (.t 14) (.t 17))⟩, ⟨(some 2), none, (.mov (.t 18))⟩]) .ret))))⟩
theorem c23 : cAt Try.prog 23 = some F23.er := by kernel_rfl
def F24 : CFunc := ⟨12, [(.tmp 2)], (.seq (.reg [] [⟨(some 2), none, (.mov (.v (.d (.bool false))))⟩]) (.seq (.reg [] [⟨(some 4), none, (.mov (.t 0))⟩, ⟨(some 5), none, (.call (.v (.fn (.func 42) [] [])) [(.t 4)])⟩, ⟨(some 3), none, (.mov (.t 5))⟩]) (.seq (.reg [] [⟨(some 6), none, (.mov (.t 3))⟩, ⟨(some 7), none, (.mov (.t 6))⟩, ⟨(some 8), (some (7, true)), (.mov (.t 0))⟩, ⟨(some 9), (some (7, true)), (.len (.t 8))⟩, ⟨(some 10), (some (7, true)), (.bin .leq (.t 9) (.v (.d (.int .i64 16))))⟩, ⟨(some 11), none, (.pick (.t 7) (.t 10) (.v (.d (.bool false))))⟩, ⟨(some 2), none, (.mov (.t 11))⟩]) .ret)))⟩
theorem c24 : cAt Try.prog 24 = some F24.er := by kernel_rfl
def L42_0 : C := (.seq (.seq (.reg [] [⟨(some 5), none, (.mov (.t 3))⟩, ⟨(some 6), none, (.mov (.t 0))⟩, ⟨(some 7), none, (.len (.t 6))⟩, ⟨(some 8), none, (.bin .lss (.t 5) (.t 7))⟩]) (.cond (.t 8) .skip (.exit 0))) (.seq (.block 1 (.seq (.reg [] [⟨(some 11), none, (.mov (.t 0))⟩, ⟨(some 12), none, (.mov (.t 3))⟩, ⟨(some 13), none, (.idxA 1 (.t 11) (.t 12))⟩, ⟨(some 14), none, (.load false 1 (.t 13))⟩, ⟨(some 15), none, (.call (.v (.fn (.func 70) [] [])) [(.t 14)])⟩, ⟨(some 4), none, (.mov (.t 15))⟩]) (.seq (.reg [] [⟨(some 16), none, (.mov (.t 4))⟩, ⟨(some 17), none, (.unop .not (.t 16))⟩]) (.cond (.t 17) (.seq (.reg [] [⟨(some 2), none, (.mov (.v (.d (.bool false))))⟩]) .ret) .skip)))) (.reg [] [⟨(some 9), none, (.mov (.t 3))⟩, ⟨(some 10), none, (.bin .add (.t 9) (.v (.d (.int .i64 1))))⟩, ⟨(some 3), none, (.mov (.t 10))⟩])))
def F42 : CFunc := ⟨18, [(.tmp 2)], (.seq (.reg [] [⟨(some 2), none, (.mov (.v (.d (.bool false))))⟩]) (.seq (.seq (.reg [] [⟨(some 3), none, (.mov (.v (.d (.int .i64 0))))⟩]) (.block 0 (.loop [0, 3] [2] L42_0))) (.seq (.reg [] [⟨(some 2), none, (.mov (.v (.d (.bool true))))⟩]) .ret)))⟩
theorem c42 : cAt Try.prog 42 = some F42.er := by kernel_rfl
def S43_0 : C := (.seq (.reg [] [⟨(some 18), none, (.call (.v (.fn (.func 44) [] [])) [(.v (.d (.int .i64 3))), (.v (.d (.int .i64 5)))])⟩, ⟨(some 17), none, (.mov (.t 18))⟩, ⟨(some 19), none, (.extract 0 (.t 17))⟩, ⟨(some 20), none, (.extract 1 (.t 17))⟩, ⟨(some 1), none, (.mov (.t 19))⟩, ⟨(some 2), none, (.mov (.t 20))⟩]) (.seq (.seq (.reg [] [⟨(some 21), none, (.mov (.t 1))⟩, ⟨(some 22), none, (.beq .ptr false (.t 21) (.v (.d .nilp)))⟩]) (.cond (.t 22) (.seq (.reg [] [⟨(some 0), none, (.mov (.v (.d (.bool false))))⟩]) .ret) .skip)) (.seq (.reg [] [⟨(some 23), none, (.mov (.t 1))⟩, ⟨(some 24), none, (.call (.v (.fn (.func 46) [] [])) [(.t 23)])⟩, ⟨(some 3), none, (.mov (.t 24))⟩]) (.seq (.reg [] [⟨(some 26), none, (.mov (.t 3))⟩, ⟨(some 27), none, (.call (.v (.fn (.func 51) [] [])) [(.t 26), (.v (.d (.int .i64 7)))])⟩, ⟨(some 25), none, (.mov (.t 27))⟩, ⟨(some 28), none, (.extract 0 (.t 25))⟩, ⟨(some 29), none, (.extract 1 (.t 25))⟩, ⟨(some 4), none, (.mov (.t 28))⟩, ⟨(some 5), none, (.mov (.t 29))⟩]) (.seq (.reg [] [⟨(some 30), none, (.mov (.t 1))⟩, ⟨(some 31), none, (.call (.v (.fn (.func 48) [] [])) [(.t 30), (.v (.d (.int .i64 0)))])⟩]) (.seq (.reg [] [⟨(some 33), none, (.mov (.t 3))⟩, ⟨(some 34), none, (.call (.v (.fn (.func 51) [] [])) [(.t 33), (.v (.d (.int .i64 7)))])⟩, ⟨(some 32), none, (.mov (.t 34))⟩, ⟨(some 35), none, (.extract 0 (.t 32))⟩, ⟨(some 36), none, (.extract 1 (.t 32))⟩, ⟨(some 6), none, (.mov (.t 35))⟩, ⟨(some 7), none, (.mov (.t 36))⟩]) (.seq (.reg [] [⟨(some 37), none, (.mov (.t 1))⟩, ⟨(some 38), none, (.call (.v (.fn (.func 48) [] [])) [(.t 37), (.v (.d (.int .i64 6)))])⟩]) (.seq (.reg [] [⟨(some 40), none, (.mov (.t 3))⟩, ⟨(some 41), none, (.call (.v (.fn (.func 51) [] [])) [(.t 40), (.v (.d (.int .i64 7)))])⟩, ⟨(some 39), none, (.mov (.t 41))⟩, ⟨(some 42), none, (.extract 0 (.t 39))⟩, ⟨(some 43), none, (.extract 1 (.t 39))⟩, ⟨(some 8), none, (.mov (.t 42))⟩, ⟨(some 9), none, (.mov (.t 43))⟩]) (.seq (.reg [] [⟨(some 44), none, (.mov (.t 3))⟩, ⟨(some 45), none, (.call (.v (.fn (.func 57) [] [])) [(.t 44)])⟩, ⟨(some 10), none, (.mov (.t 45))⟩]) (.seq (.reg [] [⟨(some 46), none, (.mov (.t 1))⟩, ⟨(some 47), none, (.call (.v (.fn (.func 48) [] [])) [(.t 46), (.v (.d (.int .i64 6)))])⟩]) (.seq (.reg [] [⟨(some 49), none, (.mov (.t 3))⟩, ⟨(some 50), none, (.call (.v (.fn (.func 51) [] [])) [(.t 49), (.v (.d (.int .i64 7)))])⟩, ⟨(some 48), none, (.mov (.t 50))⟩, ⟨(some 51), none, (.extract 0 (.t 48))⟩, ⟨(some 52), none, (.extract 1 (.t 48))⟩, ⟨(some 11), none, (.mov (.t 51))⟩, ⟨(some 12), none, (.mov (.t 52))⟩]) (.seq (.reg [] [⟨(some 53), none, (.mov (.t 3))⟩, ⟨(some 54), none, (.call (.v (.fn (.func 50) [] [])) [(.t 53)])⟩]) (.seq (.reg [] [⟨(some 55), none, (.mov (.t 3))⟩, ⟨(some 56), none, (.call (.v (.fn (.func 57) [] [])) [(.t 55)])⟩, ⟨(some 13), none, (.mov (.t 56))⟩]) (.seq (.reg [] [⟨(some 57), none, (.mov (.t 1))⟩, ⟨(some 58), none, (.call (.v (.fn (.func 48) [] [])) [(.t 57), (.v (.d (.int .i64 2147483648)))])⟩, ⟨(some 14), none, (.mov (.t 58))⟩]) (.seq (.reg [] [⟨(some 60), none, (.call (.v (.fn (.func 44) [] [])) [(.v (.d (.int .i64 1))), (.v (.d (.int .i64 0)))])⟩, ⟨(some 59), none, (.mov (.t 60))⟩, ⟨(some 61), none, (.extract 0 (.t 59))⟩, ⟨(some 62), none, (.extract 1 (.t 59))⟩, ⟨(some 15), none, (.mov (.t 61))⟩, ⟨(some 16), none, (.mov (.t 62))⟩]) (.reg [] [⟨(some 63), none, (.mov (.t 2))⟩, ⟨(some 64), none, (.bin .eql (.t 63) (.v (.d (.int .i64 0))))⟩, ⟨(some 65), none, (.mov (.t 64))⟩, ⟨(some 66), (some (65, true)), (.mov (.t 4))⟩, ⟨(some 67), (some (65, true)), (.unop .not (.t 66))⟩, ⟨(some 68), none, (.pick (.t 65) (.t 67) (.v (.d (.bool false))))⟩, ⟨(some 69), none, (.mov (.t 68))⟩, ⟨(some 70), (some (69, true)), (.mov (.t 5))⟩, ⟨(some 71), (some (69, true)), (.bin .eql (.t 70) (.v (.d (.int .i64 0))))⟩, ⟨(some 72), none, (.pick (.t 69) (.t 71) (.v (.d (.bool false))))⟩, ⟨(some 73), none, (.mov (.t 72))⟩, ⟨(some 74), (some (73, true)), (.mov (.t 6))⟩, ⟨(some 75), (some (73, true)), (.unop .not (.t 74))⟩, ⟨(some 76), none, (.pick (.t 73) (.t 75) (.v (.d (.bool false))))⟩, ⟨(some 77), none, (.mov (.t 76))⟩, ⟨(some 78), (some (77, true)), (.mov (.t 8))⟩, ⟨(some 79), none, (.pick (.t 77) (.t 78) (.v (.d (.bool false))))⟩, ⟨(some 80), none, (.mov (.t 79))⟩, ⟨(some 81), (some (80, true)), (.mov (.t 10))⟩, ⟨(some 82), (some (80, true)), (.bin .eql (.t 81) (.v (.d (.int .i64 3))))⟩, ⟨(some 83), none, (.pick (.t 80) (.t 82) (.v (.d (.bool false))))⟩, ⟨(some 84), none, (.mov (.t 83))⟩, ⟨(some 85), (some (84, true)), (.mov (.t 11))⟩, ⟨(some 86), (some (84, true)), (.unop .not (.t 85))⟩, ⟨(some 87), none, (.pick (.t 84) (.t 86) (.v (.d (.bool false))))⟩, ⟨(some 88), none, (.mov (.t 87))⟩, ⟨(some 89), (some (88, true)), (.mov (.t 13))⟩, ⟨(some 90), (some (88, true)), (.bin .eql (.t 89) (.v (.d (.int .i64 0))))⟩, ⟨(some 91), none, (.pick (.t 88) (.t 90) (.v (.d (.bool false))))⟩, ⟨(some 92), none, (.mov (.t 91))⟩, ⟨(some 93), (some (92, true)), (.mov (.t 14))⟩, ⟨(some 94), (some (92, true)), (.bin .eql (.t 93) (.v (.d (.int .i64 1))))⟩, ⟨(some 95), none, (.pick (.t 92) (.t 94) (.v (.d (.bool false))))⟩, ⟨(some 96), none, (.mov (.t 95))⟩, ⟨(some 97), (some (96, true)), (.mov (.t 16))⟩, ⟨(some 98), (some (96, true)), (.bin .eql (.t 97) (.v (.d (.int .i64 1))))⟩, ⟨(some 99), none, (.pick (.t 96) (.t 98) (.v (.d (.bool false))))⟩, ⟨(some 100), none, (.mov (.t 99))⟩, ⟨(some 101), (some (100, true)), (.mov (.t 1))⟩, ⟨(some 102), (some (100, true)), (.call (.v (.fn (.func 53) [] [])) [(.t 101)])⟩, ⟨(some 103), (some (100, true)), (.bslice 3 true 1 2 [(.int .i64 0)] [(0, (.v (.d (.int .i64 6)))), (1, (.v (.d (.int .i64 6))))])⟩, ⟨(some 104), (some (100, true)), (.call (.v (.fn (.func 17) [] [])) [(.t 102), (.t 103)])⟩, ⟨(some 105), none, (.pick (.t 100) (.t 104) (.v (.d (.bool false))))⟩, ⟨(some 106), none, (.mov (.t 105))⟩, ⟨(some 107), (some (106, true)), (.mov (.t 1))⟩, ⟨(some 108), (some (106, true)), (.call (.v (.fn (.func 55) [] [])) [(.t 107)])⟩, ⟨(some 109), (some (106, true)), (.unop .not (.t 108))⟩, ⟨(some 110), none, (.pick (.t 106) (.t 109) (.v (.d (.bool false))))⟩, ⟨(some 0), none, (.mov (.t 110))⟩]))))))))))))))))
def F43 : CFunc := ⟨111, [(.tmp 0)], (.seq (.reg [] [⟨(some 0), none, (.mov (.v (.d (.bool false))))⟩]) (.cut [] [0] [0] S43_0 .ret))⟩
theorem c43 : cAt Try.prog 43 = some F43.er := by kernel_rfl
def F44 : CFunc := ⟨25, [(.tmp 4), (.tmp 5)], (.seq (.reg [] [⟨(some 4), none, (.mov (.v (.d .nilp)))⟩, ⟨(some 5), none, (.mov (.v (.d (.int .i64 0))))⟩]) (.seq (.seq (.reg [] [⟨(some 6), none, (.mov (.t 0))⟩, ⟨(some 7), none, (.bin .lss (.t 6) (.v (.d (.int .i64 2))))⟩, ⟨(some 8), none, (.mov (.t 7))⟩, ⟨(some 9), (some (8, false)), (.mov (.t 0))⟩, ⟨(some 10), (some (8, false)), (.bin .gtr (.t 9) (.v (.d (.int .i64 16))))⟩, ⟨(some 11), none, (.pick (.t 8) (.v (.d (.bool true))) (.t 10))⟩, ⟨(some 12), none, (.mov (.t 11))⟩, ⟨(some 13), (some (12, false)), (.mov (.t 1))⟩, ⟨(some 14), (some (12, false)), (.bin .lss (.t 13) (.v (.d (.int .i64 0))))⟩, ⟨(some 15), none, (.pick (.t 12) (.v (.d (.bool true))) (.t 14))⟩, ⟨(some 16), none, (.mov (.t 15))⟩, ⟨(some 17), (some (16, false)), (.mov (.t 1))⟩, ⟨(some 18), (some (16, false)), (.call (.v (.fn (.func 73) [] [])) [(.t 17)])⟩, ⟨(some 19), (some (16, false)), (.unop .not (.t 18))⟩, ⟨(some 20), none, (.pick (.t 16) (.v (.d (.bool true))) (.t 19))⟩]) (.cond (.t 20) (.seq (.reg [] [⟨(some 4), none, (.mov (.v (.d .nilp)))⟩, ⟨(some 5), none, (.mov (.v (.d (.int .i64 1))))⟩]) .ret) .skip)) (.seq (.reg [] [⟨(some 21), none, (.mov (.t 0))⟩, ⟨(some 22), none, (.mov (.t 1))⟩, ⟨(some 23), none, (.build [(.int .i64 0), (.int .i64 0), (.int .i64 0), (.int .i64 0), (.int .i64 0), (.int .i64 0), (.int .i64 0), (.int .i64 0), (.int .i64 0), (.int .i64 0), (.int .i64 0), (.int .i64 0), (.int .i64 0), (.int .i64 0), (.int .i64 0), (.int .i64 0), (.int .i64 0), (.int .i64 0), (.int .i64 0), (.int .i64 0)] [(0, (1, (.t 21))), (1, (1, (.t 22)))])⟩, ⟨(some 24), none, (.box 82 true 20 (.t 23))⟩, ⟨(some 4), none, (.mov (.t 24))⟩, ⟨(some 5), none, (.mov (.v (.d (.int .i64 0))))⟩]) .ret)))⟩
theorem c44 : cAt Try.prog 44 = some F44.er := by kernel_rfl
def F45 : CFunc := ⟨19, [(.tmp 4)], (.seq (.reg [] [⟨(some 4), none, (.mov (.v (.d (.bool false))))⟩]) (.seq (.reg [] [⟨(some 5), none, (.mov (.t 0))⟩, ⟨(some 6), none, (.bin .geq (.t 5) (.v (.d (.int .i64 2))))⟩, ⟨(some 7), none, (.mov (.t 6))⟩, ⟨(some 8), (some (7, true)), (.mov (.t 0))⟩, ⟨(some 9), (some (7, true)), (.bin .leq (.t 8) (.v (.d (.int .i64 16))))⟩, ⟨(some 10), none, (.pick (.t 7) (.t 9) (.v (.d (.bool false))))⟩, ⟨(some 11), none, (.mov (.t 10))⟩, ⟨(some 12), (some (11, true)), (.mov (.t 1))⟩, ⟨(some 13), (some (11, true)), (.bin .geq (.t 12) (.v (.d (.int .i64 0))))⟩, ⟨(some 14), none, (.pick (.t 11) (.t 13) (.v (.d (.bool false))))⟩, ⟨(some 15), none, (.mov (.t 14))⟩, ⟨(some 16), (some (15, true)), (.mov (.t 1))⟩, ⟨(some 17), (some (15, true)), (.bin .leq (.t 16) (.v (.d (.int .i64 2147483647))))⟩, ⟨(some 18), none, (.pick (.t 15) (.t 17) (.v (.d (.bool false))))⟩, ⟨(some 4), none, (.mov (.t 18))⟩]) .ret))⟩
theorem c45 : cAt Try.prog 45 = some F45.er := by kernel_rfl
def F46 : CFunc := ⟨8, [(.tmp 2)], (.seq (.reg [] [⟨(some 2), none, (.mov (.v (.d .nilp)))⟩]) (.seq (.seq (.reg [] [⟨(some 3), none, (.mov (.t 0))⟩, ⟨(some 4), none, (.beq .ptr false (.t 3) (.v (.d .nilp)))⟩]) (.cond (.t 4) (.seq (.reg [] [⟨(some 2), none, (.mov (.v (.d .nilp)))⟩]) .ret) .skip)) (.seq (.reg [] [⟨(some 5), none, (.mov (.t 0))⟩, ⟨(some 6), none, (.build [.nilp, (.int .i64 0), (.int .i64 0)] [(0, (1, (.t 5)))])⟩, ⟨(some 7), none, (.box 84 false 3 (.t 6))⟩, ⟨(some 2), none, (.mov (.t 7))⟩]) .ret)))⟩
theorem c46 : cAt Try.prog 46 = some F46.er := by kernel_rfl
def F47 : CFunc := ⟨9, [(.tmp 4)], (.seq (.reg [] [⟨(some 4), none, (.mov (.v (.d .nilp)))⟩]) (.seq (.reg [] [⟨(some 5), none, (.mov (.t 0))⟩, ⟨(some 6), none, (.mov (.t 1))⟩, ⟨(some 7), none, (.build [(.int .i64 0), (.int .i64 0), .nils] [(0, (1, (.t 5))), (1, (1, (.t 6)))])⟩, ⟨(some 8), none, (.box 86 false 3 (.t 7))⟩, ⟨(some 4), none, (.mov (.t 8))⟩]) .ret))⟩
theorem c47 : cAt Try.prog 47 = some F47.er := by kernel_rfl
def F48 : CFunc := ⟨49, [(.tmp 4)], (.seq (.reg [] [⟨(some 4), none, (.mov (.v (.d (.int .i64 0))))⟩]) (.seq (.seq (.reg [] [⟨(some 5), none, (.mov (.t 0))⟩, ⟨(some 6), none, (.beq .ptr false (.t 5) (.v (.d .nilp)))⟩, ⟨(some 7), none, (.mov (.t 6))⟩, ⟨(some 8), (some (7, false)), (.mov (.t 1))⟩, ⟨(some 9), (some (7, false)), (.call (.v (.fn (.func 73) [] [])) [(.t 8)])⟩, ⟨(some 10), (some (7, false)), (.unop .not (.t 9))⟩, ⟨(some 11), none, (.pick (.t 7) (.v (.d (.bool true))) (.t 10))⟩]) (.cond (.t 11) (.seq (.reg [] [⟨(some 4), none, (.mov (.v (.d (.int .i64 1))))⟩]) .ret) .skip)) (.seq (.reg [⟨(some 12), none, (.mov (.t 0))⟩, ⟨(some 13), none, (.mov (.t 0))⟩, ⟨(some 14), none, (.nilck (.t 13))⟩, ⟨(some 15), none, (.fieldA 18 (.t 14))⟩, ⟨(some 16), none, (.load false 1 (.t 15))⟩, ⟨(some 17), none, (.mov (.t 1))⟩, ⟨(some 18), none, (.nilck (.t 12))⟩, ⟨(some 19), none, (.fieldA 2 (.t 18))⟩] [⟨(some 20), none, (.idxAA 16 1 (.t 19) (.t 16))⟩, ⟨none, none, (.store 1 (.t 20) (.t 17))⟩]) (.seq (.reg [⟨(some 21), none, (.mov (.t 0))⟩, ⟨(some 22), none, (.mov (.t 0))⟩, ⟨(some 23), none, (.nilck (.t 22))⟩, ⟨(some 24), none, (.fieldA 18 (.t 23))⟩, ⟨(some 25), none, (.load false 1 (.t 24))⟩, ⟨(some 26), none, (.bin .add (.t 25) (.v (.d (.int .i64 1))))⟩, ⟨(some 27), none, (.mov (.t 0))⟩, ⟨(some 28), none, (.nilck (.t 27))⟩, ⟨(some 29), none, (.fieldA 0 (.t 28))⟩, ⟨(some 30), none, (.load false 1 (.t 29))⟩, ⟨(some 31), none, (.bin .sub (.t 30) (.v (.d (.int .i64 1))))⟩, ⟨(some 32), none, (.bin .rem (.t 26) (.t 31))⟩] [⟨(some 33), none, (.nilck (.t 21))⟩, ⟨(some 34), none, (.fieldA 18 (.t 33))⟩, ⟨none, none, (.store 1 (.t 34) (.t 32))⟩]) (.seq (.reg [⟨(some 35), none, (.mov (.t 0))⟩, ⟨(some 36), none, (.mov (.t 0))⟩, ⟨(some 37), none, (.nilck (.t 36))⟩, ⟨(some 38), none, (.fieldA 19 (.t 37))⟩, ⟨(some 39), none, (.load false 1 (.t 38))⟩, ⟨(some 40), none, (.bin .add (.t 39) (.v (.d (.int .i64 1))))⟩, ⟨(some 41), none, (.mov (.t 0))⟩, ⟨(some 42), none, (.nilck (.t 41))⟩, ⟨(some 43), none, (.fieldA 0 (.t 42))⟩, ⟨(some 44), none, (.load false 1 (.t 43))⟩, ⟨(some 45), none, (.bin .sub (.t 44) (.v (.d (.int .i64 1))))⟩, ⟨(some 46), none, (.mn [(.t 40), (.t 45)])⟩] [⟨(some 47), none, (.nilck (.t 35))⟩, ⟨(some 48), none, (.fieldA 19 (.t 47))⟩, ⟨none, none, (.store 1 (.t 48) (.t 46))⟩]) (.seq (.reg [] [⟨(some 4), none, (.mov (.v (.d (.int .i64 0))))⟩]) .ret))))))⟩
theorem c48 : cAt Try.prog 48 = some F48.er := by kernel_rfl
def F49 : CFunc := ⟨22, [(.tmp 4)], (.seq (.reg [] [⟨(some 4), none, (.mov (.v (.d (.int .i64 0))))⟩]) (.seq (.reg [] [⟨(some 6), none, (.mov (.t 1))⟩, ⟨(some 7), none, (.call (.v (.fn (.func 74) [] [])) [(.t 6)])⟩, ⟨(some 5), none, (.mov (.t 7))⟩]) (.seq (.seq (.reg [] [⟨(some 8), none, (.mov (.t 5))⟩, ⟨(some 9), none, (.unop .not (.t 8))⟩]) (.cond (.t 9) (.seq (.reg [] [⟨(some 4), none, (.mov (.v (.d (.int .i64 1))))⟩]) .ret) .skip)) (.seq (.reg [] [⟨(some 10), none, (.mov (.t 0))⟩, ⟨(some 11), none, (.bslice 3 true 1 0 [(.int .i64 0)] [])⟩, ⟨(some 12), none, (.mov (.t 0))⟩, ⟨(some 13), none, (.nilck (.t 12))⟩, ⟨(some 14), none, (.fieldA 2 (.t 13))⟩, ⟨(some 15), none, (.load false 1 (.t 14))⟩, ⟨(some 16), none, (.append 3 true 1 8 (.t 11) (.t 15))⟩, ⟨(some 17), none, (.mov (.t 1))⟩, ⟨(some 18), none, (.bslice 3 true 1 1 [(.int .i64 0)] [(0, (.t 17))])⟩, ⟨(some 19), none, (.append 3 true 1 8 (.t 16) (.t 18))⟩, ⟨(some 20), none, (.nilck (.t 10))⟩, ⟨(some 21), none, (.fieldA 2 (.t 20))⟩, ⟨none, none, (.store 1 (.t 21) (.t 19))⟩]) (.seq (.reg [] [⟨(some 4), none, (.mov (.v (.d (.int .i64 0))))⟩]) .ret)))))⟩
theorem c49 : cAt Try.prog 49 = some F49.er := by kernel_rfl
def F50 : CFunc := ⟨7, [], (.seq (.reg [] [⟨(some 2), none, (.mov (.t 0))⟩, ⟨(some 3), none, (.beq .ptr true (.t 2) (.v (.d .nilp)))⟩]) (.cond (.t 3) (.reg [] [⟨(some 4), none, (.mov (.t 0))⟩, ⟨(some 5), none, (.nilck (.t 4))⟩, ⟨(some 6), none, (.fieldA 2 (.t 5))⟩, ⟨none, none, (.store 1 (.t 6) (.v (.d (.int .i64 0))))⟩]) .skip))⟩
theorem c50 : cAt Try.prog 50 = some F50.er := by kernel_rfl
def F51 : CFunc := ⟨68, [(.tmp 4), (.tmp 5)], (.seq (.reg [] [⟨(some 4), none, (.mov (.v (.d (.bool false))))⟩, ⟨(some 5), none, (.mov (.v (.d (.int .i64 0))))⟩]) (.seq (.seq (.reg [] [⟨(some 6), none, (.mov (.t 0))⟩, ⟨(some 7), none, (.beq .ptr false (.t 6) (.v (.d .nilp)))⟩, ⟨(some 8), none, (.mov (.t 7))⟩, ⟨(some 9), (some (8, false)), (.mov (.t 1))⟩, ⟨(some 10), (some (8, false)), (.call (.v (.fn (.func 73) [] [])) [(.t 9)])⟩, ⟨(some 11), (some (8, false)), (.unop .not (.t 10))⟩, ⟨(some 12), none, (.pick (.t 8) (.v (.d (.bool true))) (.t 11))⟩]) (.cond (.t 12) (.seq (.reg [] [⟨(some 4), none, (.mov (.v (.d (.bool false))))⟩, ⟨(some 5), none, (.mov (.v (.d (.int .i64 1))))⟩]) .ret) .skip)) (.seq (.seq (.reg [] [⟨(some 13), none, (.mov (.t 0))⟩, ⟨(some 14), none, (.nilck (.t 13))⟩, ⟨(some 15), none, (.fieldA 2 (.t 14))⟩, ⟨(some 16), none, (.load false 1 (.t 15))⟩, ⟨(some 17), none, (.bin .eql (.t 16) (.v (.d (.int .i64 0))))⟩, ⟨(some 18), none, (.mov (.t 17))⟩, ⟨(some 19), (some (18, false)), (.mov (.t 1))⟩, ⟨(some 20), (some (18, false)), (.mov (.t 0))⟩, ⟨(some 21), (some (18, false)), (.nilck (.t 20))⟩, ⟨(some 22), (some (18, false)), (.fieldA 1 (.t 21))⟩, ⟨(some 23), (some (18, false)), (.load false 1 (.t 22))⟩, ⟨(some 24), (some (18, false)), (.bin .neq (.t 19) (.t 23))⟩, ⟨(some 25), none, (.pick (.t 18) (.v (.d (.bool true))) (.t 24))⟩]) (.cond (.t 25) (.reg [] [⟨(some 26), none, (.mov (.t 0))⟩, ⟨(some 27), none, (.nilck (.t 26))⟩, ⟨(some 28), none, (.fieldA 2 (.t 27))⟩, ⟨none, none, (.store 1 (.t 28) (.v (.d (.int .i64 0))))⟩]) .skip)) (.seq (.reg [] [⟨(some 29), none, (.mov (.t 0))⟩, ⟨(some 30), none, (.mov (.t 0))⟩, ⟨(some 31), none, (.mov (.t 1))⟩, ⟨(some 32), none, (.mov (.t 0))⟩, ⟨(some 33), none, (.nilck (.t 32))⟩, ⟨(some 34), none, (.fieldA 2 (.t 33))⟩, ⟨(some 35), none, (.load false 1 (.t 34))⟩, ⟨(some 36), none, (.bin .add (.t 35) (.v (.d (.int .i64 1))))⟩, ⟨(some 37), none, (.mov (.t 0))⟩, ⟨(some 38), none, (.nilck (.t 37))⟩, ⟨(some 39), none, (.fieldA 0 (.t 38))⟩, ⟨(some 40), none, (.load false 1 (.t 39))⟩, ⟨(some 41), none, (.nilck (.t 40))⟩, ⟨(some 42), none, (.fieldA 0 (.t 41))⟩, ⟨(some 43), none, (.load false 1 (.t 42))⟩, ⟨(some 44), none, (.mn [(.t 36), (.t 43)])⟩, ⟨(some 45), none, (.nilck (.t 29))⟩, ⟨(some 46), none, (.fieldA 1 (.t 45))⟩, ⟨none, none, (.store 1 (.t 46) (.t 31))⟩, ⟨(some 47), none, (.nilck (.t 30))⟩, ⟨(some 48), none, (.fieldA 2 (.t 47))⟩, ⟨none, none, (.store 1 (.t 48) (.t 44))⟩]) (.seq (.reg [⟨(some 49), none, (.mov (.t 0))⟩, ⟨(some 50), none, (.nilck (.t 49))⟩, ⟨(some 51), none, (.fieldA 2 (.t 50))⟩, ⟨(some 52), none, (.load false 1 (.t 51))⟩, ⟨(some 53), none, (.mov (.t 0))⟩, ⟨(some 54), none, (.nilck (.t 53))⟩, ⟨(some 55), none, (.fieldA 0 (.t 54))⟩, ⟨(some 56), none, (.load false 1 (.t 55))⟩, ⟨(some 57), none, (.nilck (.t 56))⟩, ⟨(some 58), none, (.fieldA 0 (.t 57))⟩, ⟨(some 59), none, (.load false 1 (.t 58))⟩] [⟨(some 60), none, (.bin .eql (.t 52) (.t 59))⟩, ⟨(some 61), none, (.mov (.t 60))⟩, ⟨(some 62), (some (61, true)), (.mov (.t 0))⟩, ⟨(some 63), (some (61, true)), (.nilck (.t 62))⟩, ⟨(some 64), (some (61, true)), (.fieldA 0 (.t 63))⟩, ⟨(some 65), (some (61, true)), (.load false 1 (.t 64))⟩, ⟨(some 66), (some (61, true)), (.call (.v (.fn (.func 55) [] [])) [(.t 65)])⟩, ⟨(some 67), none, (.pick (.t 61) (.t 66) (.v (.d (.bool false))))⟩, ⟨(some 4), none, (.mov (.t 67))⟩, ⟨(some 5), none, (.mov (.v (.d (.int .i64 0))))⟩]) .ret)))))⟩
theorem c51 : cAt Try.prog 51 = some F51.er := by kernel_rfl
def S52_0 : C := (.seq1 (.reg [] [⟨(some 14), none, (.mov (.t 9))⟩, ⟨(some 15), none, (.unop .not (.t 14))⟩]) (.cond (.t 15) (.seq (.reg [] [⟨(some 16), none, (.mov (.t 1))⟩, ⟨(some 6), none, (.mov (.t 16))⟩, ⟨(some 7), none, (.mov (.v (.d (.bool false))))⟩, ⟨(some 8), none, (.mov (.v (.d (.int .i64 1))))⟩]) .ret) .skip))
def F52 : CFunc := ⟨47, [(.tmp 6), (.tmp 7), (.tmp 8)], (.seq (.reg [] [⟨(some 6), none, (.nsl 3 true 1)⟩, ⟨(some 7), none, (.mov (.v (.d (.bool false))))⟩, ⟨(some 8), none, (.mov (.v (.d (.int .i64 0))))⟩]) (.seq (.reg [] [⟨(some 12), none, (.mov (.t 2))⟩, ⟨(some 13), none, (.call (.v (.fn (.func 74) [] [])) [(.t 12)])⟩, ⟨(some 9), none, (.mov (.t 13))⟩]) (.cut [0, 1, 2, 9] [6, 7, 8] [0, 1, 2] S52_0 (.seq (.reg [] [⟨(some 10), none, (.nsl 3 true 1)⟩]) (.seq (.seq (.reg [] [⟨(some 17), none, (.mov (.t 1))⟩, ⟨(some 18), none, (.len (.t 17))⟩, ⟨(some 19), none, (.bin .gtr (.t 18) (.v (.d (.int .i64 0))))⟩, ⟨(some 20), none, (.mov (.t 19))⟩, ⟨(some 21), (some (20, true)), (.mov (.t 1))⟩, ⟨(some 22), (some (20, true)), (.idxA 1 (.t 21) (.v (.d (.int .i64 0))))⟩, ⟨(some 23), (some (20, true)), (.load false 1 (.t 22))⟩, ⟨(some 24), (some (20, true)), (.mov (.t 2))⟩, ⟨(some 25), (some (20, true)), (.bin .eql (.t 23) (.t 24))⟩, ⟨(some 26), none, (.pick (.t 20) (.t 25) (.v (.d (.bool false))))⟩]) (.cond (.t 26) (.reg [] [⟨(some 27), none, (.mov (.t 10))⟩, ⟨(some 28), none, (.mov (.t 1))⟩, ⟨(some 29), none, (.append 3 true 1 8 (.t 27) (.t 28))⟩, ⟨(some 10), none, (.mov (.t 29))⟩]) .skip)) (.seq (.reg [] [⟨(some 30), none, (.mov (.t 10))⟩, ⟨(some 31), none, (.mov (.t 2))⟩, ⟨(some 32), none, (.bslice 3 true 1 1 [(.int .i64 0)] [(0, (.t 31))])⟩, ⟨(some 33), none, (.append 3 true 1 8 (.t 30) (.t 32))⟩, ⟨(some 10), none, (.mov (.t 33))⟩]) (.seq (.reg [] [⟨(some 34), none, (.mov (.t 0))⟩, ⟨(some 35), none, (.call (.v (.fn (.func 56) [] [])) [(.t 34)])⟩, ⟨(some 11), none, (.mov (.t 35))⟩]) (.seq (.reg [] [⟨(some 36), none, (.mov (.t 10))⟩, ⟨(some 37), none, (.mov (.t 10))⟩, ⟨(some 38), none, (.len (.t 37))⟩, ⟨(some 39), none, (.mov (.t 0))⟩, ⟨(some 40), none, (.nilck (.t 39))⟩, ⟨(some 41), none, (.fieldA 0 (.t 40))⟩, ⟨(some 42), none, (.load false 1 (.t 41))⟩, ⟨(some 43), none, (.bin .geq (.t 38) (.t 42))⟩, ⟨(some 44), none, (.mov (.t 43))⟩, ⟨(some 45), (some (44, true)), (.mov (.t 11))⟩, ⟨(some 46), none, (.pick (.t 44) (.t 45) (.v (.d (.bool false))))⟩, ⟨(some 6), none, (.mov (.t 36))⟩, ⟨(some 7), none, (.mov (.t 46))⟩, ⟨(some 8), none, (.mov (.v (.d (.int .i64 0))))⟩]) .ret))))))))⟩
theorem c52 : cAt Try.prog 52 = some F52.er := by kernel_rfl
def L53_0 : C := (.reg [] [⟨(some 4), none, (.mov (.t 7))⟩])
def L53_1 : C := (.block 1 (.reg [] [⟨(some 8), none, (.load false 1 (.t 3))⟩, ⟨(some 9), none, (.mov (.t 4))⟩, ⟨(some 10), none, (.bslice 3 true 1 1 [(.int .i64 0)] [(0, (.t 9))])⟩, ⟨(some 11), none, (.append 3 true 1 8 (.t 8) (.t 10))⟩, ⟨none, none, (.store 1 (.t 3) (.t 11))⟩]))
def F53 : CFunc := ⟨13, [(.tmp 2)], (.seq (.reg [] [⟨(some 2), none, (.nsl 3 true 1)⟩]) (.seq (.reg [] [⟨(some 3), none, (.allocn 22 3 true 1)⟩]) (.seq (.seq (.reg [] [⟨(some 5), none, (.mov (.t 0))⟩, ⟨(some 6), none, (.call (.v (.fn (.func 75) [] [])) [(.t 5)])⟩]) (.block 0 (.rfun 13 [3] (.t 6) [7] L53_0 L53_1))) (.seq (.reg [] [⟨(some 12), none, (.load false 1 (.t 3))⟩, ⟨(some 2), none, (.mov (.t 12))⟩]) .ret))))⟩
theorem c53 : cAt Try.prog 53 = some F53.er := by kernel_rfl
def F54 : CFunc := ⟨22, [(.tmp 2)], (.seq (.reg [] [⟨(some 2), none, (.nsl 3 true 1)⟩]) (.seq (.reg [⟨(some 4), none, (.mov (.t 0))⟩, ⟨(some 5), none, (.nilck (.t 4))⟩, ⟨(some 6), none, (.fieldA 2 (.t 5))⟩, ⟨(some 7), none, (.load false 1 (.t 6))⟩, ⟨(some 8), none, (.len (.t 7))⟩, ⟨(some 9), none, (.mov (.t 0))⟩, ⟨(some 10), none, (.nilck (.t 9))⟩, ⟨(some 11), none, (.fieldA 0 (.t 10))⟩, ⟨(some 12), none, (.load false 1 (.t 11))⟩, ⟨(some 13), none, (.bin .sub (.t 12) (.v (.d (.int .i64 1))))⟩] [⟨(some 14), none, (.bin .sub (.t 8) (.t 13))⟩, ⟨(some 15), none, (.mx [(.v (.d (.int .i64 0))), (.t 14)])⟩, ⟨(some 3), none, (.mov (.t 15))⟩]) (.seq (.reg [] [⟨(some 16), none, (.mov (.t 0))⟩, ⟨(some 17), none, (.nilck (.t 16))⟩, ⟨(some 18), none, (.fieldA 2 (.t 17))⟩, ⟨(some 19), none, (.load false 1 (.t 18))⟩, ⟨(some 20), none, (.mov (.t 3))⟩, ⟨(some 21), none, (.slice 1 (.t 19) (some (.t 20)) none none)⟩, ⟨(some 2), none, (.mov (.t 21))⟩]) .ret)))⟩
theorem c54 : cAt Try.prog 54 = some F54.er := by kernel_rfl
def F55 : CFunc := ⟨27, [(.tmp 2)], (.seq (.reg [] [⟨(some 2), none, (.mov (.v (.d (.bool false))))⟩]) (.seq (.mix [⟨(some 3), none, (.mov (.t 0))⟩, ⟨(some 4), none, (.beq .ptr true (.t 3) (.v (.d .nilp)))⟩, ⟨(some 5), none, (.mov (.t 4))⟩, ⟨(some 6), (some (5, true)), (.mov (.t 0))⟩, ⟨(some 7), (some (5, true)), (.nilck (.t 6))⟩, ⟨(some 8), (some (5, true)), (.fieldA 19 (.t 7))⟩, ⟨(some 9), (some (5, true)), (.load false 1 (.t 8))⟩, ⟨(some 10), (some (5, true)), (.mov (.t 0))⟩, ⟨(some 11), (some (5, true)), (.nilck (.t 10))⟩, ⟨(some 12), (some (5, true)), (.fieldA 0 (.t 11))⟩, ⟨(some 13), (some (5, true)), (.load false 1 (.t 12))⟩, ⟨(some 14), (some (5, true)), (.bin .sub (.t 13) (.v (.d (.int .i64 1))))⟩, ⟨(some 15), (some (5, true)), (.bin .eql (.t 9) (.t 14))⟩, ⟨(some 16), none, (.pick (.t 5) (.t 15) (.v (.d (.bool false))))⟩, ⟨(some 17), none, (.mov (.t 16))⟩, ⟨(some 18), (some (17, true)), (.mov (.t 0))⟩, ⟨(some 19), (some (17, true)), (.call (.v (.fn (.func 53) [] [])) [(.t 18)])⟩, ⟨(some 20), (some (17, true)), (.call (.v (.fn (.func 22) [] [])) [(.t 19)])⟩, ⟨(some 21), (some (17, true)), (.mov (.t 0))⟩, ⟨(some 22), (some (17, true)), (.nilck (.t 21))⟩, ⟨(some 23), (some (17, true)), (.fieldA 1 (.t 22))⟩, ⟨(some 24), (some (17, true)), (.load false 1 (.t 23))⟩, ⟨(some 25), (some (17, true)), (.bin .gtr (.t 20) (.t 24))⟩, ⟨(some 26), none, (.pick (.t 17) (.t 25) (.v (.d (.bool false))))⟩, ⟨(some 2), none, (.mov (.t 26))⟩] [[], [], [], [], [], [], [], [], [], [], [], [], [], [], [], [], [], [], [], [], [], [16, 17], [], [], []] [false, false, false, false, false, false, false, false, false, false, false, false, false, false, false, false, false, false, false, false, false, false, false, false, false]) .ret))⟩
theorem c55 : cAt Try.prog 55 = some F55.er := by kernel_rfl
def F56 : CFunc := ⟨23, [(.tmp 2)], (.seq (.reg [] [⟨(some 2), none, (.mov (.v (.d (.bool false))))⟩]) (.seq (.reg [] [⟨(some 4), none, (.mov (.t 0))⟩, ⟨(some 5), none, (.call (.v (.fn (.func 54) [] [])) [(.t 4)])⟩, ⟨(some 3), none, (.mov (.t 5))⟩]) (.seq (.mix [⟨(some 6), none, (.mov (.t 3))⟩, ⟨(some 7), none, (.len (.t 6))⟩, ⟨(some 8), none, (.mov (.t 0))⟩, ⟨(some 9), none, (.nilck (.t 8))⟩, ⟨(some 10), none, (.fieldA 0 (.t 9))⟩, ⟨(some 11), none, (.load false 1 (.t 10))⟩, ⟨(some 12), none, (.bin .sub (.t 11) (.v (.d (.int .i64 1))))⟩, ⟨(some 13), none, (.bin .eql (.t 7) (.t 12))⟩, ⟨(some 14), none, (.mov (.t 13))⟩, ⟨(some 15), (some (14, true)), (.mov (.t 3))⟩, ⟨(some 16), (some (14, true)), (.call (.v (.fn (.func 23) [] [])) [(.t 15)])⟩, ⟨(some 17), (some (14, true)), (.mov (.t 0))⟩, ⟨(some 18), (some (14, true)), (.nilck (.t 17))⟩, ⟨(some 19), (some (14, true)), (.fieldA 1 (.t 18))⟩, ⟨(some 20), (some (14, true)), (.load false 1 (.t 19))⟩, ⟨(some 21), (some (14, true)), (.bin .gtr (.t 16) (.t 20))⟩, ⟨(some 22), none, (.pick (.t 14) (.t 21) (.v (.d (.bool false))))⟩, ⟨(some 2), none, (.mov (.t 22))⟩] [[], [], [], [], [], [], [], [], [], [], [], [], [], [], [10], [], [], []] [false, false, false, false, false, false, false, false, false, false, true, false, false, false, false, false, false, false]) .ret)))⟩
theorem c56 : cAt Try.prog 56 = some F56.er := by kernel_rfl
def F57 : CFunc := ⟨9, [(.tmp 2)], (.seq (.reg [] [⟨(some 2), none, (.mov (.v (.d (.int .i64 0))))⟩]) (.seq (.seq (.reg [] [⟨(some 3), none, (.mov (.t 0))⟩, ⟨(some 4), none, (.beq .ptr false (.t 3) (.v (.d .nilp)))⟩]) (.cond (.t 4) (.seq (.reg [] [⟨(some 2), none, (.mov (.v (.d (.int .i64 0))))⟩]) .ret) .skip)) (.seq (.reg [] [⟨(some 5), none, (.mov (.t 0))⟩, ⟨(some 6), none, (.nilck (.t 5))⟩, ⟨(some 7), none, (.fieldA 2 (.t 6))⟩, ⟨(some 8), none, (.load false 1 (.t 7))⟩, ⟨(some 2), none, (.mov (.t 8))⟩]) .ret)))⟩
theorem c57 : cAt Try.prog 57 = some F57.er := by kernel_rfl
def F63 : CFunc := ⟨13, [(.tmp 2)], (.seq (.reg [] [⟨(some 2), none, (.mov (.v (.d (.bool false))))⟩]) (.seq (.reg [] [⟨(some 3), none, (.mov (.v (.fn (.func 78) [] [])))⟩]) (.seq (.reg [] [⟨(some 4), none, (.mov (.t 0))⟩, ⟨(some 5), none, (.len (.t 4))⟩, ⟨(some 6), none, (.bin .leq (.t 5) (.v (.d (.int .i64 16))))⟩, ⟨(some 7), none, (.mov (.t 6))⟩, ⟨(some 8), (some (7, true)), (.mov (.t 0))⟩, ⟨(some 9), (some (7, true)), (.mov (.t 3))⟩, ⟨(some 10), (some (7, true)), (.call (.v (.fn (.func 77) [] [])) [(.t 8), (.t 9)])⟩, ⟨(some 11), (some (7, true)), (.unop .not (.t 10))⟩, ⟨(some 12), none, (.pick (.t 7) (.t 11) (.v (.d (.bool false))))⟩, ⟨(some 2), none, (.mov (.t 12))⟩]) .ret)))⟩
theorem c63 : cAt Try.prog 63 = some F63.er := by kernel_rfl
def L67_0 : C := (.seq (.seq (.reg [] [⟨(some 12), none, (.mov (.t 4))⟩, ⟨(some 13), none, (.mov (.t 0))⟩, ⟨(some 14), none, (.len (.t 13))⟩, ⟨(some 15), none, (.bin .lss (.t 12) (.t 14))⟩]) (.cond (.t 15) .skip (.exit 0))) (.seq (.block 1 (.reg [] [⟨(some 18), none, (.mov (.t 3))⟩, ⟨(some 19), none, (.mov (.t 0))⟩, ⟨(some 20), none, (.mov (.t 4))⟩, ⟨(some 21), none, (.idxA 1 (.t 19) (.t 20))⟩, ⟨(some 22), none, (.load false 1 (.t 21))⟩, ⟨(some 23), none, (.mx [(.t 18), (.t 22)])⟩, ⟨(some 3), none, (.mov (.t 23))⟩])) (.reg [] [⟨(some 16), none, (.mov (.t 4))⟩, ⟨(some 17), none, (.bin .add (.t 16) (.v (.d (.int .i64 1))))⟩, ⟨(some 4), none, (.mov (.t 17))⟩])))
def F67 : CFunc := ⟨25, [(.tmp 2)], (.seq (.reg [] [⟨(some 2), none, (.mov (.v (.d (.int .i64 0))))⟩]) (.seq (.seq (.reg [] [⟨(some 5), none, (.mov (.t 0))⟩, ⟨(some 6), none, (.len (.t 5))⟩, ⟨(some 7), none, (.bin .lss (.t 6) (.v (.d (.int .i64 1))))⟩]) (.cond (.t 7) (.reg [] [⟨(some 8), none, (.mkif 9 (.v (.d (.str ⟨#[115, 108, 105, 99, 101, 115, 46, 77, 97, 120, 58, 32, 101, 109, 112, 116, 121, 32, 108, 105, 115, 116]⟩))))⟩, ⟨none, none, (.chk 1 (.v (.ptr 0 1 0 0)) 1 (.v (.ptr 0 1 0 0)))⟩]) .skip)) (.seq (.reg [] [⟨(some 9), none, (.mov (.t 0))⟩, ⟨(some 10), none, (.idxA 1 (.t 9) (.v (.d (.int .i64 0))))⟩, ⟨(some 11), none, (.load false 1 (.t 10))⟩, ⟨(some 3), none, (.mov (.t 11))⟩]) (.seq (.seq (.reg [] [⟨(some 4), none, (.mov (.v (.d (.int .i64 1))))⟩]) (.block 0 (.loop [0, 3, 4] [3] L67_0))) (.seq (.reg [] [⟨(some 24), none, (.mov (.t 3))⟩, ⟨(some 2), none, (.mov (.t 24))⟩]) .ret)))))⟩
theorem c67 : cAt Try.prog 67 = some F67.er := by kernel_rfl
def L68_0 : C := (.seq (.seq (.reg [] [⟨(some 12), none, (.mov (.t 4))⟩, ⟨(some 13), none, (.mov (.t 0))⟩, ⟨(some 14), none, (.len (.t 13))⟩, ⟨(some 15), none, (.bin .lss (.t 12) (.t 14))⟩]) (.cond (.t 15) .skip (.exit 0))) (.seq (.block 1 (.reg [] [⟨(some 18), none, (.mov (.t 3))⟩, ⟨(some 19), none, (.mov (.t 0))⟩, ⟨(some 20), none, (.mov (.t 4))⟩, ⟨(some 21), none, (.idxA 1 (.t 19) (.t 20))⟩, ⟨(some 22), none, (.load false 1 (.t 21))⟩, ⟨(some 23), none, (.mn [(.t 18), (.t 22)])⟩, ⟨(some 3), none, (.mov (.t 23))⟩])) (.reg [] [⟨(some 16), none, (.mov (.t 4))⟩, ⟨(some 17), none, (.bin .add (.t 16) (.v (.d (.int .i64 1))))⟩, ⟨(some 4), none, (.mov (.t 17))⟩])))
def F68 : CFunc := ⟨25, [(.tmp 2)], (.seq (.reg [] [⟨(some 2), none, (.mov (.v (.d (.int .i64 0))))⟩]) (.seq (.seq (.reg [] [⟨(some 5), none, (.mov (.t 0))⟩, ⟨(some 6), none, (.len (.t 5))⟩, ⟨(some 7), none, (.bin .lss (.t 6) (.v (.d (.int .i64 1))))⟩]) (.cond (.t 7) (.reg [] [⟨(some 8), none, (.mkif 9 (.v (.d (.str ⟨#[115, 108, 105, 99, 101, 115, 46, 77, 105, 110, 58, 32, 101, 109, 112, 116, 121, 32, 108, 105, 115, 116]⟩))))⟩, ⟨none, none, (.chk 1 (.v (.ptr 0 1 0 0)) 1 (.v (.ptr 0 1 0 0)))⟩]) .skip)) (.seq (.reg [] [⟨(some 9), none, (.mov (.t 0))⟩, ⟨(some 10), none, (.idxA 1 (.t 9) (.v (.d (.int .i64 0))))⟩, ⟨(some 11), none, (.load false 1 (.t 10))⟩, ⟨(some 3), none, (.mov (.t 11))⟩]) (.seq (.seq (.reg [] [⟨(some 4), none, (.mov (.v (.d (.int .i64 1))))⟩]) (.block 0 (.loop [0, 3, 4] [3] L68_0))) (.seq (.reg [] [⟨(some 24), none, (.mov (.t 3))⟩, ⟨(some 2), none, (.mov (.t 24))⟩]) .ret)))))⟩
theorem c68 : cAt Try.prog 68 = some F68.er := by kernel_rfl
def F70 : CFunc := ⟨9, [(.tmp 2)], (.seq (.reg [] [⟨(some 2), none, (.mov (.v (.d (.bool false))))⟩]) (.seq (.reg [] [⟨(some 3), none, (.mov (.t 0))⟩, ⟨(some 4), none, (.bin .geq (.t 3) (.v (.d (.int .i64 (-1099511627776)))))⟩, ⟨(some 5), none, (.mov (.t 4))⟩, ⟨(some 6), (some (5, true)), (.mov (.t 0))⟩, ⟨(some 7), (some (5, true)), (.bin .leq (.t 6) (.v (.d (.int .i64 1099511627776))))⟩, ⟨(some 8), none, (.pick (.t 5) (.t 7) (.v (.d (.bool false))))⟩, ⟨(some 2), none, (.mov (.t 8))⟩]) .ret))⟩
theorem c70 : cAt Try.prog 70 = some F70.er := by kernel_rfl
def F73 : CFunc := ⟨9, [(.tmp 2)], (.seq (.reg [] [⟨(some 2), none, (.mov (.v (.d (.bool false))))⟩]) (.seq (.reg [] [⟨(some 3), none, (.mov (.t 0))⟩, ⟨(some 4), none, (.bin .geq (.t 3) (.v (.d (.int .i64 (-2147483648)))))⟩, ⟨(some 5), none, (.mov (.t 4))⟩, ⟨(some 6), (some (5, true)), (.mov (.t 0))⟩, ⟨(some 7), (some (5, true)), (.bin .leq (.t 6) (.v (.d (.int .i64 2147483647))))⟩, ⟨(some 8), none, (.pick (.t 5) (.t 7) (.v (.d (.bool false))))⟩, ⟨(some 2), none, (.mov (.t 8))⟩]) .ret))⟩
theorem c73 : cAt Try.prog 73 = some F73.er := by kernel_rfl
def F74 : CFunc := ⟨9, [(.tmp 2)], (.seq (.reg [] [⟨(some 2), none, (.mov (.v (.d (.bool false))))⟩]) (.seq (.reg [] [⟨(some 3), none, (.mov (.t 0))⟩, ⟨(some 4), none, (.bin .geq (.t 3) (.v (.d (.int .i64 (-2147483648)))))⟩, ⟨(some 5), none, (.mov (.t 4))⟩, ⟨(some 6), (some (5, true)), (.mov (.t 0))⟩, ⟨(some 7), (some (5, true)), (.bin .leq (.t 6) (.v (.d (.int .i64 2147483647))))⟩, ⟨(some 8), none, (.pick (.t 5) (.t 7) (.v (.d (.bool false))))⟩, ⟨(some 2), none, (.mov (.t 8))⟩]) .ret))⟩
theorem c74 : cAt Try.prog 74 = some F74.er := by kernel_rfl
def F75 : CFunc := ⟨4, [(.tmp 2)], (.seq (.reg [] [⟨(some 1), none, (.box 44 false 1 (.t 0))⟩, ⟨(some 2), none, (.mov (.v (.d .nilf)))⟩]) (.seq (.reg [] [⟨(some 3), none, (.mkfn (.func 81) [] [(.t 1)])⟩, ⟨(some 2), none, (.mov (.t 3))⟩]) .ret))⟩
theorem c75 : cAt Try.prog 75 = some F75.er := by kernel_rfl
def F77 : CFunc := ⟨9, [(.tmp 4)], (.seq (.reg [] [⟨(some 4), none, (.mov (.v (.d (.bool false))))⟩]) (.seq (.reg [] [⟨(some 5), none, (.mov (.t 0))⟩, ⟨(some 6), none, (.mov (.t 1))⟩, ⟨(some 7), none, (.call (.v (.fn (.func 82) [] [])) [(.t 5), (.t 6)])⟩, ⟨(some 8), none, (.bin .geq (.t 7) (.v (.d (.int .i64 0))))⟩, ⟨(some 4), none, (.mov (.t 8))⟩]) .ret))⟩
theorem c77 : cAt Try.prog 77 = some F77.er := by kernel_rfl
def F78 : CFunc := ⟨9, [(.tmp 2)], (.seq (.reg [] [⟨(some 2), none, (.mov (.v (.d (.bool false))))⟩]) (.seq (.reg [] [⟨(some 3), none, (.mov (.t 0))⟩, ⟨(some 4), none, (.bin .lss (.t 3) (.v (.d (.int .i64 (-1099511627776)))))⟩, ⟨(some 5), none, (.mov (.t 4))⟩, ⟨(some 6), (some (5, false)), (.mov (.t 0))⟩, ⟨(some 7), (some (5, false)), (.bin .gtr (.t 6) (.v (.d (.int .i64 1099511627776))))⟩, ⟨(some 8), none, (.pick (.t 5) (.v (.d (.bool true))) (.t 7))⟩, ⟨(some 2), none, (.mov (.t 8))⟩]) .ret))⟩
theorem c78 : cAt Try.prog 78 = some F78.er := by kernel_rfl
def L81_0 : C := (.seq (.reg [] [⟨(some 17), none, (.bin .lss (.t 16) (.t 15))⟩]) (.seq (.cond (.t 17) .skip (.exit 0)) (.seq (.block 1 (.seq (.reg [] [⟨(some 18), none, (.mov (.t 16))⟩, ⟨(some 4), none, (.mov (.t 18))⟩]) (.seq (.reg [⟨(some 19), none, (.mov (.t 0))⟩, ⟨(some 20), none, (.load false 1 (.t 1))⟩, ⟨(some 21), none, (.load false 1 (.t 1))⟩, ⟨(some 22), none, (.nilck (.t 21))⟩, ⟨(some 23), none, (.fieldA 18 (.t 22))⟩, ⟨(some 24), none, (.load false 1 (.t 23))⟩, ⟨(some 25), none, (.load false 1 (.t 1))⟩, ⟨(some 26), none, (.nilck (.t 25))⟩, ⟨(some 27), none, (.fieldA 19 (.t 26))⟩, ⟨(some 28), none, (.load false 1 (.t 27))⟩, ⟨(some 29), none, (.bin .sub (.t 24) (.t 28))⟩, ⟨(some 30), none, (.mov (.t 4))⟩, ⟨(some 31), none, (.bin .add (.t 29) (.t 30))⟩, ⟨(some 32), none, (.mov (.t 3))⟩, ⟨(some 33), none, (.bin .add (.t 31) (.t 32))⟩, ⟨(some 34), none, (.mov (.t 3))⟩, ⟨(some 35), none, (.bin .rem (.t 33) (.t 34))⟩, ⟨(some 36), none, (.nilck (.t 20))⟩, ⟨(some 37), none, (.fieldA 2 (.t 36))⟩, ⟨(some 38), none, (.idxAA 16 1 (.t 37) (.t 35))⟩, ⟨(some 39), none, (.load false 1 (.t 38))⟩] [⟨(some 40), none, (.call (.t 19) [(.t 39)])⟩, ⟨(some 41), none, (.unop .not (.t 40))⟩]) (.cond (.t 41) .ret .skip)))) (.reg [] [⟨(some 42), none, (.bin .add (.t 16) (.v (.d (.int .i64 1))))⟩, ⟨(some 16), none, (.mov (.t 42))⟩]))))
def F81 : CFunc := ⟨43, [], (.seq (.seq (.reg [] [⟨(some 5), none, (.load false 1 (.t 1))⟩, ⟨(some 6), none, (.beq .ptr false (.t 5) (.v (.d .nilp)))⟩]) (.cond (.t 6) .ret .skip)) (.seq (.reg [] [⟨(some 7), none, (.load false 1 (.t 1))⟩, ⟨(some 8), none, (.nilck (.t 7))⟩, ⟨(some 9), none, (.fieldA 0 (.t 8))⟩, ⟨(some 10), none, (.load false 1 (.t 9))⟩, ⟨(some 11), none, (.bin .sub (.t 10) (.v (.d (.int .i64 1))))⟩, ⟨(some 3), none, (.mov (.t 11))⟩]) (.seq (.reg [] [⟨(some 12), none, (.load false 1 (.t 1))⟩, ⟨(some 13), none, (.nilck (.t 12))⟩, ⟨(some 14), none, (.fieldA 19 (.t 13))⟩, ⟨(some 15), none, (.load false 1 (.t 14))⟩, ⟨(some 16), none, (.mov (.v (.d (.int .i64 0))))⟩]) (.block 0 (.loop [0, 1, 3, 15, 16] [] L81_0)))))⟩
theorem c81 : cAt Try.prog 81 = some F81.er := by kernel_rfl
def L82_0 : C := (.seq (.reg [] [⟨(some 9), none, (.bin .lss (.t 8) (.t 7))⟩]) (.seq (.cond (.t 9) .skip (.exit 0)) (.seq (.block 1 (.seq (.reg [] [⟨(some 10), none, (.mov (.t 8))⟩, ⟨(some 5), none, (.mov (.t 10))⟩]) (.seq (.reg [] [⟨(some 11), none, (.mov (.t 1))⟩, ⟨(some 12), none, (.mov (.t 0))⟩, ⟨(some 13), none, (.mov (.t 5))⟩, ⟨(some 14), none, (.idxA 1 (.t 12) (.t 13))⟩, ⟨(some 15), none, (.load false 1 (.t 14))⟩, ⟨(some 16), none, (.call (.t 11) [(.t 15)])⟩]) (.cond (.t 16) (.seq (.reg [] [⟨(some 17), none, (.mov (.t 5))⟩, ⟨(some 4), none, (.mov (.t 17))⟩]) .ret) .skip)))) (.reg [] [⟨(some 18), none, (.bin .add (.t 8) (.v (.d (.int .i64 1))))⟩, ⟨(some 8), none, (.mov (.t 18))⟩]))))
def F82 : CFunc := ⟨19, [(.tmp 4)], (.seq (.reg [] [⟨(some 4), none, (.mov (.v (.d (.int .i64 0))))⟩]) (.seq (.seq (.reg [] [⟨(some 6), none, (.mov (.t 0))⟩, ⟨(some 7), none, (.len (.t 6))⟩, ⟨(some 8), none, (.mov (.v (.d (.int .i64 0))))⟩]) (.block 0 (.loop [0, 1, 7, 8] [4] L82_0))) (.seq (.reg [] [⟨(some 4), none, (.mov (.v (.d (.int .i64 (-1)))))⟩]) .ret)))⟩
theorem c82 : cAt Try.prog 82 = some F82.er := by kernel_rfl
def cfT : List (Nat × CFunc) := [(10, F10), (17, F17), (19, F19), (22, F22), (23, F23), (24, F24), (42, F42), (43, F43), (44, F44), (45, F45), (46, F46), (47, F47), (48, F48), (49, F49), (50, F50), (51, F51), (52, F52), (53, F53), (54, F54), (55, F55), (56, F56), (57, F57), (63, F63), (67, F67), (68, F68), (70, F70), (73, F73), (74, F74), (75, F75), (77, F77), (78, F78), (81, F81), (82, F82)]
def lookT : List (Nat × CFunc) → Nat → Option CFunc
  | [], _ => none
  | (i, F) :: r, j => match Nat.beq j i with | true => some F | false => lookT r j
def extT : List (FuncId × XK) := []
def E0 : Env := ⟨lookT cfT, extOf extT, fun _ => none, fun f => Nat.beq f 66, fun f => Nat.beq f 52⟩
theorem Z0m : ∀ (l : List (Nat × CFunc)), (∀ p, p ∈ l → cAt Try.prog p.1 = some p.2.er) → ∀ f F, lookT l f = some F → cAt Try.prog f = some F.er
  | [], _, f, F, h => by simp [lookT] at h
  | (i, G) :: r, hl, f, F, h => by
    simp only [lookT] at h
    split at h
    · rename_i hb
      cases h
      rw [Nat.eq_of_beq_eq_true hb]
      exact hl (i, _) (List.mem_cons_self ..)
    · exact Z0m r (fun p hp => hl p (by simp [hp])) f F h
theorem cfT_ok : ∀ p, p ∈ cfT → cAt Try.prog p.1 = some p.2.er := by
  unfold cfT
  simp only [List.forall_mem_cons]
  exact ⟨c10, c17, c19, c22, c23, c24, c42, c43, c44, c45, c46, c47, c48, c49, c50, c51, c52, c53, c54, c55, c56, c57, c63, c67, c68, c70, c73, c74, c75, c77, c78, c81, c82, fun p h => by simp at h⟩
theorem e0_ext {f : FuncId} (h : lookX extT f = none) : ∀ a m, E0.ext f a m = none := Z39 h
theorem e0_cf : ∀ f F, E0.cf f = some F → cAt Try.prog f = some F.er := Z0m cfT cfT_ok
variable {args : List V} {m : Mem} (os : List (A E0)) {r : List V × Mem}
theorem w10 (h : walkF E0 F10 args m os = some (r, want os)) : cl E0 10 args m = some r := Zht (e0_ext (by kernel_rfl)) (by kernel_rfl) (by decide) os h
theorem w17 (h : walkF E0 F17 args m os = some (r, want os)) : cl E0 17 args m = some r := Zht (e0_ext (by kernel_rfl)) (by kernel_rfl) (by decide) os h
theorem w19 (h : walkF E0 F19 args m os = some (r, want os)) : cl E0 19 args m = some r := Zht (e0_ext (by kernel_rfl)) (by kernel_rfl) (by decide) os h
theorem w22 (h : walkF E0 F22 args m os = some (r, want os)) : cl E0 22 args m = some r := Zht (e0_ext (by kernel_rfl)) (by kernel_rfl) (by decide) os h
theorem w23 (h : walkF E0 F23 args m os = some (r, want os)) : cl E0 23 args m = some r := Zht (e0_ext (by kernel_rfl)) (by kernel_rfl) (by decide) os h
theorem w24 (h : walkF E0 F24 args m os = some (r, want os)) : cl E0 24 args m = some r := Zht (e0_ext (by kernel_rfl)) (by kernel_rfl) (by decide) os h
theorem w42 (h : walkF E0 F42 args m os = some (r, want os)) : cl E0 42 args m = some r := Zht (e0_ext (by kernel_rfl)) (by kernel_rfl) (by decide) os h
theorem w44 (h : walkF E0 F44 args m os = some (r, want os)) : cl E0 44 args m = some r := Zht (e0_ext (by kernel_rfl)) (by kernel_rfl) (by decide) os h
theorem w45 (h : walkF E0 F45 args m os = some (r, want os)) : cl E0 45 args m = some r := Zht (e0_ext (by kernel_rfl)) (by kernel_rfl) (by decide) os h
theorem w46 (h : walkF E0 F46 args m os = some (r, want os)) : cl E0 46 args m = some r := Zht (e0_ext (by kernel_rfl)) (by kernel_rfl) (by decide) os h
theorem w47 (h : walkF E0 F47 args m os = some (r, want os)) : cl E0 47 args m = some r := Zht (e0_ext (by kernel_rfl)) (by kernel_rfl) (by decide) os h
theorem w48 (h : walkF E0 F48 args m os = some (r, want os)) : cl E0 48 args m = some r := Zht (e0_ext (by kernel_rfl)) (by kernel_rfl) (by decide) os h
theorem w49 (h : walkF E0 F49 args m os = some (r, want os)) : cl E0 49 args m = some r := Zht (e0_ext (by kernel_rfl)) (by kernel_rfl) (by decide) os h
theorem w50 (h : walkF E0 F50 args m os = some (r, want os)) : cl E0 50 args m = some r := Zht (e0_ext (by kernel_rfl)) (by kernel_rfl) (by decide) os h
theorem w51 (h : walkF E0 F51 args m os = some (r, want os)) : cl E0 51 args m = some r := Zht (e0_ext (by kernel_rfl)) (by kernel_rfl) (by decide) os h
theorem w52 (h : walkF E0 F52 args m os = some (r, want os)) : cl E0 52 args m = some r := Zht (e0_ext (by kernel_rfl)) (by kernel_rfl) (by decide) os h
theorem w53 (h : walkF E0 F53 args m os = some (r, want os)) : cl E0 53 args m = some r := Zht (e0_ext (by kernel_rfl)) (by kernel_rfl) (by decide) os h
theorem w54 (h : walkF E0 F54 args m os = some (r, want os)) : cl E0 54 args m = some r := Zht (e0_ext (by kernel_rfl)) (by kernel_rfl) (by decide) os h
theorem w55 (h : walkF E0 F55 args m os = some (r, want os)) : cl E0 55 args m = some r := Zht (e0_ext (by kernel_rfl)) (by kernel_rfl) (by decide) os h
theorem w56 (h : walkF E0 F56 args m os = some (r, want os)) : cl E0 56 args m = some r := Zht (e0_ext (by kernel_rfl)) (by kernel_rfl) (by decide) os h
theorem w57 (h : walkF E0 F57 args m os = some (r, want os)) : cl E0 57 args m = some r := Zht (e0_ext (by kernel_rfl)) (by kernel_rfl) (by decide) os h
theorem w63 (h : walkF E0 F63 args m os = some (r, want os)) : cl E0 63 args m = some r := Zht (e0_ext (by kernel_rfl)) (by kernel_rfl) (by decide) os h
theorem w67 (h : walkF E0 F67 args m os = some (r, want os)) : cl E0 67 args m = some r := Zht (e0_ext (by kernel_rfl)) (by kernel_rfl) (by decide) os h
theorem w68 (h : walkF E0 F68 args m os = some (r, want os)) : cl E0 68 args m = some r := Zht (e0_ext (by kernel_rfl)) (by kernel_rfl) (by decide) os h
theorem w70 (h : walkF E0 F70 args m os = some (r, want os)) : cl E0 70 args m = some r := Zht (e0_ext (by kernel_rfl)) (by kernel_rfl) (by decide) os h
theorem w73 (h : walkF E0 F73 args m os = some (r, want os)) : cl E0 73 args m = some r := Zht (e0_ext (by kernel_rfl)) (by kernel_rfl) (by decide) os h
theorem w74 (h : walkF E0 F74 args m os = some (r, want os)) : cl E0 74 args m = some r := Zht (e0_ext (by kernel_rfl)) (by kernel_rfl) (by decide) os h
theorem w75 (h : walkF E0 F75 args m os = some (r, want os)) : cl E0 75 args m = some r := Zht (e0_ext (by kernel_rfl)) (by kernel_rfl) (by decide) os h
theorem w77 (h : walkF E0 F77 args m os = some (r, want os)) : cl E0 77 args m = some r := Zht (e0_ext (by kernel_rfl)) (by kernel_rfl) (by decide) os h
theorem w78 (h : walkF E0 F78 args m os = some (r, want os)) : cl E0 78 args m = some r := Zht (e0_ext (by kernel_rfl)) (by kernel_rfl) (by decide) os h
theorem w81 (h : walkF E0 F81 args m os = some (r, want os)) : cl E0 81 args m = some r := Zht (e0_ext (by kernel_rfl)) (by kernel_rfl) (by decide) os h
theorem w82 (h : walkF E0 F82 args m os = some (r, want os)) : cl E0 82 args m = some r := Zht (e0_ext (by kernel_rfl)) (by kernel_rfl) (by decide) os h
def rhoD : Shelf.Ren := ⟨fun x => if x = 23 then 66 else x, fun x => match x with | 0 => 0 | 3 => 3 | 4 => 4 | 22 => 22 | x => x, fun x => x⟩
theorem laysD : Lays2.n23 Try.prog rhoD := by
  constructor
  all_goals first | kernel_rfl | (intro w; kernel_rfl)
theorem e0_del : ∀ f, E0.del f = true → DelOK Try.prog f := fun f h => by
  have e : f = 66 := Nat.eq_of_beq_eq_true h
  subst e
  exact Z4i laysD rfl ⟨_, rfl, by kernel_rfl, by kernel_rfl⟩
theorem e0_x : ∀ p, p ∈ extT → XOK Try.prog p.1 p.2 := fun p h => by simp [extT] at h
end Go.Proofs.Ytdlhhoejnhjbhaa.Den

namespace Go.Proofs.Ytdlhhoejnhjbhaa.Den
open Go
set_option linter.unusedVariables false
set_option linter.unusedSimpArgs false
abbrev wi (x : Int) : Int := IntKind.i64.wrap x
def encI (k : IntKind) (z : Int) : List D := [.int k z]
def gt {α : Type} [Inhabited α] (l : List α) (i : Int) : α := l.getD i.toNat default
def st {α : Type} (l : List α) (i : Int) (x : α) : List α := l.set i.toNat x
def inb (n : Nat) (i : Int) : Bool := decide (0 ≤ i) && decide (i < (n : Int))
def remI (k : IntKind) (x y : Int) : Int := x.tmod y
def mxI (x y : Int) : Int := if y > x then y else x
def mnI (x y : Int) : Int := if y < x then y else x
def slD {α : Type} (enc : α → List D) (fl : Bool) (s : Nat) (n : Bool) (l : List α) : D := D.ofRows n fl s (l.map enc)
@[simp] theorem deSo_d (x : D) : deSo (.d x) = .d x := rfl
@[simp] theorem deSo_sl (id n o l : Nat) : deSo (.sl id n o l) = .sl id n o l := rfl
theorem slD_rs {α : Type} (enc : α → List D) (fl : Bool) (s : Nat) (l : List α) : D.rs fl s (l.map enc) false = slD enc fl s false l := by cases l <;> rfl
def tb (b : Bool) : Bool := b
theorem tbE {b c : Bool} (h : tb b = c) : b = c := h
theorem notT {b : Bool} (h : b = true) : (!b) = false := by rw [h]; rfl
theorem notF {b : Bool} (h : b = false) : (!b) = true := by rw [h]; rfl
theorem tf : ¬ (true = false) := Bool.noConfusion
theorem ft : ¬ (false = true) := Bool.noConfusion
theorem ZN {p : Prop} (g : false = true) : p := absurd g ft
def itS {S : Type} (sel : S → Bool) (nx : S → S) : Nat → S → Option S
  | 0, _ => none
  | n + 1, s => match sel s with | true => itS sel nx n (nx s) | false => some s
theorem Zil {S : Type} {g : List V × Mem → Option (X × (List V × Mem))} {enc : S → List V × Mem} {sel : S → Bool} {nx : S → S} (hn : ∀ s, sel s = true → g (enc s) = some (.normal, enc (nx s))) :
    ∀ (n : Nat) (s0 s1 : S) (x : X) (h : List V × Mem), itS sel nx n s0 = some s1 → x ≠ .normal → g (enc s1) = some (x, h) → loopG g n (enc s0) = some (x, h)
  | 0, s0, s1, x, h, hi, _, _ => by simp [itS] at hi
  | n + 1, s0, s1, x, h, hi, hx, hg => by
    simp only [itS] at hi
    simp only [loopG]
    split at hi
    · rename_i hs
      rw [hn s0 hs]
      exact Zil hn n (nx s0) s1 x h hi hx hg
    · cases hi
      rw [hg]
      cases x with
      | normal => exact absurd rfl hx
      | exit i => rfl
      | ret => rfl
theorem Zgz {S : Type} {sel : S → Bool} {nx : S → S} : ∀ {n : Nat} {s0 s1 : S}, itS sel nx n s0 = some s1 → sel s1 = false
  | 0, _, _, h => by simp [itS] at h
  | n + 1, s0, s1, h => by
    simp only [itS] at h
    split at h
    · exact Zgz h
    · rename_i hs; cases h; exact hs
theorem Zis {S : Type} {sel : S → Bool} {nx : S → S} {n : Nat} {s0 d : S} (h : (itS sel nx n s0).isSome = true) : itS sel nx n s0 = some ((itS sel nx n s0).getD d) := by
  cases hi : itS sel nx n s0 with
  | none => rw [hi] at h; cases h
  | some s => rfl
theorem Z14 {S : Type} {sel : S → Bool} {nx : S → S} (J : S → Prop) (μ : S → Nat) (hn : ∀ s, J s → sel s = true → J (nx s) ∧ μ (nx s) < μ s) :
    ∀ (n : Nat) (s : S), J s → μ s < n → ∃ s1, itS sel nx n s = some s1 ∧ J s1 ∧ sel s1 = false
  | 0, s, _, h => by omega
  | n + 1, s, hJ, h => by
    simp only [itS]
    cases hc : sel s with
    | true =>
      obtain ⟨h1, h2⟩ := hn s hJ hc
      exact Z14 J μ hn n (nx s) h1 (by omega)
    | false => exact ⟨s, rfl, hJ, hc⟩
section
variable {E : Env} {c : CallT} {t : Nat → V} {m : Mem}
theorem Zpa {n : Nat} {i : Int} (h : inb n i = true) : 0 ≤ i ∧ i.toNat < n := by
  simp only [inb, Bool.and_eq_true, decide_eq_true_eq] at h
  omega
theorem Zv4 {k : IntKind} {i : Int} (h : 0 ≤ i) : asNat (.d (.int k i)) = some i.toNat := by simp [asNat, h]
theorem Z4p {α : Type} [Inhabited α] {enc : α → List D} {l : List α} {fl tg : Bool} {s : Nat} {k : IntKind} {i : Int} (h : inb l.length i = true) :
    doI E c (.idxA s (.v (.d (.rs fl s (l.map enc) tg))) (.v (.d (.int k i)))) t m = some (.d (.rp (enc (gt l i))), m) := by
  obtain ⟨h1, h2⟩ := Zpa h
  have hl : l[i.toNat]? = some l[i.toNat] := List.getElem?_eq_getElem h2
  simp [doI, ev, sizeOk, Zv4 h1, idxSV, List.getElem?_map, hl, gt, List.getD]
theorem Zes {α : Type} {enc : α → List D} {fl : Bool} {s : Nat} {n : Bool} {l : List α} :
    doI E c (.len (.v (.d (slD enc fl s n l)))) t m = some (.d (.int .i64 ((l.length : Nat) : Int)), m) := by
  cases n <;> cases l <;> simp [doI, ev, lenV, slD, D.ofRows]
theorem Zn {α : Type} [Inhabited α] {enc : α → List D} {l : List α} {fl n : Bool} {s : Nat} {k : IntKind} {i : Int} (h : inb l.length i = true) :
    doI E c (.idxA s (.v (.d (slD enc fl s n l))) (.v (.d (.int k i)))) t m = some (.d (.rp (enc (gt l i))), m) := by
  have key : slD enc fl s n l = .rs fl s (l.map enc) false := by
    cases n <;> cases l <;> first | rfl | (obtain ⟨_, h2⟩ := Zpa h; simp at h2)
  rw [key]; exact Z4p h
theorem o_rem {k : IntKind} {x y : Int} (h : ((y : Int) == 0) = false) : doI E c (.bin .rem (.v (.d (.int k x))) (.v (.d (.int k y)))) t m = some (.d (.int k (remI k x y)), m) := by
  have h1 : ¬ (y = 0) := by simpa using h
  simp [doI, ev, binV, binInt, h1, remI]
def opt (x : Option (IntKind × Int)) : Option O := x.map fun p => .v (.d (.int p.1 p.2))
def lo0 (x : Option (IntKind × Int)) : Int := match x with | some p => p.2 | none => 0
def hi0 (n : Nat) (x : Option (IntKind × Int)) : Int := match x with | some p => p.2 | none => (n : Int)
def ins (n : Nat) (lo hi : Int) : Bool := decide (0 ≤ lo) && decide (lo ≤ hi) && decide (hi ≤ (n : Int))
def sub {α : Type} (l : List α) (lo hi : Int) : List α := (l.drop lo.toNat).take (hi - lo).toNat
theorem Zu5 {n : Nat} {lo hi : Int} (h : ins n lo hi = true) : 0 ≤ lo ∧ lo ≤ hi ∧ hi ≤ n ∧ lo.toNat ≤ hi.toNat ∧ hi.toNat ≤ n ∧ hi.toNat - lo.toNat = (hi - lo).toNat := by
  simp only [ins, Bool.and_eq_true, decide_eq_true_eq] at h
  omega
theorem Zs9 {x : Option (IntKind × Int)} (h : 0 ≤ lo0 x) : optNat E t (opt x) 0 = some (lo0 x).toNat := by
  cases x with
  | none => rfl
  | some p => simp only [lo0] at h ⊢; simp [optNat, opt, ev, asNat, h]
theorem Zs1 {n : Nat} {x : Option (IntKind × Int)} (h : 0 ≤ hi0 n x) : optNat E t (opt x) n = some (hi0 n x).toNat := by
  cases x with
  | none => simp [optNat, opt, hi0]
  | some p => simp only [hi0] at h ⊢; simp [optNat, opt, ev, asNat, h]
theorem Z6i {α β : Type} (f : α → β) (l : List α) (lo hi : Int) : ((l.map f).drop lo.toNat).take (hi - lo).toNat = (sub l lo hi).map f := by
  unfold sub; rw [← List.map_drop, ← List.map_take]
theorem Zqf {n k : Nat} (h : Nat.beq n k = true) : n = k := Nat.eq_of_beq_eq_true h
theorem Z1c {α : Type} {enc : α → List D} {l : List α} {id e s n : Nat} {p : Bool} (lo hi : Option (IntKind × Int)) (hm : m[id]? = some (.flat e s (l.map enc) p)) (h : ins n (lo0 lo) (hi0 n hi) = true) (hlt : decide (lo0 lo < hi0 n hi) = true) :
    doI E c (.slice s (.v (.sl id n 0 n)) (opt lo) (opt hi) none) t m = some (.sl id n (lo0 lo).toNat ((hi0 n hi).toNat - (lo0 lo).toNat), m) := by
  obtain ⟨h1, h2, h3, h4, h5, h6⟩ := Zu5 h
  have hlt := of_decide_eq_true hlt
  have e1 : optNat E t (opt lo) 0 = some (lo0 lo).toNat := Zs9 h1
  have e2 : optNat E t (opt hi) n = some (hi0 n hi).toNat := Zs1 (by omega)
  have h7 : (lo0 lo).toNat < (hi0 n hi).toNat := by omega
  have h8 : sizeOk m s (.sl id n 0 n) = true := by simp [sizeOk, hm, Blk.size]
  simp only [doI, ev, deSo, h8, lenV, if_true, Option.bind_some, e1, e2, sliceV, h4, h5, and_self, h7, Nat.zero_add]
theorem Z1f {α : Type} {enc : α → List D} {l : List α} {nl : Bool} {id e s n : Nat} {p : Bool} (lo hi : Option (IntKind × Int)) (hm : m[id]? = some (.flat e s (l.map enc) p)) (h : ins n (lo0 lo) (hi0 n hi) = true) (hlt : decide (lo0 lo < hi0 n hi) = true) :
    doI E c (.slice s (.v (.so nl id n)) (opt lo) (opt hi) none) t m = some (.sl id n (lo0 lo).toNat ((hi0 n hi).toNat - (lo0 lo).toNat), m) := by
  cases nl with
  | false => exact Z1c (E := E) (c := c) (t := t) lo hi hm h hlt
  | true =>
    obtain ⟨h1, h2, h3, h4, h5, h6⟩ := Zu5 h
    have hlt := of_decide_eq_true hlt
    have e1 : optNat E t (opt lo) 0 = some (lo0 lo).toNat := Zs9 h1
    have e2 : optNat E t (opt hi) n = some (hi0 n hi).toNat := Zs1 (by omega)
    have h7 : (lo0 lo).toNat < (hi0 n hi).toNat := by omega
    have h8 : sizeOk m s (.so true id n) = true := by simp [sizeOk, hm, Blk.size]
    simp [doI, ev, deSo, h8, lenV, e1, e2, sliceV, h4, h5, h7]
theorem deSo_f {nl : Bool} {id n : Nat} (h : nl = false) : deSo (.so nl id n) = .sl id n 0 n := by rw [h]; rfl
theorem Z1k {α : Type} {enc : α → List D} {l : List α} {x : V} {id e s n : Nat} {p : Bool} (lo hi : Option (IntKind × Int)) (hx : deSo x = .sl id n 0 n) (hn : Nat.beq n l.length = true) (hm : m[id]? = some (.flat e s (l.map enc) p)) (h : ins n (lo0 lo) (hi0 n hi) = true) (hlt : decide (lo0 lo < hi0 n hi) = false) :
    doI E c (.slice s (.v x) (opt lo) (opt hi) none) t m = some (.d (.rs false s [] false), m) := by
  obtain ⟨h1, h2, h3, h4, h5, h6⟩ := Zu5 h
  have hlt := of_decide_eq_false hlt
  have e1 : optNat E t (opt lo) 0 = some (lo0 lo).toNat := Zs9 h1
  have e2 : optNat E t (opt hi) n = some (hi0 n hi).toNat := Zs1 (by omega)
  have h7 : ¬ (lo0 lo).toNat < (hi0 n hi).toNat := by omega
  have h8 : sizeOk m s (.sl id n 0 n) = true := by simp [sizeOk, hm, Blk.size]
  have h9 : n = (Blk.flat e s (l.map enc) p).len := by simp [Blk.len, Zqf hn]
  simp only [doI, ev, hx, h8, lenV, if_true, Option.bind_some, e1, e2, sliceV, h4, h5, and_self, h7, if_false, hm, ← h9]
  rfl
theorem Zml {α : Type} {enc : α → List D} {l : List α} {id e s n : Nat} {p : Bool} {lo hi : Int} (hn : Nat.beq n l.length = true) (hm : m[id]? = some (.flat e s (l.map enc) p)) (h : ins n lo hi = true) :
    V.byval m (.sl id n lo.toNat (hi.toNat - lo.toNat)) = .d (.rs true s ((sub l lo hi).map enc) false) := by
  obtain ⟨h1, h2, h3, h4, h5, h6⟩ := Zu5 h
  have h7 : lo.toNat + (hi.toNat - lo.toNat) ≤ n := by omega
  have hn' := Zqf hn
  simp only [V.byval, byvalS, hm, List.length_map, hn', true_and]
  rw [if_pos (by rw [← hn']; exact h7), h6, Z6i]
theorem Z1n {s : Nat} (lo hi : Option (IntKind × Int)) (h1 : (lo0 lo == 0) = true) (h2 : (hi0 0 hi == 0) = true) : doI E c (.slice s (.v (.d .nils)) (opt lo) (opt hi) none) t m = some (.d .nils, m) := by
  have h1 := eq_of_beq h1
  have h2 := eq_of_beq h2
  have e1 : optNat E t (opt lo) 0 = some 0 := by rw [Zs9 (by omega), h1]; rfl
  have e2 : optNat E t (opt hi) 0 = some 0 := by rw [Zs1 (by omega), h2]; rfl
  simp [doI, ev, deSo, sizeOk, lenV, e1, e2, sliceV]
theorem Zc8 {v v1 : V} {l l1 : List V} (h : V.byval m v = v1) (h2 : V.byvals m l = l1) : V.byvals m (v :: l) = v1 :: l1 := by
  rw [V.byvals, h, h2]
theorem Zna {α : Type} {enc : α → List D} {l : List α} {b p : Bool} {id e s n : Nat} (hn : Nat.beq n l.length = true) (hm : m[id]? = some (.flat e s (l.map enc) p)) : Ze9 m (.so b id n) = some (l.map enc) := by
  rw [Zqf hn]
  simp only [Ze9, hm, Option.bind_some, List.length_map, if_true]
theorem Zhz {α : Type} {enc : α → List D} {l : List α} {b p : Bool} {id e s n : Nat} (hn : Nat.beq n l.length = true) (hm : m[id]? = some (.flat e s (l.map enc) p)) : V.byval m (.so b id n) = .d (slD enc true s b l) := by
  rw [Zqf hn]
  simp only [V.byval, byvalS, hm, List.length_map, if_true, slD]
theorem Zjt {α : Type} {enc : α → List D} {l0 l1 : List α} {nl : Bool} {id e s bytes n : Nat} {x : V} (hn : Nat.beq n l0.length = true) (hm : m[id]? = some (.flat e s (l0.map enc) false)) (hx : Ze9 m x = some (l1.map enc)) (hs : sizeOk m s x = true)
    (h : decide ((l0.length + l1.length) * bytes ≤ 140737488355328) = true) :
    doI E c (.append e true s bytes (.v (.so nl id n)) (.v x)) t m = some (.so (l1.isEmpty && nl) id (l0 ++ l1).length, m.set id (.flat e s ((l0 ++ l1).map enc) false)) := by
  rw [Zqf hn]
  have h := of_decide_eq_true h
  simp only [doI, ev, Zmk, hs, hm, hx, Option.bind_some, List.length_map, true_and, if_true]
  rw [if_pos h]
  cases l1 with
  | nil => simp
  | cons a l1 => simp
theorem Zul {α : Type} {enc : α → List D} {l0 l1 : List α} {id e s bytes n : Nat} {x : V} (hn : Nat.beq n l0.length = true) (hm : m[id]? = some (.flat e s (l0.map enc) false)) (hx : Ze9 m x = some (l1.map enc)) (hs : sizeOk m s x = true)
    (h : decide ((l0.length + l1.length) * bytes ≤ 140737488355328) = true) :
    doI E c (.append e true s bytes (.v (.so false id n)) (.v x)) t m = some (.so false id (l0 ++ l1).length, m.set id (.flat e s ((l0 ++ l1).map enc) false)) := by
  have := Zjt (E := E) (c := c) (t := t) (nl := false) hn hm hx hs h
  rwa [Bool.and_false] at this
theorem Ziy {b : Bool} {id n : Nat} {s : Nat} {k : IntKind} {i : Int} (hs : sizeOk m s (.so b id n) = true) (h : inb n i = true) :
    doI E c (.idxA s (.v (.so b id n)) (.v (.d (.int k i)))) t m = some (.ptr id n i.toNat 0, m) := by
  obtain ⟨h1, h2⟩ := Zpa h
  simp [doI, ev, hs, Zv4 h1, idxSV, h2]
def tab (T : List Int) (n : Nat) : List Int := (List.range n).map fun (j : Nat) => gt T (j : Int)
def sta (T : List Int) (n : Nat) (i v : Int) : List Int := st (tab T n) i v
def arrD (k : IntKind) (T : List Int) (n : Nat) : List D := (List.range n).map fun (j : Nat) => .int k (gt T (j : Int))
theorem Z51 (T : List Int) (n : Nat) : (tab T n).length = n := by simp [tab]
theorem Zxw (k : IntKind) (T : List Int) (n j : Nat) : (arrD k T n)[j]? = if j < n then some (.int k (gt T (j : Int))) else none := by
  unfold arrD
  rw [List.getElem?_map]
  by_cases h : j < n
  · simp [h]
  · simp [h]
theorem gt_tab {T : List Int} {n : Nat} {i : Int} (h1 : 0 ≤ i) (h2 : i < n) : gt (tab T n) i = gt T i := by
  have h3 : i.toNat < n := by omega
  have h4 : ((i.toNat : Nat) : Int) = i := Int.toNat_of_nonneg h1
  simp only [gt, tab, List.getD_eq_getElem?_getD, List.getElem?_map]
  rw [List.getElem?_range h3]
  simp only [Option.map_some, Option.getD_some, h4, gt, List.getD_eq_getElem?_getD]
theorem gt_sta {T : List Int} {n : Nat} {i v j : Int} (h1 : 0 ≤ j) (h2 : j < n) (h3 : 0 ≤ i) : gt (sta T n i v) j = if j = i then v else gt T j := by
  have hj : j.toNat < (tab T n).length := by rw [Z51]; omega
  by_cases h : j = i
  · subst h
    simp [sta, st, gt, List.getD_eq_getElem?_getD, hj]
  · rw [if_neg h]
    have e := gt_tab (T := T) (n := n) h1 h2
    have : ¬ i.toNat = j.toNat := by omega
    simp only [gt, sta, st, List.getD_eq_getElem?_getD, List.getElem?_set, this, if_false] at e ⊢
    exact e
theorem Z37 {k : IntKind} {T : List Int} {n : Nat} {i v : Int} (h1 : 0 ≤ i) (h2 : i < n) : arrD k (sta T n i v) n = (arrD k T n).set i.toNat (.int k v) := by
  apply List.ext_getElem?
  intro j
  rw [Zxw, List.getElem?_set, Zxw]
  by_cases hj : j < n
  · rw [if_pos hj, if_pos hj, gt_sta (by omega) (by omega) h1]
    have hl : (arrD k T n).length = n := by simp [arrD]
    by_cases h : (j : Int) = i
    · have h' : i.toNat = j := by omega
      simp [h, h', hl, hj]
    · have h' : ¬ i.toNat = j := by omega
      simp [h, h']
  · have hl : (arrD k T n).length = n := by simp [arrD]
    have h' : ¬ i.toNat = j := by omega
    simp [hj, h']
theorem Z17 {id nn row off n s : Nat} {k : IntKind} {i : Int} (h : inb n i = true) :
    doI E c (.idxAA n s (.v (.ptr id nn row off)) (.v (.d (.int k i)))) t m = some (.ptr id nn row (off + i.toNat * s), m) := by
  obtain ⟨h1, h2⟩ := Zpa h
  simp [doI, ev, Zv4 h1, idxAV, h2]
theorem arr_at {β : Type} {cs : List β} {ar : List β} {off n j : Nat} (h : (cs.drop off).take n = ar) (hj : j < n) : cs[off + j]? = ar[j]? := by
  subst h
  rw [List.getElem?_take, if_pos hj, List.getElem?_drop]
theorem Z2e {id nn row off n : Nat} {k : IntKind} {T : List Int} {i : Int} (hx : (((m[id]?).bind fun b => b.row? nn row).map fun cs => (cs.drop off).take n) = some ((arrD k T n).map V.d)) (h : inb n i = true) :
    doI E c (.load false 1 (.v (.ptr id nn row (off + i.toNat * 1)))) t m = some (.d (.int k (gt T i)), m) := by
  obtain ⟨h1, h2⟩ := Zpa h
  obtain ⟨cs, hc, hx⟩ := Option.map_eq_some_iff.1 hx
  obtain ⟨b, hb, hc⟩ := Option.bind_eq_some_iff.1 hc
  have h4 : ((i.toNat : Nat) : Int) = i := Int.toNat_of_nonneg h1
  have e := arr_at hx h2
  rw [List.getElem?_map, Zxw, if_pos h2] at e
  simp [doI, ev, loadV, hb, hc, part, e, h4]
theorem Z1h {id nn row off n s : Nat} {e : TypeId} {rows : List (List D)} {cs : List D} {k : IntKind} {T : List Int} {i v : Int} (hm : m[id]? = some (.flat e s rows false)) (hr : rows[row]? = some cs) (hn : Nat.beq nn rows.length = true)
    (hx : (cs.drop off).take n = arrD k T n) (h : inb n i = true) :
    doI E c (.store 1 (.v (.ptr id nn row (off + i.toNat * 1))) (.v (.d (.int k v)))) t m = some (.tup [], m.set id (.flat e s (rows.set row (cs.take off ++ (arrD k (sta T n i v) n ++ cs.drop (off + n)))) false)) := by
  obtain ⟨h1, h2⟩ := Zpa h
  have hlen : off + n ≤ cs.length := by
    have := congrArg List.length hx
    simp [arrD] at this; omega
  have hset : cs.set (off + i.toNat) (.int k v) = cs.take off ++ (arrD k (sta T n i v) n ++ cs.drop (off + n)) := by
    rw [Z37 h1 (by omega), ← hx]
    have e1 : cs = cs.take off ++ ((cs.drop off).take n ++ cs.drop (off + n)) := by
      rw [← List.drop_drop, List.take_append_drop, List.take_append_drop]
    have hl1 : (cs.take off).length = off := by simp; omega
    have hl2 : ((cs.drop off).take n).length = n := by simp; omega
    conv => lhs; rw [e1]
    rw [List.set_append_right _ _ (by omega), hl1, show off + i.toNat - off = i.toNat by omega, List.set_append_left _ _ (by omega)]
  have hput : cs.take (off + i.toNat) ++ ([.int k v] ++ cs.drop (off + i.toNat + 1)) = cs.set (off + i.toNat) (.int k v) := by
    rw [List.set_eq_take_append_cons_drop, if_pos (by omega)]; rfl
  have hle : off + i.toNat + 1 ≤ cs.length := by omega
  simp only [doI, ev, storeV, V.cells, List.length_cons, List.length_nil, Nat.zero_add, V.cellsOk, hm, Option.bind_some, Blk.put?, Zqf hn, if_true, toSs, setRow, hr]
  simp [V.cellOk, toSs, D.scalar, hle, setRow, hr, Nat.mul_one, ← hset, ← hput]
theorem Ziv {α : Type} [Inhabited α] {enc : α → List D} {l : List α} {id e s off size : Nat} {p agg : Bool} {i : Int} {v : V} {n : Nat} (hn : Nat.beq n l.length = true) (hm : m[id]? = some (.flat e s (l.map enc) p)) (h : inb n i = true)
    (hv : part agg ((enc (gt l i)).map V.d) off size = some v) : doI E c (.load agg size (.v (.ptr id n i.toNat off))) t m = some (v, m) := by
  rw [Zqf hn] at h ⊢
  obtain ⟨h1, h2⟩ := Zpa h
  have hl : l[i.toNat]? = some l[i.toNat] := List.getElem?_eq_getElem h2
  have hg : gt l i = l[i.toNat] := by simp [gt, List.getD, hl]
  rw [hg] at hv
  simp [doI, ev, loadV, hm, Blk.row?, List.getElem?_map, hl, hv]
end
end Go.Proofs.Ytdlhhoejnhjbhaa.Den

namespace Go.Proofs.Ytdlhhoejnhjbhaa.Den
open Go Go.Proofs
set_option maxRecDepth 100000
set_option maxHeartbeats 4000000
set_option linter.unusedVariables false
set_option linter.unusedSimpArgs false
structure Zh where
 c0 : Int
 c1 : Bool
 c2 : Int
 deriving Inhabited
def Zd (p : Zh) : List D := [(.int .u8 p.c0), (.bool p.c1), (.int .i64 p.c2)]
structure Z56 where
 c0 : Bool
 c1 : Int
 c2 : Int
 deriving Inhabited
end Go.Proofs.Ytdlhhoejnhjbhaa.Den

namespace Go.Proofs.Ytdlhhoejnhjbhaa.Den
open Go Go.Proofs
set_option maxRecDepth 100000
set_option maxHeartbeats 4000000
set_option linter.unusedVariables false
set_option linter.unusedSimpArgs false
theorem Zm9 : cl E0 43 [] [] = some ([(V.d (.bool true))], []) := cl_of (n := 60) (by kernel_rfl)
end Go.Proofs.Ytdlhhoejnhjbhaa.Den

namespace Go.Proofs.Ytdlhhoejnhjbhaa.Den
open Go Go.Proofs
set_option maxRecDepth 100000
set_option maxHeartbeats 4000000
set_option linter.unusedVariables false
set_option linter.unusedSimpArgs false
def Zjj (x0 : Int) : Bool := (bif tb (decide ((-1099511627776) ≤ x0)) then (decide (x0 ≤ 1099511627776)) else false)
theorem Zsf (x0 : Int) : cl E0 70 [(V.d (.int .i64 x0))] [] = some ([(V.d (.bool (Zjj x0)))], []) := by
 unfold Zjj
 cases h1 : tb (decide ((-1099511627776) ≤ x0))
 ·exact w70 [.b (tbE h1)] (by kernel_rfl)
 ·exact w70 [.b (tbE h1)] (by kernel_rfl)
structure Zdn where
 c2 : Int
 deriving Inhabited
def Zkm (x0 : Bool) (x1 : List Int) (x2 : Int) (s0 : Zdn) : List V × Mem := ([(V.d (slD (encI .i64) true 1 x0 x1)), (V.d (.int .i64 s0.c2))], [])
def Zg2 (x1 : List Int) (s0 : Zdn) : Bool := (bif tb (decide (s0.c2 < ((x1.length : Nat) : Int))) then (bif tb (inb x1.length s0.c2) then (bif tb (Zjj (gt x1 s0.c2)) then true else false) else false) else false)
def Zka (x1 : List Int) (s0 : Zdn) : Zdn := ⟨(wi (s0.c2 + 1))⟩
def Zk3 (x1 : List Int) (s0 : Zdn) : Bool := (itS (Zg2 x1) (Zka x1) bound s0).isSome
def Zgq (x1 : List Int) (s0 : Zdn) : Zdn := (itS (Zg2 x1) (Zka x1) bound s0).getD default
theorem Zra (x0 : Bool) (x1 : List Int) (x2 : Int) (s0 : Zdn) : Zg2 x1 s0 = true → (roundG (runC E0 (cl E0) L42_0) [0, 3] [2] 0) (Zkm x0 x1 x2 s0) = some (.normal, Zkm x0 x1 x2 (Zka x1 s0)) := by
 unfold Zg2 Zka
 cases h1 : tb (decide (s0.c2 < ((x1.length : Nat) : Int)))
 ·exact ZN
 ·cases h2 : tb (inb x1.length s0.c2)
  ·exact ZN
  ·cases h3 : tb (Zjj (gt x1 s0.c2))
   ·exact ZN
   ·exact fun _ => Zv [.o 7 (fun _ => Zes (enc := (encI .i64)) (l := x1) (fl := true) (n := x0) (s := 1)), .b (tbE h1), .o 13 (fun _ => Zn (enc := (encI .i64)) (l := x1) (fl := true) (n := x0) (s := 1) (k := .i64) (tbE h2)), .c (Zsf (gt x1 s0.c2)), .b (notT (tbE h3))] (by kernel_rfl)
def Zid (x1 : List Int) (s0 : Zdn) : Bool := (bif tb (decide (s0.c2 < ((x1.length : Nat) : Int))) then (bif tb (inb x1.length s0.c2) then true else false) else false)
def Zkc (x1 : List Int) (s0 : Zdn) : Bool := (bif tb (decide (s0.c2 < ((x1.length : Nat) : Int))) then false else true)
theorem Zwx (x0 : Bool) (x1 : List Int) (x2 : Int) (s0 : Zdn) : Zg2 x1 s0 = false → Zid x1 s0 = true → (roundG (runC E0 (cl E0) L42_0) [0, 3] [2] 0) (Zkm x0 x1 x2 s0) = some (.ret, ([(V.d (.bool false))], [])) := by
 unfold Zg2 Zid
 cases h1 : tb (decide (s0.c2 < ((x1.length : Nat) : Int)))
 ·intro g0 g1
  exact absurd g1 ft
 ·cases h2 : tb (inb x1.length s0.c2)
  ·intro g0 g1
   exact absurd g1 ft
  ·cases h3 : tb (Zjj (gt x1 s0.c2))
   ·intro g0 g1
    exact Zv [.o 7 (fun _ => Zes (enc := (encI .i64)) (l := x1) (fl := true) (n := x0) (s := 1)), .b (tbE h1), .o 13 (fun _ => Zn (enc := (encI .i64)) (l := x1) (fl := true) (n := x0) (s := 1) (k := .i64) (tbE h2)), .c (Zsf (gt x1 s0.c2)), .b (notF (tbE h3))] (by kernel_rfl)
   ·intro g0 g1
    exact absurd g0 tf
theorem Zw3 (x0 : Bool) (x1 : List Int) (x2 : Int) (s0 : Zdn) : Zg2 x1 s0 = false → Zid x1 s0 = false → Zkc x1 s0 = true → (roundG (runC E0 (cl E0) L42_0) [0, 3] [2] 0) (Zkm x0 x1 x2 s0) = some ((.exit 0), ([V.un], [])) := by
 unfold Zg2 Zid Zkc
 cases h1 : tb (decide (s0.c2 < ((x1.length : Nat) : Int)))
 ·intro g0 g1 g2
  exact Zv [.o 7 (fun _ => Zes (enc := (encI .i64)) (l := x1) (fl := true) (n := x0) (s := 1)), .b (tbE h1)] (by kernel_rfl)
 ·cases h2 : tb (inb x1.length s0.c2)
  ·intro g0 g1 g2
   exact absurd g2 ft
  ·cases h3 : tb (Zjj (gt x1 s0.c2))
   ·intro g0 g1 g2
    exact absurd g1 tf
   ·intro g0 g1 g2
    exact absurd g0 tf
theorem Zvt (x0 : Bool) (x1 : List Int) (x2 : Int) (s : Zdn) (hok : Zk3 x1 s = true) (c0 : Zid x1 (Zgq x1 s) = true) : loopG (roundG (runC E0 (cl E0) L42_0) [0, 3] [2] 0) bound (Zkm x0 x1 x2 s) = some (.ret, ([(V.d (.bool false))], [])) := by
 have e : itS (Zg2 x1) (Zka x1) bound s = some (Zgq x1 s) := Zis hok
 have f := Zgz e
 exact Zil (Zra x0 x1 x2) bound s _ _ _ e (fun h => by cases h) (Zwx x0 x1 x2 (Zgq x1 s) f c0)
theorem Zvn (x0 : Bool) (x1 : List Int) (x2 : Int) (s : Zdn) (hok : Zk3 x1 s = true) (c0 : Zid x1 (Zgq x1 s) = false) (c1 : Zkc x1 (Zgq x1 s) = true) : loopG (roundG (runC E0 (cl E0) L42_0) [0, 3] [2] 0) bound (Zkm x0 x1 x2 s) = some ((.exit 0), ([V.un], [])) := by
 have e : itS (Zg2 x1) (Zka x1) bound s = some (Zgq x1 s) := Zis hok
 have f := Zgz e
 exact Zil (Zra x0 x1 x2) bound s _ _ _ e (fun h => by cases h) (Zw3 x0 x1 x2 (Zgq x1 s) f c0 c1)
def Zmj (x1 : List Int) : Bool := (bif tb (Zk3 x1 (⟨0⟩ : Zdn)) then (bif tb (Zid x1 (Zgq x1 (⟨0⟩ : Zdn))) then true else (bif tb (Zkc x1 (Zgq x1 (⟨0⟩ : Zdn))) then true else false)) else false)
def Zlc (x1 : List Int) : Bool := (bif tb (Zid x1 (Zgq x1 (⟨0⟩ : Zdn))) then false else true)
theorem Zud (x0 : Bool) (x1 : List Int) : Zmj x1 = true → cl E0 42 [(V.d (slD (encI .i64) true 1 x0 x1))] [] = some ([(V.d (.bool (Zlc x1)))], []) := by
 unfold Zmj Zlc
 cases h1 : tb (Zk3 x1 (⟨0⟩ : Zdn))
 ·exact ZN
 ·cases h2 : tb (Zid x1 (Zgq x1 (⟨0⟩ : Zdn)))
  ·cases h3 : tb (Zkc x1 (Zgq x1 (⟨0⟩ : Zdn)))
   ·exact ZN
   ·exact fun g0 => w42 [.l (Zvn x0 x1 0 (⟨0⟩ : Zdn) (tbE h1) (tbE h2) (tbE h3))] (by kernel_rfl)
  ·exact fun g0 => w42 [.l (Zvt x0 x1 0 (⟨0⟩ : Zdn) (tbE h1) (tbE h2))] (by kernel_rfl)
structure Z2t where
 c2 : Int
 c3 : Int
 deriving Inhabited
structure Z3o where
 c2 : Int
 c3 : Int
 c4 : Int
 deriving Inhabited
structure Z30 where
 c1 : Int
 c2 : Int
 deriving Inhabited
structure Z2v where
 c1 : Int
 c2 : Int
 deriving Inhabited
structure Zhk where mk ::
 deriving Inhabited
def Zmy (x0 : Int) (s0 : Zhk) : List V × Mem := ([(V.d (.rs false 1 [] false)), (V.d (.int .i64 x0))], [])
def Zj1  (s0 : Zhk) : Bool := false
def Zmd  (s0 : Zhk) : Zhk := default
def Zo2  (s0 : Zhk) : Bool := (itS (Zj1 ) (Zmd ) bound s0).isSome
def Zq2  (s0 : Zhk) : Zhk := (itS (Zj1 ) (Zmd ) bound s0).getD default
theorem Zwz (x0 : Int) (s0 : Zhk) : Zj1  s0 = true → (roundG (runC E0 (cl E0) L42_0) [0, 3] [2] 0) (Zmy x0 s0) = some (.normal, Zmy x0 (Zmd  s0)) := by
 unfold Zj1 Zmd
 cases h1 : tb (decide (x0 < 0))
 ·exact ZN
 ·exact ZN
def Zme (x0 : Int) : Bool := (bif tb (decide (x0 < 0)) then false else true)
theorem Zwy (x0 : Int) (s0 : Zhk) : Zj1  s0 = false → Zme x0 = true → (roundG (runC E0 (cl E0) L42_0) [0, 3] [2] 0) (Zmy x0 s0) = some ((.exit 0), ([V.un], [])) := by
 unfold Zj1 Zme
 cases h1 : tb (decide (x0 < 0))
 ·intro g0 g1
  exact Zv [.b (tbE h1)] (by kernel_rfl)
 ·intro g0 g1
  exact absurd g1 ft
theorem Zvk (x0 : Int) (s : Zhk) (hok : Zo2  s = true) (c0 : Zme x0 = true) : loopG (roundG (runC E0 (cl E0) L42_0) [0, 3] [2] 0) bound (Zmy x0 s) = some ((.exit 0), ([V.un], [])) := by
 have e : itS (Zj1 ) (Zmd ) bound s = some (Zq2  s) := Zis hok
 have f := Zgz e
 exact Zil (Zwz x0) bound s _ _ _ e (fun h => by cases h) (Zwy x0 (Zq2  s) f c0)
def Zoy  : Bool := (bif tb (Zo2  (⟨⟩ : Zhk)) then (bif tb (Zme 0) then true else false) else false)
theorem Zys  : Zoy = true → cl E0 42 [(V.d (.rs false 1 [] false))] [] = some ([(V.d (.bool true))], []) := by
 unfold Zoy
 cases h1 : tb (Zo2  (⟨⟩ : Zhk))
 ·exact ZN
 ·cases h2 : tb (Zme 0)
  ·exact ZN
  ·exact fun g0 => w42 [.l (Zvk 0 (⟨⟩ : Zhk) (tbE h1) (tbE h2))] (by kernel_rfl)
end Go.Proofs.Ytdlhhoejnhjbhaa.Den
