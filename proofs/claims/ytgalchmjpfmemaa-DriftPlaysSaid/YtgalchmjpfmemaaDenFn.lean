/- A function: what the evaluator's call gives, the model's call gives. -/
import Derived.Test.YtgalchmjpfmemaaDenCode
namespace Go.Proofs.Ytgalchmjpfmemaa.Den
open Go
set_option linter.unusedVariables false
set_option linter.unusedSimpArgs false

variable {P : Program}

theorem tidy_ok {c c2 : Cx} (hs : PSim P c) (hp : Post P c c2) {vs r : List V} {rv : List Value} {m' : Mem} (hr : RelVs c2 vs rv) (h : tidy c.m.length (vs, c2.m) = some (r, m')) : Left P c r m' (.returned (packR rv)) c2.w := by
  unfold tidy at h
  split at h
  · cases h
    exact ⟨rv, c2, rfl, rfl, rfl, hp, hr⟩
  · simp only at h
    generalize hfresh : (reach c2.m 1000 (V.idss vs ++ List.range c.m.length) []).filter (fun j => decide (c.m.length ≤ j)) = fresh at h
    split at h
    case isFalse => cases h
    rename_i hd
    obtain ⟨nb, hnb, h⟩ := Option.map_eq_some_iff.1 h
    cases h
    obtain ⟨p1, p2⟩ := pickBlks_spec hnb
    let ρ := tidyRen c.m.length fresh
    let m2 : Mem := (c2.m.take c.m.length).map (Blk.ren ρ) ++ nb
    let c' : Cx := ⟨fun i => if i < c.m.length then c2.φ i else (fresh[i - c.m.length]?).bind c2.φ, m2, c.I, c2.w⟩
    have hlen : c.m.length ≤ c2.m.length := by
      rcases Nat.eq_zero_or_pos c.m.length with h0 | h0
      · omega
      · obtain ⟨b, hb⟩ : ∃ b, c.m[c.m.length - 1]? = some b := ⟨_, List.getElem?_eq_getElem (by omega)⟩
        obtain ⟨b', hb', _⟩ := hp.st.blk _ b hb
        have := (List.getElem?_eq_some_iff.1 hb').1
        omega
    have hml : m2.length = c.m.length + fresh.length := by simp [m2, p1]; omega
    have hfr : ∀ t j, fresh[t]? = some j → c.m.length ≤ j := fun t j ht => by
      have := List.mem_of_getElem? ht
      rw [← hfresh] at this
      have := (List.mem_filter.1 this).2
      simpa using this
    have old : ∀ i, i < c.m.length → m2[i]? = (c2.m[i]?).map (Blk.ren ρ) := fun i hi => by
      simp only [m2]
      rw [List.getElem?_append_left (by simp; omega)]
      simp [List.getElem?_take, hi]
    have new : ∀ k, m2[c.m.length + k]? = nb[k]? := fun k => by
      simp only [m2]
      rw [List.getElem?_append_right (by simp; omega)]
      congr 1; simp; omega
    have hren : Ren ρ c2 c' := by
      refine ⟨fun b o h => ⟨by show c.I b o; rw [← hp.imm]; exact h, fun _ h => h⟩, fun i j hij blk hb => ?_⟩
      obtain ⟨o1, o2, o3, _, _⟩ := ren_len ρ blk
      simp only [ρ, tidyRen] at hij
      split at hij
      · rename_i hlt
        cases hij
        refine ⟨blk.ren ρ, by show m2[i]? = _; rw [old i hlt, hb]; rfl, o1, o2, o3, fun B hB => ⟨?_, fun _ _ h => h⟩⟩
        simp only [c', hlt, if_true]; exact hB
      · rename_i hge
        obtain ⟨t, ht, rfl⟩ := Option.map_eq_some_iff.1 hij
        have hti := idxOf_some ht
        obtain ⟨b, q1, q2⟩ := p2 t i hti
        rw [hb] at q1; cases q1
        refine ⟨blk.ren ρ, by show m2[t + c.m.length]? = _; rw [Nat.add_comm, new, q2], o1, o2, o3, fun B hB => ⟨?_, fun _ _ h => h⟩⟩
        simp only [c']
        rw [if_neg (by omega), show t + c.m.length - c.m.length = t by omega, hti]
        exact hB
    have hφ : ∀ i B, c'.φ i = some B → (i < c.m.length ∧ c2.φ i = some B) ∨ ∃ t j, i = c.m.length + t ∧ fresh[t]? = some j ∧ c2.φ j = some B := fun i B hi => by
      simp only [c'] at hi
      split at hi
      · rename_i hlt; exact .inl ⟨hlt, hi⟩
      · rename_i hge
        obtain ⟨j, h1, h2⟩ := Option.bind_eq_some_iff.1 hi
        exact .inr ⟨i - c.m.length, j, by omega, h1, h2⟩
    have noI : ∀ i B, c2.φ i = some B → ∀ o, ¬ c.I B o := fun i B hi o hI => hp.sim.noI hi o (by rw [hp.imm]; exact hI)
    have hst : St c c' := by
      refine ⟨fun b o hI => ⟨hI, (hp.st.keep b o hI).2⟩, fun i blk hb => ?_⟩
      have hi : i < c.m.length := (List.getElem?_eq_some_iff.1 hb).1
      obtain ⟨b2, g1, g2, g3, g4⟩ := hp.st.blk i blk hb
      obtain ⟨o1, o2, o3, _, _⟩ := ren_len ρ b2
      refine ⟨b2.ren ρ, by show m2[i]? = _; rw [old i hi, g1]; rfl, by rw [o1]; exact g2, fun hl => ⟨by rw [o3]; exact (g3 hl).1, by rw [o1]; exact (g3 hl).2⟩, fun he => ?_⟩
      obtain ⟨k1, k2⟩ := g4 (by rw [← o1]; exact he)
      refine ⟨by rw [o2]; exact k1, fun B hB => ⟨?_, (k2 B hB).2⟩⟩
      simp only [c', hi, if_true]; exact (k2 B hB).1
    refine ⟨rv, c', rfl, rfl, rfl, ⟨hst, ⟨fun i blk B hb hi => ?_, fun i j B hi hj => ?_, fun i B hi => ?_, fun b o hI => Nat.lt_of_lt_of_le (hs.imm b o hI) hp.keeps.size⟩, ⟨hp.keeps.size, hp.keeps.os, hp.keeps.tape, hp.keeps.output, hp.keeps.heap, fun i B hi => ?_, fun i blk hb => ?_, fun i blk hb hpr => ?_, fun i B hi hlt => ?_⟩, rfl⟩, RelVs.ren hren _ _ hr⟩
    · have hb' : m2[i]? = some blk := hb
      rcases hφ i B hi with ⟨hlt, h2⟩ | ⟨t, j, rfl, h1, h2⟩
      · rw [old i hlt] at hb'
        obtain ⟨b2, q1, rfl⟩ := Option.map_eq_some_iff.1 hb'
        exact (hp.sim.blk i b2 B q1 h2).ren hren (noI i B h2) (fun x hx => hx)
      · rw [new] at hb'
        obtain ⟨b2, q1, q2⟩ := p2 t j h1
        rw [q2] at hb'; cases hb'
        exact (hp.sim.blk j b2 B q1 h2).ren hren (noI j B h2) (fun x hx => hx)
    · rcases hφ i B hi with ⟨hlt, h2⟩ | ⟨t, i', rfl, h1, h2⟩ <;> rcases hφ j B hj with ⟨hlt', h2'⟩ | ⟨t', j', rfl, h1', h2'⟩
      · exact hp.sim.inj i j B h2 h2'
      · have e := hp.sim.inj i j' B h2 h2'
        have := hfr t' j' h1'
        omega
      · have e := hp.sim.inj j i' B h2' h2
        have := hfr t i' h1
        omega
      · have e := hp.sim.inj i' j' B h2 h2'
        subst e
        have e1 := idxOf_of hd h1
        have e2 := idxOf_of hd h1'
        rw [e1] at e2; cases e2; rfl
    · show i < m2.length
      rcases hφ i B hi with ⟨hlt, _⟩ | ⟨t, j, rfl, h1, _⟩
      · omega
      · have := (List.getElem?_eq_some_iff.1 h1).1
        omega
    · rcases hφ i B hi with ⟨hlt, h2⟩ | ⟨t, j, rfl, h1, h2⟩
      · exact hp.keeps.fresh i B h2
      · rcases hp.keeps.fresh j B h2 with h3 | h3
        · have := hs.dom j B h3
          have := hfr t j h1
          omega
        · exact .inr h3
    · have hi : i < c.m.length := (List.getElem?_eq_some_iff.1 hb).1
      obtain ⟨b2, g1, g2⟩ := hp.keeps.prot i blk hb
      exact ⟨b2.ren ρ, by show m2[i]? = _; rw [old i hi, g1]; rfl, by rw [(ren_len ρ b2).2.2.2.1]; exact g2⟩
    · have hi : i < c.m.length := (List.getElem?_eq_some_iff.1 hb).1
      obtain ⟨b2, g1, g2, g3, g4⟩ := hp.keeps.same i blk hb hpr
      obtain ⟨o1, o2, o3, _, _⟩ := ren_len ρ b2
      exact ⟨b2.ren ρ, by show m2[i]? = _; rw [old i hi, g1]; rfl, by rw [o1]; exact g2, by rw [o2]; exact g3, by rw [o3]; exact g4⟩
    · rcases hφ i B hi with ⟨hlt2, h2⟩ | ⟨t, j, e, h1, h2⟩
      · exact hp.keeps.old i B h2 hlt2
      · have : i < c.m.length := hlt
        omega

theorem loadAt_pointer {t : TypeId} {xv u : Value} {w w' : World} (h : (Instr.loadAt t xv).run P w = .ok u w') : ∃ a, xv = .pointer (some a) ∧ (loadVar t a).run P w = .ok u w' := by
  unfold Instr.loadAt Instr.sureAddr at h
  split at h
  · rename_i a; exact ⟨a, rfl, by simpa using h⟩
  · simp at h

theorem results_ok {E : Env} {nt : Nat} {c : Cx} {s : S} {a : Act} (hs : SRel P E nt c s a) : ∀ (l : List ResultVar) (rs : List RV) (vs : List V), cRVs P l = some rs → resVs s rs = some vs →
    ∃ rv, (l.mapM fun x => (match x with
      | .tmp t => pure (a.tmps.getD t undef)
      | .cell p t => do loadVar t (← asAddr (a.tmps.getD p undef)) : Sem Value)).run P c.w = .ok rv c.w ∧ RelVs c vs rv
  | [], rs, vs, hc, hr => by
    simp [cRVs] at hc; subst hc
    simp [resVs] at hr; subst hr
    exact ⟨[], by simp, by simp [RelVs]⟩
  | x :: l, rs, vs, hc, hr => by
    simp only [cRVs] at hc
    cases h1 : cRV P x with
    | none => simp [h1] at hc
    | some r =>
      cases h2 : cRVs P l with
      | none => simp [h1, h2] at hc
      | some rl =>
        simp [h1, h2] at hc; subst hc
        simp only [resVs] at hr
        cases h3 : resV s r with
        | none => simp [h3] at hr
        | some v =>
          cases h4 : resVs s rl with
          | none => simp [h3, h4] at hr
          | some vl =>
            simp [h3, h4] at hr; subst hr
            obtain ⟨rv, g1, g2⟩ := results_ok hs l rl vl h2 h4
            have key : ∃ u, ((match x with
                | .tmp t => pure (a.tmps.getD t undef)
                | .cell p t => do loadVar t (← asAddr (a.tmps.getD p undef)) : Sem Value)).run P c.w = .ok u c.w ∧ RelV c v u := by
              cases x with
              | tmp t =>
                simp [cRV] at h1; subst h1
                simp [resV] at h3; subst h3
                exact ⟨_, rfl, hs.t t⟩
              | cell p t =>
                simp only [cRV] at h1
                cases q1 : aggOf P t <;> cases q2 : sizeOfT P t <;> simp [q1, q2] at h1
                subst h1
                simp only [resV] at h3
                rw [← hs.m] at h3
                obtain ⟨u, k1, k2⟩ := load_ok hs.sim q1 q2 (hs.t p) h3
                obtain ⟨ad, e1, e2⟩ := loadAt_pointer k1
                exact ⟨u, by simp [e1, asAddr, e2], k2⟩
            obtain ⟨u, k1, k2⟩ := key
            refine ⟨u :: rv, ?_, by simp only [RelVs]; exact ⟨u, rv, rfl, k2, g2⟩⟩
            rw [List.mapM_cons]
            simp only [Sem.run_bind, k1, Result.andThen_ok, g1, Sem.run_pure]

theorem results_run {E : Env} {nt : Nat} {c : Cx} {s : S} {a : Act} (hs : SRel P E nt c s a) {fn : Func} {rs : List RV} {vs : List V} (hc : cRVs P fn.results.toList = some rs) (hr : resVs s rs = some vs) :
    ∃ rv, (results fn a.tmps).run P c.w = .ok (packR rv) c.w ∧ RelVs c vs rv := by
  obtain ⟨rv, h1, h2⟩ := results_ok hs _ _ _ hc hr
  refine ⟨rv, ?_, h2⟩
  unfold results
  rw [Array.mapM_eq_mapM_toList]
  have h1' : (fn.results.toList.mapM fun
      | .tmp t => pure (a.tmps.getD t undef)
      | .cell p t => do loadVar t (← asAddr (a.tmps.getD p undef)) : Sem (List Value)).run P c.w = .ok rv c.w := h1
  simp only [Sem.run_bind, Sem.run_map]
  erw [h1']
  simp only [Result.andThen_ok, Sem.run_pure]
  congr 1
  match rv with
  | [] => simp [packR]
  | [v] => simp [packR]
  | v :: v' :: r => simp [packR]

theorem fn_ok {E : Env} {call : CallT} (hcall : CallOK P E call) (hdraw : DrawOK P) {f : FuncId} {fn : Func} {F : CFunc} (hf : P.funcs[f]? = some fn) (hF : cFn P fn = some F) {args r : List V} {m m' : Mem} (h : runF E call F args m = some (r, m'))
    {c : Cx} {vals : List Value} (hs : PSim P c) (hm : c.m = m) (hg : GlOK E c) (ha : RelVs c args vals) : Enterable P f ∧ Calls P f ⟨vals⟩ c.w (Left P c r m') := by
  subst hm
  unfold cFn at hF
  cases hb : fn.body with
  | none => simp [hb] at hF
  | some body =>
    simp only [hb] at hF
    split at hF
    · cases hF
    rename_i hname
    cases h1 : cCode P fn.ntmps body with
    | none => simp [h1] at hF
    | some C0 =>
      cases h2 : cRVs P fn.results.toList with
      | none => simp [h1, h2] at hF
      | some rs =>
        simp [h1, h2] at hF
        subst hF
        simp only [runF] at h
        split at h
        case isFalse => cases h
        rename_i hle
        have hvl := ha.len
        have hs0 : SRel P E fn.ntmps c ⟨initT args, c.m⟩ { tmps := (⟨vals⟩ : Array Value) ++ Array.replicate (fn.ntmps - (⟨vals⟩ : Array Value).size) undef, defers := [] } := by
          refine ⟨hs, rfl, fun j => ?_, hg, by simp; omega⟩
          simp only [initT, Array.getD_eq_getD_getElem?]
          by_cases hj : j < args.length
          · obtain ⟨u, hu, hr⟩ := ha.at j args[j] (List.getElem?_eq_getElem hj)
            have : (((⟨vals⟩ : Array Value) ++ Array.replicate (fn.ntmps - (⟨vals⟩ : Array Value).size) undef))[j]? = some u := by
              rw [Array.getElem?_append_left (by simp; omega)]; simpa using hu
            rw [this]
            simp [List.getD, hj]
            exact hr
          · have e1 : args.getD j (.tup []) = .tup [] := by simp [List.getD, List.getElem?_eq_none (Nat.le_of_not_lt hj)]
            rw [e1]
            have : (((⟨vals⟩ : Array Value) ++ Array.replicate (fn.ntmps - (⟨vals⟩ : Array Value).size) undef))[j]?.getD undef = undef := by
              rw [Array.getElem?_append_right (by simp; omega)]
              simp only [Array.getElem?_replicate]
              split <;> rfl
            rw [this]; exact undef_rel c
        have fin : ∀ (x : X) (s' : S), (x = .normal ∨ x = .ret) → runC E call C0 ⟨initT args, c.m⟩ = some (x, s') → ((resVs s' rs).bind fun vs => tidy c.m.length (vs, s'.m)) = some (r, m') → Calls P f ⟨vals⟩ c.w (Left P c r m') := by
          intro x s' hx hrun hres
          obtain ⟨vs, hvs, htidy⟩ := Option.bind_eq_some_iff.1 hres
          refine calls_of_wp hf hb (wp_mono (code_ok hcall hdraw body C0 c _ s' _ x h1 hrun hs0) ?_)
          rintro e a' w' ⟨c2, rfl, rfl, hp, hs2, hd⟩
          obtain ⟨rv, k1, k2⟩ := results_run hs2 h2 hvs
          have hl : Left P c r m' (.returned (packR rv)) c2.w := tidy_ok hs hp k2 (by rw [hs2.m]; exact htidy)
          rcases hx with rfl | rfl
          · exact ⟨hd, _, k1, hl⟩
          · exact ⟨hd, _, k1, hl⟩
        refine ⟨⟨fn, hf, by simpa using hname, by simp [hb]⟩, ?_⟩
        split at h
        · rename_i s' hrun; exact fin .normal s' (.inl rfl) hrun h
        · rename_i s' hrun; exact fin .ret s' (.inr rfl) hrun h
        · cases h

/-- The environment's functions are the program's; what is given beside them is true. -/
structure EnvOK (P : Program) (E : Env) : Prop where
  cf : ∀ f F, E.cf f = some F → cAt P f = some F
  ext : CallOK P E E.ext

theorem callD_ok {E : Env} (hE : EnvOK P E) (hdraw : DrawOK P) : ∀ n, CallOK P E (callD E n)
  | 0 => fun f args m r m' h => by simp [callD] at h
  | n + 1 => fun f args m r m' h c vals hs hm hg ha => by
    simp only [callD] at h
    split at h
    · rename_i r0 he
      cases h
      exact hE.ext f args m r m' he c vals hs hm hg ha
    · split at h
      · rename_i F hF
        have hc := hE.cf f F hF
        unfold cAt at hc
        obtain ⟨fn, hf, hc⟩ := Option.bind_eq_some_iff.1 hc
        exact fn_ok (callD_ok hE hdraw n) hdraw hf hc h hs hm hg ha
      · cases h

end Go.Proofs.Ytgalchmjpfmemaa.Den
