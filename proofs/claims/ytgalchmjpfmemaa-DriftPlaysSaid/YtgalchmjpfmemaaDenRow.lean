/- A law's row, out of what the evaluator tells. -/
import Derived.Test.YtgalchmjpfmemaaDenOpen
import Derived.OpenShut
namespace Go.Proofs.Ytgalchmjpfmemaa.Den
open Go Go.ChangeShapes Go.WideShapes Go.ChangeAt Go.RowKit
set_option linter.unusedVariables false
set_option linter.unusedSimpArgs false

/-- An argument of a type, out of its data. -/
def argV (P : Program) (t : TypeId) (ds : List D) : V :=
  match P.underlying t with
  | some (.struct _) | some (.array _ _) => .agg (ds.map V.d)
  | _ => match ds with | d :: _ => .d d | [] => .un

def argsV (P : Program) : List TypeId → List (List D) → List V
  | t :: ts, ds :: r => argV P t ds :: argsV P ts r
  | _, _ => []

def TyAll (P : Program) (n : Nat) : List TypeId → List (List D) → Prop
  | [], r => r = []
  | t :: ts, r => ∃ ds r', r = ds :: r' ∧ Ty P n t ds ∧ TyAll P n ts r'

def cx0 (w : World) : Cx := ⟨fun _ => none, [], immAll w, w⟩

theorem cx0_sim (P : Program) (w : World) : PSim P (cx0 w) :=
  ⟨fun _ _ _ h => by simp [cx0] at h, fun _ _ _ h => by simp [cx0] at h, fun _ _ h => by simp [cx0] at h, fun b o h => h⟩

section
variable {P : Program} {H : Type} {enc : TypeId × Value → H} {w : World}

theorem open_arg {n base : Nat} {r : Reach} {t : TypeId} {v : Value} {d : DataW H} {ps : List MemPlace} (hg : goodT P n t = true) (hval : Value.okWide P w r base t v) (h : DataW.Trod enc P w 0 (fun _ => true) true t v d ps) :
    ∃ ds, Ty P n t ds ∧ RelV (cx0 w) (argV P t ds) v := by
  obtain ⟨fuel, h⟩ := h
  obtain ⟨ds, h1, h2⟩ := trod_open fuel n t _ _ hg h
  refine ⟨ds, h1, ?_⟩
  obtain ⟨g1, g2⟩ := RelDs.rel (φ := fun _ => none) (m := []) h2
  have one : (∀ cs, v ≠ .agg cs) → (∃ d r, ds = d :: r) → (∀ d r, ds = d :: r → RelV (cx0 w) (.d d) v) := fun hna _ d r e => by
    have hc : v.cells.toList = [v] := by cases v <;> first | rfl | exact absurd rfl (hna _)
    rw [hc] at h2
    subst e
    simp only [RelDs] at h2
    obtain ⟨u, us, e, _, hr, _⟩ := h2
    cases e
    simp only [RelV]
    exact hr
  cases n with
  | zero => simp [Ty] at h1
  | succ n =>
    simp only [Ty] at h1
    simp only [argV]
    cases hu : P.underlying t with
    | none => simp [hu] at h1
    | some dsc =>
      rw [hu] at h1
      have hnag : (∀ fs, dsc ≠ .struct fs) → (∀ m e, dsc ≠ .array m e) → ∀ cs, v ≠ .agg cs := fun h1 h2 cs hv => by
        subst hv
        simp only [Value.okWide, hu, Cell.okWide] at hval
        cases dsc <;> simp_all [Cell.ok]
      cases dsc with
      | bool => obtain ⟨b, rfl⟩ := h1; exact one (hnag (by simp) (by simp)) ⟨_, _, rfl⟩ _ _ rfl
      | int k => obtain ⟨b, rfl, _⟩ := h1; exact one (hnag (by simp) (by simp)) ⟨_, _, rfl⟩ _ _ rfl
      | string => obtain ⟨b, rfl, _⟩ := h1; exact one (hnag (by simp) (by simp)) ⟨_, _, rfl⟩ _ _ rfl
      | slice e =>
        rcases h1 with rfl | ⟨rows, rfl, _⟩
        · exact one (hnag (by simp) (by simp)) ⟨_, _, rfl⟩ _ _ rfl
        · exact one (hnag (by simp) (by simp)) ⟨_, _, rfl⟩ _ _ rfl
      | struct fs =>
        simp only [Value.okWide, hu] at hval
        obtain ⟨cs, rfl, _⟩ := hval
        simp only [RelV]
        exact ⟨cs.toList, rfl, g1, g2⟩
      | array m e =>
        simp only [Value.okWide, hu] at hval
        obtain ⟨cs, rfl, _⟩ := hval
        simp only [RelV]
        exact ⟨cs.toList, rfl, g1, g2⟩
      | _ => simp at h1

theorem open_args {n base : Nat} {r : Reach} : ∀ (ts : List TypeId) (vs : List Value) (ds : List (DataW H)) (ps : List MemPlace), (ts.all fun t => goodT P n t) = true →
    (∀ (j : Nat) t v, ts[j]? = some t → vs[j]? = some v → Value.okWide P w r base t v) → DataW.TrodAll enc P w 0 (fun _ => true) true ts vs ds ps → ∃ rs, TyAll P n ts rs ∧ RelVs (cx0 w) (argsV P ts rs) vs
  | [], vs, ds, ps, _, _, h => by
    obtain ⟨rfl, _, _⟩ := trodAll_nil h
    exact ⟨[], rfl, by simp [argsV, RelVs]⟩
  | t :: ts, vs, ds, ps, hg, hval, h => by
    simp only [List.all_cons, Bool.and_eq_true] at hg
    obtain ⟨v, vs', d, ds', p, q, rfl, rfl, rfl, h1, h2⟩ := trodAll_cons h
    obtain ⟨rs, g1, g2⟩ := open_args ts vs' ds' q hg.2 (fun j t v ht hv => hval (j + 1) t v (by simpa using ht) (by simpa using hv)) h2
    obtain ⟨r0, k1, k2⟩ := open_arg hg.1 (hval 0 t v (by simp) (by simp)) h1
    refine ⟨r0 :: rs, ⟨r0, rs, rfl, k1, g1⟩, ?_⟩
    simp only [argsV, RelVs]
    exact ⟨v, vs', rfl, k2, g2⟩

theorem args_back (hl : laidOutB P = true) {W' : World} (hb : Below w.heap.size w W') : ∀ (ts : List TypeId) (vs : List Value) (ds : List (DataW H)) (ps : List MemPlace), (∀ t, t ∈ ts → P.readableRec t = true ∧ t < P.types.size) →
    (∀ x, x ∈ ps → x.block < w.heap.size) → DataW.TrodAll enc P w 0 (fun _ => true) true ts vs ds ps → DataW.TrodAll enc P W' 0 (fun b => decide (b < w.heap.size)) true ts vs ds ps
  | [], vs, ds, ps, _, _, h => by
    obtain ⟨rfl, rfl, rfl⟩ := trodAll_nil h
    exact trodAll_mk0
  | t :: ts, vs, ds, ps, hr, hlt, h => by
    obtain ⟨v, vs', d, ds', p, q, rfl, rfl, rfl, h1, h2⟩ := trodAll_cons h
    obtain ⟨g1, g2⟩ := hr t (by simp)
    exact trodAll_cons_mk (Below.trod hl g1 g2 h1 hb fun x hx => hlt x (List.mem_append_left _ hx)) (args_back hl hb ts vs' ds' q (fun t ht => hr t (by simp [ht])) (fun x hx => hlt x (List.mem_append_right _ hx)) h2)

/-- What the evaluator tells of a law is what the call does. -/
theorem calls_law (hm : P.follows .mixedOrders = true) {E : Env} (hE : EnvOK P E) {f : FuncId} {args : List V} {vals : List Value} {k : Nat} {m' : Mem} (hgl : GlOK E (cx0 w)) (ha : RelVs (cx0 w) args vals) (h : callD E k f args [] = some ([.d (.bool true)], m')) :
    Calls P f ⟨vals⟩ w fun e w' => e = .returned (.bool true) ∧ Below w.heap.size w w' := by
  refine ((callD_ok hE (draw_ok hm) k) f args [] _ m' h (cx0 w) vals (cx0_sim P w) rfl hgl ha).2.mono ?_
  rintro e w' ⟨rv, c', rfl, rfl, _, hp, hr⟩
  refine ⟨?_, hp.keeps.os, hp.keeps.tape, hp.keeps.output, hp.keeps.size, fun b hb => ?_⟩
  · simp only [RelVs] at hr
    obtain ⟨u, us, rfl, hu, rfl⟩ := hr
    simp only [RelV, RelD] at hu
    rw [hu]; rfl
  · have hb' : ∃ o, w.heap[b]? = some o := ⟨w.heap[b], by simp [hb]⟩
    obtain ⟨o, ho⟩ := hb'
    rw [ho]
    exact hp.keeps.heap b o ho fun ⟨id, blk, h1, _⟩ => by simp [cx0] at h1

end

/-- A law's row, lifted. -/
theorem law_lifted {C : Checked} (hm : C.prog.follows .mixedOrders = true) {E : Env} (hE : EnvOK C.prog E) (hgl : ∀ w, GlOK E (cx0 w)) {os : Os} {f : FuncId} {fn : Func} {s : ChangeSpec} {H : Type} {enc : TypeId × Value → H}
    (own : ownKnob C.prog.godebug = none) (started : os.Started) (noInit : C.prog.inits.idxOf? f = none) (hfn : C.prog.funcs[f]? = some fn) (hl : laidOutB C.prog = true)
    (witness : ∃ (w : World) (tape : Tape) (i : Input), w.os = os ∧ (w.forCall tape i).Shaped C.prog ∧ i.vars = [] ∧ Input.okWide C.prog (w.forCall tape i) .any w.heap.size f i ∧
      s.pre6 enc C.prog fn [] false (w.forCall tape i).memory i.args ∧ Assume.holds {} C.prog (lone (Frame.enter C.prog f i.args .normal) [] (w.forCall tape i)))
    (hgood : (fn.params.toList.all fun t => goodT C.prog 20 t && C.prog.readableRec t && decide (t < C.prog.types.size)) = true) {rt : TypeId} (hres : fn.resultTypes = #[rt]) (hrt : C.prog.underlying rt = some .bool)
    (hvars : s.vars = []) (hspec : ∀ ds : List (DataW H), ds.length = fn.params.toList.length → s.fn H ds = { results := [.lit (.bool true)], args := ds })
    (hlaw : ∀ rs, TyAll C.prog 20 fn.params.toList rs → ∃ k m', callD E k f (argsV C.prog fn.params.toList rs) [] = some ([.d (.bool true)], m')) :
    ReturnsInHanded {} C os f .any (s.pre6 enc C.prog fn [] false) (s.post enc C.prog fn false true false false) := by
  refine returnsInHanded_of_change own started noInit hfn witness ?_
  intro W base args ds gs before hval hW _ _
  have hW' := hW
  obtain ⟨p, q, hA, hV, rfl, hfz, hnd⟩ := hW
  rw [hvars] at hV
  obtain ⟨rfl, rfl⟩ := trodVars_none hV
  have hgd : ∀ t, t ∈ fn.params.toList → goodT C.prog 20 t = true ∧ C.prog.readableRec t = true ∧ t < C.prog.types.size := fun t ht => by
    have := List.all_eq_true.1 hgood t ht
    simpa [Bool.and_eq_true, and_assoc] using this
  obtain ⟨rs, h1, h2⟩ := open_args (n := 20) fn.params.toList args.toList ds p (List.all_eq_true.2 fun t ht => (hgd t ht).1) (fun j t v ht hv => hval j t v (by simpa using ht) (by simpa using hv)) hA
  obtain ⟨k, m', hk⟩ := hlaw rs h1
  refine (calls_law hm hE (hgl W) h2 hk).mono fun e W' ⟨he, bel⟩ => ?_
  subst he
  have hlen : ds.length = fn.params.toList.length := by
    have : ∀ (ts : List TypeId) (vs : List Value) (ds : List (DataW H)) (ps : List MemPlace), DataW.TrodAll enc C.prog W 0 (fun _ => true) true ts vs ds ps → ds.length = ts.length := by
      intro ts
      induction ts with
      | nil => intro vs ds ps h; obtain ⟨_, rfl, _⟩ := trodAll_nil h; rfl
      | cons t ts ih => intro vs ds ps h; obtain ⟨v, vs', d, ds', p, q, rfl, rfl, rfl, _, h2⟩ := trodAll_cons h; simp [ih _ _ _ h2]
    exact this _ _ _ _ hA
  have hs := hspec ds hlen
  refine ⟨_, rfl, ds, [], _, [], p, [], hW', ?_, ?_, ?_, bel.frame _, fun h => by cases h⟩
  · rw [List.append_nil, hs, hres]
    exact trodAll_mk1 (shut_bool hrt _)
  · rw [List.append_nil, hs]
    exact args_back hl bel _ _ _ _ (fun t ht => (hgd t ht).2) (fun x hx => by simpa using hW'.lt x (by simpa using hx)) hA
  · rw [hvars, List.append_nil, hs]; rfl

/-! ### a type's data, opened -/
section
variable {P : Program} {n : Nat} {t : TypeId} {ds : List D}
theorem ty_bool (h : Ty P (n + 1) t ds) (hu : P.underlying t = some .bool) : ∃ b, ds = [.bool b] := by simpa only [Ty, hu] using h
theorem ty_int {k : IntKind} (h : Ty P (n + 1) t ds) (hu : P.underlying t = some (.int k)) : ∃ z, ds = [.int k z] ∧ (Lit.int k z).wf = true := by simpa only [Ty, hu] using h
theorem ty_str (h : Ty P (n + 1) t ds) (hu : P.underlying t = some .string) : ∃ s, ds = [.str s] ∧ s.size ≤ maxLen := by simpa only [Ty, hu] using h
theorem ty_slice {e : TypeId} (h : Ty P (n + 1) t ds) (hu : P.underlying t = some (.slice e)) : ds = [.nils] ∨ ∃ rows, ds = [.rs (isFlat P e) (P.cellsOf e) rows false] ∧ rows.length ≤ maxLen ∧ ∀ r, r ∈ rows → Ty P n e r := by simpa only [Ty, hu] using h
theorem ty_struct {fs : Array Field} (h : Ty P (n + 1) t ds) (hu : P.underlying t = some (.struct fs)) : TyFs (Ty P n) fs.toList ds := by simpa only [Ty, hu] using h
theorem ty_arr {m : Nat} {e : TypeId} (h : Ty P (n + 1) t ds) (hu : P.underlying t = some (.array m e)) : ∃ rows : List (List D), rows.length = m ∧ ds = rows.flatten ∧ ∀ r, r ∈ rows → Ty P n e r := by simpa only [Ty, hu] using h
theorem tyfs_nil {T : TypeId → List D → Prop} (h : TyFs T [] ds) : ds = [] := h
theorem tyfs_cons {T : TypeId → List D → Prop} {f : Field} {fs : List Field} (h : TyFs T (f :: fs) ds) : ∃ a b, ds = a ++ b ∧ T f.type a ∧ TyFs T fs b := h
end

end Go.Proofs.Ytgalchmjpfmemaa.Den
