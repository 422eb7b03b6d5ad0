import Derived.Test.YtgeoeagohhojbaaAs18
namespace Go.AS
open Go
set_option linter.unusedVariables false
set_option linter.unusedSimpArgs false

/-- Where a result stands. -/
inductive RV where
  | tmp (t : Nat)
  | one (t : Nat)
  | many (t n : Nat)

def cRes (P : Program) (N : Nat) : List ResultVar → Option (List RV)
  | [] => some []
  | .tmp t :: r => if t < N then (cRes P N r).map (RV.tmp t :: ·) else none
  | .cell x t :: r => if x < N then (match P.underlying t with
    | some d => if aggD d then (match P.info? t with | some i => (cRes P N r).map (RV.many x i.size :: ·) | none => none) else (cRes P N r).map (RV.one x :: ·)
    | none => none) else none

def resV (a : AT) (A : AH) : RV → Option Value
  | .tmp t => some (a t)
  | .one t => (sLoad1 A (a t)).map (·.1)
  | .many t n => (sLoadn A (a t) n).map (·.1)

def resVs (a : AT) (A : AH) : List RV → Option (List Value)
  | [] => some []
  | r :: l => (resV a A r).bind fun v => (resVs a A l).map (v :: ·)

def tupleOf : List Value → Value
  | [v] => v
  | vs => .tuple vs.toArray

def postA (rs : List RV) (Q : Value → AH → Prop) : Exit → AT → AH → Prop
  | .normal, a, A | .ret, a, A => ∃ vs, resVs a A rs = some vs ∧ Q (tupleOf vs) A
  | _, _, _ => False

def initA (args : List Value) : AT := fun j => args.getD j undef

section
variable {G : Nat} {P : Program} {N : Nat}

def resRun (P : Program) (tmps : Array Value) : ResultVar → Sem Value
  | .tmp t => pure (tmps.getD t undef)
  | .cell a t => do loadVar t (← asAddr (tmps.getD a undef))

theorem resV_run {μ : Mu} {a : AT} {A : AH} {r : Act} {w : World} (hr : Rel G μ A w) (ha : ActR μ N a r) : ∀ (l : List ResultVar) (rs : List RV) (vs : List Value), cRes P N l = some rs → resVs a A rs = some vs →
    ∃ vs' : List Value, (l.mapM (resRun P r.tmps)).run P w = .ok vs' w ∧ vs'.length = vs.length ∧ ∀ (j : Nat) v v', vs[j]? = some v → vs'[j]? = some v' → VR μ v v'
  | [], rs, vs, h1, h2 => by
    simp only [cRes, Option.some.injEq] at h1; subst h1
    simp only [resVs, Option.some.injEq] at h2; subst h2
    exact ⟨[], rfl, rfl, fun j v v' h => by simp at h⟩
  | rv :: l, rs, vs, h1, h2 => by
    -- one result
    have one : ∀ (k : RV) (rs' : List RV) (v : Value), cRes P N l = some rs' → resV a A k = some v → (∃ v', (resRun P r.tmps rv).run P w = .ok v' w ∧ VR μ v v') → rs = k :: rs' →
        ∃ vs' : List Value, ((rv :: l).mapM (resRun P r.tmps)).run P w = .ok vs' w ∧ vs'.length = vs.length ∧ ∀ (j : Nat) v v', vs[j]? = some v → vs'[j]? = some v' → VR μ v v' := by
      intro k rs' v hl hk hv hrs
      subst hrs
      simp only [resVs, Option.bind_eq_some_iff, Option.map_eq_some_iff] at h2
      obtain ⟨v0, h3, vs0, h4, rfl⟩ := h2
      rw [hk] at h3; obtain rfl := Option.some.inj h3
      obtain ⟨vs', g1, g2, g3⟩ := resV_run hr ha l rs' vs0 hl h4
      obtain ⟨v', g4, g5⟩ := hv
      refine ⟨v' :: vs', ?_, by simp [g2], ?_⟩
      · simp only [List.mapM_cons, Sem.run_bind, g4, Result.andThen_ok, g1, Sem.run_pure]
      · intro j x y hx hy
        cases j with
        | zero => simp only [List.getElem?_cons_zero, Option.some.injEq] at hx hy; subst hx hy; exact g5
        | succ j => exact g3 j x y (by simpa using hx) (by simpa using hy)
    have hget : ∀ t, t < N → VR μ (a t) (r.tmps.getD t undef) := by
      intro t ht
      have : t < r.tmps.size := by rw [ha.size]; exact ht
      rw [Array.getD_eq_getD_getElem?, Array.getElem?_eq_getElem this, Option.getD_some]
      exact ha.vals t _ (Array.getElem?_eq_getElem this)
    cases rv with
    | tmp t =>
      simp only [cRes] at h1
      split at h1
      · rename_i ht
        rw [Option.map_eq_some_iff] at h1
        obtain ⟨rs', h3, rfl⟩ := h1
        exact one _ _ _ h3 rfl ⟨_, rfl, hget t ht⟩ rfl
      · cases h1
    | cell x t =>
      simp only [cRes] at h1
      split at h1
      · rename_i ht
        have hv := hget x ht
        split at h1
        · rename_i d hd
          split at h1
          · rename_i hagg
            split at h1
            · rename_i i hi
              rw [Option.map_eq_some_iff] at h1
              obtain ⟨rs', h3, rfl⟩ := h1
              have hrv : ∃ v, resV a A (.many x i.size) = some v := by
                simp only [resVs, Option.bind_eq_some_iff] at h2
                obtain ⟨v, h4, _⟩ := h2
                exact ⟨v, h4⟩
              obtain ⟨v, hv2⟩ := hrv
              have hv3 := hv2
              simp only [resV, Option.map_eq_some_iff] at hv2
              obtain ⟨⟨u, A1⟩, hl, rfl⟩ := hv2
              refine one _ _ _ h3 hv3 ?_ rfl
              unfold sLoadn at hl
              split at hl
              · rename_i b o heq
                rw [heq] at hv
                rw [Option.bind_eq_some_iff] at hl
                obtain ⟨⟨cs, st, sz, ex⟩, q1, q2⟩ := hl
                rw [Option.map_eq_some_iff] at q2
                obtain ⟨l2, q2, q3⟩ := q2
                injection q3 with q3 q4; subst q3 q4
                obtain ⟨q5, q6⟩ := getRow_some q1
                obtain ⟨e, he, hev⟩ := hv.ptr_inv
                obtain ⟨l', g1, g2, _, _, g3⟩ := hr.cells (P := P) q5 q6 he q2
                have g3 : (loadCells ⟨e.blk, e.off + o, none⟩ i.size).run P w = .ok l'.toArray w := g3 w.drawn
                refine ⟨.agg l'.toArray, ?_, VR.aggOf (by rw [g1, (cut_some q2).2.1]) g2⟩
                show (do loadVar t (← asAddr (r.tmps.getD x undef)) : Sem Value).run P w = _
                rw [hev]
                unfold loadVar
                simp [asAddr, run_isAgg hd, hagg, run_size hi, g3]
              · cases hl
            · cases h1
          · rename_i hagg
            rw [Option.map_eq_some_iff] at h1
            obtain ⟨rs', h3, rfl⟩ := h1
            have hrv : ∃ v, resV a A (.one x) = some v := by
              simp only [resVs, Option.bind_eq_some_iff] at h2
              obtain ⟨v, h4, _⟩ := h2
              exact ⟨v, h4⟩
            obtain ⟨v, hv2⟩ := hrv
            have hv3 := hv2
            simp only [resV, Option.map_eq_some_iff] at hv2
            obtain ⟨⟨u, A1⟩, hl, rfl⟩ := hv2
            refine one _ _ _ h3 hv3 ?_ rfl
            unfold sLoad1 at hl
            split at hl
            · rename_i b o heq
              rw [heq] at hv
              rw [Option.bind_eq_some_iff] at hl
              obtain ⟨⟨cs, st, sz, ex⟩, q1, q2⟩ := hl
              rw [Option.map_eq_some_iff] at q2
              obtain ⟨x2, q2, q3⟩ := q2
              injection q3 with q3 q4; subst q3 q4
              obtain ⟨q5, q6⟩ := getRow_some q1
              obtain ⟨e, he, hev⟩ := hv.ptr_inv
              obtain ⟨v', g1, g2, _⟩ := hr.cell q5 q6 he q2
              refine ⟨v', ?_, g2⟩
              show (do loadVar t (← asAddr (r.tmps.getD x undef)) : Sem Value).run P w = _
              rw [hev]
              unfold loadVar
              have hagg : aggD d = false := by simpa using hagg
              simp [asAddr, run_isAgg hd, hagg, g1]
            · cases hl
        · cases h1
      · cases h1

theorem results_run {fn : Func} {tmps : Array Value} {vs' : List Value} {w : World} (h : (fn.results.toList.mapM (resRun P tmps)).run P w = .ok vs' w) : (results fn tmps).run P w = .ok (tupleOf vs') w := by
  have e : results fn tmps = (do
      let vs ← fn.results.mapM (resRun P tmps)
      pure (if h : vs.size = 1 then vs[0] else .tuple vs)) := rfl
  rw [e, Sem.run_bind]
  rw [← Array.toList_mapM] at h
  simp only [Sem.run_map] at h
  cases hr : (fn.results.mapM (resRun P tmps)).run P w with
  | halt x w' => rw [hr] at h; simp at h
  | ok l w' =>
    rw [hr] at h
    simp only [Result.andThen_ok, Result.ok.injEq] at h
    obtain ⟨rfl, rfl⟩ := h
    simp only [Result.andThen_ok, Sem.run_pure]
    congr 1
    cases hl : l.toList with
    | nil =>
      have : l.size = 0 := by rw [← Array.length_toList, hl]; rfl
      rw [dif_neg (by omega)]
      simp only [tupleOf]
      rw [← hl]
    | cons x r =>
      cases r with
      | nil =>
        have : l.size = 1 := by rw [← Array.length_toList, hl]; rfl
        rw [dif_pos this]
        simp only [tupleOf]
        have : l = #[x] := Array.toList_inj.1 (by simpa using hl)
        subst this
        rfl
      | cons y r =>
        have : l.size ≠ 1 := by rw [← Array.length_toList, hl]; simp
        rw [dif_neg this]
        simp only [tupleOf]
        rw [← hl]

theorem tupleOf_rel {μ : Mu} {vs vs' : List Value} (h1 : vs'.length = vs.length) (h2 : ∀ (j : Nat) v v', vs[j]? = some v → vs'[j]? = some v' → VR μ v v') : VR μ (tupleOf vs) (tupleOf vs') := by
  have gen : VR μ (.tuple vs.toArray) (.tuple vs'.toArray) := .tuple (by simp [h1]) (fun j x y hx hy => h2 j x y (by simpa using hx) (by simpa using hy))
  cases vs with
  | nil =>
    have : vs' = [] := by simpa using h1
    subst this
    exact gen
  | cons v r =>
    cases vs' with
    | nil => simp at h1
    | cons v' r' =>
      cases r with
      | nil =>
        have : r' = [] := by simpa using h1
        subst this
        exact h2 0 v v' rfl rfl
      | cons x r =>
        cases r' with
        | nil => simp at h1
        | cons y r' => exact gen

/-- A CALL, OUT OF ITS BODY. -/
theorem ACalls.of_body (hm : P.follows .mixedOrders = true) {f : FuncId} {fn : Func} {c : Code} {ic : IC} {rs : List RV} {args : List Value} {Q : Value → AH → Prop} {A : AH} (hf : P.funcs[f]? = some fn) (hb : fn.body = some c)
    (hn : args.length ≤ fn.ntmps) (hc : cCode P G fn.ntmps c = some ic) (hrs : cRes P fn.ntmps fn.results.toList = some rs) (hw : W G P ic (postA rs Q) (initA args) A) : ACalls G P f args Q A := by
  intro μ args' w hr h1 h2
  refine calls_of_wp hf hb (wp_mono (W_sound hm c ic _ (initA args) A hc hw μ _ w hr ⟨?_, rfl, ?_⟩) ?_)
  · simp only [Array.size_append, Array.size_replicate]
    omega
  · intro j v' hv'
    simp only [Array.getElem?_append] at hv'
    unfold initA
    split at hv'
    · rename_i hj
      rw [h1] at hj
      rw [List.getD_eq_getElem?_getD, List.getElem?_eq_getElem hj, Option.getD_some]
      exact h2 j _ _ (List.getElem?_eq_getElem hj) hv'
    · rename_i hj
      rw [h1] at hj
      rw [List.getD_eq_getElem?_getD, List.getElem?_eq_none (by omega), Option.getD_none]
      rw [Array.getElem?_replicate] at hv'
      split at hv'
      · obtain rfl := Option.some.inj hv'; exact VR.undef _
      · cases hv'
  · rintro e r' w' ⟨μ', a', A', g1, g2, g3, g4, g5⟩
    have fin : (∃ vs, resVs a' A' rs = some vs ∧ Q (tupleOf vs) A') → r'.defers = [] ∧ ∃ v, (results fn r'.tmps).run P w' = .ok v w' ∧ ∃ u v' μ' A', Ending.returned v = .returned v' ∧ VR μ' u v' ∧ Rel G μ' A' w' ∧ Stp μ A w μ' A' w' ∧ Q u A' := by
      rintro ⟨vs, k1, k2⟩
      obtain ⟨vs', k3, k4, k5⟩ := resV_run (P := P) g1 g2 _ _ _ hrs k1
      exact ⟨g2.defers, _, results_run k3, _, _, μ', A', rfl, tupleOf_rel k4 k5, g1, g3, k2⟩
    cases e with
    | normal => exact fin g4
    | ret => exact fin g4
    | exit i => exact g4.elim
    | goto l => exact g4.elim
    | panic ch => exact g4.elim
    | outgrown => exact g4.elim

end
end Go.AS
