import Derived.Test.YtgeoeagohhojbaaAs19
namespace Go.AS
open Go Go.RowKit
set_option linter.unusedVariables false
set_option linter.unusedSimpArgs false

/-- Function f's body is the abstract code ic. -/
def Fits (P : Program) (G : Nat) (f : FuncId) (ic : IC) (rs : List RV) (np : Nat) : Prop :=
  ∃ fn, P.funcs[f]? = some fn ∧ np ≤ fn.ntmps ∧ fn.body.bind (cCode P G fn.ntmps) = some ic ∧ cRes P fn.ntmps fn.results.toList = some rs

section
variable {G : Nat} {P : Program} {A : AH}

theorem ACalls.of_fits (hm : P.follows .mixedOrders = true) {f : FuncId} {ic : IC} {rs : List RV} {np : Nat} (h : Fits P G f ic rs np) {args : List Value} {Q : Value → AH → Prop} (hn : args.length = np)
    (hw : W G P ic (postA rs Q) (initA args) A) : ACalls G P f args Q A := by
  obtain ⟨fn, h1, h2, h3, h4⟩ := h
  rw [Option.bind_eq_some_iff] at h3
  obtain ⟨c, h5, h6⟩ := h3
  exact ACalls.of_body hm h1 h5 (by omega) h6 h4 hw

/-- A slice in the abstract heap: its elements' cells. -/
def Sl (A : AH) (sz : Nat) (v : Value) (n : Nat) (cs : List Value) : Prop :=
  cs.length = n * sz ∧ ((v = .slice none 0 0 ∧ n = 0) ∨ (v = .slice (some zmk) 0 0 ∧ n = 0) ∨
  ∃ i o c rc st ex, v = .slice (some ⟨i, o, none⟩) n c ∧ n ≤ c ∧ A[i]? = some (.row rc st sz ex) ∧ st ≠ .dead ∧ o + n * sz ≤ rc.length ∧ ∀ j, j < n * sz → rc[o + j]? = cs[j]?)

def ints (k : IntKind) (xs : List Int) : List Value := xs.map (.int k)
/-- A slice of whole numbers. -/
def SlI (A : AH) (k : IntKind) (v : Value) (xs : List Int) : Prop := Sl A 1 v xs.length (ints k xs)

/-- An argument, as a law's entry tells of it. -/
inductive Arg where
  | val (v : Value)
  | row (k : IntKind) (a : Option Addr) (len cap : Nat) (zs : List Int)

def Arg.real : Arg → Value
  | .val v => v
  | .row _ a n c _ => .slice a n c
def Arg.ok (w : World) : Arg → Prop
  | .val v => cflat v = true
  | .row k a len cap zs => (a = none ∧ len = 0 ∧ cap = 0 ∧ zs = []) ∨
      ∃ x, a = some x ∧ len ≤ cap ∧ cap ≤ maxLen ∧ zs.length = cap ∧ (∀ i, i < zs.length → w.cell? (x.add i) = some (.int k (zs.getD i 0))) ∧ ∀ n ∈ zs, (Lit.int k n).wf = true
def Arg.says (A : AH) (v : Value) : Arg → Prop
  | .val u => v = u
  | .row k _ len _ zs => SlI A k v (zs.take len) ∧ (zs.take len).length = len

/-- A row of the caller's, read only. -/
theorem Rel.addRow {μ : Mu} {w : World} (h : Rel G μ A w) (hno : ∀ (i : Nat) b, A[i]? = some b → b.isOwn = false) {b o : Nat} {cs : List Value} {sz : Nat} {rc : Array Value} {T : TypeId} {fr : Nat × Nat} {lim : Nat}
    (hb : w.heap[b]? = some (.cells rc T fr)) (hc : ∀ (j : Nat) v, cs[j]? = some v → v.oneCell' = true ∧ ∃ v', rc[o + j]? = some v' ∧ VR μ v v') (hl : cs.length ≤ lim) :
    Rel G (μ ++ [⟨b, o, lim, sz⟩]) (A ++ [.row cs .ro sz false]) w := by
  refine ⟨by simp [h.len], ?_, ?_, ?_, ?_, ?_, ?_, ?_⟩
  · intro g hg
    obtain ⟨e, h1, h2, h3⟩ := h.glo g hg
    exact ⟨e, pre_get h1, h2, h3⟩
  · intro i e he
    rcases push_get he with ⟨_, he⟩ | ⟨_, rfl⟩
    · exact h.lt i e he
    · simp only
      rcases Nat.lt_or_ge b w.heap.size with h' | h'
      · exact h'
      · rw [Array.getElem?_eq_none h'] at hb; cases hb
  · intro i cs' st sz' ex' e hb' he hst
    rcases push_get hb' with ⟨hi, hb'⟩ | ⟨hi, hb'⟩
    · rcases push_get he with ⟨_, he⟩ | ⟨hi', _⟩
      · obtain ⟨rc', T', fr', g1, g2, g3, g4⟩ := h.row i cs' st sz' ex' e hb' he hst
        exact ⟨rc', T', fr', g1, VR.cellMono g2, g3, g4⟩
      · rw [h.len] at hi'; omega
    · injection hb' with q1 q2 q3 q4
      subst q1 q2 q3 q4
      rcases push_get he with ⟨hi', he⟩ | ⟨_, rfl⟩
      · rw [h.len] at hi'; omega
      · refine ⟨rc, T, fr, hb, ?_, hl, fun h => by cases h⟩
        exact VR.cellMono hc
  · intro i cs' st sz' ex' e hb' he
    rcases push_get hb' with ⟨hi, hb'⟩ | ⟨hi, hb'⟩
    · rcases push_get he with ⟨_, he⟩ | ⟨hi', _⟩
      · exact h.szs i cs' st sz' ex' e hb' he
      · rw [h.len] at hi'; omega
    · injection hb' with q1 q2 q3 q4
      subst q3
      rcases push_get he with ⟨hi', he⟩ | ⟨_, rfl⟩
      · rw [h.len] at hi'; omega
      · rfl
  · intro i s p e hb' he
    rcases push_get hb' with ⟨hi, hb'⟩ | ⟨hi, hb'⟩
    · have := hno i _ hb'; cases this
    · cases hb'
  · intro i es e hb' he
    rcases push_get hb' with ⟨hi, hb'⟩ | ⟨hi, hb'⟩
    · have := hno i _ hb'; cases this
    · cases hb'
  · intro i k b1 b2 e e' hb1 hb2 ho ha hne he he'
    rcases push_get hb1 with ⟨hi, hb1⟩ | ⟨hi, rfl⟩
    · rw [hno i _ hb1] at ho; cases ho
    · cases ho

/-- A row of the caller's, read only. -/
theorem Rel.addRo {μ : Mu} {w : World} (h : Rel G μ A w) (hno : ∀ (i : Nat) b, A[i]? = some b → b.isOwn = false) {b o : Nat} {cs : List Value} {sz : Nat} {rc : Array Value} {T : TypeId} {fr : Nat × Nat} {lim : Nat}
    (hb : w.heap[b]? = some (.cells rc T fr)) (hc : ∀ (j : Nat) v, cs[j]? = some v → v.oneCell' = true ∧ rc[o + j]? = some v ∧ flatV v = true) (hl : cs.length ≤ lim) :
    Rel G (μ ++ [⟨b, o, lim, sz⟩]) (A ++ [.row cs .ro sz false]) w := by
  refine ⟨by simp [h.len], ?_, ?_, ?_, ?_, ?_, ?_, ?_⟩
  · intro g hg
    obtain ⟨e, h1, h2, h3⟩ := h.glo g hg
    exact ⟨e, pre_get h1, h2, h3⟩
  · intro i e he
    rcases push_get he with ⟨_, he⟩ | ⟨_, rfl⟩
    · exact h.lt i e he
    · simp only
      rcases Nat.lt_or_ge b w.heap.size with h' | h'
      · exact h'
      · rw [Array.getElem?_eq_none h'] at hb; cases hb
  · intro i cs' st sz' ex' e hb' he hst
    rcases push_get hb' with ⟨hi, hb'⟩ | ⟨hi, hb'⟩
    · rcases push_get he with ⟨_, he⟩ | ⟨hi', _⟩
      · obtain ⟨rc', T', fr', g1, g2, g3, g4⟩ := h.row i cs' st sz' ex' e hb' he hst
        exact ⟨rc', T', fr', g1, VR.cellMono g2, g3, g4⟩
      · rw [h.len] at hi'; omega
    · injection hb' with q1 q2 q3 q4
      subst q1 q2 q3 q4
      rcases push_get he with ⟨hi', he⟩ | ⟨_, rfl⟩
      · rw [h.len] at hi'; omega
      · refine ⟨rc, T, fr, hb, ?_, hl, fun h => by cases h⟩
        intro j v hj
        obtain ⟨g1, g2, g3⟩ := hc j v hj
        exact ⟨g1, v, g2, .flat g3⟩
  · intro i cs' st sz' ex' e hb' he
    rcases push_get hb' with ⟨hi, hb'⟩ | ⟨hi, hb'⟩
    · rcases push_get he with ⟨_, he⟩ | ⟨hi', _⟩
      · exact h.szs i cs' st sz' ex' e hb' he
      · rw [h.len] at hi'; omega
    · injection hb' with q1 q2 q3 q4
      subst q3
      rcases push_get he with ⟨hi', he⟩ | ⟨_, rfl⟩
      · rw [h.len] at hi'; omega
      · rfl
  · intro i s p e hb' he
    rcases push_get hb' with ⟨hi, hb'⟩ | ⟨hi, hb'⟩
    · have := hno i _ hb'; cases this
    · cases hb'
  · intro i es e hb' he
    rcases push_get hb' with ⟨hi, hb'⟩ | ⟨hi, hb'⟩
    · have := hno i _ hb'; cases this
    · cases hb'
  · intro i k b1 b2 e e' hb1 hb2 ho ha hne he he'
    rcases push_get hb1 with ⟨hi, hb1⟩ | ⟨hi, rfl⟩
    · rw [hno i _ hb1] at ho; cases ho
    · cases ho

theorem addr_add0 (x : Addr) : x.add 0 = x := rfl

theorem add_args {w : World} : ∀ (l : List Arg) (μ : Mu) (A : AH), Rel G μ A w → (∀ (i : Nat) b, A[i]? = some b → b.isOwn = false) → (∀ x ∈ l, x.ok w) →
    ∃ (vs : List Value) (μ' : Mu) (A' : AH), Rel G μ' A' w ∧ (∀ (i : Nat) b, A'[i]? = some b → b.isOwn = false) ∧ Le A A' ∧ vs.length = l.length ∧
      (∃ r, μ' = μ ++ r) ∧ (∀ (j : Nat) v x, vs[j]? = some v → l[j]? = some x → x.says A' v ∧ VR μ' v x.real)
  | [], μ, A, hr, hno, _ => ⟨[], μ, A, hr, hno, .refl _, rfl, ⟨[], by simp⟩, fun j v x h => by simp at h⟩
  | x :: l, μ, A, hr, hno, hok => by
    have rest := hok x (by simp)
    have step : ∀ (v : Value) (μ1 : Mu) (A1 : AH), Rel G μ1 A1 w → (∀ (i : Nat) b, A1[i]? = some b → b.isOwn = false) → Le A A1 → (∃ r, μ1 = μ ++ r) → (∀ A2, Le A1 A2 → x.says A2 v) → VR μ1 v x.real →
        ∃ (vs : List Value) (μ' : Mu) (A' : AH), Rel G μ' A' w ∧ (∀ (i : Nat) b, A'[i]? = some b → b.isOwn = false) ∧ Le A A' ∧ vs.length = (x :: l).length ∧
          (∃ r, μ' = μ ++ r) ∧ (∀ (j : Nat) v y, vs[j]? = some v → (x :: l)[j]? = some y → y.says A' v ∧ VR μ' v y.real) := by
      intro v μ1 A1 hr1 hno1 hle hmu hs hv
      obtain ⟨vs, μ', A', g1, g2, g3, g4, ⟨r, rfl⟩, g6⟩ := add_args l μ1 A1 hr1 hno1 (fun y hy => hok y (by simp [hy]))
      obtain ⟨r1, rfl⟩ := hmu
      refine ⟨v :: vs, _, A', g1, g2, hle.trans g3, by simp [g4], ⟨r1 ++ r, by simp⟩, ?_⟩
      intro j u y hu hy
      cases j with
      | zero => simp only [List.getElem?_cons_zero, Option.some.injEq] at hu hy; subst hu hy; exact ⟨hs _ g3, hv.mono⟩
      | succ j => exact g6 j u y (by simpa using hu) (by simpa using hy)
    cases x with
    | val v => exact step v μ A hr hno (.refl _) ⟨[], by simp⟩ (fun _ _ => rfl) (VR.cflat rest)
    | row k a len cap zs =>
      rcases rest with ⟨rfl, rfl, rfl, rfl⟩ | ⟨x, rfl, h1, h2, h3, h4, h5⟩
      · exact step (.slice none 0 0) μ A hr hno (.refl _) ⟨[], by simp⟩ (fun A2 _ => ⟨⟨rfl, .inl ⟨rfl, rfl⟩⟩, rfl⟩) (.flat rfl)
      · have htl : (zs.take len).length = len := by simp; omega
        by_cases h0 : cap = 0
        · subst h0
          have : len = 0 := by omega
          subst this
          exact step (.slice (some zmk) 0 0) μ A hr hno (.refl _) ⟨[], by simp⟩ (fun A2 _ => ⟨⟨by simp [ints], .inr (.inl ⟨rfl, by simp⟩)⟩, by simp⟩) .slz
        · have h6 := h4 0 (by omega)
          rw [addr_add0] at h6
          obtain ⟨b, o, sp⟩ := x
          have hsp : sp = none ∧ ∃ rc T fr, w.heap[b]? = some (.cells rc T fr) := by
            unfold World.cell? at h6
            split at h6
            · rename_i c T fr heq
              split at h6
              · cases h6
              · rename_i hs
                cases sp with
                | none => exact ⟨rfl, _, _, _, heq⟩
                | some s => simp at hs
            · cases h6
          obtain ⟨rfl, rc, T, fr, hb⟩ := hsp
          have hcell : ∀ j, j < cap → rc[o + j]? = some (.int k (zs.getD j 0)) := by
            intro j hj
            have := h4 j (by omega)
            rw [add_none] at this
            unfold World.cell? at this
            simpa [hb] using this
          have hr1 := hr.addRo (o := o) (lim := cap) (sz := 1) hno (cs := ints k (zs.take len)) hb (by
            intro j v hj
            unfold ints at hj
            rw [List.getElem?_map, Option.map_eq_some_iff] at hj
            obtain ⟨z, hz, rfl⟩ := hj
            have hjl := lt_of_get hz
            rw [htl] at hjl
            rw [List.getElem?_take_of_lt hjl] at hz
            refine ⟨rfl, ?_, rfl⟩
            rw [hcell j (by omega), List.getD_eq_getElem?_getD, hz]
            rfl) (by unfold ints; rw [List.length_map, htl]; exact h1)
          refine step (.slice (some ⟨A.length, 0, none⟩) len len) _ _ hr1 ?_ (.push _ _) ⟨_, rfl⟩ ?_ ?_
          · intro i b' hb'
            rcases push_get hb' with ⟨_, hb'⟩ | ⟨_, rfl⟩
            · exact hno i b' hb'
            · rfl
          · intro A2 hle
            refine ⟨⟨by simp [ints], .inr (.inr ⟨A.length, 0, len, ints k (zs.take len), .ro, false, by rw [htl], by rw [htl]; exact Nat.le_refl _, hle.get (by simp), by simp, by simp [ints], fun j _ => by rw [Nat.zero_add]⟩)⟩, htl⟩
          · have he : (μ ++ [(⟨b, o, cap, 1⟩ : Ent)])[A.length]? = some ⟨b, o, cap, 1⟩ := by rw [← hr.len]; simp
            exact .slc (i := A.length) (o := 0) (n := len) (c := len) (c' := cap) he (Nat.le_refl _) h1 (by simp)

/-- A LAW'S ENTRY. -/
theorem calls_of_acalls {f : FuncId} {l : List Arg} {w : World} (hok : ∀ x ∈ l, x.ok w)
    (h : ∀ (vs : List Value) (A : AH), vs.length = l.length → (∀ (j : Nat) v x, vs[j]? = some v → l[j]? = some x → x.says A v) → ACalls 0 P f vs (fun v _ => v = .bool true) A) :
    Calls P f (l.map Arg.real).toArray w fun e w' => e = .returned (.bool true) ∧ Below w.heap.size w w' := by
  have hr0 : Rel 0 [] [] w := by
    refine ⟨rfl, fun g hg => by omega, ?_, ?_, ?_, ?_, ?_, ?_⟩ <;> · intros; simp_all
  obtain ⟨vs, μ, A, g1, g2, _, g3, _, g4⟩ := add_args l [] [] hr0 (fun i b hb => by simp at hb) hok
  refine (h vs A g3 (fun j v x a b => (g4 j v x a b).1) μ _ w g1 (by simp [g3]) ?_).mono ?_
  · intro j v v' hv hv'
    simp only [List.getElem?_toArray, List.getElem?_map, Option.map_eq_some_iff] at hv'
    obtain ⟨x, hx, rfl⟩ := hv'
    exact (g4 j v x hv hx).2
  · rintro e w' ⟨v, v', μ', A', rfl, hv, hr', hs, rfl⟩
    obtain rfl := hv.bool
    refine ⟨rfl, hs.os, hs.tape, hs.output, hs.size, fun k hk => hs.keep k hk ?_⟩
    intro i b e hb ho
    rw [g2 i b hb] at ho
    cases ho

end
end Go.AS
