import Derived.Test.YtgeoeagohhojbaaAs6
namespace Go.AS
open Go
set_option linter.unusedVariables false
set_option linter.unusedSimpArgs false

section
variable {G : Nat} {μ : Mu} {A A' : AH} {w : World} {P : Program} {v : Value}

def OV (μ : Mu) : Option Value → Option Value → Prop
  | none, none => True
  | some a, some b => VR μ a b
  | _, _ => False

def atB (v : Value) (y : Nat) : Option Nat := (asI v).bind fun i => if 0 ≤ i ∧ i ≤ y then some i.toNat else none

theorem atB_run {v v' : Value} {y y' k : Nat} (h : atB v y = some k) (hy : y ≤ y') (hv : VR μ v v') (c : BoundsCode) : (Instr.sliceBound v' y' c).run P w = .ok k w ∧ k ≤ y := by
  unfold atB at h
  rw [Option.bind_eq_some_iff] at h
  obtain ⟨j, hj, h⟩ := h
  split at h
  · rename_i hlt
    obtain rfl := Option.some.inj h
    obtain ⟨kk, rfl⟩ := asI_some hj hv
    unfold Instr.sliceBound
    simp only [asIntOf, Sem.run_bind, Sem.run_pure, Result.andThen_ok, Sem.run_ite]
    rw [if_pos (by omega)]
    exact ⟨rfl, by omega⟩
  · cases h

theorem bounds_eq (n c : Nat) (lo hi mx : Option Value) : boundsA n c lo hi mx =
    (match mx with | some v => atB v c | none => some c).bind fun m =>
    (match hi, mx with | some v, some _ => atB v m | some v, none => atB v m | none, none => some n | none, some _ => none).bind fun h =>
    (match lo with | some v => atB v h | none => some 0).bind fun l => some (l, h, m) := rfl

theorem bounds_run {b : Bool} {n c c' l h m : Nat} {lo hi mx lo' hi' mx' : Option Value} (hs : boundsA n c lo hi mx = some (l, h, m)) (hn : n ≤ c) (hc : c ≤ c') (h1 : OV μ lo lo') (h2 : OV μ hi hi') (h3 : OV μ mx mx') :
    (Instr.sliceBounds b n c' lo' hi' mx').run P w = .ok (l, h, if mx.isSome then m else c') w ∧ l ≤ h ∧ h ≤ m ∧ m ≤ c ∧ (mx.isSome = false → m = c) := by
  rw [bounds_eq] at hs
  rw [Option.bind_eq_some_iff] at hs
  obtain ⟨m1, e1, hs⟩ := hs
  rw [Option.bind_eq_some_iff] at hs
  obtain ⟨h0, e2, hs⟩ := hs
  rw [Option.bind_eq_some_iff] at hs
  obtain ⟨l0, e3, hs⟩ := hs
  injection hs with hs; injection hs with q1 q2; injection q2 with q2 q3
  subst q1 q2 q3
  have hlo : ((lo' = none ∧ l0 = 0) ∨ ∃ a', lo' = some a' ∧ ∀ (cd : BoundsCode), (Instr.sliceBound a' h0 cd).run P w = .ok l0 w) ∧ l0 ≤ h0 := by
    cases lo with
    | none =>
      cases lo' with
      | none => simp only [Option.some.injEq] at e3; exact ⟨.inl ⟨rfl, e3.symm⟩, by omega⟩
      | some _ => exact h1.elim
    | some a =>
      cases lo' with
      | none => exact h1.elim
      | some a' => exact ⟨.inr ⟨a', rfl, fun cd => (atB_run e3 (Nat.le_refl _) h1 cd).1⟩, (atB_run (P := P) (w := w) e3 (Nat.le_refl _) h1 .index).2⟩
  obtain ⟨hlo, g2⟩ := hlo
  clear h1 e3
  cases mx with
  | none =>
    cases mx' with
    | some _ => exact h3.elim
    | none =>
      simp only [Option.some.injEq] at e1; subst e1
      cases hi with
      | none =>
        cases hi' with
        | some _ => exact h2.elim
        | none =>
          simp only [Option.some.injEq] at e2; subst e2
          refine ⟨?_, g2, hn, Nat.le_refl _, fun _ => rfl⟩
          unfold Instr.sliceBounds
          rcases hlo with ⟨rfl, rfl⟩ | ⟨a, rfl, g1⟩
          · rfl
          · simp only [Sem.run_bind, Sem.run_pure, Result.andThen_ok, Option.isSome_none, g1]; rfl
      | some a =>
        cases hi' with
        | none => exact h2.elim
        | some a' =>
          obtain ⟨g3, g4⟩ := atB_run (P := P) (w := w) e2 hc h2 (if b then .sliceAcap else .sliceAlen)
          refine ⟨?_, g2, g4, Nat.le_refl _, fun _ => rfl⟩
          unfold Instr.sliceBounds
          rcases hlo with ⟨rfl, rfl⟩ | ⟨a, rfl, g1⟩
          · simp only [Sem.run_bind, Sem.run_pure, Result.andThen_ok, Option.isSome_none, g3]; rfl
          · simp only [Sem.run_bind, Sem.run_pure, Result.andThen_ok, Option.isSome_none, g3, g1]; rfl
  | some x =>
    cases mx' with
    | none => exact h3.elim
    | some x' =>
      obtain ⟨g5, g6⟩ := atB_run (P := P) (w := w) e1 hc h3 (if b then .slice3Acap else .slice3Alen)
      cases hi with
      | none => simp at e2
      | some a =>
        cases hi' with
        | none => exact h2.elim
        | some a' =>
          obtain ⟨g3, g4⟩ := atB_run (P := P) (w := w) e2 (Nat.le_refl _) h2 .slice3B
          refine ⟨?_, g2, g4, g6, fun h => by simp at h⟩
          unfold Instr.sliceBounds
          rcases hlo with ⟨rfl, rfl⟩ | ⟨a, rfl, g1⟩
          · simp only [Sem.run_bind, Sem.run_pure, Result.andThen_ok, Option.isSome_some, g5, g3]; rfl
          · simp only [Sem.run_bind, Sem.run_pure, Result.andThen_ok, Option.isSome_some, g5, g3, g1]; rfl

theorem sliceAt_slice {t e : TypeId} (h : P.underlying t = some (.slice e)) (x : Value) (lo hi mx : Option Value) : (Instr.sliceAt t x lo hi mx).run P w = (Instr.slice t x lo hi mx).run P w := by
  unfold Instr.sliceAt
  rw [Sem.run_bind, run_underlying h, Result.andThen_ok]
theorem sliceAt_string {t : TypeId} (h : P.underlying t = some .string) (x : Value) (lo hi mx : Option Value) : (Instr.sliceAt t x lo hi mx).run P w = (Instr.slice t x lo hi mx).run P w := by
  unfold Instr.sliceAt
  rw [Sem.run_bind, run_underlying h, Result.andThen_ok]

theorem sim_sls {x x' : Value} {lo hi lo' hi' : Option Value} {t : TypeId} (hr : Rel G μ A w) (hx : VR μ x x') (h1 : OV μ lo lo') (h2 : OV μ hi hi') (ht : P.underlying t = some .string)
    (hs : sSls A x lo hi = some (v, A')) : Sim G μ A w v A' ((do pure (.value (← Instr.sliceAt t x' lo' hi' none)) : Sem Next).run P w) := by
  unfold sSls at hs
  split at hs
  · rename_i s
    rw [Option.map_eq_some_iff] at hs
    obtain ⟨⟨l, h, m⟩, hb, hs⟩ := hs
    injection hs with h5 h6; subst h5 h6
    obtain rfl := hx.string
    obtain ⟨g1, _⟩ := bounds_run (P := P) (w := w) (b := false) hb (Nat.le_refl _) (Nat.le_refl _) h1 h2 (mx' := none) trivial
    refine Sim.flat hr (run_value ?_) rfl
    rw [sliceAt_string ht]
    unfold Instr.slice
    simp [run_underlying ht, g1]
  · cases hs

theorem rowSz_some {i sz : Nat} (h : rowSz A i = some sz) : ∃ cs st ex, A[i]? = some (.row cs st sz ex) := by
  unfold rowSz at h
  split at h
  · rename_i cs st sz' ex heq
    obtain rfl := Option.some.inj h
    exact ⟨cs, st, ex, heq⟩
  · cases h

theorem sim_sll {x x' : Value} {lo hi mx lo' hi' mx' : Option Value} {t el : TypeId} {inf : TypeInfo} (hr : Rel G μ A w) (hx : VR μ x x') (h1 : OV μ lo lo') (h2 : OV μ hi hi') (h3 : OV μ mx mx')
    (ht : P.underlying t = some (.slice el)) (hi2 : P.info? el = some inf) (hs : sSll A x lo hi mx inf.size = some (v, A')) :
    Sim G μ A w v A' ((do pure (.value (← Instr.sliceAt t x' lo' hi' mx')) : Sem Next).run P w) := by
  unfold sSll at hs
  split at hs
  · rw [Option.map_eq_some_iff] at hs
    obtain ⟨⟨l, h, m⟩, hb, hs⟩ := hs
    injection hs with h5 h6; subst h5 h6
    cases hx with
    | flat _ =>
      obtain ⟨g1, g2, g3, g4, g5⟩ := bounds_run (P := P) (w := w) (b := true) hb (Nat.le_refl _) (Nat.le_refl 0) h1 h2 h3
      refine Sim.flat hr (run_value ?_) rfl
      rw [sliceAt_slice ht]
      unfold Instr.slice
      have hl : l = 0 := by omega
      have hh : h = 0 := by omega
      have hm : m = 0 := by omega
      subst hl hh hm
      simp [run_underlying ht, g1, run_size hi2]
  · rw [Option.map_eq_some_iff] at hs
    obtain ⟨⟨l, h, m⟩, hb, hs⟩ := hs
    injection hs with h5 h6; subst h5 h6
    cases hx with
    | flat hf => simp [flatV] at hf
    | @slz b =>
      obtain ⟨g1, g2, g3, g4, g5⟩ := bounds_run (P := P) (w := w) (b := true) hb (Nat.le_refl _) (Nat.le_refl 0) h1 h2 h3
      have hl : l = 0 := by omega
      have hh : h = 0 := by omega
      have hm : m = 0 := by omega
      subst hl hh hm
      refine Sim.same (v' := .slice (some b) 0 0) hr (run_value ?_) .slz
      rw [sliceAt_slice ht]
      unfold Instr.slice
      simp [run_underlying ht, g1, run_size hi2]
  · rename_i i o n c
    rw [Option.bind_eq_some_iff] at hs
    obtain ⟨⟨l, h, m⟩, hb, hs⟩ := hs
    rw [Option.bind_eq_some_iff] at hs
    obtain ⟨bsz, hbs, hs⟩ := hs
    simp only at hs
    obtain ⟨a', c', rfl, han⟩ := hx.sl_inv
    have hcc : n ≤ c ∧ c ≤ c' := by
      cases hx with
      | flat h => simp [flatV] at h
      | slc _ g1 g2 _ => exact ⟨g1, g2⟩
      | sle => exact ⟨Nat.le_refl _, Nat.le_refl _⟩
    obtain ⟨g1, g2, g3, g4, g5⟩ := bounds_run (P := P) (w := w) (b := true) hb hcc.1 hcc.2 h1 h2 h3
    have hrun : (Instr.sliceAt t (.slice a' n c') lo' hi' mx').run P w = .ok (.slice (if (if mx.isSome then m else c') = l then a' else a'.map (·.add (l * inf.size))) (h - l) ((if mx.isSome then m else c') - l)) w := by
      rw [sliceAt_slice ht]
      unfold Instr.slice
      simp [run_underlying ht, g1, run_size hi2]
    obtain ⟨cs, st, ex, hrow⟩ := rowSz_some hbs
    split at hs
    · rename_i hc
      injection hs with hs; injection hs with h5 h6; subst h5 h6
      obtain ⟨hm1, hm2⟩ := hc
      refine Sim.same hr (run_value hrun) ?_
      rw [hm1]
      have e1 : h - l = 0 := by omega
      have e2 : m - l = 0 := by omega
      simp only [if_true, e1, e2]
      rw [if_pos hm2]
      cases ha' : a' with
      | none => rw [ha'] at han; simp at han
      | some b => exact .slz
    · rename_i hc
      split at hs
      · rename_i hsz
        injection hs with hs; injection hs with h5 h6; subst h5 h6
        refine Sim.same hr (run_value hrun) ?_
        cases hx with
        | flat h => simp [flatV] at h
        | slc he k1 k2 k3 =>
          rename_i e
          have hesz : e.sz = inf.size := by rw [← hsz]; exact hr.szs i cs st bsz ex e hrow he
          by_cases hq : (if mx.isSome then m else c') = l
          · have hmx : mx.isSome = false := by
              cases hmx : mx.isSome with
              | false => rfl
              | true => rw [hmx] at hq; simp only [if_true] at hq; exact absurd ⟨hmx, hq⟩ hc
            rw [if_pos hq]
            rw [hmx] at hq ⊢
            simp only [Bool.false_eq_true, if_false] at hq ⊢
            have hmc := g5 hmx
            have e1 : h - l = 0 := by omega
            have e2 : m - l = 0 := by omega
            rw [e1, e2, hq, Nat.sub_self]
            exact .sle
          · rw [if_neg hq]
            simp only [Option.map_some, add_none]
            have hb2 : o + l * inf.size + ((if mx.isSome then m else c') - l) * e.sz ≤ e.lim := by
              have hle : (if mx.isSome then m else c') ≤ c' := by split <;> omega
              have hll : l ≤ (if mx.isSome then m else c') := by split <;> omega
              rw [hesz] at k3 ⊢
              have : l * inf.size + ((if mx.isSome then m else c') - l) * inf.size ≤ c' * inf.size := by
                rw [← Nat.add_mul]
                exact Nat.mul_le_mul_right _ (by omega)
              omega
            have := VR.slc (μ := μ) (i := i) (o := o + l * inf.size) (n := h - l) (c := m - l) (c' := (if mx.isSome then m else c') - l) he (by omega) (by
              cases hmx : mx.isSome with
              | true => simp
              | false => have := g5 hmx; simp; omega) hb2
            rw [Nat.add_assoc]
            exact this
        | sle =>
          have e0 : l = 0 ∧ h = 0 := by omega
          have e3 : m = 0 := by omega
          have hq : (if mx.isSome then m else 0) = l := by split <;> omega
          rw [if_pos hq, hq, e0.1, e0.2, e3]
          simp only [Nat.sub_self, Nat.zero_mul, Nat.add_zero]
          exact .sle
      · cases hs
  · cases hs

theorem sim_sla {x x' : Value} {lo hi mx lo' hi' mx' : Option Value} {t el : TypeId} {n : Nat} {inf : TypeInfo} (hr : Rel G μ A w) (hx : VR μ x x') (h1 : OV μ lo lo') (h2 : OV μ hi hi') (h3 : OV μ mx mx')
    (ht : P.underlying t = some (.array n el)) (hi2 : P.info? el = some inf) (hs : sSla A x lo hi mx n inf.size = some (v, A')) :
    Sim G μ A w v A' ((do pure (.value (← Instr.sliceAt t x' lo' hi' mx')) : Sem Next).run P w) := by
  unfold sSla at hs
  split at hs
  · rename_i i o
    rw [Option.bind_eq_some_iff] at hs
    obtain ⟨⟨l, h, m⟩, hb, hs⟩ := hs
    rw [Option.bind_eq_some_iff] at hs
    obtain ⟨⟨cs, st, sz, ex⟩, hq, hs⟩ := hs
    simp only at hs
    obtain ⟨hrow, hst⟩ := getRow_some hq
    obtain ⟨e, he, rfl⟩ := hx.ptr_inv
    obtain ⟨g1, g2, g3, g4, g5⟩ := bounds_run (P := P) (w := w) (b := false) hb (Nat.le_refl _) (Nat.le_refl _) h1 h2 h3
    have hm : (if mx.isSome then m else n) = m := by
      cases hmx : mx.isSome with
      | true => rfl
      | false => have := g5 hmx; simp; omega
    rw [hm] at g1
    have hrun : (Instr.sliceAt t (.pointer (some ⟨e.blk, e.off + o, none⟩)) lo' hi' mx').run P w = .ok (.slice (some (if m = l then ⟨e.blk, e.off + o, none⟩ else (⟨e.blk, e.off + o, none⟩ : Addr).add (l * inf.size))) (h - l) (m - l)) w := by
      unfold Instr.sliceAt Instr.sureAddr
      simp [run_underlying ht, g1, run_size hi2]
    split at hs
    · rename_i hc
      split at hs
      · rename_i hml
        injection hs with hs; injection hs with h5 h6; subst h5 h6
        refine Sim.same hr (run_value hrun) ?_
        have e1 : h - l = 0 := by omega
        have e2 : m - l = 0 := by omega
        rw [e1, e2]
        exact .slz
      · rename_i hml
        injection hs with hs; injection hs with h5 h6; subst h5 h6
        refine Sim.same hr (run_value hrun) ?_
        rw [if_neg hml, add_none, Nat.add_assoc]
        have hesz := hr.szs i cs st sz ex e hrow he
        obtain ⟨_, _, _, _, _, hlim, _⟩ := hr.row i cs st sz ex e hrow he hst
        refine VR.slc he (by omega) (Nat.le_refl _) ?_
        rw [hesz, hc.1]
        have : l * inf.size ≤ n * inf.size := Nat.mul_le_mul_right _ (by omega)
        omega
    · cases hs
  · cases hs

end
end Go.AS
