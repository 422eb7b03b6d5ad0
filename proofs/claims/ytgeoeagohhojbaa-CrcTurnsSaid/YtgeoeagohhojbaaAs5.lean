import Derived.Test.YtgeoeagohhojbaaAs4
namespace Go.AS
open Go
set_option linter.unusedVariables false
set_option linter.unusedSimpArgs false

def aggD : TypeDesc → Bool
  | .struct _ | .array _ _ => true
  | _ => false

section
variable {G : Nat} {μ : Mu} {A A' : AH} {w : World} {P : Program} {v : Value}

theorem run_isAgg {t : TypeId} {d : TypeDesc} (h : P.underlying t = some d) : (isAgg t).run P w = .ok (aggD d) w := by
  unfold isAgg
  rw [Sem.run_bind, run_underlying h, Result.andThen_ok]
  cases d <;> rfl
theorem run_size {t : TypeId} {i : TypeInfo} (h : P.info? t = some i) : (sizeOf t).run P w = .ok i.size w := by
  unfold sizeOf
  rw [Sem.run_bind, run_typeInfo _ h]; rfl
theorem run_zero {t : TypeId} {i : TypeInfo} {z : Value} (h : P.info? t = some i) (hz : i.zero = some z) : (zeroValue t).run P w = .ok z w := by
  unfold zeroValue
  rw [Sem.run_bind, run_typeInfo _ h, Result.andThen_ok, hz]; rfl

theorem sim_pick {c a b c' a' b' : Value} (hr : Rel G μ A w) (hc : VR μ c c') (ha : VR μ a a') (hb : VR μ b b')
    (hs : sPick A c a b = some (v, A')) : Sim G μ A w v A' ((do pure (.value (if ← asBool c' then a' else b')) : Sem Next).run P w) := by
  unfold sPick at hs
  split at hs
  · rename_i t
    injection hs with hs; injection hs with h1 h2; subst h1 h2
    obtain rfl := hc.bool
    refine Sim.same hr (v' := if t then a' else b') ?_ (by cases t <;> assumption)
    simp [asBool]
  · cases hs

theorem sim_load1 {a a' : Value} {t : TypeId} {d : TypeDesc} (hr : Rel G μ A w) (ha : VR μ a a') (hu : P.underlying t = some d) (hd : aggD d = false)
    (hs : sLoad1 A a = some (v, A')) :
    Sim G μ A w v A' ((do pure (.value (← Instr.loadAt t a')) : Sem Next).run P w) := by
  unfold sLoad1 at hs
  split at hs
  · rename_i i o
    rw [Option.bind_eq_some_iff] at hs
    obtain ⟨⟨cs, st, sz, ex⟩, h1, h2⟩ := hs
    rw [Option.map_eq_some_iff] at h2
    obtain ⟨x, h2, h3⟩ := h2
    injection h3 with h3 h4; subst h3 h4
    obtain ⟨h5, h6⟩ := getRow_some h1
    obtain ⟨e, he, rfl⟩ := ha.ptr_inv
    obtain ⟨v', g1, g2, _⟩ := hr.cell h5 h6 he h2
    refine Sim.same hr (run_value ?_) g2
    unfold Instr.loadAt Instr.sureAddr loadVar
    simp [run_isAgg hu, hd, g1]
  · cases hs

theorem VR.aggOf {l : List Value} {l' : List Value} (h : l'.length = l.length) (hv : ∀ (j : Nat) v v', l[j]? = some v → l'[j]? = some v' → VR μ v v') : VR μ (.agg l.toArray) (.agg l'.toArray) :=
  .agg (by simp [h]) (fun j x y hx hy => hv j x y (by simpa using hx) (by simpa using hy))

theorem sim_loadn {a a' : Value} {t : TypeId} {d : TypeDesc} {i : TypeInfo} (hr : Rel G μ A w) (ha : VR μ a a') (hu : P.underlying t = some d) (hd : aggD d = true) (hi : P.info? t = some i)
    (hs : sLoadn A a i.size = some (v, A')) :
    Sim G μ A w v A' ((do pure (.value (← Instr.loadAt t a')) : Sem Next).run P w) := by
  unfold sLoadn at hs
  split at hs
  · rename_i k o
    rw [Option.bind_eq_some_iff] at hs
    obtain ⟨⟨cs, st, sz, ex⟩, h1, h2⟩ := hs
    rw [Option.map_eq_some_iff] at h2
    obtain ⟨x, h2, h3⟩ := h2
    injection h3 with h3 h4; subst h3 h4
    obtain ⟨h5, h6⟩ := getRow_some h1
    obtain ⟨e, he, rfl⟩ := ha.ptr_inv
    obtain ⟨l', g1, g2, _, _, g3⟩ := hr.cells (P := P) h5 h6 he h2
    have g3 : (loadCells ⟨e.blk, e.off + o, none⟩ i.size).run P w = .ok l'.toArray w := g3 w.drawn
    refine Sim.same hr (run_value (v := .agg l'.toArray) ?_) (VR.aggOf (by rw [g1, (cut_some h2).2.1]) g2)
    unfold Instr.loadAt Instr.sureAddr loadVar
    simp [run_isAgg hu, hd, run_size hi, g3]
  · cases hs

theorem wr_some {i o : Nat} {vs : List Value} (h : wr A i o vs = some A') : ∃ cs sz ex, A[i]? = some (.row cs .own sz ex) ∧ o + vs.length ≤ cs.length ∧ ones vs = true ∧ A' = A.set i (.row (setAll cs o vs) .own sz ex) := by
  unfold wr at h
  split at h
  · split at h
    · rename_i cs sz ex heq hc
      exact ⟨cs, sz, ex, heq, hc.1, hc.2, (Option.some.inj h).symm⟩
    · cases h
  · cases h

/-- Cells that are written. -/
theorem Rel.storeRow (hr : Rel G μ A w) {i o : Nat} {vs vs' : List Value} {e : Ent} (h : wr A i o vs = some A') (he : μ[i]? = some e) (hlen : vs'.length = vs.length)
    (hv : ∀ (j : Nat) v v', vs[j]? = some v → vs'[j]? = some v' → VR μ v v') :
    ∃ w', (storeCells ⟨e.blk, e.off + o, none⟩ vs').run P w = .ok () w' ∧ Rel G μ A' w' ∧ Stp μ A w μ A' w' := by
  obtain ⟨cs, sz, ex, h1, h2, h3, rfl⟩ := wr_some h
  obtain ⟨rc, T, fr, g1, g2, g3, g4⟩ := hr.row i cs .own sz ex e h1 he (by decide)
  obtain ⟨g5, g6, g7⟩ := g4 rfl
  have h3' : ones vs' = true := by
    unfold ones
    rw [List.all_eq_true]
    intro x hx
    obtain ⟨j, hj, rfl⟩ := List.getElem_of_mem hx
    have hj2 : j < vs.length := by omega
    rw [(hv j _ _ (List.getElem?_eq_getElem hj2) (List.getElem?_eq_getElem hj)).oneCell]
    exact ones_get h3 (List.getElem?_eq_getElem hj2)
  obtain ⟨w', rc', k1, k2⟩ := run_storeRow P e.blk (e.off + o) T fr vs' 0 w rc g1 (by omega) g6 h3'
  exact ⟨w', k1, hr.write h1 he g1 h2 h3 hlen hv k2, Stp.write (o := o) h1 he k2⟩

theorem sim_store {a a' x x' : Value} {t : TypeId} {i : TypeInfo} (hr : Rel G μ A w) (ha : VR μ a a') (hx : VR μ x x') (hi : P.info? t = some i)
    (hs : sStore A a x i.size = some (v, A')) :
    Sim G μ A w v A' ((do Instr.storeAt t a' x'; pure .skip : Sem Next).run P w) := by
  unfold sStore at hs
  split at hs
  · rename_i k o
    split at hs
    · rename_i hsz
      rw [Option.map_eq_some_iff] at hs
      obtain ⟨A1, h1, h2⟩ := hs
      injection h2 with h2 h3; subst h2 h3
      obtain ⟨e, he, rfl⟩ := ha.ptr_inv
      obtain ⟨w', g1, g2, g3⟩ := hr.storeRow (P := P) h1 he (vs' := x'.cells.toList) (by simp [hx.cells.1]) (fun j u u' hu hu' => hx.cells.2 j u u' (by simpa using hu) (by simpa using hu'))
      refine ⟨undef, μ, w', .inr ⟨run_skip ?_, rfl⟩, VR.undef _, g2, g3⟩
      unfold Instr.storeAt Instr.sureAddr storeVar
      have : x'.cells.size = i.size := by rw [← hx.cells.1]; exact hsz
      simp [run_size hi, this, g1]
    · cases hs
  · cases hs

theorem sim_box {x x' : Value} {t : TypeId} (hr : Rel G μ A w) (hx : VR μ x x')
    (hs : sBox A x = some (v, A')) :
    Sim G μ A w v A' ((do pure (.value (← Instr.box t x')) : Sem Next).run P w) := by
  unfold sBox at hs
  split at hs
  · rename_i h1
    injection hs with hs; injection hs with h2 h3; subst h2 h3
    refine sim_new (T := t) (rc := x'.cells) hr (hx.cells' h1) (by simp [hx.cells.1]) (run_value ?_)
    unfold Instr.box newVar newRow
    simp
  · cases hs

theorem sim_alloc {t : TypeId} {i : TypeInfo} {z : Value} (hr : Rel G μ A w) (hi : P.info? t = some i) (hz : i.zero = some z) (hf : z.cells.toList.all flatV = true) :
    Sim G μ A w (.pointer (some ⟨A.length, 0, none⟩)) (A ++ [.row z.cells.toList .own 0 true]) ((do pure (.value (← Instr.alloc t true (.tuple #[]))) : Sem Next).run P w) := by
  refine sim_new (T := t) (rc := z.cells) hr ?_ (by simp) (run_value ?_)
  · intro j u hu
    have : flatV u = true := by
      rw [List.all_eq_true] at hf
      exact hf u (List.mem_of_getElem? hu)
    refine ⟨by cases u <;> first | rfl | (simp [flatV] at this), u, by simpa using hu, .flat this⟩
  · unfold Instr.alloc newVar newRow
    simp [run_zero hi hz]

def nilCheckS (x : Value) : Sem Next :=
    match x with
    | .pointer none | .nilIface | .nilFunc => runtimePanic .nilDeref
    | .func (.method name) first captured =>
      match (first[0]? : Option Value) with
      | some .nilIface => runtimePanic .nilDeref
      | some (.iface t w) => do
        if (← nilAhead ((← program).types.size + Made.depth) t w name) != some false then
          unsupported (.noEntry "op/nilCheck.the method's receiver behind this interface value is a nil pointer, or cannot be seen to be none, and the arguments act or may panic (ledger 612)")
        pure (.value (.func (.method name) first captured))
      | _ => pure (.value (.func (.method name) first captured))
    | x => pure (.value x)

theorem sim_nilc {x x' : Value} (hr : Rel G μ A w) (hx : VR μ x x') (hs : sNilc A x = some (v, A')) : Sim G μ A w v A' ((nilCheckS x').run P w) := by
  unfold sNilc at hs
  split at hs
  · rename_i a
    injection hs with hs; injection hs with h2 h3; subst h2 h3
    cases hx with
    | flat h => simp [flatV] at h
    | ptr h => exact Sim.same hr rfl (.ptr h)
  · cases hs

end
end Go.AS
