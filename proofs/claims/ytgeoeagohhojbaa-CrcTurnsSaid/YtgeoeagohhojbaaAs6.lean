import Derived.Test.YtgeoeagohhojbaaAs5
namespace Go.AS
open Go
set_option linter.unusedVariables false
set_option linter.unusedSimpArgs false

section
variable {G : Nat} {μ : Mu} {A A' : AH} {w : World} {P : Program} {v : Value}

theorem asI_some {i i' : Value} {j : Int} (h : asI i = some j) (hv : VR μ i i') : ∃ k, i' = .int k j := by
  unfold asI at h
  split at h
  · injection h with h; subst h
    exact ⟨_, hv.int⟩
  · cases h

theorem sim_conv {x x' : Value} {k : IntKind} {s d : TypeId} {ds : TypeDesc} (hr : Rel G μ A w) (hx : VR μ x x') (h1 : P.underlying s = some ds) (h2 : P.underlying d = some (.int k)) (hs : sConv A k x = some (v, A')) :
    Sim G μ A w v A' ((do pure (.value (← convert s d x')) : Sem Next).run P w) := by
  unfold sConv at hs
  split at hs
  · rename_i k' n
    injection hs with hs; injection hs with h3 h4; subst h3 h4
    obtain rfl := hx.int
    refine Sim.flat hr (run_value ?_) rfl
    unfold convert
    rw [Sem.run_bind, run_underlying h1, Result.andThen_ok, Sem.run_bind, run_underlying h2, Result.andThen_ok]
    cases ds <;> rfl
  · cases hs

theorem sim_field1 {x x' : Value} {s : TypeId} {fs : Array Field} {f : Field} {n : Nat} {d : TypeDesc} (hr : Rel G μ A w) (hx : VR μ x x') (h1 : P.underlying s = some (.struct fs)) (h2 : fs[n]? = some f)
    (h3 : P.underlying f.type = some d) (h4 : aggD d = false) (hs : sField1 A x f.offset = some (v, A')) : Sim G μ A w v A' ((do pure (.value (← Instr.field s x' n)) : Sem Next).run P w) := by
  unfold sField1 at hs
  split at hs
  · rename_i cs
    rw [Option.map_eq_some_iff] at hs
    obtain ⟨u, hu, hs⟩ := hs
    injection hs with h5 h6; subst h5 h6
    cases hx with
    | flat h => simp [flatV] at h
    | agg g1 g2 =>
      rename_i cs'
      obtain ⟨u', hu'⟩ := get_both g1 hu
      refine Sim.same hr (run_value ?_) (g2 _ _ _ hu hu')
      unfold Instr.field
      rw [Sem.run_bind, run_underlying h1, Result.andThen_ok]
      simp [h2, asAgg, part, run_isAgg h3, h4, hu']
  · cases hs

theorem sim_fieldn {x x' : Value} {s : TypeId} {fs : Array Field} {f : Field} {n : Nat} {d : TypeDesc} {i : TypeInfo} (hr : Rel G μ A w) (hx : VR μ x x') (h1 : P.underlying s = some (.struct fs)) (h2 : fs[n]? = some f)
    (h3 : P.underlying f.type = some d) (h4 : aggD d = true) (h5 : P.info? f.type = some i) (hs : sFieldn A x f.offset i.size = some (v, A')) : Sim G μ A w v A' ((do pure (.value (← Instr.field s x' n)) : Sem Next).run P w) := by
  unfold sFieldn at hs
  split at hs
  · rename_i cs
    injection hs with hs; injection hs with h6 h7; subst h6 h7
    cases hx with
    | flat h => simp [flatV] at h
    | agg g1 g2 =>
      rename_i cs'
      refine Sim.same hr (v' := .agg (cs'.extract f.offset (f.offset + i.size))) (run_value ?_) (.agg (by simp [g1]) ?_)
      · unfold Instr.field
        rw [Sem.run_bind, run_underlying h1, Result.andThen_ok]
        simp [h2, asAgg, part, run_isAgg h3, h4, run_size h5]
      · intro j a b ha hb
        rw [Array.getElem?_extract] at ha hb
        split at ha
        · split at hb
          · exact g2 _ _ _ ha hb
          · cases hb
        · cases ha
  · cases hs

theorem sim_faddr {x x' : Value} {s : TypeId} {fs : Array Field} {f : Field} {n : Nat} {i : TypeInfo} (hr : Rel G μ A w) (hx : VR μ x x') (h1 : P.underlying s = some (.struct fs)) (h2 : fs[n]? = some f)
    (h3 : P.info? f.type = some i) (h4 : i.size ≠ 0) (hs : sFaddr A x f.offset = some (v, A')) : Sim G μ A w v A' ((do pure (.value (← Instr.fieldAt s x' n)) : Sem Next).run P w) := by
  unfold sFaddr at hs
  split at hs
  · rename_i k o
    injection hs with hs; injection hs with h5 h6; subst h5 h6
    obtain ⟨e, he, rfl⟩ := hx.ptr_inv
    refine Sim.same hr (v' := .pointer (some ⟨e.blk, e.off + o + f.offset, none⟩)) (run_value ?_) (by rw [Nat.add_assoc]; exact .ptr he)
    unfold Instr.fieldAt
    rw [Sem.run_bind, run_underlying h1, Result.andThen_ok]
    simp [h2, Instr.sureAddr, fieldPlace, run_size h3, h4, add_none]
  · cases hs

theorem sim_iaddr {x x' i i' : Value} {t el : TypeId} {inf : TypeInfo} (hr : Rel G μ A w) (hx : VR μ x x') (hi : VR μ i i') (h1 : P.underlying t = some (.slice el)) (h2 : P.info? el = some inf)
    (hs : sIaddr A x i inf.size = some (v, A')) : Sim G μ A w v A' ((do pure (.value (← Instr.indexAt t x' i')) : Sem Next).run P w) := by
  unfold sIaddr at hs
  split at hs
  · rename_i b o n c
    rw [Option.bind_eq_some_iff] at hs
    obtain ⟨j, hj, hs⟩ := hs
    split at hs
    · rename_i hlt
      injection hs with hs; injection hs with h5 h6; subst h5 h6
      obtain ⟨k, rfl⟩ := asI_some hj hi
      cases hx with
      | flat h => simp [flatV] at h
      | slc he g1 g2 g3 =>
        rename_i c' e
        refine Sim.same hr (v' := .pointer (some ⟨e.blk, e.off + o + j.toNat * inf.size, none⟩)) (run_value ?_) (by rw [Nat.add_assoc]; exact .ptr he)
        unfold Instr.indexAt
        simp only [asIntOf, Sem.run_bind, Sem.run_pure, Result.andThen_ok, run_underlying h1, run_size h2, Sem.run_ite]
        rw [if_pos hlt]
        simp [add_none]
      | sle => omega
    · cases hs
  · cases hs

theorem sim_iarr {x x' i i' : Value} {t el : TypeId} {n : Nat} {inf : TypeInfo} (hr : Rel G μ A w) (hx : VR μ x x') (hi : VR μ i i') (h1 : P.underlying t = some (.array n el)) (h2 : P.info? el = some inf)
    (hs : sIarr A x i n inf.size = some (v, A')) : Sim G μ A w v A' ((do pure (.value (← Instr.indexAt t x' i')) : Sem Next).run P w) := by
  unfold sIarr at hs
  split at hs
  · rename_i b o
    rw [Option.bind_eq_some_iff] at hs
    obtain ⟨j, hj, hs⟩ := hs
    split at hs
    · rename_i hlt
      injection hs with hs; injection hs with h5 h6; subst h5 h6
      obtain ⟨k, rfl⟩ := asI_some hj hi
      obtain ⟨e, he, rfl⟩ := hx.ptr_inv
      refine Sim.same hr (v' := .pointer (some ⟨e.blk, e.off + o + j.toNat * inf.size, none⟩)) (run_value ?_) (by rw [Nat.add_assoc]; exact .ptr he)
      unfold Instr.indexAt
      simp only [asIntOf, Sem.run_bind, Sem.run_pure, Result.andThen_ok, run_underlying h1, run_size h2, Sem.run_ite, Instr.sureAddr]
      rw [if_pos hlt]
      simp [add_none]
    · cases hs
  · cases hs

theorem sim_idxs {x x' i i' : Value} {t : TypeId} (hr : Rel G μ A w) (hx : VR μ x x') (hi : VR μ i i') (h1 : P.underlying t = some .string)
    (hs : sIdxs A x i = some (v, A')) : Sim G μ A w v A' ((do pure (.value (← Instr.index t x' i')) : Sem Next).run P w) := by
  unfold sIdxs at hs
  split at hs
  · rename_i s
    rw [Option.bind_eq_some_iff] at hs
    obtain ⟨j, hj, hs⟩ := hs
    split at hs
    · rename_i hlt
      rw [Option.map_eq_some_iff] at hs
      obtain ⟨b, hb, hs⟩ := hs
      injection hs with h5 h6; subst h5 h6
      obtain ⟨k, rfl⟩ := asI_some hj hi
      obtain rfl := hx.string
      refine Sim.flat hr (run_value ?_) rfl
      unfold Instr.index
      simp [asIntOf, run_underlying h1, hlt, hb]
    · cases hs
  · cases hs

theorem sim_idxa1 {x x' i i' : Value} {t el : TypeId} {n : Nat} {d : TypeDesc} {inf : TypeInfo} (hr : Rel G μ A w) (hx : VR μ x x') (hi : VR μ i i') (h1 : P.underlying t = some (.array n el)) (h2 : P.info? el = some inf)
    (h3 : P.underlying el = some d) (h4 : aggD d = false) (h5 : inf.size = 1)
    (hs : sIdxa1 A x i n = some (v, A')) : Sim G μ A w v A' ((do pure (.value (← Instr.index t x' i')) : Sem Next).run P w) := by
  unfold sIdxa1 at hs
  split at hs
  · rename_i cs
    rw [Option.bind_eq_some_iff] at hs
    obtain ⟨j, hj, hs⟩ := hs
    split at hs
    · rename_i hlt
      rw [Option.map_eq_some_iff] at hs
      obtain ⟨b, hb, hs⟩ := hs
      injection hs with h6 h7; subst h6 h7
      obtain ⟨k, rfl⟩ := asI_some hj hi
      cases hx with
      | flat h => simp [flatV] at h
      | agg g1 g2 =>
        obtain ⟨b', hb'⟩ := get_both g1 hb
        refine Sim.same hr (run_value ?_) (g2 _ _ _ hb hb')
        unfold Instr.index
        simp only [asIntOf, Sem.run_bind, Sem.run_pure, Result.andThen_ok, run_underlying h1, Sem.run_ite]
        rw [if_pos hlt]
        simp [run_size h2, h5, part, run_isAgg h3, h4, hb']
    · cases hs
  · cases hs

theorem sim_idxan {x x' i i' : Value} {t el : TypeId} {n : Nat} {d : TypeDesc} {inf : TypeInfo} (hr : Rel G μ A w) (hx : VR μ x x') (hi : VR μ i i') (h1 : P.underlying t = some (.array n el)) (h2 : P.info? el = some inf)
    (h3 : P.underlying el = some d) (h4 : aggD d = true)
    (hs : sIdxan A x i n inf.size = some (v, A')) : Sim G μ A w v A' ((do pure (.value (← Instr.index t x' i')) : Sem Next).run P w) := by
  unfold sIdxan at hs
  split at hs
  · rename_i cs
    rw [Option.bind_eq_some_iff] at hs
    obtain ⟨j, hj, hs⟩ := hs
    split at hs
    · rename_i hlt
      injection hs with hs; injection hs with h6 h7; subst h6 h7
      obtain ⟨k, rfl⟩ := asI_some hj hi
      cases hx with
      | flat h => simp [flatV] at h
      | agg g1 g2 =>
        rename_i cs'
        refine Sim.same hr (v' := .agg (cs'.extract (j.toNat * inf.size) (j.toNat * inf.size + inf.size))) (run_value ?_) (.agg (by simp [g1]) ?_)
        · unfold Instr.index
          simp only [asIntOf, Sem.run_bind, Sem.run_pure, Result.andThen_ok, run_underlying h1, Sem.run_ite]
          rw [if_pos hlt]
          simp [run_size h2, part, run_isAgg h3, h4]
        · intro j a b ha hb
          rw [Array.getElem?_extract] at ha hb
          split at ha
          · split at hb
            · exact g2 _ _ _ ha hb
            · cases hb
          · cases ha
    · cases hs
  · cases hs

theorem sim_ext {x x' : Value} {i : Nat} (hr : Rel G μ A w) (hx : VR μ x x') (hs : sExt A x i = some (v, A')) : Sim G μ A w v A' ((do pure (.value (← Instr.extract x' i)) : Sem Next).run P w) := by
  unfold sExt at hs
  split at hs
  · rename_i vs
    rw [Option.map_eq_some_iff] at hs
    obtain ⟨u, hu, hs⟩ := hs
    injection hs with h5 h6; subst h5 h6
    cases hx with
    | flat h => simp [flatV] at h
    | tuple g1 g2 =>
      obtain ⟨u', hu'⟩ := get_both g1 hu
      refine Sim.same hr (run_value ?_) (g2 _ _ _ hu hu')
      simp [Instr.extract, hu']
  · cases hs

theorem sim_ifc {x x' : Value} {t : TypeId} {d : TypeDesc} (hr : Rel G μ A w) (hx : VR μ x x') (h1 : P.underlying t = some d) (h2 : (match d with | .interface _ => false | _ => true) = true) :
    Sim G μ A w (.iface t x) A ((do pure (.value (← Instr.makeInterface t x')) : Sem Next).run P w) := by
  refine Sim.same hr (run_value ?_) (.iface hx)
  unfold Instr.makeInterface
  rw [Sem.run_bind, run_underlying h1, Result.andThen_ok]
  cases d <;> first | rfl | cases h2

theorem VR.arr {l l' : List Value} (h : l'.length = l.length) (hv : ∀ (j : Nat) v v', l[j]? = some v → l'[j]? = some v' → VR μ v v') :
    l.toArray.size = l'.toArray.size ∧ ∀ (j : Nat) x y, l.toArray[j]? = some x → l'.toArray[j]? = some y → VR μ x y :=
  ⟨by simp [h], fun j x y hx hy => hv j x y (by simpa using hx) (by simpa using hy)⟩

theorem VR.sl_inv {a : Option Addr} {n c : Nat} {x' : Value} (h : VR μ (.slice a n c) x') : ∃ a' c', x' = .slice a' n c' ∧ (a = none ↔ a' = none) := by
  cases h with
  | flat h => refine ⟨_, _, rfl, ?_⟩; simp
  | slc _ _ _ _ => exact ⟨_, _, rfl, by simp⟩
  | sle => exact ⟨_, _, rfl, by simp⟩
  | slz => exact ⟨_, _, rfl, by simp⟩

theorem sim_lens {x x' : Value} {t : TypeId} {e : TypeId} (hr : Rel G μ A w) (hx : VR μ x x') (h1 : P.underlying t = some (.slice e)) (ats : Array TypeId) (ty : TypeId)
    (h3 : ats[0]? = some t) (hs : sLens A false x = some (v, A')) : Sim G μ A w v A' ((do pure (.value (← Builtin.len_ ats ty #[x'])) : Sem Next).run P w) := by
  unfold sLens at hs
  split at hs
  · rename_i a n c
    injection hs with hs; injection hs with h5 h6; subst h5 h6
    refine Sim.flat hr (run_value ?_) rfl
    obtain ⟨a', c', rfl, _⟩ := hx.sl_inv
    unfold Builtin.len_
    simp [h3, run_underlying h1, goInt]
  · cases hs
  · cases hs

theorem sim_lent {x x' : Value} {t : TypeId} (hr : Rel G μ A w) (hx : VR μ x x') (h1 : P.underlying t = some .string) (ats : Array TypeId) (ty : TypeId)
    (h3 : ats[0]? = some t) (hs : sLens A true x = some (v, A')) : Sim G μ A w v A' ((do pure (.value (← Builtin.len_ ats ty #[x'])) : Sem Next).run P w) := by
  unfold sLens at hs
  split at hs
  · cases hs
  · rename_i s
    injection hs with hs; injection hs with h5 h6; subst h5 h6
    obtain rfl := hx.string
    refine Sim.flat hr (run_value ?_) rfl
    unfold Builtin.len_
    simp [h3, run_underlying h1, goInt]
  · cases hs

end
end Go.AS
