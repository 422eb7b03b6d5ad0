import Derived.Test.YtgeoeagohhojbaaAs13
namespace Go.AS
open Go
set_option linter.unusedVariables false
set_option linter.unusedSimpArgs false

section
variable {G : Nat} {μ : Mu} {A A' : AH} {w : World} {P : Program} {v : Value}

theorem qs_list {ρ' : Operand → Value} (ps : Array (Nat × Operand)) : (ps.map fun (x : Nat × Operand) => match x with | (i, x) => (i, ρ' x)).toList = ps.toList.map fun p => (p.1, ρ' p.2) := by
  simp

theorem cOp_sound {ρ ρ' : Operand → Value} {o : Oper} {op : AOp} (hc : cOp P o.op = some op) (hr : Rel G μ A w) (hρ : ∀ x ∈ o.op.operands.toList, VR μ (ρ x) (ρ' x)) (hconst : ∀ v, ρ' (.const v) = v) (hn : isCall op = false)
    (hs : step ρ A op = some (v, A')) : Sim G μ A w v A' ((execOp ρ' o).run P w) := by
  obtain ⟨dst, o1, ty, pos, aft, gd⟩ := o
  simp only at hc hρ
  cases o1 with
  | move x =>
    simp only [cOp, Option.some.injEq] at hc; subst hc
    injection hs with hs; injection hs with h1 h2; subst h1 h2
    exact Sim.same hr rfl (hρ x (by simp [Op.operands]))
  | assign x =>
    simp only [cOp, Option.some.injEq] at hc; subst hc
    injection hs with hs; injection hs with h1 h2; subst h1 h2
    exact Sim.same hr rfl (hρ x (by simp [Op.operands]))
  | pick c a b =>
    simp only [cOp, Option.some.injEq] at hc; subst hc
    exact sim_pick hr (hρ c (by simp [Op.operands])) (hρ a (by simp [Op.operands])) (hρ b (by simp [Op.operands])) hs
  | alloc t =>
    simp only [cOp, Option.map_eq_some_iff] at hc
    obtain ⟨zl, hz, rfl⟩ := hc
    obtain ⟨i, z, h1, h2, h3, h4, rfl⟩ := zc_some hz
    injection hs with hs; injection hs with h5 h6; subst h5 h6
    exact sim_alloc hr h1 h2 h3
  | box t x =>
    simp only [cOp, Option.some.injEq] at hc; subst hc
    exact sim_box hr (hρ x (by simp [Op.operands])) hs
  | build t ps =>
    refine snd_build (ρ' := ρ') (qs_list ps) hc hr (fun p hp => hρ _ ?_) hs
    simp only [Op.operands, List.mem_map]
    exact ⟨p, hp, rfl⟩
  | buildSlice t len ps =>
    refine snd_lit (ρ' := ρ') (qs_list ps) hc hr (fun p hp => hρ _ ?_) hs
    simp only [Op.operands, List.mem_map]
    exact ⟨p, hp, rfl⟩
  | load t a =>
    simp only [cOp, Option.bind_eq_some_iff] at hc
    obtain ⟨d, hd, hc⟩ := hc
    split at hc
    · rename_i hagg
      rw [Option.map_eq_some_iff] at hc
      obtain ⟨i, hi, rfl⟩ := hc
      exact sim_loadn hr (hρ a (by simp [Op.operands])) hd hagg hi hs
    · rename_i hagg
      injection hc with hc; subst hc
      exact sim_load1 hr (hρ a (by simp [Op.operands])) hd (by simpa using hagg) hs
  | store t a x =>
    simp only [cOp, Option.map_eq_some_iff] at hc
    obtain ⟨i, hi, rfl⟩ := hc
    exact sim_store hr (hρ a (by simp [Op.operands])) (hρ x (by simp [Op.operands])) hi hs
  | nilCheck x =>
    simp only [cOp, Option.some.injEq] at hc; subst hc
    exact sim_nilc hr (hρ x (by simp [Op.operands])) hs
  | unOp op t x =>
    simp only [cOp, Option.some.injEq] at hc; subst hc
    exact sim_un hr (hρ x (by simp [Op.operands])) hs
  | binOp op t x y yt => exact snd_binOp hc hr (hρ x (by simp [Op.operands])) (hρ y (by simp [Op.operands])) hconst hs
  | convert s d x => exact snd_convert hc hr (hρ x (by simp [Op.operands])) hs
  | makeInterface t x => exact snd_makeInterface hc hr (hρ x (by simp [Op.operands])) hs
  | makeFunc fn first captured =>
    simp only [cOp] at hc
    split at hc
    · rename_i hf
      injection hc with hc; subst hc
      injection hs with hs; injection hs with h1 h2; subst h1 h2
      obtain ⟨a1, a2⟩ := VR.fnarr (μ := μ) (ρ := ρ) (ρ' := ρ') first.toList (fun x hx => hρ x (by simp only [Op.operands, Array.toList_append, List.mem_append]; exact .inl hx))
      obtain ⟨b1, b2⟩ := VR.fnarr (μ := μ) (ρ := ρ) (ρ' := ρ') captured.toList (fun x hx => hρ x (by simp only [Op.operands, Array.toList_append, List.mem_append]; exact .inr hx))
      refine Sim.same hr (v' := .func fn (first.map ρ') (captured.map ρ')) rfl ?_
      exact .func hf (by simp) (by simpa using a2) (by simp) (by simpa using b2)
    · cases hc
  | makeSlice t l c => exact snd_makeSlice hc hr (hρ l (by simp [Op.operands])) (hρ c (by simp [Op.operands])) hs
  | slice t x lo hi mx =>
    refine snd_slice hc hr (hρ x (by simp [Op.operands])) (OV.map fun y hy => hρ y ?_) (OV.map fun y hy => hρ y ?_) (OV.map fun y hy => hρ y ?_) hs
    · subst hy; simp [Op.operands]
    · subst hy; simp [Op.operands]
    · subst hy; simp [Op.operands]
  | fieldAddr s x f => exact snd_fieldAddr hc hr (hρ x (by simp [Op.operands])) hs
  | field s x f => exact snd_field hc hr (hρ x (by simp [Op.operands])) hs
  | indexAddr t x i => exact snd_indexAddr hc hr (hρ x (by simp [Op.operands])) (hρ i (by simp [Op.operands])) hs
  | index t x i => exact snd_index hc hr (hρ x (by simp [Op.operands])) (hρ i (by simp [Op.operands])) hs
  | panic x =>
    simp only [cOp, Option.some.injEq] at hc; subst hc
    simp [step] at hs
  | extract x i =>
    simp only [cOp, Option.some.injEq] at hc; subst hc
    exact sim_ext hr (hρ x (by simp [Op.operands])) hs
  | call c =>
    have hargs : ∀ x ∈ c.args.toList, VR μ (ρ x) (ρ' x) := fun x hx => hρ x (by
      simp only [Op.operands, Call.operands, Array.toList_append, List.mem_append]; exact .inr hx)
    cases hcal : c.callee with
    | builtin b =>
      rw [run_builtin (c := c) (b := b) (ty := ty) hcal rfl]
      cases b <;> first
        | exact snd_len hcal hc hr hargs hs
        | exact snd_cap hcal hc hr hargs hs
        | exact snd_append hcal hc hr hargs hs
        | exact snd_copy hcal hc hr hargs hs
        | exact snd_min hcal hc hr hargs hs
        | exact snd_max hcal hc hr hargs hs
        | (simp [cOp, hcal] at hc; done)
    | value f =>
      cases f <;> (simp only [cOp, hcal, Option.some.injEq] at hc; subst hc; simp [isCall] at hn)
    | invoke r m => simp [cOp, hcal] at hc
  | _ => simp [cOp] at hc

end
end Go.AS
