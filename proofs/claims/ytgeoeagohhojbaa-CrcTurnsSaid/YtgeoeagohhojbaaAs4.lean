import Derived.Test.YtgeoeagohhojbaaAs3
import Derived.ChangeKeysEq
namespace Go.AS
open Go
set_option linter.unusedVariables false
set_option linter.unusedSimpArgs false

/-- What an operation's program comes to, told of the abstract state behind it. -/
def Sim (G : Nat) (μ : Mu) (A : AH) (w : World) (v : Value) (A' : AH) (r : Result Next) : Prop :=
  ∃ v' μ' w', (r = .ok (.value v') w' ∨ r = .ok .skip w' ∧ v' = undef) ∧ VR μ' v v' ∧ Rel G μ' A' w' ∧ Stp μ A w μ' A' w'

section
variable {G : Nat} {μ : Mu} {A : AH} {w : World} {P : Program}

theorem Sim.same {v v' : Value} {r : Result Next} (hr : Rel G μ A w) (he : r = .ok (.value v') w) (hv : VR μ v v') : Sim G μ A w v A r :=
  ⟨v', μ, w, .inl he, hv, hr, Stp.refl _ _ _⟩
theorem Sim.flat {v : Value} {r : Result Next} (hr : Rel G μ A w) (he : r = .ok (.value v) w) (hv : flatV v = true) : Sim G μ A w v A r :=
  Sim.same hr he (.flat hv)

theorem run_value {s : Sem Value} {v : Value} {w w' : World} (h : s.run P w = .ok v w') : ((do pure (.value (← s))) : Sem Next).run P w = .ok (.value v) w' := by
  simp [h]
theorem run_skip {s : Sem Unit} {w w' : World} (h : s.run P w = .ok () w') : ((do s; pure .skip) : Sem Next).run P w = .ok .skip w' := by
  simp [h]

theorem VR.cells {v v' : Value} (h : VR μ v v') : v.cells.size = v'.cells.size ∧ ∀ (j : Nat) x y, v.cells[j]? = some x → v'.cells[j]? = some y → VR μ x y := by
  cases h with
  | agg h1 h2 => exact ⟨h1, h2⟩
  | flat h =>
    refine ⟨rfl, fun j x y hx hy => ?_⟩
    rw [hx] at hy
    obtain rfl := Option.some.inj hy
    cases v <;> simp only [flatV] at h <;> first
      | (cases h; done)
      | (cases j with
          | zero => simp only [Value.cells, List.getElem?_toArray, List.getElem?_cons_zero, Option.some.injEq] at hx; subst hx; exact .flat (by first | exact h | rfl)
          | succ j => simp [Value.cells] at hx)
  | ptr h => exact ⟨rfl, fun j x y hx hy => by cases j with | zero => simp [Value.cells] at hx hy; subst hx hy; exact .ptr h | succ j => simp [Value.cells] at hx⟩
  | slc h a b c => exact ⟨rfl, fun j x y hx hy => by cases j with | zero => simp [Value.cells] at hx hy; subst hx hy; exact .slc h a b c | succ j => simp [Value.cells] at hx⟩
  | sle => exact ⟨rfl, fun j x y hx hy => by cases j with | zero => simp [Value.cells] at hx hy; subst hx hy; exact .sle | succ j => simp [Value.cells] at hx⟩
  | slz => exact ⟨rfl, fun j x y hx hy => by cases j with | zero => simp [Value.cells] at hx hy; subst hx hy; exact .slz | succ j => simp [Value.cells] at hx⟩
  | map h => exact ⟨rfl, fun j x y hx hy => by cases j with | zero => simp [Value.cells] at hx hy; subst hx hy; exact .map h | succ j => simp [Value.cells] at hx⟩
  | func a b c d e => exact ⟨rfl, fun j x y hx hy => by cases j with | zero => simp [Value.cells] at hx hy; subst hx hy; exact .func a b c d e | succ j => simp [Value.cells] at hx⟩
  | iface h => exact ⟨rfl, fun j x y hx hy => by cases j with | zero => simp [Value.cells] at hx hy; subst hx hy; exact .iface h | succ j => simp [Value.cells] at hx⟩
  | tuple h1 h2 => exact ⟨rfl, fun j x y hx hy => by cases j with | zero => simp [Value.cells] at hx hy; subst hx hy; exact .tuple h1 h2 | succ j => simp [Value.cells] at hx⟩

/-- Cells of lists that go together. -/
theorem get_both {α β : Type} {a : Array α} {b : Array β} (h : a.size = b.size) {j : Nat} {x : α} (hx : a[j]? = some x) : ∃ y, b[j]? = some y := by
  have : j < a.size := by
    rcases Nat.lt_or_ge j a.size with h' | h'
    · exact h'
    · rw [Array.getElem?_eq_none h'] at hx; cases hx
  exact ⟨b[j]'(by omega), Array.getElem?_eq_getElem (by omega)⟩

theorem VR.cells' {v v' : Value} (h : VR μ v v') (h1 : ones v.cells.toList = true) : ∀ (j : Nat) x, v.cells.toList[j]? = some x → x.oneCell' = true ∧ ∃ y, v'.cells[j]? = some y ∧ VR μ x y := by
  intro j x hx
  refine ⟨ones_get h1 hx, ?_⟩
  rw [Array.getElem?_toList] at hx
  obtain ⟨y, hy⟩ := get_both h.cells.1 hx
  exact ⟨y, hy, h.cells.2 j x y hx hy⟩

/-- A new block, and a pointer to it. -/
theorem sim_new {cs : List Value} {rc : Array Value} {T : TypeId} {r : Result Next} (hr : Rel G μ A w)
    (hc : ∀ (j : Nat) v, cs[j]? = some v → v.oneCell' = true ∧ ∃ v', rc[j]? = some v' ∧ VR μ v v') (hl : cs.length = rc.size)
    (he : r = .ok (.value (.pointer (some ⟨w.heap.size, 0, none⟩))) (w.alloc (.cells rc T))) :
    Sim G μ A w (.pointer (some ⟨A.length, 0, none⟩)) (A ++ [.row cs .own 0 true]) r := by
  refine ⟨_, _, _, .inl he, ?_, hr.push hc (by omega) (by simp) (fun _ => hl.symm), Stp.push _ _ _ _ _ _ hr.len⟩
  have : (μ ++ [(⟨w.heap.size, 0, rc.size, 0⟩ : Ent)])[A.length]? = some ⟨w.heap.size, 0, rc.size, 0⟩ := by rw [← hr.len]; simp
  exact VR.ptr this

/-- A new block, and a slice of it all. -/
theorem sim_newSl {cs : List Value} {rc : Array Value} {T : TypeId} {fr : Nat × Nat} {sz n c : Nat} {ex : Bool} {r : Result Next} {d : Nat} (hr : Rel G μ A w)
    (hc : ∀ (j : Nat) v, cs[j]? = some v → v.oneCell' = true ∧ ∃ v', rc[j]? = some v' ∧ VR μ v v') (hl : cs.length ≤ rc.size)
    (hf : fr.1 = fr.2 ∨ rc.size ≤ fr.1) (hx : ex = true → rc.size = cs.length) {c' : Nat} (h1 : n ≤ c) (h2 : c ≤ c') (h3 : c' * sz ≤ rc.size)
    (he : r = .ok (.value (.slice (some ⟨w.heap.size, 0, none⟩) n c')) ({ w with drawn := d }.alloc (.cells rc T fr))) :
    Sim G μ A w (.slice (some ⟨A.length, 0, none⟩) n c) (A ++ [.row cs .own sz ex]) r := by
  refine ⟨_, _, _, .inl he, ?_, (hr.draw d).push hc hl hf hx, (Stp.draw _ _ _ d).trans (Stp.push _ _ _ _ _ _ hr.len)⟩
  have : (μ ++ [(⟨w.heap.size, 0, rc.size, sz⟩ : Ent)])[A.length]? = some ⟨w.heap.size, 0, rc.size, sz⟩ := by rw [← hr.len]; simp
  exact VR.slc this h1 h2 (by simpa using h3)

/-- Where an abstract pointer leads. -/
theorem VR.ptr_inv {i o : Nat} {v' : Value} (h : VR μ (.pointer (some ⟨i, o, none⟩)) v') : ∃ e : Ent, μ[i]? = some e ∧ v' = .pointer (some ⟨e.blk, e.off + o, none⟩) := by
  cases h with
  | flat h => simp [flatV] at h
  | ptr h => exact ⟨_, h, rfl⟩

theorem getRow_some {i : Nat} {cs : List Value} {st : St} {sz : Nat} {ex : Bool} (h : getRow A i = some (cs, st, sz, ex)) : A[i]? = some (.row cs st sz ex) ∧ st ≠ .dead := by
  unfold getRow at h
  split at h
  · split at h
    · cases h
    · injection h with h; injection h with h1 h; injection h with h2 h; injection h with h3 h4
      subst h1 h2 h3 h4
      exact ⟨by assumption, by assumption⟩
  · cases h

theorem add_none (b o n : Nat) : (⟨b, o, none⟩ : Addr).add n = ⟨b, o + n, none⟩ := by unfold Addr.add; split <;> simp_all

/-- A cell of a block that is there. -/
theorem Rel.cell (hr : Rel G μ A w) {i o : Nat} {cs : List Value} {st : St} {sz : Nat} {ex : Bool} {e : Ent} (hi : A[i]? = some (.row cs st sz ex)) (hst : st ≠ .dead) (he : μ[i]? = some e)
    {v : Value} (hv : cs[o]? = some v) : ∃ v', w.cell? ⟨e.blk, e.off + o, none⟩ = some v' ∧ VR μ v v' ∧ v.oneCell' = true := by
  obtain ⟨rc, T, fr, g1, g2, _, _⟩ := hr.row i cs st sz ex e hi he hst
  obtain ⟨h1, v', h2, h3⟩ := g2 o v hv
  exact ⟨v', by simp [World.cell?, g1, h2], h3, h1⟩

theorem cut_some {cs l : List Value} {o n : Nat} (h : cut cs o n = some l) : o + n ≤ cs.length ∧ l.length = n ∧ ∀ (j : Nat), j < n → l[j]? = cs[o + j]? := by
  unfold cut at h
  split at h
  · rename_i hl
    obtain rfl := Option.some.inj h
    refine ⟨hl, by simp; omega, fun j hj => ?_⟩
    rw [List.getElem?_take_of_lt hj, List.getElem?_drop]
  · cases h

/-- Cells that are read. -/
theorem Rel.cells (hr : Rel G μ A w) {i o n : Nat} {cs l : List Value} {st : St} {sz : Nat} {ex : Bool} {e : Ent} (hi : A[i]? = some (.row cs st sz ex)) (hst : st ≠ .dead) (he : μ[i]? = some e)
    (hl : cut cs o n = some l) : ∃ l' : List Value, l'.length = n ∧ (∀ (j : Nat) v v', l[j]? = some v → l'[j]? = some v' → VR μ v v') ∧ ones l' = true ∧ ones l = true ∧
      ∀ d, (loadCells ⟨e.blk, e.off + o, none⟩ n).run P { w with drawn := d } = .ok l'.toArray { w with drawn := d } := by
  obtain ⟨h1, h2, h3⟩ := cut_some hl
  have hex : ∀ j, j < n → ∃ v v', l[j]? = some v ∧ w.cell? ⟨e.blk, e.off + o + j, none⟩ = some v' ∧ VR μ v v' ∧ v.oneCell' = true := by
    intro j hj
    have : cs[o + j]? = some cs[o + j] := List.getElem?_eq_getElem (by omega)
    obtain ⟨v', g1, g2, g3⟩ := hr.cell hi hst he this
    exact ⟨_, v', by rw [h3 j hj]; exact this, by rw [Nat.add_assoc]; exact g1, g2, g3⟩
  have hsome : ∀ j, j < n → w.cell? ⟨e.blk, e.off + o + j, none⟩ = some ((w.cell? ⟨e.blk, e.off + o + j, none⟩).getD undef) := by
    intro j hj
    obtain ⟨v, v', _, g2, _⟩ := hex j hj
    rw [g2]; rfl
  refine ⟨(List.range n).map fun j => (w.cell? ⟨e.blk, e.off + o + j, none⟩).getD undef, by simp, ?_, ?_, ?_, ?_⟩
  · intro j v v' hj hj'
    have hlt : j < n := by have := lt_of_get hj; omega
    obtain ⟨u, u', g1, g2, g3, g4⟩ := hex j hlt
    rw [g1] at hj
    obtain rfl := Option.some.inj hj
    rw [List.getElem?_map, List.getElem?_range hlt] at hj'
    simp only [Option.map_some, Option.some.injEq, g2, Option.getD_some] at hj'
    subst hj'
    exact g3
  · unfold ones
    rw [List.all_eq_true]
    intro x hx
    rw [List.mem_map] at hx
    obtain ⟨j, hj, rfl⟩ := hx
    rw [List.mem_range] at hj
    obtain ⟨u, u', g1, g2, g3, g4⟩ := hex j hj
    rw [g2, Option.getD_some, g3.oneCell]; exact g4
  · unfold ones
    rw [List.all_eq_true]
    intro x hx
    obtain ⟨j, hj, rfl⟩ := List.getElem_of_mem hx
    obtain ⟨u, u', g1, g2, g3, g4⟩ := hex j (by omega)
    rw [List.getElem?_eq_getElem hj] at g1
    obtain rfl := Option.some.inj g1
    exact g4
  · intro d
    have := run_loadCells (P := P) { w with drawn := d } ⟨e.blk, e.off + o, none⟩ n (fun j => (w.cell? ⟨e.blk, e.off + o + j, none⟩).getD undef) (fun j hj => by rw [add_none]; exact hsome j hj)
    exact this

end
end Go.AS
