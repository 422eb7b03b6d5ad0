import Derived.Test.YtgeoeagohhojbaaAs7
namespace Go.AS
open Go
set_option linter.unusedVariables false
set_option linter.unusedSimpArgs false

section
variable {G : Nat} {μ : Mu} {A A' : AH} {w : World} {P : Program} {v : Value}

/-- Lists of cells that go together. -/
def CR (μ : Mu) (l l' : List Value) : Prop := l'.length = l.length ∧ ∀ (j : Nat) v v', l[j]? = some v → l'[j]? = some v' → VR μ v v'

theorem CR.nil : CR μ [] [] := ⟨rfl, fun j v v' h => by simp at h⟩
theorem CR.get {l l' : List Value} (h : CR μ l l') {j : Nat} {v : Value} (hv : l[j]? = some v) : ∃ v', l'[j]? = some v' ∧ VR μ v v' := by
  have : j < l'.length := by rw [h.1]; exact lt_of_get hv
  exact ⟨l'[j], List.getElem?_eq_getElem this, h.2 j _ _ hv (List.getElem?_eq_getElem this)⟩
theorem CR.append {a b a' b' : List Value} (h : CR μ a a') (k : CR μ b b') : CR μ (a ++ b) (a' ++ b') := by
  refine ⟨by simp [h.1, k.1], fun j v v' hv hv' => ?_⟩
  rw [List.getElem?_append] at hv hv'
  rw [h.1] at hv'
  split at hv
  · rw [if_pos (by assumption)] at hv'; exact h.2 _ _ _ hv hv'
  · rw [if_neg (by assumption)] at hv'; exact k.2 _ _ _ hv hv'
theorem CR.ones {l l' : List Value} (h : CR μ l l') (h1 : ones l = true) : ones l' = true := by
  unfold AS.ones
  rw [List.all_eq_true]
  intro x hx
  obtain ⟨j, hj, rfl⟩ := List.getElem_of_mem hx
  have hj2 : j < l.length := by rw [← h.1]; exact hj
  rw [(h.2 j _ _ (List.getElem?_eq_getElem hj2) (List.getElem?_eq_getElem hj)).oneCell]
  exact ones_get h1 (List.getElem?_eq_getElem hj2)
theorem CR.take {l l' : List Value} (h : CR μ l l') (n : Nat) : CR μ (l.take n) (l'.take n) := by
  refine ⟨by simp [h.1], fun j v v' hv hv' => ?_⟩
  rw [List.getElem?_take] at hv hv'
  split at hv
  · rw [if_pos (by assumption)] at hv'; exact h.2 _ _ _ hv hv'
  · cases hv
theorem CR.flat {l : List Value} (h : l.all flatV = true) : CR μ l l := by
  refine ⟨rfl, fun j v v' hv hv' => ?_⟩
  rw [hv] at hv'
  obtain rfl := Option.some.inj hv'
  rw [List.all_eq_true] at h
  exact .flat (h v (List.mem_of_getElem? hv))
theorem flat_one {v : Value} (h : flatV v = true) : v.oneCell' = true := by cases v <;> first | rfl | (simp [flatV] at h)
theorem ones_flat {l : List Value} (h : l.all flatV = true) : ones l = true := by
  unfold AS.ones
  rw [List.all_eq_true] at h ⊢
  exact fun x hx => flat_one (h x hx)
theorem CR.setAll {l l' vs vs' : List Value} {o : Nat} (h : CR μ l l') (k : CR μ vs vs') (hl : o + vs.length ≤ l.length) : CR μ (setAll l o vs) (setAll l' o vs') := by
  have hl' : o + vs'.length ≤ l'.length := by rw [h.1, k.1]; exact hl
  refine ⟨by rw [setAll_length _ _ _ hl, setAll_length _ _ _ hl', h.1], fun j v v' hv hv' => ?_⟩
  rw [setAll_get _ _ _ hl] at hv
  rw [setAll_get _ _ _ hl', k.1] at hv'
  split at hv
  · rw [if_pos (by assumption)] at hv'; exact k.2 _ _ _ hv hv'
  · rw [if_neg (by assumption)] at hv'; exact h.2 _ _ _ hv hv'

theorem fold_get (off : Nat) : ∀ (l : List Value) (k : Nat) (cells : Array Value), off + k + l.length ≤ cells.size →
    ((l.zipIdx k).foldl (fun cs (p : Value × Nat) => cs.setIfInBounds (off + p.2) p.1) cells).toList = setAll cells.toList (off + k) l
  | [], k, cells, h => by simp [setAll]
  | x :: r, k, cells, h => by
    simp only [List.length_cons] at h
    rw [List.zipIdx_cons, List.foldl_cons, fold_get off r (k + 1) _ (by simp; omega)]
    simp only [Array.toList_setIfInBounds]
    apply List.ext_getElem?
    intro j
    rw [setAll_get _ _ _ (by simp; omega), setAll_get _ _ _ (by simp; omega), List.getElem?_set]
    simp only [List.length_cons]
    by_cases h1 : off + k ≤ j ∧ j < off + k + (r.length + 1)
    · rw [if_pos h1]
      rcases Nat.lt_or_ge (off + k) j with h2 | h2
      · rw [if_pos (by omega), show j - (off + k) = (j - (off + (k + 1))) + 1 by omega, List.getElem?_cons_succ]
      · have : j = off + k := by omega
        subst this
        rw [if_neg (by omega), if_pos rfl, if_pos (by simp; omega)]
        simp
    · rw [if_neg h1, if_neg (by omega), if_neg (by omega)]

/-- 'fill', told of lists. -/
theorem fill_rel {place : Nat → Option (Nat × Nat)} : ∀ (ps : List (Nat × Nat × Value)) (qs : List (Nat × Value)) (z cs : List Value) (z' : Array Value), fillA z ps = some cs → CR μ z z'.toList →
    ps.length = qs.length → (∀ (j : Nat) p q, ps[j]? = some p → qs[j]? = some q → place q.1 = some (p.1, p.2.1) ∧ VR μ p.2.2 q.2) → ones z = true → ∃ cs', Instr.fill place z' qs = some cs' ∧ CR μ cs cs'.toList ∧ ones cs = true
  | [], [], z, cs, z', h, hz, _, _, h1 => by
    simp only [fillA, Option.some.injEq] at h
    subst h
    exact ⟨z', rfl, hz, h1⟩
  | [], _ :: _, _, _, _, _, _, hl, _, _ => by simp at hl
  | _ :: _, [], _, _, _, _, _, hl, _, _ => by simp at hl
  | (off, n, v) :: ps, (i, v') :: qs, z, cs, z', h, hz, hl, hp, h1 => by
    simp only [fillA] at h
    split at h
    · rename_i hc
      obtain ⟨c1, c2, c3⟩ := hc
      obtain ⟨p1, p2⟩ := hp 0 _ _ rfl rfl
      simp only at p1 p2
      have hsz : v'.cells.size = n := by rw [← p2.cells.1]; exact c1
      have hzl : z'.size = z.length := by have := hz.1; simpa using this
      have hvc : CR μ v.cells.toList v'.cells.toList := ⟨by simp [p2.cells.1], fun j a b ha hb => p2.cells.2 j a b (by simpa using ha) (by simpa using hb)⟩
      have hfold : (v'.cells.zipIdx.foldl (fun cs (c, j) => cs.setIfInBounds (off + j) c) z').toList = setAll z'.toList off v'.cells.toList := by
        rw [← Array.foldl_toList, Array.toList_zipIdx]
        have := fold_get off v'.cells.toList 0 z' (by simp; omega)
        simpa using this
      have hone : ones (setAll z off v.cells.toList) = true := by
        unfold setAll
        refine ones_append (ones_append ?_ c3) ?_
        · unfold AS.ones at *; rw [List.all_eq_true] at *; exact fun x hx => h1 x (List.mem_of_mem_take hx)
        · unfold AS.ones at *; rw [List.all_eq_true] at *; exact fun x hx => h1 x (List.mem_of_mem_drop hx)
      obtain ⟨cs', g1, g2, g3⟩ := fill_rel ps qs _ cs (v'.cells.zipIdx.foldl (fun cs (c, j) => cs.setIfInBounds (off + j) c) z') h (by rw [hfold]; exact hz.setAll hvc (by simp; omega)) (by simpa using hl)
        (fun j p q a b => hp (j + 1) p q (by simpa using a) (by simpa using b)) hone
      refine ⟨cs', ?_, g2, g3⟩
      unfold Instr.fill
      simp only [p1]
      rw [if_neg (by simp; omega)]
      exact g1
    · cases h

theorem rep_get (z : List Value) (hz : 0 < z.length) (n j : Nat) : ((List.replicate n z).flatten)[j]? = if j < n * z.length then z[j % z.length]? else none := by
  induction n generalizing j with
  | zero => simp
  | succ n ih =>
    rw [List.replicate_succ, List.flatten_cons, List.getElem?_append]
    split
    · rename_i h
      rw [if_pos (by rw [Nat.succ_mul]; omega), Nat.mod_eq_of_lt h]
    · rename_i h
      rw [ih]
      have e : j % z.length = (j - z.length) % z.length := by rw [Nat.mod_eq_sub_mod (by omega)]
      rw [e]
      by_cases h2 : j - z.length < n * z.length
      · rw [if_pos h2, if_pos (by rw [Nat.succ_mul]; omega)]
      · rw [if_neg h2, if_neg (by rw [Nat.succ_mul]; omega)]

theorem rep_length (z : List Value) (n : Nat) : ((List.replicate n z).flatten).length = n * z.length := by simp

/-- The zero cells of a new row. -/
theorem zeros_get {zero : Array Value} (hz : 0 < zero.size) (n j : Nat) (h : j < n) : ((Array.range n).map (zero[· % zero.size]!))[j]? = zero[j % zero.size]? := by
  rw [Array.getElem?_map, Array.getElem?_range, if_pos h]
  have : j % zero.size < zero.size := Nat.mod_lt _ hz
  simp [this]

theorem rep_flat {z : List Value} (h : z.all flatV = true) (n : Nat) : ((List.replicate n z).flatten).all flatV = true := by
  rw [List.all_eq_true] at *
  intro x hx
  rw [List.mem_flatten] at hx
  obtain ⟨l, hl, hx⟩ := hx
  rw [List.mem_replicate] at hl
  rw [hl.2] at hx
  exact h x hx

theorem rep_CR {zero : Array Value} (hf : zero.toList.all flatV = true) (hz : 0 < zero.size) (l n : Nat) (h : l * zero.size ≤ n) :
    ∀ (j : Nat) v, ((List.replicate l zero.toList).flatten)[j]? = some v → v.oneCell' = true ∧ ∃ v', ((Array.range n).map (zero[· % zero.size]!))[j]? = some v' ∧ VR μ v v' := by
  intro j v hv
  have hfl : flatV v = true := by
    have := rep_flat hf l
    rw [List.all_eq_true] at this
    exact this v (List.mem_of_getElem? hv)
  rw [rep_get _ (by simpa using hz)] at hv
  simp only [Array.length_toList] at hv
  split at hv
  · refine ⟨flat_one hfl, v, ?_, .flat hfl⟩
    rw [zeros_get hz n j (by omega)]
    simpa using hv
  · cases hv

theorem sim_mk {l c l' c' : Value} {t el : TypeId} {inf : TypeInfo} {z : Value} (hr : Rel G μ A w) (hl : VR μ l l') (hc : VR μ c c') (ht : P.underlying t = some (.slice el)) (hi : P.info? el = some inf)
    (hz : inf.zero = some z) (hf : z.cells.toList.all flatV = true) (hsz : z.cells.size = inf.size)
    (hs : sMk A z.cells.toList inf.bytes l c = some (v, A')) : Sim G μ A w v A' ((do pure (.value (← Instr.makeSlice t l' c')) : Sem Next).run P w) := by
  unfold sMk at hs
  rw [Option.bind_eq_some_iff] at hs
  obtain ⟨n, hn, hs⟩ := hs
  rw [Option.bind_eq_some_iff] at hs
  obtain ⟨m, hm, hs⟩ := hs
  split at hs
  · rename_i hcond
    obtain ⟨c1, c2, c3, c4, c5⟩ := hcond
    injection hs with hs; injection hs with h5 h6; subst h5 h6
    obtain ⟨k1, rfl⟩ := asI_some hn hl
    obtain ⟨k2, rfl⟩ := asI_some hm hc
    simp only [Array.length_toList] at c5 ⊢
    have hwn : IntKind.i64.wrap n = n := by unfold IntKind.wrap; simp [IntKind.bits, IntKind.signed]; omega
    have hwm : IntKind.i64.wrap m = m := by unfold IntKind.wrap; simp [IntKind.bits, IntKind.signed]; omega
    have hcs : m.toNat * inf.size ≠ 0 ∨ m.toNat * inf.size = 0 := by omega
    have hrun : (Instr.makeSlice t (.int k1 n) (.int k2 m)).run P w = .ok (.slice (some ⟨w.heap.size, 0, none⟩) n.toNat m.toNat) (w.alloc (.cells ((Array.range (m.toNat * inf.size)).map (z.cells[· % z.cells.size]!)) el)) := by
      unfold Instr.makeSlice
      simp only [Sem.run_bind, run_underlying ht, Result.andThen_ok, asInt, asIntOf, Sem.run_pure, run_typeInfo _ hi, hwn, hwm, run_askRoom, run_size hi, newRow, run_newObj]
      rw [if_neg (by simp; omega)]
      simp only [Sem.run_pure, Result.andThen_ok, Sem.run_bind, run_askRoom, run_size hi]
      by_cases h0 : m.toNat * inf.size = 0
      · simp only [h0, if_true]
        have e0 : Array.range 0 = #[] := rfl
        simp [e0]
      · rw [if_neg h0]; simp [run_zero hi hz]
    refine sim_newSl (d := w.drawn) (c' := m.toNat) (fr := (0, 0)) (T := el) hr (rep_CR hf c5 n.toNat (m.toNat * inf.size) (by rw [hsz]; exact Nat.mul_le_mul_right _ (by omega))) ?_ (by simp) ?_ (by omega) (Nat.le_refl _) ?_ (run_value hrun)
    · rw [rep_length]; simp [hsz]; exact Nat.mul_le_mul_right _ (by omega)
    · intro hx
      have hx := of_decide_eq_true hx
      rw [rep_length]; simp [hsz, hx]
    · simp [hsz]
  · cases hs

end
end Go.AS
