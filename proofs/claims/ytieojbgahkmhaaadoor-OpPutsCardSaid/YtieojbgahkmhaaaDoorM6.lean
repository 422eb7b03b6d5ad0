/- Lemmas for the proof of a given statement; no conditions. -/
import Derived.Test.YtieojbgahkmhaaaDoorM5
set_option maxHeartbeats 1000000

namespace Go.AS.C
open Go Go.Proofs
set_option linter.unusedVariables false
set_option linter.unusedSimpArgs false
set_option maxRecDepth 10000

def SmallO (o : OpV) : Prop := o.name.size ≤ 300 ∧ o.text.size ≤ 300 ∧ o.place.size ≤ 300
theorem finO_of {o : OpV} (h : SmallO o) (r : RangeO o) : o.Fin := by
  obtain ⟨h1, h2, h3⟩ := h
  obtain ⟨r1, r2⟩ := r
  exact ⟨r1, r2, by omega, by omega, by omega⟩
def LargeA (o : OpV) (v : Value) : Prop := ∃ b, v = .bool b ∧ (b = false → SmallO o)
theorem large_spec {A : AH} {o : OpV} {Q : Value → AH → Prop} (hq : ∀ b : Bool, (b = false → SmallO o) → Q (.bool b) A) : ACalls 1 Tryd.prog chantrylaw14_large [o.v] Q A := by
  refine ACalls.pure (S := LargeA o) (fun v ⟨b, e, h⟩ => by rw [e]; exact hq b h) ?_
  have big : LargeA o (.bool true) := ⟨true, rfl, fun h => by cases h⟩
  refine ACalls.of_fits mixed fits_chantrylaw14_large rfl ?_
  unfold ic_chantrylaw14_large
  have i0 : initA [o.v] 0 = o.v := rfl
  generalize initA [o.v] = a at i0
  rw [OpV.v_eq] at i0
  have k1 : Le A (A ++ [.row (cellsO o) .own 0 true]) := .push _ _
  by_cases h2 : o.name.size ≤ 300
  · by_cases h3 : o.text.size ≤ 300
    · by_cases h4 : o.place.size ≤ 300
      · simp (maxSteps := 1000000) (disch := omega) only [stepS, reduceIte, Nat.reduceBEq, Nat.reduceEqDiff, tupleOf, stepT, stepX, heapR, lensR, Nat.reduceAdd, Nat.reduceLeDiff, i0]
        exact ⟨k1, rfl, false, rfl, fun _ => ⟨h2, h3, h4⟩⟩
      · simp (maxSteps := 1000000) (disch := omega) only [stepS, reduceIte, Nat.reduceBEq, Nat.reduceEqDiff, tupleOf, stepT, stepX, heapR, lensR, Nat.reduceAdd, Nat.reduceLeDiff, i0]
        exact ⟨k1, rfl, big⟩
    · simp (maxSteps := 1000000) (disch := omega) only [stepS, reduceIte, Nat.reduceBEq, Nat.reduceEqDiff, tupleOf, stepT, stepX, heapR, lensR, Nat.reduceAdd, Nat.reduceLeDiff, i0]
      exact ⟨k1, rfl, big⟩
  · simp (maxSteps := 1000000) (disch := omega) only [stepS, reduceIte, Nat.reduceBEq, Nat.reduceEqDiff, tupleOf, stepT, stepX, heapR, lensR, Nat.reduceAdd, Nat.reduceLeDiff, i0]
    exact ⟨k1, rfl, big⟩
theorem opFin_of {o : OpV} (h : opOk o = true) : o.Fin := by
  obtain ⟨h1, h2, h3, h4, h5, h6, h7, h8, h9, h10⟩ := opOk_iff.1 h
  have hk : 1 ≤ o.k ∧ o.k ≤ 7 := by unfold hK at h1; rw [decide_eq_true_eq] at h1; exact h1
  have hn : o.name.size ≤ 12 := by
    by_cases hn : hN o.k = true
    · rw [if_pos hn] at h2; exact (nameOk_size h2).2
    · rw [if_neg hn] at h2; rw [h2]; decide
  have hp : o.place.size ≤ 32 := by
    rcases h8 with h | h
    · rw [h]; decide
    · omega
  exact ⟨by omega, by omega, by omega, by omega, by omega⟩
abbrev rowZ5 : Blk := .row [.int .i64 0, .string ⟨#[]⟩, .string ⟨#[]⟩, .int .i64 0, .string ⟨#[]⟩] .own 0 true
def txO (o : OpV) : List UInt8 := if opOk o then putO o else []
theorem txO_len (o : OpV) : (txO o).length ≤ 200 := by
  unfold txO
  split
  · rename_i h; exact putO_len h
  · simp
theorem checkO_or (o : OpV) : checkO o = if opOk o = true then 0 else 1 := rfl
theorem op_Put_any {A : AH} {o : OpV} {Q : Value → AH → Prop} (hs : o.Fin) (hq : ∀ A' t, Le A A' → Byt A' t (txO o) → Q (.tuple #[t, ii (checkO o)]) A') : ACalls 1 Tryd.prog op_Put [o.v] Q A := by
  refine op_Put_spec hs (fun he C t k ot => ?_) (fun he C k => ?_)
  · have := hq C t k (by unfold txO; rw [if_pos he]; exact ot.byt)
    rw [checkO_or, if_pos he] at this
    exact this
  · have := hq C (.slice none 0 0) k (by unfold txO; rw [he]; exact ⟨rfl, .inl ⟨rfl, rfl⟩⟩)
    rw [checkO_or, he] at this
    exact this
theorem ref14_Put_any {A : AH} {o : OpV} {Q : Value → AH → Prop} (hs : o.Fin) (hq : ∀ A' t, Le A A' → Byt A' t (txO o) → Q (.tuple #[t, ii (checkO o)]) A') : ACalls 1 Tryd.prog chantryref14_Put [o.v] Q A := by
  refine ref14_Put_spec hs (fun he C t k ot => ?_) (fun he C k => ?_)
  · have := hq C t k (by unfold txO; rw [if_pos he]; exact ot.byt)
    rw [checkO_or, if_pos he] at this
    exact this
  · have := hq C (.slice none 0 0) k (by unfold txO; rw [he]; exact ⟨rfl, .inl ⟨rfl, rfl⟩⟩)
    rw [checkO_or, he] at this
    exact this
theorem OpPuts_spec {A : AH} {o : OpV} {v : Value} {bs : List UInt8} {Q : Value → AH → Prop} (hg : Le [kB] A) (ro : RangeO o) (hv : Byt A v bs) (_ : bs.length < 2 ^ 50) (hq : ∀ A', Q (.bool true) A') : ACalls 1 Tryd.prog chantrylaw14_OpPuts [o.v, v] Q A := by
  refine ACalls.of_fits mixed fits_chantrylaw14_OpPuts rfl ?_
  unfold ic_chantrylaw14_OpPuts
  have i0 : initA [o.v, v] 0 = o.v := rfl
  have i1 : initA [o.v, v] 1 = v := rfl
  generalize initA [o.v, v] = a at i0 i1
  rw [OpV.v_eq] at i0
  refine W_mid (fun a B => B = A ++ [.row (cellsO o) .own 0 true] ∧ a 1 = v ∧ a 2 = ptr A.length) ?_ ?_
  · simp (maxSteps := 1000000) (disch := omega) only [stepS, reduceIte, Nat.reduceBEq, Nat.reduceEqDiff, tupleOf, stepT, stepX, heapR, lensR, Nat.reduceAdd, Nat.reduceLeDiff, i0, i1]
    all_goals trivial
  rintro a B ⟨hB, g1, g2⟩
  have k1 : Le A B := by rw [hB]; exact .push _ _
  have r2 : rowAt B A.length = some (cellsO o, .own, 0, true) := by rw [hB]; exact rowAt_own (get_last _ _)
  have hgB := hg.trans k1
  have vB := hv.le k1
  clear i0 i1 hB
  refine W_midR (fun a B' => (o.Fin ∧ bs.length ≤ 300) ∧ B' = B ∧ a 1 = v ∧ a 2 = ptr A.length) ?_ ?_
  · simp (maxSteps := 1000000) (disch := omega) only [stepS, reduceIte, Nat.reduceBEq, Nat.reduceEqDiff, tupleOf, stepT, stepX, heapR, lensR, Nat.reduceAdd, Nat.reduceLeDiff, g1, g2, r2]
    refine large_spec fun b1 hb1 => ?_
    cases b1 with
    | true =>
      simp (maxSteps := 1000000) (disch := omega) only [stepS, reduceIte, Nat.reduceBEq, Nat.reduceEqDiff, tupleOf, stepT, stepX, heapR, lensR, Nat.reduceAdd, Nat.reduceLeDiff, g1, g2, r2]
      refine wake hgB ?_
      simp (maxSteps := 1000000) (disch := omega) only [stepS, reduceIte, Nat.reduceBEq, Nat.reduceEqDiff, tupleOf, stepT, stepX, heapR, lensR, Nat.reduceAdd, Nat.reduceLeDiff, reduceCtorEq, false_and, false_or, true_and]
      exact hq _
    | false =>
      have fo := finO_of (hb1 rfl) ro
      by_cases hlen : bs.length ≤ 300
      · simp (maxSteps := 1000000) (disch := omega) only [stepS, reduceIte, Nat.reduceBEq, Nat.reduceEqDiff, tupleOf, stepT, stepX, heapR, lensR, Nat.reduceAdd, Nat.reduceLeDiff, g1, g2, r2, vB.len, reduceCtorEq, false_and, or_false, true_and]
        all_goals first | exact fo | exact ⟨fo, hlen⟩
      · simp (maxSteps := 1000000) (disch := omega) only [stepS, reduceIte, Nat.reduceBEq, Nat.reduceEqDiff, tupleOf, stepT, stepX, heapR, lensR, Nat.reduceAdd, Nat.reduceLeDiff, g1, g2, r2, vB.len]
        refine wake hgB ?_
        simp (maxSteps := 1000000) (disch := omega) only [stepS, reduceIte, Nat.reduceBEq, Nat.reduceEqDiff, tupleOf, stepT, stepX, heapR, lensR, Nat.reduceAdd, Nat.reduceLeDiff, reduceCtorEq, false_and, false_or, true_and]
        exact hq _
  rintro a B' ⟨⟨fo, hlen⟩, rfl, g1, g2⟩
  have hlx := txO_len o
  refine W_mid (fun a C => ∃ t1, Le B' C ∧ a 1 = v ∧ a 2 = ptr A.length ∧ a 5 = t1 ∧ a 6 = ii (checkO o) ∧ Byt C t1 (txO o)) ?_ ?_
  · simp (maxSteps := 1000000) (disch := omega) only [stepS, reduceIte, Nat.reduceBEq, Nat.reduceEqDiff, tupleOf, stepT, stepX, heapR, lensR, Nat.reduceAdd, Nat.reduceLeDiff, g1, g2, r2]
    refine op_Put_any fo fun C t1 k2 o1 => ?_
    simp (maxSteps := 1000000) (disch := omega) only [stepS, reduceIte, Nat.reduceBEq, Nat.reduceEqDiff, tupleOf, stepT, stepX, heapR, lensR, Nat.reduceAdd, Nat.reduceLeDiff, g1, g2]
    exact ⟨_, k2, rfl, o1⟩
  clear g1 g2
  rintro a C ⟨t1, k2, g1, g2, g5, g6, o1⟩
  have r2C := k2.row r2
  refine W_mid (fun a D => ∃ t2, Le C D ∧ a 1 = v ∧ a 2 = ptr A.length ∧ a 5 = t1 ∧ a 6 = ii (checkO o) ∧ a 7 = t2 ∧ a 8 = ii (checkO o) ∧ Byt D t2 (txO o)) ?_ ?_
  · simp (maxSteps := 1000000) (disch := omega) only [stepS, reduceIte, Nat.reduceBEq, Nat.reduceEqDiff, tupleOf, stepT, stepX, heapR, lensR, Nat.reduceAdd, Nat.reduceLeDiff, g1, g2, g5, g6, r2C]
    refine ref14_Put_any fo fun D t2 k3 o2 => ?_
    simp (maxSteps := 1000000) (disch := omega) only [stepS, reduceIte, Nat.reduceBEq, Nat.reduceEqDiff, tupleOf, stepT, stepX, heapR, lensR, Nat.reduceAdd, Nat.reduceLeDiff, g1, g2, g5, g6]
    exact ⟨_, k3, rfl, o2⟩
  clear g1 g2 g5 g6
  rintro a D ⟨t2, k3, g1, g2, g5, g6, g7, g8, o2⟩
  have r2D := k3.row r2C
  have o1D := o1.le k3
  have vD := vB.le (k2.trans k3)
  have l0 : sLit D [.int .u8 0] 1 0 [] = some (.slice (some ⟨D.length, 0, none⟩) 0 0, D ++ [.row [] .own 1 true]) := rfl
  have k0 : Le D (D ++ [.row [] .own 1 true]) := .push _ _
  obtain ⟨w1, A1, e1, j1, x1, _⟩ := app_bytes k0 (own_lit_none (.refl D)) (o1D.le k0) (by simp; omega)
  rw [List.nil_append] at x1
  have e1' : sApp (D ++ [.row [] .own 1 true]) (.slice (some ⟨D.length, 0, none⟩) 0 0) t1 1 1 = some (w1, A1) := e1
  obtain ⟨w2, A2, e2, j2, x2, _⟩ := app_bytes j1 x1 (vD.le j1) (by omega)
  obtain ⟨o', n, e, hge, hof, hoe⟩ : ∃ (o' : OpV) (n e : Nat), getOV (txO o ++ bs) = .tuple #[o'.v, ii n, ii e] ∧ o'.Fin ∧ (opOk o = true → o' = o ∧ n = (txO o).length ∧ e = 0) := by
    unfold getOV
    by_cases ho : opOk o = true
    · have hg : getP (txO o ++ bs) = some (o, (putO o).length) := by
        unfold txO
        rw [if_pos ho]
        exact getP_iff.2 ⟨ho, rfl, bs, rfl⟩
      rw [hg]
      exact ⟨o, _, 0, rfl, fo, fun _ => ⟨rfl, by unfold txO; rw [if_pos ho], rfl⟩⟩
    · cases hp2 : getP (txO o ++ bs) with
      | none => exact ⟨OpV.zero, 0, 5, rfl, ⟨by decide, by decide, by decide, by decide, by decide⟩, fun h => absurd h ho⟩
      | some x =>
        obtain ⟨h1, h2, r, h3⟩ := getP_iff.1 (show getP (txO o ++ bs) = some (x.1, x.2) by rw [hp2])
        exact ⟨x.1, x.2, 0, rfl, opFin_of h1, fun h => absurd h ho⟩
  rw [OpV.v_eq] at hge
  refine W_mid (fun a E => ∃ c, Le D E ∧ a 1 = v ∧ a 2 = ptr A.length ∧ a 5 = t1 ∧ a 6 = ii (checkO o) ∧ a 7 = t2 ∧ a 8 = ii (checkO o) ∧ a 9 = ptr c ∧ a 10 = ii n ∧ a 11 = ii e ∧ rowAt E c = some (cellsO o', .own, 0, true)) ?_ ?_
  · simp (maxSteps := 1000000) (disch := omega) only [stepS, reduceIte, Nat.reduceBEq, Nat.reduceEqDiff, tupleOf, stepT, stepX, heapR, lensR, Nat.reduceAdd, Nat.reduceLeDiff, g1, g2, g5, g6, g7, g8, l0, e1', e2]
    refine op_Get_spec x2.byt (by rw [List.length_append]; omega) ?_
    rw [hge]
    have k4 : Le A2 ((A2 ++ [rowZ5]).set A2.length (Blk.row (cellsO o') .own 0 true)) := by (repeat first | exact Le.refl _ | assumption | refine Le.app ?_ _ | refine Le.set ?_ ?_ | omega | (simp only [List.length_append, List.length_singleton, List.length_set]; omega))
    simp (maxSteps := 1000000) (disch := omega) only [stepS, reduceIte, Nat.reduceBEq, Nat.reduceEqDiff, tupleOf, stepT, stepX, heapR, lensR, Nat.reduceAdd, Nat.reduceLeDiff, g1, g2, g5, g6, g7, g8]
    refine ⟨A2.length, j2.trans k4, rfl, ?_⟩
    simp (maxSteps := 1000000) (disch := omega) only [stepS, reduceIte, Nat.reduceBEq, Nat.reduceEqDiff, tupleOf, stepT, stepX, heapR, lensR, Nat.reduceAdd, Nat.reduceLeDiff]
  clear g1 g2 g5 g6 g7 g8
  rintro a E ⟨c, k4, g1, g2, g5, g6, g7, g8, g9, g10, g11, r9⟩
  have r2E := k4.row r2D
  have s1 := (o1D.le k4).str
  have s2 := (o2.le k4).str
  have l1 := (o1D.le k4).len
  have hgE := hgB.trans ((k2.trans k3).trans k4)
  by_cases ho : opOk o = true
  · obtain ⟨rfl, rfl, rfl⟩ := hoe ho
    have hc : checkO o' = 0 := by rw [checkO_or, if_pos ho]
    rw [hc] at g6 g8
    have eq : ∀ A, sEqagg A false (Tryd.prog.keyLits 8 opT) (.agg #[ii o'.k, .string o'.name, .string o'.text, ii o'.n, .string o'.place]) (.agg #[ii o'.k, .string o'.name, .string o'.text, ii o'.n, .string o'.place]) = some (.bool true, A) := fun A => by
      have := eqop A false fo fo
      rw [decide_eq_true rfl] at this
      exact this
    simp (maxSteps := 1000000) (disch := omega) only [stepS, reduceIte, Nat.reduceBEq, Nat.reduceEqDiff, tupleOf, stepT, stepX, heapR, lensR, Nat.reduceAdd, Nat.reduceLeDiff, g1, g2, g5, g6, g7, g8, g9, g10, g11, r2E, r9, s1, s2]
    refine op_Check_spec fo ?_
    rw [hc]
    simp (maxSteps := 1000000) (disch := omega) only [stepS, reduceIte, Nat.reduceBEq, Nat.reduceEqDiff, tupleOf, stepT, stepX, heapR, lensR, Nat.reduceAdd, Nat.reduceLeDiff, g1, g2, g5, g6, g7, g8, g9, g10, g11, r2E, r9, s1, s2, eq, l1]
    refine op_Show_spec hgE fo ?_
    simp (maxSteps := 1000000) (disch := omega) only [stepS, reduceIte, Nat.reduceBEq, Nat.reduceEqDiff, tupleOf, stepT, stepX, heapR, lensR, Nat.reduceAdd, Nat.reduceLeDiff, r2E]
    refine ref14_Show_spec fo ?_
    simp (maxSteps := 1000000) (disch := omega) only [stepS, reduceIte, Nat.reduceBEq, Nat.reduceEqDiff, tupleOf, stepT, stepX, heapR, lensR, Nat.reduceAdd, Nat.reduceLeDiff, r2E]
    refine wake hgE ?_
    simp (maxSteps := 1000000) (disch := omega) only [stepS, reduceIte, Nat.reduceBEq, Nat.reduceEqDiff, tupleOf, stepT, stepX, heapR, lensR, Nat.reduceAdd, Nat.reduceLeDiff]
    exact hq _
  · have hc : checkO o = 1 := by rw [checkO_or, if_neg ho]
    rw [hc] at g6 g8
    simp (maxSteps := 1000000) (disch := omega) only [stepS, reduceIte, Nat.reduceBEq, Nat.reduceEqDiff, tupleOf, stepT, stepX, heapR, lensR, Nat.reduceAdd, Nat.reduceLeDiff, g1, g2, g5, g6, g7, g8, g9, g10, g11, r2E, r9, s1, s2]
    refine op_Check_spec fo ?_
    rw [hc]
    simp (maxSteps := 1000000) (disch := omega) only [stepS, reduceIte, Nat.reduceBEq, Nat.reduceEqDiff, tupleOf, stepT, stepX, heapR, lensR, Nat.reduceAdd, Nat.reduceLeDiff, g1, g2, g5, g6, g7, g8, g9, g10, g11, r2E, r9, s1, s2, l1]
    refine op_Show_spec hgE fo ?_
    simp (maxSteps := 1000000) (disch := omega) only [stepS, reduceIte, Nat.reduceBEq, Nat.reduceEqDiff, tupleOf, stepT, stepX, heapR, lensR, Nat.reduceAdd, Nat.reduceLeDiff, r2E]
    refine ref14_Show_spec fo ?_
    simp (maxSteps := 1000000) (disch := omega) only [stepS, reduceIte, Nat.reduceBEq, Nat.reduceEqDiff, tupleOf, stepT, stepX, heapR, lensR, Nat.reduceAdd, Nat.reduceLeDiff, r2E]
    refine wake hgE ?_
    simp (maxSteps := 1000000) (disch := omega) only [stepS, reduceIte, Nat.reduceBEq, Nat.reduceEqDiff, tupleOf, stepT, stepX, heapR, lensR, Nat.reduceAdd, Nat.reduceLeDiff]
    exact hq _
theorem OpPuts_law {A : AH} {v0 v1 : Value} (hG : Le [kB] A) (g0 : GoodV Tryd.prog A 9 opT v0) (g1 : GoodV Tryd.prog A 9 bytesT v1) : ACalls 1 Tryd.prog chantrylaw14_OpPuts [v0, v1] (fun v _ => v = .bool true) A := by
  obtain ⟨cs, rfl, h0⟩ := good_struct opU g0
  obtain ⟨o, e, r0⟩ := good_op (F := 7) h0
  obtain ⟨bs, h1, b1⟩ := law_bytes (F := 7) bytesU Tryd.underlying5 (by kernel_rfl) (by decide +kernel) g1
  have e : Value.agg cs = o.v := by rw [OpV.v_eq, ← Array.toArray_toList (xs := cs), e]
  rw [e]
  exact OpPuts_spec hG r0 h1 b1 (fun _ => rfl)
end Go.AS.C
