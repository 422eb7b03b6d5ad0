/- Lemmas for the proof of a given statement; no conditions. -/
import Derived.Test.YtkldpkoieahopaaDoorM4
set_option maxHeartbeats 1000000

namespace Go.AS.C
open Go Go.Proofs
set_option linter.unusedVariables false
set_option linter.unusedSimpArgs false
set_option maxRecDepth 10000

def SmallS0 (s : StateV) : Prop := (s.counts.length ≤ 30 ∧ ∀ w ∈ s.counts, w.name.size ≤ 100) ∧ (s.members.length ≤ 30 ∧ ∀ w ∈ s.members, SmallW w) ∧ (s.values.length ≤ 30 ∧ ∀ w ∈ s.values, SmallW w) ∧ (s.lines.length ≤ 30 ∧ ∀ w ∈ s.lines, SmallW w)
def LargeA (s : StateV) (v : Value) : Prop := ∃ b, v = .bool b ∧ (b = false → SmallS0 s)
theorem large_spec {A : AH} {x : Value} {s : StateV} {Q : Value → AH → Prop} (hx : StateA A x s) (hq : ∀ b : Bool, (b = false → SmallS0 s) → Q (.bool b) A) : ACalls 3 Tryd.prog chantrylaw40_large [x] Q A := by
  refine ACalls.pure (S := LargeA s) (fun v ⟨b, e, h⟩ => by rw [e]; exact hq b h) ?_
  have big : LargeA s (.bool true) := ⟨true, rfl, fun h => by cases h⟩
  obtain ⟨c, m, v, l, rfl, hc, hm, hv, hl⟩ := hx
  refine ACalls.of_fits mixed fits_chantrylaw40_large rfl ?_
  unfold ic_chantrylaw40_large
  have i0 : initA [.agg #[c, m, v, l]] 0 = .agg #[c, m, v, l] := rfl
  generalize initA [.agg #[c, m, v, l]] = a at i0
  have oc := (Sl.one1 hc).2
  have om := (Sl.one1 hm).2
  have ov := (Sl.one1 hv).2
  have ol := (Sl.one1 hl).2
  refine W_mid (fun a B => B = A ++ [.row [c, m, v, l] .own 0 true] ∧ a 1 = ptr A.length) ?_ ?_
  · simp (maxSteps := 1000000) (disch := omega) only [stepS, reduceIte, Nat.reduceBEq, Nat.reduceEqDiff, tupleOf, stepT, stepX, heapR, lensR, Nat.reduceAdd, Nat.reduceLeDiff, i0, oc, om, ov, ol]
  rintro a B0 ⟨hB, g1⟩
  have k0 : Le A B0 := by rw [hB]; exact .push _ _
  have r1 : rowAt B0 A.length = some ([c, m, v, l], .own, 0, true) := by rw [hB]; exact rowAt_own (get_last _ _)
  clear i0 hB
  have lc := hc.len
  have lm := hm.len
  have lv := hv.len
  have ll := hl.len
  refine W_midR (fun a B => (s.counts.length ≤ 30 ∧ s.members.length ≤ 30 ∧ s.values.length ≤ 30 ∧ s.lines.length ≤ 30) ∧ B = B0 ∧ a 1 = ptr A.length) ?_ ?_
  · by_cases h1 : s.counts.length ≤ 30
    · by_cases h2 : s.members.length ≤ 30
      · by_cases h3 : s.values.length ≤ 30
        · by_cases h4 : s.lines.length ≤ 30
          · simp (maxSteps := 1000000) (disch := omega) only [stepS, reduceIte, Nat.reduceBEq, Nat.reduceEqDiff, tupleOf, stepT, stepX, heapR, lensR, Nat.reduceAdd, Nat.reduceLeDiff, g1, r1, lc, lm, lv, ll, reduceCtorEq, false_and, or_false, true_and]
            all_goals exact ⟨h1, h2, h3, h4⟩
          · simp (maxSteps := 1000000) (disch := omega) only [stepS, reduceIte, Nat.reduceBEq, Nat.reduceEqDiff, tupleOf, stepT, stepX, heapR, lensR, Nat.reduceAdd, Nat.reduceLeDiff, g1, r1, lc, lm, lv, ll, reduceCtorEq, false_and, false_or, true_and]
            exact ⟨k0, rfl, big⟩
        · simp (maxSteps := 1000000) (disch := omega) only [stepS, reduceIte, Nat.reduceBEq, Nat.reduceEqDiff, tupleOf, stepT, stepX, heapR, lensR, Nat.reduceAdd, Nat.reduceLeDiff, g1, r1, lc, lm, lv, ll, reduceCtorEq, false_and, false_or, true_and]
          exact ⟨k0, rfl, big⟩
      · simp (maxSteps := 1000000) (disch := omega) only [stepS, reduceIte, Nat.reduceBEq, Nat.reduceEqDiff, tupleOf, stepT, stepX, heapR, lensR, Nat.reduceAdd, Nat.reduceLeDiff, g1, r1, lc, lm, lv, ll, reduceCtorEq, false_and, false_or, true_and]
        exact ⟨k0, rfl, big⟩
    · simp (maxSteps := 1000000) (disch := omega) only [stepS, reduceIte, Nat.reduceBEq, Nat.reduceEqDiff, tupleOf, stepT, stepX, heapR, lensR, Nat.reduceAdd, Nat.reduceLeDiff, g1, r1, lc, lm, lv, ll, reduceCtorEq, false_and, false_or, true_and]
      exact ⟨k0, rfl, big⟩
  rintro a B1 ⟨⟨b1, b2, b3, b4⟩, hB, g1⟩
  obtain rfl : B0 = B1 := hB.symm
  clear hB
  refine W_midR (fun a B => (∀ w ∈ s.counts, w.name.size ≤ 100) ∧ B = B0 ∧ a 1 = ptr A.length) ?_ ?_
  · simp (maxSteps := 1000000) (disch := omega) only [stepS, reduceIte, Nat.reduceBEq, Nat.reduceEqDiff, tupleOf, stepT, g1]
    refine W_loop (fun a' D => ∃ j : Nat, j ≤ s.counts.length ∧ D = B0 ∧ a' 1 = ptr A.length ∧ a' 3 = ii j ∧ ∀ w ∈ s.counts.take j, w.name.size ≤ 100) (fun a' _ => s.counts.length - (iv (a' 3)).toNat) ?_ ?_
    · refine ⟨0, Nat.zero_le _, rfl, ?_⟩
      simp (maxSteps := 1000000) (disch := omega) only [stepS, reduceIte, Nat.reduceBEq, Nat.reduceEqDiff, tupleOf, stepT, g1]
      simp
    · rintro a2 D ⟨j, hj, hD, g1, g3, hs⟩
      obtain rfl : B0 = D := hD.symm
      clear hD
      rcases Nat.lt_or_ge j s.counts.length with hlt | hge
      · obtain ⟨w, hw⟩ := get_some hlt
        obtain ⟨p, q, p1, p2, p3⟩ := hc.fld hw (o := 0) (x := .string w.name) rfl
        have p4 := p3 B0 k0
        have htk : s.counts.take (j + 1) = s.counts.take j ++ [w] := by rw [List.take_add_one, hw]; rfl
        by_cases h5 : w.name.size ≤ 100
        · simp (maxSteps := 1000000) (disch := omega) only [stepS, reduceIte, Nat.reduceBEq, Nat.reduceEqDiff, tupleOf, stepT, stepX, heapR, lensR, Nat.reduceAdd, Nat.reduceLeDiff, g1, g3, lc, r1, p1, p2, p4]
          refine ⟨⟨j + 1, by omega, rfl, fun x hx => ?_⟩, by omega⟩
          rw [htk, List.mem_append, List.mem_singleton] at hx
          rcases hx with hx | rfl
          · exact hs x hx
          · exact h5
        · simp (maxSteps := 1000000) (disch := omega) only [stepS, reduceIte, Nat.reduceBEq, Nat.reduceEqDiff, tupleOf, stepT, stepX, heapR, lensR, Nat.reduceAdd, Nat.reduceLeDiff, g1, g3, lc, r1, p1, p2, p4]
          exact .inr ⟨k0, rfl, big⟩
      · simp (maxSteps := 1000000) (disch := omega) only [stepS, reduceIte, Nat.reduceBEq, Nat.reduceEqDiff, tupleOf, stepT, stepX, heapR, lensR, Nat.reduceAdd, Nat.reduceLeDiff, g1, g3, lc, r1]
        rw [List.take_of_length_le hge] at hs
        exact .inl hs
  rintro a B1 ⟨b5, hB, g1⟩
  obtain rfl : B0 = B1 := hB.symm
  clear hB
  have l0 : sLit B0 [.string ⟨#[]⟩, .string ⟨#[]⟩] 2 0 [] = some (.slice (some ⟨B0.length, 0, none⟩) 0 0, B0 ++ [.row [] .own 2 true]) := rfl
  have k1 : Le B0 (B0 ++ [.row [] .own 2 true]) := .push _ _
  have w0 : OwnE B0.length (B0 ++ [.row [] .own 2 true]) 2 (.slice (some ⟨B0.length, 0, none⟩) 0 0) [] :=
    ⟨fun e he => (by cases he), rfl, .inr (.inr ⟨B0.length, 0, 0, [], true, rfl, Nat.le_refl _, Nat.le_refl _, by simp, by simp, fun j hj => by simp at hj⟩)⟩
  obtain ⟨x1, D1, q1, j1, w1, e1⟩ := OwnE.app (bytes := 32) k1 w0 (hm.le (k0.trans k1)) (wordE_ok _) (by decide) (by rw [List.length_map]; simp; omega) (by decide)
  obtain ⟨x2, D2, q2, j2, w2, e2⟩ := OwnE.app (bytes := 32) j1 w1 (hv.le (k0.trans j1)) (wordE_ok _) (by decide) (by simp; omega) (by decide)
  obtain ⟨x3, D3, q3, j3, w3, e3⟩ := OwnE.app (bytes := 32) j2 w2 (hl.le (k0.trans j2)) (wordE_ok _) (by decide) (by simp; omega) (by decide)
  have hA := lt_of_get (rowAt_get r1)
  have low : ∀ {D : AH} {x : Value} {n : Nat} {cs : List Value}, OwnS B0.length D 2 x n cs → ∀ k ∈ [A.length, A.length, A.length], k ∉ blkOf x := fun h k hk hm => by
    have h1 := (OwnS.ge h k hm).1
    simp only [List.mem_cons, List.not_mem_nil, or_false, or_self] at hk
    omega
  have rd1 := e1.rd (low w0.2)
  have rd2 := e2.rd (low w1.2)
  refine W_mid (fun a B => B = D3 ∧ a 4 = x3) ?_ ?_
  · simp (maxSteps := 1000000) (disch := omega) only [stepS, reduceIte, Nat.reduceBEq, Nat.reduceEqDiff, tupleOf, stepT, stepX, heapR, lensR, Nat.reduceAdd, Nat.reduceLeDiff, g1, r1, l0, q1, q2, q3]
    exact ⟨rd1, rd2⟩
  rintro a B ⟨hB, g4⟩
  subst hB
  have hWL : WordsA B x3 (s.members ++ s.values ++ s.lines) := by
    unfold WordsA
    rw [List.map_append, List.map_append]
    exact w3.2.sl
  have lw := hWL.len
  have kB := k0.trans j3
  refine W_midR (fun a B' => B' = B ∧ (∀ w ∈ s.members ++ s.values ++ s.lines, SmallW w)) ?_ ?_
  · simp (maxSteps := 1000000) (disch := omega) only [stepS, reduceIte, Nat.reduceBEq, Nat.reduceEqDiff, tupleOf, stepT, g4]
    generalize hW : s.members ++ s.values ++ s.lines = ws at *
    have hwl : ws.length ≤ 90 := by rw [← hW]; simp; omega
    refine W_loop (fun a' D => ∃ j : Nat, j ≤ ws.length ∧ D = B ∧ a' 4 = x3 ∧ a' 5 = ii j ∧ ∀ w ∈ ws.take j, SmallW w) (fun a' _ => ws.length - (iv (a' 5)).toNat) ?_ ?_
    · refine ⟨0, Nat.zero_le _, rfl, ?_⟩
      simp (maxSteps := 1000000) (disch := omega) only [stepS, reduceIte, Nat.reduceBEq, Nat.reduceEqDiff, tupleOf, stepT, g4]
      simp
    · rintro a2 D ⟨j, hj, hD, g4, g5, hs⟩
      subst hD
      rcases Nat.lt_or_ge j ws.length with hlt | hge
      · obtain ⟨w, hw⟩ := get_some hlt
        obtain ⟨p, q, p1, p2, p3⟩ := hWL.fld hw (o := 0) (x := .string w.name) rfl
        obtain ⟨p', q', u1, u2, u3⟩ := hWL.fld hw (o := 1) (x := .string w.text) rfl
        have e : p' = p := by
          have h1 := p1 D j rfl
          rw [u1 D j rfl] at h1
          injection h1 with h1
          injection h1 with h1 _
        subst e
        have p4 := p3 D (.refl _)
        have u4 := u3 D (.refl _)
        have htk : ws.take (j + 1) = ws.take j ++ [w] := by rw [List.take_add_one, hw]; rfl
        by_cases h5 : w.name.size ≤ 100
        · by_cases h6 : w.text.size ≤ 200
          · simp (maxSteps := 1000000) (disch := omega) only [stepS, reduceIte, Nat.reduceBEq, Nat.reduceEqDiff, tupleOf, stepT, stepX, heapR, lensR, Nat.reduceAdd, Nat.reduceLeDiff, g4, g5, lw, p1, p2, p4, u2, u4]
            refine ⟨⟨j + 1, by omega, rfl, fun x hx => ?_⟩, by omega⟩
            rw [htk, List.mem_append, List.mem_singleton] at hx
            rcases hx with hx | rfl
            · exact hs x hx
            · exact ⟨h5, h6⟩
          · simp (maxSteps := 1000000) (disch := omega) only [stepS, reduceIte, Nat.reduceBEq, Nat.reduceEqDiff, tupleOf, stepT, stepX, heapR, lensR, Nat.reduceAdd, Nat.reduceLeDiff, g4, g5, lw, p1, p2, p4, u2, u4]
            exact .inr ⟨kB, rfl, big⟩
        · simp (maxSteps := 1000000) (disch := omega) only [stepS, reduceIte, Nat.reduceBEq, Nat.reduceEqDiff, tupleOf, stepT, stepX, heapR, lensR, Nat.reduceAdd, Nat.reduceLeDiff, g4, g5, lw, p1, p2, p4]
          exact .inr ⟨kB, rfl, big⟩
      · simp (maxSteps := 1000000) (disch := omega) only [stepS, reduceIte, Nat.reduceBEq, Nat.reduceEqDiff, tupleOf, stepT, stepX, heapR, lensR, Nat.reduceAdd, Nat.reduceLeDiff, g4, g5, lw]
        rw [List.take_of_length_le hge] at hs
        exact .inl hs
  rintro a B' ⟨hB, hall⟩
  subst hB
  simp (maxSteps := 1000000) (disch := omega) only [stepS, reduceIte, Nat.reduceBEq, Nat.reduceEqDiff, tupleOf, stepT]
  exact ⟨kB, rfl, false, rfl, fun _ => ⟨⟨b1, b5⟩, ⟨b2, fun w hw => hall w (by simp [hw])⟩, ⟨b3, fun w hw => hall w (by simp [hw])⟩, b4, fun w hw => hall w (by simp [hw])⟩⟩
end Go.AS.C


namespace Go.AS.C
open Go Go.Proofs
set_option linter.unusedVariables false
set_option linter.unusedSimpArgs false
set_option maxRecDepth 10000

theorem ref01_Texts_spec {A : AH} {v w : Value} {l m : List ByteArray} {Q : Value → AH → Prop} (hv : SlT A v l) (hw : SlT A w m) (hl : l.length < 2 ^ 50) (hm : m.length < 2 ^ 50) (hq : ∀ b : Bool, (b = true ↔ l = m) → Q (.bool b) A) : ACalls 3 Tryd.prog chantryref01_Texts [v, w] Q A := by
  refine ACalls.of_fits mixed fits_chantryref01_Texts rfl ?_
  unfold ic_chantryref01_Texts
  have i0 : initA [v, w] 0 = v := rfl
  have i1 : initA [v, w] 1 = w := rfl
  generalize initA [v, w] = a at i0 i1
  have hvl := hv.len
  have hwl := hw.len
  by_cases hn : l.length = m.length
  · simp (maxSteps := 1000000) (disch := omega) only [stepS, reduceIte, Nat.reduceBEq, Nat.reduceEqDiff, tupleOf, stepT, i0, i1, hvl, hwl]
    refine W_loop (fun a' B => B = A ∧ ∃ k : Nat, k ≤ l.length ∧ l.take k = m.take k ∧ a' 0 = v ∧ a' 1 = w ∧ a' 5 = ii k) (fun a' _ => l.length - (iv (a' 5)).toNat) ?_ ?_
    · refine ⟨rfl, 0, by omega, rfl, ?_⟩
      simp (maxSteps := 1000000) (disch := omega) only [stepS, reduceIte, Nat.reduceBEq, Nat.reduceEqDiff, tupleOf, stepT, i0, i1]
      (all_goals (and_intros <;> first | rfl | assumption | (push_cast; rfl) | (congr 1; omega) | omega | (simp; done)))
    · rintro a2 B ⟨rfl, k, hk, hn2, g0, g1, g5⟩
      rcases Nat.lt_or_ge k l.length with hlt | hge
      · obtain ⟨s, hs⟩ := get_some hlt
        obtain ⟨t, ht⟩ := get_some (l := m) (k := k) (by omega)
        obtain ⟨p, p1, p2⟩ := hv.at hs
        have p3 := p2 B (.refl _)
        obtain ⟨q, q1, q2⟩ := hw.at ht
        have q3 := q2 B (.refl _)
        by_cases hst : s = t
        · have hd : decide (s ≠ t) = false := decide_eq_false (fun h => h hst)
          simp (maxSteps := 1000000) (disch := omega) only [stepS, reduceIte, Nat.reduceBEq, Nat.reduceEqDiff, tupleOf, stepT, g0, g1, g5, hvl, hwl, p1, p3, q1, q3, hd]
          refine ⟨⟨k + 1, by omega, ?_, rfl⟩, by omega⟩
          rw [List.take_add_one, List.take_add_one, hs, ht, hn2, hst]
        · have hd : decide (s ≠ t) = true := decide_eq_true hst
          simp (maxSteps := 1000000) (disch := omega) only [stepS, reduceIte, Nat.reduceBEq, Nat.reduceEqDiff, tupleOf, stepT, g0, g1, g5, hvl, hwl, p1, p3, q1, q3, hd]
          exact hq false ⟨(fun h => by cases h), fun h => by subst h; rw [hs] at ht; injection ht with ht; exact absurd ht hst⟩
      · rw [List.take_of_length_le hge, List.take_of_length_le (by omega)] at hn2
        simp (maxSteps := 1000000) (disch := omega) only [stepS, reduceIte, Nat.reduceBEq, Nat.reduceEqDiff, tupleOf, stepT, g0, g1, g5, hvl]
        exact hq true ⟨fun _ => hn2, fun _ => rfl⟩
  · simp (maxSteps := 1000000) (disch := omega) only [stepS, reduceIte, Nat.reduceBEq, Nat.reduceEqDiff, tupleOf, stepT, i0, i1, hvl, hwl]
    exact hq false ⟨(fun h => by cases h), fun h => absurd (by rw [h]) hn⟩
end Go.AS.C


namespace Go.AS.C
open Go Go.Proofs
set_option linter.unusedVariables false
set_option linter.unusedSimpArgs false
set_option maxRecDepth 10000

/-! Arguments: states, steps, replies, faults. -/
/-- A state's numbers are in range. -/
def RangeS (s : StateV) : Prop := ∀ w ∈ s.counts, -9223372036854775808 ≤ w.n ∧ w.n < 9223372036854775808
theorem small_of {s : StateV} (h : SmallS0 s) (r : RangeS s) : SmallS s := ⟨⟨h.1.1, fun w hw => ⟨h.1.2 w hw, r w hw⟩⟩, h.2⟩
theorem good_count {A : AH} {F : Nat} (cs : List Value) (h : Good Tryd.prog A (F + 2) 48 cs) : ∃ w : CountV, cs = countE w ∧ (-9223372036854775808 ≤ w.n ∧ w.n < 9223372036854775808) := by
  obtain ⟨hl, hf⟩ := good_fields Tryd.underlying48 h
  have hc : Tryd.prog.cellsOf 48 = 2 := by kernel_rfl
  rw [hc] at hl
  match cs, hl with
  | [c0, c1], _ =>
    have e3 : Tryd.prog.cellsOf 3 = 1 := by kernel_rfl
    have e9 : Tryd.prog.cellsOf 9 = 1 := by kernel_rfl
    simp only [List.forall_mem_cons, e3, e9, List.drop_zero, List.drop_succ_cons, List.take_succ_cons, List.take_zero] at hf
    obtain ⟨h0, h1, _⟩ := hf
    obtain ⟨s, r0, b0⟩ := cell_str Tryd.underlying9 h0
    obtain ⟨n, r1, b1⟩ := cell_int Tryd.underlying3 h1
    injection r0 with r0 _
    injection r1 with r1 _
    subst r0 r1
    exact ⟨⟨s, n⟩, rfl, b1⟩
theorem good_word {A : AH} {F : Nat} (cs : List Value) (h : Good Tryd.prog A (F + 2) 50 cs) : ∃ w : WordV, cs = wordE w ∧ True := by
  obtain ⟨hl, hf⟩ := good_fields Tryd.underlying50 h
  have hc : Tryd.prog.cellsOf 50 = 2 := by kernel_rfl
  rw [hc] at hl
  match cs, hl with
  | [c0, c1], _ =>
    have e9 : Tryd.prog.cellsOf 9 = 1 := by kernel_rfl
    simp only [List.forall_mem_cons, e9, List.drop_zero, List.drop_succ_cons, List.take_succ_cons, List.take_zero] at hf
    obtain ⟨h0, h1, _⟩ := hf
    obtain ⟨s, r0, b0⟩ := cell_str Tryd.underlying9 h0
    obtain ⟨n, r1, b1⟩ := cell_str Tryd.underlying9 h1
    injection r0 with r0 _
    injection r1 with r1 _
    subst r0 r1
    exact ⟨⟨s, n⟩, rfl, trivial⟩
theorem law_counts {A : AH} {F : Nat} {v : Value} (h : GoodV Tryd.prog A (F + 3) 28 v) : ∃ l : List CountV, CountsA A v l ∧ l.length < 2 ^ 50 ∧ ∀ w ∈ l, -9223372036854775808 ≤ w.n ∧ w.n < 9223372036854775808 :=
  law_rows Tryd.underlying28 (by kernel_rfl) (by decide +kernel) good_count h
theorem law_words {A : AH} {F : Nat} {v : Value} (h : GoodV Tryd.prog A (F + 3) 29 v) : ∃ l : List WordV, WordsA A v l ∧ l.length < 2 ^ 50 := by
  obtain ⟨l, h1, h2, _⟩ := law_rows Tryd.underlying29 (by kernel_rfl) (by decide +kernel) good_word h
  exact ⟨l, h1, h2⟩
theorem good_state {A : AH} {F : Nat} {cs : List Value} (h : Good Tryd.prog A (F + 4) 31 cs) : ∃ s : StateV, StateA A (.agg cs.toArray) s ∧ RangeS s := by
  obtain ⟨hl, hf⟩ := good_fields Tryd.underlying31 h
  have hc : Tryd.prog.cellsOf 31 = 4 := by kernel_rfl
  rw [hc] at hl
  match cs, hl with
  | [c0, c1, c2, c3], _ =>
    have e28 : Tryd.prog.cellsOf 28 = 1 := by kernel_rfl
    have e29 : Tryd.prog.cellsOf 29 = 1 := by kernel_rfl
    simp only [List.forall_mem_cons, e28, e29, List.drop_zero, List.drop_succ_cons, List.take_succ_cons, List.take_zero] at hf
    obtain ⟨h0, h1, h2, h3, _⟩ := hf
    obtain ⟨v0, r0, g0⟩ := cell_slice Tryd.underlying28 h0
    obtain ⟨v1, r1, g1⟩ := cell_slice Tryd.underlying29 h1
    obtain ⟨v2, r2, g2⟩ := cell_slice Tryd.underlying29 h2
    obtain ⟨v3, r3, g3⟩ := cell_slice Tryd.underlying29 h3
    injection r0 with r0 _
    injection r1 with r1 _
    injection r2 with r2 _
    injection r3 with r3 _
    subst r0 r1 r2 r3
    obtain ⟨l0, a0, _, b0⟩ := law_counts g0
    obtain ⟨l1, a1, _⟩ := law_words g1
    obtain ⟨l2, a2, _⟩ := law_words g2
    obtain ⟨l3, a3, _⟩ := law_words g3
    exact ⟨⟨l0, l1, l2, l3⟩, ⟨_, _, _, _, rfl, a0, a1, a2, a3⟩, b0⟩
theorem law_state {A : AH} {F : Nat} {v : Value} (h : GoodV Tryd.prog A (F + 4) 31 v) : ∃ s : StateV, StateA A v s ∧ RangeS s := by
  obtain ⟨cs, rfl, hg⟩ := good_struct Tryd.underlying31 h
  exact good_state hg

/-- A step. -/
structure StepV where
  kind : Int
  texts : List (List UInt8)
  ids : List ByteArray
  n : Int
  masks : List Int
def StepA (A : AH) (x : Value) (s : StepV) : Prop := ∃ t i m : Value, x = .agg #[ii s.kind, t, i, ii s.n, m] ∧ Byts A t s.texts ∧ SlT A i s.ids ∧ SlI A .i64 m s.masks
theorem StepA.le {A B : AH} {x : Value} {s : StepV} (h : StepA A x s) (hl : Le A B) : StepA B x s := by
  obtain ⟨t, i, m, h1, h2, h3, h4⟩ := h
  exact ⟨t, i, m, h1, h2.le hl, h3.le hl, h4.le hl⟩
/-- A reply. -/
structure ReplyV where
  err : Int
  ids : List ByteArray
  texts : List (List UInt8)
  state : StateV
def ReplyA (A : AH) (x : Value) (r : ReplyV) : Prop := ∃ i t c m v l : Value, x = .agg #[ii r.err, i, t, c, m, v, l] ∧ SlT A i r.ids ∧ Byts A t r.texts ∧ StateA A (.agg #[c, m, v, l]) r.state
theorem ReplyA.le {A B : AH} {x : Value} {s : ReplyV} (h : ReplyA A x s) (hl : Le A B) : ReplyA B x s := by
  obtain ⟨i, t, c, m, v, l, h1, h2, h3, h4⟩ := h
  exact ⟨i, t, c, m, v, l, h1, h2.le hl, h3.le hl, h4.le hl⟩
end Go.AS.C


-- Printed by tab.py (wip/tools): all abstract codes of the chapter, as one table.
namespace Go.AS.C
open Go Go.Proofs
set_option maxRecDepth 100000
noncomputable def tab : List (Nat × CodeE) := [
  (chantrylaw40_TellSteps, ⟨ic_chantrylaw40_TellSteps, [.tmp 6], 3⟩),
  (chantrylaw40_TellStates, ⟨ic_chantrylaw40_TellStates, [.tmp 2], 1⟩),
  (chantrylaw40_TellUnlike, ⟨ic_chantrylaw40_TellUnlike, [.tmp 6], 3⟩),
  (chantryref39_Large, ⟨ic_chantryref39_Large, [.tmp 4], 2⟩),
  (chantrylaw40_large, ⟨ic_chantrylaw40_large, [.tmp 2], 1⟩),
  (chantrylaw40_awake, ⟨ic_chantrylaw40_awake, [.tmp 0], 0⟩),
  (tell_Step, ⟨ic_tell_Step, [.tmp 2], 1⟩),
  (chantryref40_Step, ⟨ic_chantryref40_Step, [.tmp 2], 1⟩),
  (chantryref01_Texts, ⟨ic_chantryref01_Texts, [.tmp 4], 2⟩),
  (tell_Reply, ⟨ic_tell_Reply, [.tmp 4], 2⟩),
  (chantryref40_Reply, ⟨ic_chantryref40_Reply, [.tmp 4], 2⟩),
  (tell_Fault, ⟨ic_tell_Fault, [.tmp 2], 1⟩),
  (chantryref40_Fault, ⟨ic_chantryref40_Fault, [.tmp 2], 1⟩),
  (tell_State, ⟨ic_tell_State, [.tmp 2], 1⟩),
  (chantryref40_State, ⟨ic_chantryref40_State, [.tmp 2], 1⟩),
  (chantryref23_Same, ⟨ic_chantryref23_Same, [.tmp 4], 2⟩),
  (chantryref39_Check, ⟨ic_chantryref39_Check, [.tmp 2], 1⟩),
  (chantryref39_Same, ⟨ic_chantryref39_Same, [.tmp 4], 2⟩),
  (tell_digits, ⟨ic_tell_digits, [.tmp 2], 1⟩),
  (tell_line, ⟨ic_tell_line, [.tmp 2], 1⟩),
  (chantryref40_name, ⟨ic_chantryref40_name, [.tmp 4], 2⟩),
  (chantryref40_digits, ⟨ic_chantryref40_digits, [.tmp 2], 1⟩),
  (chantryref40_number, ⟨ic_chantryref40_number, [.tmp 2], 1⟩),
  (tell_words, ⟨ic_tell_words, [.tmp 4], 2⟩),
  (chantryref40_words, ⟨ic_chantryref40_words, [.tmp 4], 2⟩),
  (chantryref19_Same, ⟨ic_chantryref19_Same, [.tmp 4], 2⟩),
  (chantryref20_SameWords, ⟨ic_chantryref20_SameWords, [.tmp 4], 2⟩),
  (chantryref39_may, ⟨ic_chantryref39_may, [.tmp 2], 1⟩),
  (chantryref01_Bytes, ⟨ic_chantryref01_Bytes, [.tmp 4], 2⟩),
  (chantryref01_Ints, ⟨ic_chantryref01_Ints, [.tmp 4], 2⟩),
  (ids_Hex, ⟨ic_ids_Hex, [.tmp 2], 1⟩),
  (strings_Join, ⟨ic_strings_Join, [.tmp 4], 2⟩),
  (chantryref04_Hex, ⟨ic_chantryref04_Hex, [.tmp 2], 1⟩),
  (chantryref14_Digits, ⟨ic_chantryref14_Digits, [.tmp 2], 1⟩),
  (chantryref39_uses, ⟨ic_chantryref39_uses, [.tmp 2, .tmp 3, .tmp 4, .tmp 5, .tmp 6], 1⟩),
  (strings_Builder_Grow, ⟨ic_strings_Builder_Grow, [], 2⟩),
  (strings_Builder_WriteString, ⟨ic_strings_Builder_WriteString, [.tmp 4, .tmp 5], 2⟩)]
theorem tabOk : ∀ p ∈ tab, Fits Tryd.prog 3 p.1 p.2.ic p.2.rs p.2.np := by
  unfold tab
  exact List.forall_mem_cons.2 ⟨fits_chantrylaw40_TellSteps, List.forall_mem_cons.2 ⟨fits_chantrylaw40_TellStates, List.forall_mem_cons.2 ⟨fits_chantrylaw40_TellUnlike, List.forall_mem_cons.2 ⟨fits_chantryref39_Large, List.forall_mem_cons.2 ⟨fits_chantrylaw40_large, List.forall_mem_cons.2 ⟨fits_chantrylaw40_awake, List.forall_mem_cons.2 ⟨fits_tell_Step, List.forall_mem_cons.2 ⟨fits_chantryref40_Step, List.forall_mem_cons.2 ⟨fits_chantryref01_Texts, List.forall_mem_cons.2 ⟨fits_tell_Reply, List.forall_mem_cons.2 ⟨fits_chantryref40_Reply, List.forall_mem_cons.2 ⟨fits_tell_Fault, List.forall_mem_cons.2 ⟨fits_chantryref40_Fault, List.forall_mem_cons.2 ⟨fits_tell_State, List.forall_mem_cons.2 ⟨fits_chantryref40_State, List.forall_mem_cons.2 ⟨fits_chantryref23_Same, List.forall_mem_cons.2 ⟨fits_chantryref39_Check, List.forall_mem_cons.2 ⟨fits_chantryref39_Same, List.forall_mem_cons.2 ⟨fits_tell_digits, List.forall_mem_cons.2 ⟨fits_tell_line, List.forall_mem_cons.2 ⟨fits_chantryref40_name, List.forall_mem_cons.2 ⟨fits_chantryref40_digits, List.forall_mem_cons.2 ⟨fits_chantryref40_number, List.forall_mem_cons.2 ⟨fits_tell_words, List.forall_mem_cons.2 ⟨fits_chantryref40_words, List.forall_mem_cons.2 ⟨fits_chantryref19_Same, List.forall_mem_cons.2 ⟨fits_chantryref20_SameWords, List.forall_mem_cons.2 ⟨fits_chantryref39_may, List.forall_mem_cons.2 ⟨fits_chantryref01_Bytes, List.forall_mem_cons.2 ⟨fits_chantryref01_Ints, List.forall_mem_cons.2 ⟨fits_ids_Hex, List.forall_mem_cons.2 ⟨fits_strings_Join, List.forall_mem_cons.2 ⟨fits_chantryref04_Hex, List.forall_mem_cons.2 ⟨fits_chantryref14_Digits, List.forall_mem_cons.2 ⟨fits_chantryref39_uses, List.forall_mem_cons.2 ⟨fits_strings_Builder_Grow, List.forall_mem_cons.2 ⟨fits_strings_Builder_WriteString, fun p h => by cases h⟩⟩⟩⟩⟩⟩⟩⟩⟩⟩⟩⟩⟩⟩⟩⟩⟩⟩⟩⟩⟩⟩⟩⟩⟩⟩⟩⟩⟩⟩⟩⟩⟩⟩⟩⟩⟩
end Go.AS.C


namespace Go.AS.C
open Go Go.Proofs
set_option linter.unusedVariables false
set_option linter.unusedSimpArgs false
set_option maxRecDepth 100000

/-! The law's own example is run; numbers' digits and joins are taken as known. -/
def vEq : Value → Value → Bool
  | .string a, .string b => decide (a = b)
  | .int k n, .int k' m => decide (k = k' ∧ n = m)
  | _, _ => false
theorem vEq_ok {a b : Value} (h : vEq a b = true) : a = b := by
  unfold vEq at h
  split at h
  · rw [decide_eq_true_eq] at h; rw [h]
  · rw [decide_eq_true_eq] at h; rw [h.1, h.2]
  · cases h
def vsEq : List Value → List Value → Bool
  | [], [] => true
  | a :: l, b :: r => vEq a b && vsEq l r
  | _, _ => false
theorem vsEq_ok : ∀ {l r : List Value}, vsEq l r = true → l = r
  | [], [], _ => rfl
  | a :: l, b :: r, h => by
    unfold vsEq at h
    rw [Bool.and_eq_true] at h
    rw [vEq_ok h.1, vsEq_ok h.2]
  | [], _ :: _, h => by cases h
  | _ :: _, [], h => by cases h
def isG : AH → Bool
  | .row a .ro 0 true :: .row b .ro 0 true :: .row c .ro 0 true :: _ => vsEq a kVs && (vsEq b kVf && vsEq c kVn)
  | _ => false
theorem isG_ok {A : AH} (h : isG A = true) : Le G3 A := by
  unfold isG at h
  split at h
  · rename_i a b c r
    rw [Bool.and_eq_true, Bool.and_eq_true] at h
    obtain ⟨h1, h2, h3⟩ := h
    obtain rfl := vsEq_ok h1
    obtain rfl := vsEq_ok h2
    obtain rfl := vsEq_ok h3
    refine Le.of_get (fun k hk => ?_) (by simp [G3])
    match k, hk with
    | 0, _ => rfl
    | 1, _ => rfl
    | 2, _ => rfl
  · cases h
def numW (n : Int) : Option ByteArray :=
  if -10 < n ∧ n < 0 then some ⟨#[45, UInt8.ofNat (48 + n.natAbs)]⟩ else if 0 ≤ n ∧ n < 10 then some ⟨#[UInt8.ofNat (48 + n.toNat)]⟩
  else if 10 ≤ n ∧ n < 100 then some ⟨#[UInt8.ofNat (48 + n.toNat / 10), UInt8.ofNat (48 + n.toNat % 10)]⟩ else none
theorem numW_ok {n : Int} {s : ByteArray} (h : numW n = some s) : s = numT n ∧ -100 < n ∧ n < 100 := by
  unfold numW at h
  unfold numT Lib.itoa
  split at h
  · injection h with h
    subst h
    rw [if_pos (by omega), Lib.decDigits_one (by omega)]
    exact ⟨rfl, by omega, by omega⟩
  · split at h
    · injection h with h
      subst h
      rw [if_neg (by omega), Lib.decDigits_one (by omega)]
      exact ⟨rfl, by omega, by omega⟩
    · split at h
      · injection h with h
        subst h
        rw [if_neg (by omega), Lib.decDigits_two (by omega) (by omega)]
        exact ⟨rfl, by omega, by omega⟩
      · cases h
def asT : List Value → Option (List ByteArray)
  | [] => some []
  | .string s :: r => (asT r).map (s :: ·)
  | _ => none
theorem asT_ok : ∀ {cs : List Value} {l : List ByteArray}, asT cs = some l → cs = l.map .string
  | [], l, h => by obtain rfl := Option.some.inj h; rfl
  | v :: r, l, h => by
    unfold asT at h
    split at h
    · rename_i e; cases e
    · rename_i n r' e
      injection e with e1 e2
      subst e1 e2
      rw [Option.map_eq_some_iff] at h
      obtain ⟨l', h1, rfl⟩ := h
      rw [asT_ok h1]; rfl
    · cases h
def textsAt (A : AH) : Value → Option (List ByteArray)
  | .slice none 0 0 => some []
  | .slice (some ⟨i, o, none⟩) n c => match A[i]? with
    | some (.row cs .own 1 _) => if n ≤ c ∧ o + n ≤ cs.length then asT ((cs.drop o).take n) else none
    | _ => none
  | _ => none
theorem textsAt_ok {A : AH} {v : Value} {l : List ByteArray} (h : textsAt A v = some l) : SlT A v l := by
  unfold textsAt at h
  split at h
  · obtain rfl := Option.some.inj h
    exact ⟨rfl, .inl ⟨rfl, rfl⟩⟩
  · split at h
    · split at h
      · rename_i i o n c _ cs ex hA hn
        have e := asT_ok h
        have hl : l.length = n := by
          have := congrArg List.length e
          rw [List.length_map, List.length_take, List.length_drop] at this
          omega
        refine ⟨by rw [List.length_map, Nat.mul_one], .inr (.inr ⟨i, o, c, cs, .own, ex, by rw [hl], by omega, hA, by decide, by omega, fun j hj => ?_⟩)⟩
        rw [← e, List.getElem?_take_of_lt (by omega), List.getElem?_drop]
      · cases h
    · cases h
  · cases h
def orcT : FuncId → List Value → AH → Option (Value × AH) := fun f args A =>
  if f = strings_Join then match args with
    | [v, .string s] => match textsAt A v with
      | some l => if l.length < 1000 ∧ (joinT l s).size < 1000 then some (.string (joinT l s), A) else none
      | none => none
    | _ => none
  else if f = strconv_Itoa then match args with
    | [.int .i64 n] => if isG A then (numW n).map fun s => (.string s, A) else none
    | _ => none
  else none
theorem orcT_ok : CallOk 3 Tryd.prog orcT := by
  intro f args A v A' h K k
  unfold orcT at h
  split at h
  · rename_i hf
    subst hf
    split at h
    · split at h
      · rename_i l hl
        split at h
        · rename_i s _ hs
          injection h with h
          injection h with h1 h2
          subst h1 h2
          exact join_spec joinsTexts (textsAt_ok hl) (by omega) (by omega) k
        · cases h
      · cases h
    · cases h
  · split at h
    · rename_i hf
      subst hf
      split at h
      · split at h
        · rename_i n hg
          rw [Option.map_eq_some_iff] at h
          obtain ⟨s, h1, h2⟩ := h
          obtain ⟨rfl, b0, b1⟩ := numW_ok h1
          injection h2 with h3 h4
          subst h3 h4
          exact itoa_spec (isG_ok hg) (by omega) (by omega) k
        · cases h
      · cases h
    · cases h
theorem awake_run : (runO Tryd.prog tab orcT (fun _ => false) 100000 60 chantrylaw40_awake [] G3).map (·.1) = some (.bool true) := by kernel_rfl
theorem wake {A : AH} {Q : Value → AH → Prop} (hg : Le G3 A) (hq : Q (.bool true) A) : ACalls 3 Tryd.prog chantrylaw40_awake [] Q A :=
  ACalls.runO (A0 := G3) mixed rfl (by decide +kernel) tabOk orcT_ok awake_run rfl rfl hg hq
end Go.AS.C


namespace Go.AS.C
open Go Go.Proofs
set_option linter.unusedVariables false
set_option linter.unusedSimpArgs false
set_option maxRecDepth 10000

theorem ref40_State_spec {A : AH} {x : Value} {s : StateV} {Q : Value → AH → Prop} (hx : StateA A x s) (hs : SmallS s) (hq : ∀ A' u, Le A A' → OwnT A.length A' u (stateL s) → Q u A') : ACalls 3 Tryd.prog chantryref40_State [x] Q A := by
  obtain ⟨c, m, v, l, rfl, hc, hm, hv, hl⟩ := hx
  obtain ⟨⟨sc, sc2⟩, ⟨sm, sm2⟩, ⟨sv, sv2⟩, ⟨sl, sl2⟩⟩ := hs
  refine ACalls.of_fits mixed fits_chantryref40_State rfl ?_
  unfold ic_chantryref40_State
  have i0 : initA [.agg #[c, m, v, l]] 0 = .agg #[c, m, v, l] := rfl
  generalize initA [.agg #[c, m, v, l]] = a at i0
  have oc := (Sl.one1 hc).2
  have om := (Sl.one1 hm).2
  have ov := (Sl.one1 hv).2
  have ol := (Sl.one1 hl).2
  refine W_mid (fun a B => B = A ++ [.row [c, m, v, l] .own 0 true] ∧ a 1 = ptr A.length) ?_ ?_
  · simp (maxSteps := 1000000) (disch := omega) only [stepS, reduceIte, Nat.reduceBEq, Nat.reduceEqDiff, tupleOf, stepT, stepX, heapR, lensR, Nat.reduceAdd, Nat.reduceLeDiff, i0, oc, om, ov, ol]
  rintro a B0 ⟨hB, g1⟩
  have k0 : Le A B0 := by rw [hB]; exact .push _ _
  have r1 : rowAt B0 A.length = some ([c, m, v, l], .own, 0, true) := by rw [hB]; exact rowAt_own (get_last _ _)
  clear i0 hB
  refine W_mid (fun a B => B = B0 ∧ a 1 = ptr A.length ∧ a 3 = .slice none 0 0) ?_ ?_
  · simp (maxSteps := 1000000) (disch := omega) only [stepS, reduceIte, Nat.reduceBEq, Nat.reduceEqDiff, tupleOf, stepT, stepX, heapR, lensR, Nat.reduceAdd, Nat.reduceLeDiff, g1]
  rintro a B' ⟨hB, g1, g3⟩
  obtain rfl : B0 = B' := hB.symm
  clear hB
  have hcl := hc.len
  refine W_mid (fun a B => ∃ u, Le B0 B ∧ a 1 = ptr A.length ∧ a 3 = u ∧ OwnT B0.length B u (s.counts.map lineC)) ?_ ?_
  · simp (maxSteps := 1000000) (disch := omega) only [stepS, reduceIte, Nat.reduceBEq, Nat.reduceEqDiff, tupleOf, stepT, g1, g3]
    refine W_loop (fun a' B => ∃ j : Nat, j ≤ s.counts.length ∧ Le B0 B ∧ a' 1 = ptr A.length ∧ a' 4 = ii j ∧ OwnT B0.length B (a' 3) ((s.counts.take j).map lineC)) (fun a' _ => s.counts.length - (iv (a' 4)).toNat) ?_ ?_
    · refine ⟨0, Nat.zero_le _, .refl _, ?_⟩
      simp (maxSteps := 1000000) (disch := omega) only [stepS, reduceIte, Nat.reduceBEq, Nat.reduceEqDiff, tupleOf, stepT, g1, g3]
      exact ⟨rfl, OwnT.nil _ _⟩
    · clear g1 g3
      rintro a2 B ⟨j, hj, hle, g1, g4, o3⟩
      obtain ⟨y, g3⟩ : ∃ y, a2 3 = y := ⟨_, rfl⟩
      rw [g3] at o3
      have r2 := hle.row r1
      rcases Nat.lt_or_ge j s.counts.length with hlt | hge
      · obtain ⟨w, hw⟩ := get_some hlt
        obtain ⟨hn1, hn2, hn3⟩ := sc2 w (List.mem_of_getElem? hw)
        obtain ⟨p, q, p1, p2, p3⟩ := hc.fld hw (o := 0) (x := .string w.name) rfl
        obtain ⟨p', q', u1, u2, u3⟩ := hc.fld hw (o := 1) (x := ii w.n) rfl
        have e : p' = p := by
          have h1 := p1 B j rfl
          rw [u1 B j rfl] at h1
          injection h1 with h1
          injection h1 with h1 _
        subst e
        have p4 := p3 B (k0.trans hle)
        have u4 := u3 B (k0.trans hle)
        have htk : s.counts.take (j + 1) = s.counts.take j ++ [w] := by rw [List.take_add_one, hw]; rfl
        have b2 := bl_size w.name
        have b3 := tail1_len (numT w.n)
        have b4 := numT_size hn2 (by omega)
        have c1 := cat_l [99, 111, 117, 110, 116, 32] w.name.data.toList (by simp; omega)
        have c2 := cat_l ([99, 111, 117, 110, 116, 32] ++ w.name.data.toList) (tail1 (numT w.n)) (by simp; omega)
        rw [← str_bl] at c1
        have e3 : (⟨([99, 111, 117, 110, 116, 32] ++ w.name.data.toList ++ tail1 (numT w.n)).toArray⟩ : ByteArray) = lineC w := by
          unfold lineC
          rw [lineT_cons]
          simp [tail1, countT]
        rw [e3] at c2
        simp only [List.cons_append, List.nil_append] at c1 c2
        obtain ⟨l1, x, F, q1, q2, q3, q4, q5⟩ := OwnT.push (lineC w) hle o3 (by rw [List.length_map, List.length_take]; omega)
        simp (maxSteps := 1000000) (disch := omega) only [stepS, reduceIte, Nat.reduceBEq, Nat.reduceEqDiff, tupleOf, stepT, stepX, heapR, lensR, Nat.reduceAdd, Nat.reduceLeDiff, g1, g3, g4, r2, hcl, c1, p1, p2, p4, u2, u4]
        refine ref40_number_spec (n := w.n) hn2 hn3 ?_
        simp (maxSteps := 1000000) (disch := omega) only [stepS, reduceIte, Nat.reduceBEq, Nat.reduceEqDiff, tupleOf, stepT, stepX, heapR, lensR, Nat.reduceAdd, Nat.reduceLeDiff, g1, g3, g4, r2, c2, l1, q1]
        refine ⟨⟨j + 1, by omega, q2, rfl, ?_⟩, by omega⟩
        rw [htk, List.map_append]
        exact q3
      · rw [List.take_of_length_le (by omega)] at o3
        simp (maxSteps := 1000000) (disch := omega) only [stepS, reduceIte, Nat.reduceBEq, Nat.reduceEqDiff, tupleOf, stepT, stepX, heapR, lensR, Nat.reduceAdd, Nat.reduceLeDiff, g1, g3, g4, r2, hcl]
        exact ⟨_, hle, rfl, o3⟩
  clear g1 g3 hcl
  rintro a B ⟨u, hle, g1, g3, o3⟩
  have r2 := hle.row r1
  have lc : (s.counts.map lineC).length ≤ 30 := by rw [List.length_map]; exact sc
  have lm : (s.members.map (lineW memberT)).length ≤ 30 := by rw [List.length_map]; exact sm
  have lv : (s.values.map (lineW valueT)).length ≤ 30 := by rw [List.length_map]; exact sv
  have ll : (s.lines.map (lineW linesT)).length ≤ 30 := by rw [List.length_map]; exact sl
  refine W_mid (fun a B => ∃ u, Le B0 B ∧ a 1 = ptr A.length ∧ a 3 = u ∧ OwnT B0.length B u (s.counts.map lineC ++ s.members.map (lineW memberT))) ?_ ?_
  · simp (maxSteps := 1000000) (disch := omega) only [stepS, reduceIte, Nat.reduceBEq, Nat.reduceEqDiff, tupleOf, stepT, stepX, heapR, lensR, Nat.reduceAdd, Nat.reduceLeDiff, g1, g3, r2]
    refine ref40_words_spec (what := memberT) (hm.le (k0.trans hle)) sm2 (by omega) (by decide) fun C t kC oC => ?_
    obtain ⟨x, D, q1, q2, q3, _⟩ := OwnT.app (hle.trans kC) (OwnT.le o3 kC) (OwnT.sl oC) (by omega)
    simp (maxSteps := 1000000) (disch := omega) only [stepS, reduceIte, Nat.reduceBEq, Nat.reduceEqDiff, tupleOf, stepT, stepX, heapR, lensR, Nat.reduceAdd, Nat.reduceLeDiff, g1, g3, q1]
    exact ⟨_, q2, rfl, q3⟩
  clear g1 g3 o3 r2 hle
  rintro a B ⟨u, hle, g1, g3, o3⟩
  have r2 := hle.row r1
  refine W_mid (fun a B => ∃ u, Le B0 B ∧ a 1 = ptr A.length ∧ a 3 = u ∧ OwnT B0.length B u (s.counts.map lineC ++ s.members.map (lineW memberT) ++ s.values.map (lineW valueT))) ?_ ?_
  · simp (maxSteps := 1000000) (disch := omega) only [stepS, reduceIte, Nat.reduceBEq, Nat.reduceEqDiff, tupleOf, stepT, stepX, heapR, lensR, Nat.reduceAdd, Nat.reduceLeDiff, g1, g3, r2]
    refine ref40_words_spec (what := valueT) (hv.le (k0.trans hle)) sv2 (by omega) (by decide) fun C t kC oC => ?_
    obtain ⟨x, D, q1, q2, q3, _⟩ := OwnT.app (hle.trans kC) (OwnT.le o3 kC) (OwnT.sl oC) (by rw [List.length_append]; omega)
    simp (maxSteps := 1000000) (disch := omega) only [stepS, reduceIte, Nat.reduceBEq, Nat.reduceEqDiff, tupleOf, stepT, stepX, heapR, lensR, Nat.reduceAdd, Nat.reduceLeDiff, g1, g3, q1]
    exact ⟨_, q2, rfl, q3⟩
  clear g1 g3 o3 r2 hle
  rintro a B ⟨u, hle, g1, g3, o3⟩
  have r2 := hle.row r1
  simp (maxSteps := 1000000) (disch := omega) only [stepS, reduceIte, Nat.reduceBEq, Nat.reduceEqDiff, tupleOf, stepT, stepX, heapR, lensR, Nat.reduceAdd, Nat.reduceLeDiff, g1, g3, r2]
  refine ref40_words_spec (what := linesT) (hl.le (k0.trans hle)) sl2 (by omega) (by decide) fun C t kC oC => ?_
  obtain ⟨x, D, q1, q2, q3, _⟩ := OwnT.app (hle.trans kC) (OwnT.le o3 kC) (OwnT.sl oC) (by rw [List.length_append, List.length_append]; omega)
  simp (maxSteps := 1000000) (disch := omega) only [stepS, reduceIte, Nat.reduceBEq, Nat.reduceEqDiff, tupleOf, stepT, stepX, heapR, lensR, Nat.reduceAdd, Nat.reduceLeDiff, g1, g3, q1]
  exact hq _ _ (k0.trans q2) (OwnT.mono q3 k0.len)
end Go.AS.C


namespace Go.AS.C
open Go Go.Proofs
set_option linter.unusedVariables false
set_option linter.unusedSimpArgs false
set_option maxRecDepth 10000

theorem stateL_len {s : StateV} (h : SmallS s) : (stateL s).length < 2 ^ 50 := by
  obtain ⟨⟨h1, _⟩, ⟨h2, _⟩, ⟨h3, _⟩, ⟨h4, _⟩⟩ := h
  unfold stateL
  simp only [List.length_append, List.length_map]
  omega
/-- The law. -/
theorem TellStates_spec {A : AH} {x : Value} {s : StateV} {Q : Value → AH → Prop} (hg : Le G3 A) (hx : StateA A x s) (hr : RangeS s) (hq : ∀ A', Q (.bool true) A') : ACalls 3 Tryd.prog chantrylaw40_TellStates [x] Q A := by
  have hx0 := hx
  obtain ⟨c, m, v, l, rfl, hc, hm, hv, hl⟩ := hx
  refine ACalls.of_fits mixed fits_chantrylaw40_TellStates rfl ?_
  unfold ic_chantrylaw40_TellStates
  have i0 : initA [.agg #[c, m, v, l]] 0 = .agg #[c, m, v, l] := rfl
  generalize initA [.agg #[c, m, v, l]] = a at i0
  have oc := (Sl.one1 hc).2
  have om := (Sl.one1 hm).2
  have ov := (Sl.one1 hv).2
  have ol := (Sl.one1 hl).2
  refine W_mid (fun a B => B = A ++ [.row [c, m, v, l] .own 0 true] ∧ a 1 = ptr A.length) ?_ ?_
  · simp (maxSteps := 1000000) (disch := omega) only [stepS, reduceIte, Nat.reduceBEq, Nat.reduceEqDiff, tupleOf, stepT, stepX, heapR, lensR, Nat.reduceAdd, Nat.reduceLeDiff, i0, oc, om, ov, ol]
  rintro a B0 ⟨hB, g1⟩
  have k0 : Le A B0 := by rw [hB]; exact .push _ _
  have r1 : rowAt B0 A.length = some ([c, m, v, l], .own, 0, true) := by rw [hB]; exact rowAt_own (get_last _ _)
  have hxB := hx0.le k0
  have hgB := hg.trans k0
  clear i0 hB
  simp (maxSteps := 1000000) (disch := omega) only [stepS, reduceIte, Nat.reduceBEq, Nat.reduceEqDiff, tupleOf, stepT, stepX, heapR, lensR, Nat.reduceAdd, Nat.reduceLeDiff, g1, r1]
  refine large_spec hxB fun b hb => ?_
  cases b with
  | true =>
    simp (maxSteps := 1000000) (disch := omega) only [stepS, reduceIte, Nat.reduceBEq, Nat.reduceEqDiff, tupleOf, stepT, stepX, heapR, lensR, Nat.reduceAdd, Nat.reduceLeDiff, g1, r1]
    refine wake hgB ?_
    simp (maxSteps := 1000000) (disch := omega) only [stepS, reduceIte, Nat.reduceBEq, Nat.reduceEqDiff, tupleOf, stepT, stepX, heapR, lensR, Nat.reduceAdd, Nat.reduceLeDiff]
    exact hq _
  | false =>
    have hs := small_of (hb rfl) hr
    simp (maxSteps := 1000000) (disch := omega) only [stepS, reduceIte, Nat.reduceBEq, Nat.reduceEqDiff, tupleOf, stepT, stepX, heapR, lensR, Nat.reduceAdd, Nat.reduceLeDiff, g1, r1]
    refine tell_State_spec hgB hxB hs fun C u k1 o1 => ?_
    have r2 := k1.row r1
    simp (maxSteps := 1000000) (disch := omega) only [stepS, reduceIte, Nat.reduceBEq, Nat.reduceEqDiff, tupleOf, stepT, stepX, heapR, lensR, Nat.reduceAdd, Nat.reduceLeDiff, g1, r2, k1.rd]
    refine ref40_State_spec (hxB.le k1) hs fun D w k2 o2 => ?_
    simp (maxSteps := 1000000) (disch := omega) only [stepS, reduceIte, Nat.reduceBEq, Nat.reduceEqDiff, tupleOf, stepT, stepX, heapR, lensR, Nat.reduceAdd, Nat.reduceLeDiff, g1, k2.rd]
    refine ref01_Texts_spec ((OwnT.sl o1).le k2) (OwnT.sl o2) (stateL_len hs) (stateL_len hs) fun b hb => ?_
    obtain rfl : b = true := hb.2 rfl
    simp (maxSteps := 1000000) (disch := omega) only [stepS, reduceIte, Nat.reduceBEq, Nat.reduceEqDiff, tupleOf, stepT, stepX, heapR, lensR, Nat.reduceAdd, Nat.reduceLeDiff, g1]
    refine wake (hgB.trans (k1.trans k2)) ?_
    simp (maxSteps := 1000000) (disch := omega) only [stepS, reduceIte, Nat.reduceBEq, Nat.reduceEqDiff, tupleOf, stepT, stepX, heapR, lensR, Nat.reduceAdd, Nat.reduceLeDiff]
    exact hq _
theorem TellStates_law {A : AH} {v0 : Value} (hG : Le [kBs, kBf, kBn] A) (g0 : GoodV Tryd.prog A 9 31 v0) : ACalls 3 Tryd.prog chantrylaw40_TellStates [v0] (fun v _ => v = .bool true) A := by
  obtain ⟨s, hs, hr⟩ := law_state g0
  exact TellStates_spec hG hs hr fun _ => rfl
end Go.AS.C
