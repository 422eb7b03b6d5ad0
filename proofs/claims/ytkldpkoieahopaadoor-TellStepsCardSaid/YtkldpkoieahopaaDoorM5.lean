/- Lemmas for the proof of a given statement; no conditions. -/
import Derived.Test.YtkldpkoieahopaaDoorM4
set_option maxHeartbeats 1000000

namespace Go.AS.C
open Go Go.Proofs
set_option linter.unusedVariables false
set_option linter.unusedSimpArgs false
set_option maxRecDepth 10000

/-! States as lines. -/
abbrev ptr (i : Nat) : Value := .pointer (some ⟨i, 0, none⟩)
structure CountV where
  name : ByteArray
  n : Int
def countE (w : CountV) : List Value := [.string w.name, ii w.n]
def CountsA (A : AH) (v : Value) (l : List CountV) : Prop := Sl A 2 v (l.map countE).length (l.map countE).flatten
theorem countE_ok (l : List CountV) : ∀ e ∈ l.map countE, e.length = 2 ∧ ones e = true := by
  intro e he
  rw [List.mem_map] at he
  obtain ⟨w, _, rfl⟩ := he
  exact ⟨rfl, rfl⟩
theorem CountsA.le {A B : AH} {v : Value} {l : List CountV} (h : CountsA A v l) (hl : Le A B) : CountsA B v l := Sl.le h hl
theorem CountsA.len {A : AH} {v : Value} {l : List CountV} (h : CountsA A v l) (B : AH) : sLens B false v = some (ii l.length, B) := by
  have := Sl.lenB h B
  rw [List.length_map] at this
  exact this
theorem CountsA.at {A : AH} {v : Value} {l : List CountV} (h : CountsA A v l) {j : Nat} {w : CountV} (hj : l[j]? = some w) : ∃ p, (∀ (B : AH) (n : Int), n = (j : Int) → sIaddr B v (.int .i64 n) 2 = some (p, B)) ∧ ∀ B, Le A B → sLoadn B p 2 = some (.agg #[.string w.name, ii w.n], B) := by
  obtain ⟨p, _, p1, _, p3⟩ := Sl.el h (countE_ok l) (j := j) (e := countE w) (by rw [List.getElem?_map, hj]; rfl)
  exact ⟨p, p1, fun B hB => p3 B (fun k b hb _ => hB.get hb)⟩
theorem CountsA.fld {A : AH} {v : Value} {l : List CountV} (h : CountsA A v l) {j o : Nat} {w : CountV} {x : Value} (hj : l[j]? = some w) (ho : (countE w)[o]? = some x) : ∃ p q, (∀ (B : AH) (n : Int), n = (j : Int) → sIaddr B v (.int .i64 n) 2 = some (p, B)) ∧ (∀ B, sFaddr B p o = some (q, B)) ∧ ∀ B, Le A B → sLoad1 B q = some (x, B) :=
  Sl.elfL h (countE_ok l) (j := j) (e := countE w) (by rw [List.getElem?_map, hj]; rfl) ho
structure StateV where
  counts : List CountV
  members : List WordV
  values : List WordV
  lines : List WordV
/-- A state, as a value of which the lists stand in the heap. -/
def StateA (A : AH) (x : Value) (s : StateV) : Prop := ∃ c m v l : Value, x = .agg #[c, m, v, l] ∧ CountsA A c s.counts ∧ WordsA A m s.members ∧ WordsA A v s.values ∧ WordsA A l s.lines
theorem StateA.le {A B : AH} {x : Value} {s : StateV} (h : StateA A x s) (hl : Le A B) : StateA B x s := by
  obtain ⟨c, m, v, l, h1, h2, h3, h4, h5⟩ := h
  exact ⟨c, m, v, l, h1, h2.le hl, h3.le hl, h4.le hl, h5.le hl⟩
def SmallC (w : CountV) : Prop := w.name.size ≤ 100 ∧ -9223372036854775808 ≤ w.n ∧ w.n < 9223372036854775808
def SmallS (s : StateV) : Prop := (s.counts.length ≤ 30 ∧ ∀ w ∈ s.counts, SmallC w) ∧ (s.members.length ≤ 30 ∧ ∀ w ∈ s.members, SmallW w) ∧ (s.values.length ≤ 30 ∧ ∀ w ∈ s.values, SmallW w) ∧ (s.lines.length ≤ 30 ∧ ∀ w ∈ s.lines, SmallW w)
def countT : ByteArray := ⟨#[99, 111, 117, 110, 116]⟩
def memberT : ByteArray := ⟨#[109, 101, 109, 98, 101, 114]⟩
def valueT : ByteArray := ⟨#[118, 97, 108, 117, 101]⟩
def linesT : ByteArray := ⟨#[108, 105, 110, 101]⟩
def lineC (w : CountV) : ByteArray := lineT [countT, w.name, numT w.n]
theorem lineC_size {w : CountV} (h : SmallC w) : (lineC w).size ≤ 1000 := by
  unfold lineC
  rw [lineT_cons]
  show (countT.data.toList ++ [w.name, numT w.n].flatMap tail1).length ≤ 1000
  have h1 := tail1_len w.name
  have h2 := tail1_len (numT w.n)
  have h3 := numT_size (n := w.n) h.2.1 (by have := h.2.2; omega)
  have h4 : countT.data.toList.length = 5 := rfl
  obtain ⟨s1, s2⟩ := h
  simp only [List.flatMap_cons, List.flatMap_nil, List.append_nil, List.length_append]
  omega
/-- A state's lines. -/
def stateL (s : StateV) : List ByteArray := s.counts.map lineC ++ s.members.map (lineW memberT) ++ s.values.map (lineW valueT) ++ s.lines.map (lineW linesT)
theorem tell_State_spec {A : AH} {x : Value} {s : StateV} {Q : Value → AH → Prop} (hg : Le G3 A) (hx : StateA A x s) (hs : SmallS s) (hq : ∀ A' u, Le A A' → OwnT A.length A' u (stateL s) → Q u A') : ACalls 3 Tryd.prog tell_State [x] Q A := by
  obtain ⟨c, m, v, l, rfl, hc, hm, hv, hl⟩ := hx
  obtain ⟨⟨sc, sc2⟩, ⟨sm, sm2⟩, ⟨sv, sv2⟩, ⟨sl, sl2⟩⟩ := hs
  refine ACalls.of_fits mixed fits_tell_State rfl ?_
  unfold ic_tell_State
  have i0 : initA [.agg #[c, m, v, l]] 0 = .agg #[c, m, v, l] := rfl
  generalize initA [.agg #[c, m, v, l]] = a at i0
  have oc := (Sl.one1 hc).2
  have om := (Sl.one1 hm).2
  have ov := (Sl.one1 hv).2
  have ol := (Sl.one1 hl).2
  refine W_mid (fun a B => B = A ++ [.row [c, m, v, l] .own 0 true] ∧ a 1 = ptr A.length) ?_ ?_
  · simp (maxSteps := 1000000) (disch := omega) only [stepS, reduceIte, Nat.reduceBEq, Nat.reduceEqDiff, tupleOf, stepT, stepX, heapR, lensR, Nat.reduceAdd, Nat.reduceLeDiff, i0, oc, om, ov, ol]
  rintro a B0 ⟨hB, g1⟩
  have k0 : Le A B0 := by rw [hB]; exact .push _ _
  have r1 : rowAt B0 A.length = some ([c, m, v, l], .own, 0, true) := by rw [hB]; exact rowAt_own (get_last _ _)
  clear i0 hB
  refine W_mid (fun a B => B = B0 ∧ a 1 = ptr A.length ∧ a 3 = .slice none 0 0) ?_ ?_
  · simp (maxSteps := 1000000) (disch := omega) only [stepS, reduceIte, Nat.reduceBEq, Nat.reduceEqDiff, tupleOf, stepT, stepX, heapR, lensR, Nat.reduceAdd, Nat.reduceLeDiff, g1]
  rintro a B' ⟨hB, g1, g3⟩
  obtain rfl : B0 = B' := hB.symm
  clear hB
  have hcl := hc.len
  refine W_mid (fun a B => ∃ u, Le B0 B ∧ a 1 = ptr A.length ∧ a 3 = u ∧ OwnT B0.length B u (s.counts.map lineC)) ?_ ?_
  · simp (maxSteps := 1000000) (disch := omega) only [stepS, reduceIte, Nat.reduceBEq, Nat.reduceEqDiff, tupleOf, stepT, stepX, heapR, lensR, Nat.reduceAdd, Nat.reduceLeDiff, g1, g3, r1, hcl]
    refine W_loop (fun a' B => ∃ j : Nat, j ≤ s.counts.length ∧ Le B0 B ∧ a' 1 = ptr A.length ∧ a' 7 = c ∧ a' 8 = ii s.counts.length ∧ a' 9 = ii j ∧ OwnT B0.length B (a' 3) ((s.counts.take j).map lineC)) (fun a' _ => s.counts.length - (iv (a' 9)).toNat) ?_ ?_
    · refine ⟨0, Nat.zero_le _, .refl _, ?_⟩
      simp (maxSteps := 1000000) (disch := omega) only [stepS, reduceIte, Nat.reduceBEq, Nat.reduceEqDiff, tupleOf, stepT, stepX, heapR, lensR, Nat.reduceAdd, Nat.reduceLeDiff, g1, g3, r1, hcl]
      exact ⟨rfl, OwnT.nil _ _⟩
    · clear g1 g3
      rintro a2 B ⟨j, hj, hle, g1, g7, g8, g9, o3⟩
      obtain ⟨y, g3⟩ : ∃ y, a2 3 = y := ⟨_, rfl⟩
      rw [g3] at o3
      rcases Nat.lt_or_ge j s.counts.length with hlt | hge
      · obtain ⟨w, hw⟩ := get_some hlt
        obtain ⟨hn1, hn2, hn3⟩ := sc2 w (List.mem_of_getElem? hw)
        have hsz := lineC_size (w := w) ⟨hn1, hn2, hn3⟩
        obtain ⟨p, p1, p2⟩ := hc.at hw
        have p3 := p2 B (k0.trans hle)
        have htk : s.counts.take (j + 1) = s.counts.take j ++ [w] := by rw [List.take_add_one, hw]; rfl
        have k1 : Le B ((B ++ [Blk.row [.string ⟨#[]⟩, .int .i64 0] .own 0 true]).set B.length (Blk.row [.string w.name, ii w.n] .own 0 true)) := by (repeat first | exact Le.refl _ | assumption | refine Le.app ?_ _ | refine Le.set ?_ ?_ | omega | (simp only [List.length_append, List.length_singleton, List.length_set]; omega))
        simp (maxSteps := 1000000) (disch := omega) only [stepS, reduceIte, Nat.reduceBEq, Nat.reduceEqDiff, tupleOf, stepT, stepX, heapR, lensR, Nat.reduceAdd, Nat.reduceLeDiff, g1, g3, g7, g8, g9, p1, p3]
        refine itoa_spec (n := w.n) (hg.trans ((k0.trans hle).trans k1)) hn2 (by omega) ?_
        generalize hD : (B ++ [Blk.row [.string ⟨#[]⟩, .int .i64 0] .own 0 true]).set B.length (Blk.row [.string w.name, ii w.n] .own 0 true) = D at *
        have kAD := hle.trans k1
        have oD := OwnT.le o3 k1
        have l3 := lit1 (A := D) (z := .string ⟨#[]⟩) (len := 3) (ps := [(0, 1, .string ⟨#[99, 111, 117, 110, 116]⟩), (1, 1, .string w.name), (2, 1, .string (numT w.n))]) [.string countT, .string w.name, .string (numT w.n)] rfl rfl (fun x hx => by
          simp only [List.mem_cons, List.not_mem_nil, or_false] at hx
          rcases hx with rfl | rfl | rfl <;> exact one1_str _)
        have k3 : Le D (D ++ [.row [.string countT, .string w.name, .string (numT w.n)] .own 1 true]) := .push _ _
        have s3 : SlT (D ++ [.row [.string countT, .string w.name, .string (numT w.n)] .own 1 true]) (.slice (some ⟨D.length, 0, none⟩) 3 3) [countT, w.name, numT w.n] := sl_last D (by decide) (Nat.le_refl _)
        obtain ⟨l1, x, F, q1, q2, q3, q4, q5⟩ := OwnT.push (lineC w) (kAD.trans k3) (OwnT.le oD k3) (by rw [List.length_map, List.length_take]; omega)
        have hlE : (D ++ [Blk.row [.string countT, .string w.name, .string (numT w.n)] .own 1 true]).length = D.length + 1 := by simp
        rw [hlE] at l1 q1
        simp (maxSteps := 1000000) (disch := omega) only [stepS, reduceIte, Nat.reduceBEq, Nat.reduceEqDiff, tupleOf, stepT, stepX, heapR, lensR, Nat.reduceAdd, Nat.reduceLeDiff, g1, g3, g7, g8, g9, l3]
        refine tell_line_spec s3 (by simp) (by show (lineC w).size ≤ _; omega) ?_
        have e1 : lineT [countT, w.name, numT w.n] = lineC w := rfl
        rw [e1]
        simp (maxSteps := 1000000) (disch := omega) only [stepS, reduceIte, Nat.reduceBEq, Nat.reduceEqDiff, tupleOf, stepT, stepX, heapR, lensR, Nat.reduceAdd, Nat.reduceLeDiff, g1, g3, g7, g8, g9, l1, q1]
        refine ⟨⟨j + 1, by omega, q2, rfl, ?_⟩, by omega⟩
        rw [htk, List.map_append]
        exact q3
      · rw [List.take_of_length_le (by omega)] at o3
        simp (maxSteps := 1000000) (disch := omega) only [stepS, reduceIte, Nat.reduceBEq, Nat.reduceEqDiff, tupleOf, stepT, g1, g3, g7, g8, g9]
        exact ⟨_, hle, rfl, o3⟩
  clear g1 g3 hcl
  rintro a B ⟨u, hle, g1, g3, o3⟩
  have r2 := hle.row r1
  have lc : (s.counts.map lineC).length ≤ 30 := by rw [List.length_map]; exact sc
  have lm : (s.members.map (lineW memberT)).length ≤ 30 := by rw [List.length_map]; exact sm
  have lv : (s.values.map (lineW valueT)).length ≤ 30 := by rw [List.length_map]; exact sv
  have ll : (s.lines.map (lineW linesT)).length ≤ 30 := by rw [List.length_map]; exact sl
  refine W_mid (fun a B => ∃ u, Le B0 B ∧ a 1 = ptr A.length ∧ a 3 = u ∧ OwnT B0.length B u (s.counts.map lineC ++ s.members.map (lineW memberT))) ?_ ?_
  · simp (maxSteps := 1000000) (disch := omega) only [stepS, reduceIte, Nat.reduceBEq, Nat.reduceEqDiff, tupleOf, stepT, stepX, heapR, lensR, Nat.reduceAdd, Nat.reduceLeDiff, g1, g3, r2]
    refine tell_words_spec (what := memberT) (hm.le (k0.trans hle)) sm2 (by omega) (by decide) fun C t kC oC => ?_
    obtain ⟨x, D, q1, q2, q3, _⟩ := OwnT.app (hle.trans kC) (OwnT.le o3 kC) (OwnT.sl oC) (by omega)
    simp (maxSteps := 1000000) (disch := omega) only [stepS, reduceIte, Nat.reduceBEq, Nat.reduceEqDiff, tupleOf, stepT, stepX, heapR, lensR, Nat.reduceAdd, Nat.reduceLeDiff, g1, g3, q1]
    exact ⟨_, q2, rfl, q3⟩
  clear g1 g3 o3 r2 hle
  rintro a B ⟨u, hle, g1, g3, o3⟩
  have r2 := hle.row r1
  refine W_mid (fun a B => ∃ u, Le B0 B ∧ a 1 = ptr A.length ∧ a 3 = u ∧ OwnT B0.length B u (s.counts.map lineC ++ s.members.map (lineW memberT) ++ s.values.map (lineW valueT))) ?_ ?_
  · simp (maxSteps := 1000000) (disch := omega) only [stepS, reduceIte, Nat.reduceBEq, Nat.reduceEqDiff, tupleOf, stepT, stepX, heapR, lensR, Nat.reduceAdd, Nat.reduceLeDiff, g1, g3, r2]
    refine tell_words_spec (what := valueT) (hv.le (k0.trans hle)) sv2 (by omega) (by decide) fun C t kC oC => ?_
    obtain ⟨x, D, q1, q2, q3, _⟩ := OwnT.app (hle.trans kC) (OwnT.le o3 kC) (OwnT.sl oC) (by rw [List.length_append]; omega)
    simp (maxSteps := 1000000) (disch := omega) only [stepS, reduceIte, Nat.reduceBEq, Nat.reduceEqDiff, tupleOf, stepT, stepX, heapR, lensR, Nat.reduceAdd, Nat.reduceLeDiff, g1, g3, q1]
    exact ⟨_, q2, rfl, q3⟩
  clear g1 g3 o3 r2 hle
  rintro a B ⟨u, hle, g1, g3, o3⟩
  have r2 := hle.row r1
  simp (maxSteps := 1000000) (disch := omega) only [stepS, reduceIte, Nat.reduceBEq, Nat.reduceEqDiff, tupleOf, stepT, stepX, heapR, lensR, Nat.reduceAdd, Nat.reduceLeDiff, g1, g3, r2]
  refine tell_words_spec (what := linesT) (hl.le (k0.trans hle)) sl2 (by omega) (by decide) fun C t kC oC => ?_
  obtain ⟨x, D, q1, q2, q3, _⟩ := OwnT.app (hle.trans kC) (OwnT.le o3 kC) (OwnT.sl oC) (by rw [List.length_append, List.length_append]; omega)
  simp (maxSteps := 1000000) (disch := omega) only [stepS, reduceIte, Nat.reduceBEq, Nat.reduceEqDiff, tupleOf, stepT, stepX, heapR, lensR, Nat.reduceAdd, Nat.reduceLeDiff, g1, g3, q1]
  exact hq _ _ (k0.trans q2) (OwnT.mono q3 k0.len)
end Go.AS.C


namespace Go.AS.C
open Go Go.Proofs
set_option linter.unusedVariables false
set_option linter.unusedSimpArgs false
set_option maxRecDepth 10000

def SmallS0 (s : StateV) : Prop := (s.counts.length ≤ 30 ∧ ∀ w ∈ s.counts, w.name.size ≤ 100) ∧ (s.members.length ≤ 30 ∧ ∀ w ∈ s.members, SmallW w) ∧ (s.values.length ≤ 30 ∧ ∀ w ∈ s.values, SmallW w) ∧ (s.lines.length ≤ 30 ∧ ∀ w ∈ s.lines, SmallW w)
def LargeA (s : StateV) (v : Value) : Prop := ∃ b, v = .bool b ∧ (b = false → SmallS0 s)
theorem large_spec {A : AH} {x : Value} {s : StateV} {Q : Value → AH → Prop} (hx : StateA A x s) (hq : ∀ b : Bool, (b = false → SmallS0 s) → Q (.bool b) A) : ACalls 3 Tryd.prog chantrylaw40_large [x] Q A := by
  refine ACalls.pure (S := LargeA s) (fun v ⟨b, e, h⟩ => by rw [e]; exact hq b h) ?_
  have big : LargeA s (.bool true) := ⟨true, rfl, fun h => by cases h⟩
  obtain ⟨c, m, v, l, rfl, hc, hm, hv, hl⟩ := hx
  refine ACalls.of_fits mixed fits_chantrylaw40_large rfl ?_
  unfold ic_chantrylaw40_large
  have i0 : initA [.agg #[c, m, v, l]] 0 = .agg #[c, m, v, l] := rfl
  generalize initA [.agg #[c, m, v, l]] = a at i0
  have oc := (Sl.one1 hc).2
  have om := (Sl.one1 hm).2
  have ov := (Sl.one1 hv).2
  have ol := (Sl.one1 hl).2
  refine W_mid (fun a B => B = A ++ [.row [c, m, v, l] .own 0 true] ∧ a 1 = ptr A.length) ?_ ?_
  · simp (maxSteps := 1000000) (disch := omega) only [stepS, reduceIte, Nat.reduceBEq, Nat.reduceEqDiff, tupleOf, stepT, stepX, heapR, lensR, Nat.reduceAdd, Nat.reduceLeDiff, i0, oc, om, ov, ol]
  rintro a B0 ⟨hB, g1⟩
  have k0 : Le A B0 := by rw [hB]; exact .push _ _
  have r1 : rowAt B0 A.length = some ([c, m, v, l], .own, 0, true) := by rw [hB]; exact rowAt_own (get_last _ _)
  clear i0 hB
  have lc := hc.len
  have lm := hm.len
  have lv := hv.len
  have ll := hl.len
  refine W_midR (fun a B => (s.counts.length ≤ 30 ∧ s.members.length ≤ 30 ∧ s.values.length ≤ 30 ∧ s.lines.length ≤ 30) ∧ B = B0 ∧ a 1 = ptr A.length) ?_ ?_
  · by_cases h1 : s.counts.length ≤ 30
    · by_cases h2 : s.members.length ≤ 30
      · by_cases h3 : s.values.length ≤ 30
        · by_cases h4 : s.lines.length ≤ 30
          · simp (maxSteps := 1000000) (disch := omega) only [stepS, reduceIte, Nat.reduceBEq, Nat.reduceEqDiff, tupleOf, stepT, stepX, heapR, lensR, Nat.reduceAdd, Nat.reduceLeDiff, g1, r1, lc, lm, lv, ll, reduceCtorEq, false_and, or_false, true_and]
            all_goals exact ⟨h1, h2, h3, h4⟩
          · simp (maxSteps := 1000000) (disch := omega) only [stepS, reduceIte, Nat.reduceBEq, Nat.reduceEqDiff, tupleOf, stepT, stepX, heapR, lensR, Nat.reduceAdd, Nat.reduceLeDiff, g1, r1, lc, lm, lv, ll, reduceCtorEq, false_and, false_or, true_and]
            exact ⟨k0, rfl, big⟩
        · simp (maxSteps := 1000000) (disch := omega) only [stepS, reduceIte, Nat.reduceBEq, Nat.reduceEqDiff, tupleOf, stepT, stepX, heapR, lensR, Nat.reduceAdd, Nat.reduceLeDiff, g1, r1, lc, lm, lv, ll, reduceCtorEq, false_and, false_or, true_and]
          exact ⟨k0, rfl, big⟩
      · simp (maxSteps := 1000000) (disch := omega) only [stepS, reduceIte, Nat.reduceBEq, Nat.reduceEqDiff, tupleOf, stepT, stepX, heapR, lensR, Nat.reduceAdd, Nat.reduceLeDiff, g1, r1, lc, lm, lv, ll, reduceCtorEq, false_and, false_or, true_and]
        exact ⟨k0, rfl, big⟩
    · simp (maxSteps := 1000000) (disch := omega) only [stepS, reduceIte, Nat.reduceBEq, Nat.reduceEqDiff, tupleOf, stepT, stepX, heapR, lensR, Nat.reduceAdd, Nat.reduceLeDiff, g1, r1, lc, lm, lv, ll, reduceCtorEq, false_and, false_or, true_and]
      exact ⟨k0, rfl, big⟩
  rintro a B1 ⟨⟨b1, b2, b3, b4⟩, hB, g1⟩
  obtain rfl : B0 = B1 := hB.symm
  clear hB
  refine W_midR (fun a B => (∀ w ∈ s.counts, w.name.size ≤ 100) ∧ B = B0 ∧ a 1 = ptr A.length) ?_ ?_
  · simp (maxSteps := 1000000) (disch := omega) only [stepS, reduceIte, Nat.reduceBEq, Nat.reduceEqDiff, tupleOf, stepT, g1]
    refine W_loop (fun a' D => ∃ j : Nat, j ≤ s.counts.length ∧ D = B0 ∧ a' 1 = ptr A.length ∧ a' 3 = ii j ∧ ∀ w ∈ s.counts.take j, w.name.size ≤ 100) (fun a' _ => s.counts.length - (iv (a' 3)).toNat) ?_ ?_
    · refine ⟨0, Nat.zero_le _, rfl, ?_⟩
      simp (maxSteps := 1000000) (disch := omega) only [stepS, reduceIte, Nat.reduceBEq, Nat.reduceEqDiff, tupleOf, stepT, g1]
      simp
    · rintro a2 D ⟨j, hj, hD, g1, g3, hs⟩
      obtain rfl : B0 = D := hD.symm
      clear hD
      rcases Nat.lt_or_ge j s.counts.length with hlt | hge
      · obtain ⟨w, hw⟩ := get_some hlt
        obtain ⟨p, q, p1, p2, p3⟩ := hc.fld hw (o := 0) (x := .string w.name) rfl
        have p4 := p3 B0 k0
        have htk : s.counts.take (j + 1) = s.counts.take j ++ [w] := by rw [List.take_add_one, hw]; rfl
        by_cases h5 : w.name.size ≤ 100
        · simp (maxSteps := 1000000) (disch := omega) only [stepS, reduceIte, Nat.reduceBEq, Nat.reduceEqDiff, tupleOf, stepT, stepX, heapR, lensR, Nat.reduceAdd, Nat.reduceLeDiff, g1, g3, lc, r1, p1, p2, p4]
          refine ⟨⟨j + 1, by omega, rfl, fun x hx => ?_⟩, by omega⟩
          rw [htk, List.mem_append, List.mem_singleton] at hx
          rcases hx with hx | rfl
          · exact hs x hx
          · exact h5
        · simp (maxSteps := 1000000) (disch := omega) only [stepS, reduceIte, Nat.reduceBEq, Nat.reduceEqDiff, tupleOf, stepT, stepX, heapR, lensR, Nat.reduceAdd, Nat.reduceLeDiff, g1, g3, lc, r1, p1, p2, p4]
          exact .inr ⟨k0, rfl, big⟩
      · simp (maxSteps := 1000000) (disch := omega) only [stepS, reduceIte, Nat.reduceBEq, Nat.reduceEqDiff, tupleOf, stepT, stepX, heapR, lensR, Nat.reduceAdd, Nat.reduceLeDiff, g1, g3, lc, r1]
        rw [List.take_of_length_le hge] at hs
        exact .inl hs
  rintro a B1 ⟨b5, hB, g1⟩
  obtain rfl : B0 = B1 := hB.symm
  clear hB
  have l0 : sLit B0 [.string ⟨#[]⟩, .string ⟨#[]⟩] 2 0 [] = some (.slice (some ⟨B0.length, 0, none⟩) 0 0, B0 ++ [.row [] .own 2 true]) := rfl
  have k1 : Le B0 (B0 ++ [.row [] .own 2 true]) := .push _ _
  have w0 : OwnE B0.length (B0 ++ [.row [] .own 2 true]) 2 (.slice (some ⟨B0.length, 0, none⟩) 0 0) [] :=
    ⟨fun e he => (by cases he), rfl, .inr (.inr ⟨B0.length, 0, 0, [], true, rfl, Nat.le_refl _, Nat.le_refl _, by simp, by simp, fun j hj => by simp at hj⟩)⟩
  obtain ⟨x1, D1, q1, j1, w1, e1⟩ := OwnE.app (bytes := 32) k1 w0 (hm.le (k0.trans k1)) (wordE_ok _) (by decide) (by rw [List.length_map]; simp; omega) (by decide)
  obtain ⟨x2, D2, q2, j2, w2, e2⟩ := OwnE.app (bytes := 32) j1 w1 (hv.le (k0.trans j1)) (wordE_ok _) (by decide) (by simp; omega) (by decide)
  obtain ⟨x3, D3, q3, j3, w3, e3⟩ := OwnE.app (bytes := 32) j2 w2 (hl.le (k0.trans j2)) (wordE_ok _) (by decide) (by simp; omega) (by decide)
  have hA := lt_of_get (rowAt_get r1)
  have low : ∀ {D : AH} {x : Value} {n : Nat} {cs : List Value}, OwnS B0.length D 2 x n cs → ∀ k ∈ [A.length, A.length, A.length], k ∉ blkOf x := fun h k hk hm => by
    have h1 := (OwnS.ge h k hm).1
    simp only [List.mem_cons, List.not_mem_nil, or_false, or_self] at hk
    omega
  have rd1 := e1.rd (low w0.2)
  have rd2 := e2.rd (low w1.2)
  refine W_mid (fun a B => B = D3 ∧ a 4 = x3) ?_ ?_
  · simp (maxSteps := 1000000) (disch := omega) only [stepS, reduceIte, Nat.reduceBEq, Nat.reduceEqDiff, tupleOf, stepT, stepX, heapR, lensR, Nat.reduceAdd, Nat.reduceLeDiff, g1, r1, l0, q1, q2, q3]
    exact ⟨rd1, rd2⟩
  rintro a B ⟨hB, g4⟩
  subst hB
  have hWL : WordsA B x3 (s.members ++ s.values ++ s.lines) := by
    unfold WordsA
    rw [List.map_append, List.map_append]
    exact w3.2.sl
  have lw := hWL.len
  have kB := k0.trans j3
  refine W_midR (fun a B' => B' = B ∧ (∀ w ∈ s.members ++ s.values ++ s.lines, SmallW w)) ?_ ?_
  · simp (maxSteps := 1000000) (disch := omega) only [stepS, reduceIte, Nat.reduceBEq, Nat.reduceEqDiff, tupleOf, stepT, g4]
    generalize hW : s.members ++ s.values ++ s.lines = ws at *
    have hwl : ws.length ≤ 90 := by rw [← hW]; simp; omega
    refine W_loop (fun a' D => ∃ j : Nat, j ≤ ws.length ∧ D = B ∧ a' 4 = x3 ∧ a' 5 = ii j ∧ ∀ w ∈ ws.take j, SmallW w) (fun a' _ => ws.length - (iv (a' 5)).toNat) ?_ ?_
    · refine ⟨0, Nat.zero_le _, rfl, ?_⟩
      simp (maxSteps := 1000000) (disch := omega) only [stepS, reduceIte, Nat.reduceBEq, Nat.reduceEqDiff, tupleOf, stepT, g4]
      simp
    · rintro a2 D ⟨j, hj, hD, g4, g5, hs⟩
      subst hD
      rcases Nat.lt_or_ge j ws.length with hlt | hge
      · obtain ⟨w, hw⟩ := get_some hlt
        obtain ⟨p, q, p1, p2, p3⟩ := hWL.fld hw (o := 0) (x := .string w.name) rfl
        obtain ⟨p', q', u1, u2, u3⟩ := hWL.fld hw (o := 1) (x := .string w.text) rfl
        have e : p' = p := by
          have h1 := p1 D j rfl
          rw [u1 D j rfl] at h1
          injection h1 with h1
          injection h1 with h1 _
        subst e
        have p4 := p3 D (.refl _)
        have u4 := u3 D (.refl _)
        have htk : ws.take (j + 1) = ws.take j ++ [w] := by rw [List.take_add_one, hw]; rfl
        by_cases h5 : w.name.size ≤ 100
        · by_cases h6 : w.text.size ≤ 200
          · simp (maxSteps := 1000000) (disch := omega) only [stepS, reduceIte, Nat.reduceBEq, Nat.reduceEqDiff, tupleOf, stepT, stepX, heapR, lensR, Nat.reduceAdd, Nat.reduceLeDiff, g4, g5, lw, p1, p2, p4, u2, u4]
            refine ⟨⟨j + 1, by omega, rfl, fun x hx => ?_⟩, by omega⟩
            rw [htk, List.mem_append, List.mem_singleton] at hx
            rcases hx with hx | rfl
            · exact hs x hx
            · exact ⟨h5, h6⟩
          · simp (maxSteps := 1000000) (disch := omega) only [stepS, reduceIte, Nat.reduceBEq, Nat.reduceEqDiff, tupleOf, stepT, stepX, heapR, lensR, Nat.reduceAdd, Nat.reduceLeDiff, g4, g5, lw, p1, p2, p4, u2, u4]
            exact .inr ⟨kB, rfl, big⟩
        · simp (maxSteps := 1000000) (disch := omega) only [stepS, reduceIte, Nat.reduceBEq, Nat.reduceEqDiff, tupleOf, stepT, stepX, heapR, lensR, Nat.reduceAdd, Nat.reduceLeDiff, g4, g5, lw, p1, p2, p4]
          exact .inr ⟨kB, rfl, big⟩
      · simp (maxSteps := 1000000) (disch := omega) only [stepS, reduceIte, Nat.reduceBEq, Nat.reduceEqDiff, tupleOf, stepT, stepX, heapR, lensR, Nat.reduceAdd, Nat.reduceLeDiff, g4, g5, lw]
        rw [List.take_of_length_le hge] at hs
        exact .inl hs
  rintro a B' ⟨hB, hall⟩
  subst hB
  simp (maxSteps := 1000000) (disch := omega) only [stepS, reduceIte, Nat.reduceBEq, Nat.reduceEqDiff, tupleOf, stepT]
  exact ⟨kB, rfl, false, rfl, fun _ => ⟨⟨b1, b5⟩, ⟨b2, fun w hw => hall w (by simp [hw])⟩, ⟨b3, fun w hw => hall w (by simp [hw])⟩, b4, fun w hw => hall w (by simp [hw])⟩⟩
end Go.AS.C


namespace Go.AS.C
open Go Go.Proofs
set_option linter.unusedVariables false
set_option linter.unusedSimpArgs false
set_option maxRecDepth 10000

theorem ref01_Texts_spec {A : AH} {v w : Value} {l m : List ByteArray} {Q : Value → AH → Prop} (hv : SlT A v l) (hw : SlT A w m) (hl : l.length < 2 ^ 50) (hm : m.length < 2 ^ 50) (hq : ∀ b : Bool, (b = true ↔ l = m) → Q (.bool b) A) : ACalls 3 Tryd.prog chantryref01_Texts [v, w] Q A := by
  refine ACalls.of_fits mixed fits_chantryref01_Texts rfl ?_
  unfold ic_chantryref01_Texts
  have i0 : initA [v, w] 0 = v := rfl
  have i1 : initA [v, w] 1 = w := rfl
  generalize initA [v, w] = a at i0 i1
  have hvl := hv.len
  have hwl := hw.len
  by_cases hn : l.length = m.length
  · simp (maxSteps := 1000000) (disch := omega) only [stepS, reduceIte, Nat.reduceBEq, Nat.reduceEqDiff, tupleOf, stepT, i0, i1, hvl, hwl]
    refine W_loop (fun a' B => B = A ∧ ∃ k : Nat, k ≤ l.length ∧ l.take k = m.take k ∧ a' 0 = v ∧ a' 1 = w ∧ a' 5 = ii k) (fun a' _ => l.length - (iv (a' 5)).toNat) ?_ ?_
    · refine ⟨rfl, 0, by omega, rfl, ?_⟩
      simp (maxSteps := 1000000) (disch := omega) only [stepS, reduceIte, Nat.reduceBEq, Nat.reduceEqDiff, tupleOf, stepT, i0, i1]
      (all_goals (and_intros <;> first | rfl | assumption | (push_cast; rfl) | (congr 1; omega) | omega | (simp; done)))
    · rintro a2 B ⟨rfl, k, hk, hn2, g0, g1, g5⟩
      rcases Nat.lt_or_ge k l.length with hlt | hge
      · obtain ⟨s, hs⟩ := get_some hlt
        obtain ⟨t, ht⟩ := get_some (l := m) (k := k) (by omega)
        obtain ⟨p, p1, p2⟩ := hv.at hs
        have p3 := p2 B (.refl _)
        obtain ⟨q, q1, q2⟩ := hw.at ht
        have q3 := q2 B (.refl _)
        by_cases hst : s = t
        · have hd : decide (s ≠ t) = false := decide_eq_false (fun h => h hst)
          simp (maxSteps := 1000000) (disch := omega) only [stepS, reduceIte, Nat.reduceBEq, Nat.reduceEqDiff, tupleOf, stepT, g0, g1, g5, hvl, hwl, p1, p3, q1, q3, hd]
          refine ⟨⟨k + 1, by omega, ?_, rfl⟩, by omega⟩
          rw [List.take_add_one, List.take_add_one, hs, ht, hn2, hst]
        · have hd : decide (s ≠ t) = true := decide_eq_true hst
          simp (maxSteps := 1000000) (disch := omega) only [stepS, reduceIte, Nat.reduceBEq, Nat.reduceEqDiff, tupleOf, stepT, g0, g1, g5, hvl, hwl, p1, p3, q1, q3, hd]
          exact hq false ⟨(fun h => by cases h), fun h => by subst h; rw [hs] at ht; injection ht with ht; exact absurd ht hst⟩
      · rw [List.take_of_length_le hge, List.take_of_length_le (by omega)] at hn2
        simp (maxSteps := 1000000) (disch := omega) only [stepS, reduceIte, Nat.reduceBEq, Nat.reduceEqDiff, tupleOf, stepT, g0, g1, g5, hvl]
        exact hq true ⟨fun _ => hn2, fun _ => rfl⟩
  · simp (maxSteps := 1000000) (disch := omega) only [stepS, reduceIte, Nat.reduceBEq, Nat.reduceEqDiff, tupleOf, stepT, i0, i1, hvl, hwl]
    exact hq false ⟨(fun h => by cases h), fun h => absurd (by rw [h]) hn⟩
end Go.AS.C


namespace Go.AS.C
open Go Go.Proofs
set_option linter.unusedVariables false
set_option linter.unusedSimpArgs false
set_option maxRecDepth 10000

/-! Arguments: states, steps, replies, faults. -/
/-- A state's numbers are in range. -/
def RangeS (s : StateV) : Prop := ∀ w ∈ s.counts, -9223372036854775808 ≤ w.n ∧ w.n < 9223372036854775808
theorem small_of {s : StateV} (h : SmallS0 s) (r : RangeS s) : SmallS s := ⟨⟨h.1.1, fun w hw => ⟨h.1.2 w hw, r w hw⟩⟩, h.2⟩
theorem good_count {A : AH} {F : Nat} (cs : List Value) (h : Good Tryd.prog A (F + 2) 48 cs) : ∃ w : CountV, cs = countE w ∧ (-9223372036854775808 ≤ w.n ∧ w.n < 9223372036854775808) := by
  obtain ⟨hl, hf⟩ := good_fields Tryd.underlying48 h
  have hc : Tryd.prog.cellsOf 48 = 2 := by kernel_rfl
  rw [hc] at hl
  match cs, hl with
  | [c0, c1], _ =>
    have e3 : Tryd.prog.cellsOf 3 = 1 := by kernel_rfl
    have e9 : Tryd.prog.cellsOf 9 = 1 := by kernel_rfl
    simp only [List.forall_mem_cons, e3, e9, List.drop_zero, List.drop_succ_cons, List.take_succ_cons, List.take_zero] at hf
    obtain ⟨h0, h1, _⟩ := hf
    obtain ⟨s, r0, b0⟩ := cell_str Tryd.underlying9 h0
    obtain ⟨n, r1, b1⟩ := cell_int Tryd.underlying3 h1
    injection r0 with r0 _
    injection r1 with r1 _
    subst r0 r1
    exact ⟨⟨s, n⟩, rfl, b1⟩
theorem good_word {A : AH} {F : Nat} (cs : List Value) (h : Good Tryd.prog A (F + 2) 50 cs) : ∃ w : WordV, cs = wordE w ∧ True := by
  obtain ⟨hl, hf⟩ := good_fields Tryd.underlying50 h
  have hc : Tryd.prog.cellsOf 50 = 2 := by kernel_rfl
  rw [hc] at hl
  match cs, hl with
  | [c0, c1], _ =>
    have e9 : Tryd.prog.cellsOf 9 = 1 := by kernel_rfl
    simp only [List.forall_mem_cons, e9, List.drop_zero, List.drop_succ_cons, List.take_succ_cons, List.take_zero] at hf
    obtain ⟨h0, h1, _⟩ := hf
    obtain ⟨s, r0, b0⟩ := cell_str Tryd.underlying9 h0
    obtain ⟨n, r1, b1⟩ := cell_str Tryd.underlying9 h1
    injection r0 with r0 _
    injection r1 with r1 _
    subst r0 r1
    exact ⟨⟨s, n⟩, rfl, trivial⟩
theorem law_counts {A : AH} {F : Nat} {v : Value} (h : GoodV Tryd.prog A (F + 3) 28 v) : ∃ l : List CountV, CountsA A v l ∧ l.length < 2 ^ 50 ∧ ∀ w ∈ l, -9223372036854775808 ≤ w.n ∧ w.n < 9223372036854775808 :=
  law_rows Tryd.underlying28 (by kernel_rfl) (by decide +kernel) good_count h
theorem law_words {A : AH} {F : Nat} {v : Value} (h : GoodV Tryd.prog A (F + 3) 29 v) : ∃ l : List WordV, WordsA A v l ∧ l.length < 2 ^ 50 := by
  obtain ⟨l, h1, h2, _⟩ := law_rows Tryd.underlying29 (by kernel_rfl) (by decide +kernel) good_word h
  exact ⟨l, h1, h2⟩
theorem good_state {A : AH} {F : Nat} {cs : List Value} (h : Good Tryd.prog A (F + 4) 31 cs) : ∃ s : StateV, StateA A (.agg cs.toArray) s ∧ RangeS s := by
  obtain ⟨hl, hf⟩ := good_fields Tryd.underlying31 h
  have hc : Tryd.prog.cellsOf 31 = 4 := by kernel_rfl
  rw [hc] at hl
  match cs, hl with
  | [c0, c1, c2, c3], _ =>
    have e28 : Tryd.prog.cellsOf 28 = 1 := by kernel_rfl
    have e29 : Tryd.prog.cellsOf 29 = 1 := by kernel_rfl
    simp only [List.forall_mem_cons, e28, e29, List.drop_zero, List.drop_succ_cons, List.take_succ_cons, List.take_zero] at hf
    obtain ⟨h0, h1, h2, h3, _⟩ := hf
    obtain ⟨v0, r0, g0⟩ := cell_slice Tryd.underlying28 h0
    obtain ⟨v1, r1, g1⟩ := cell_slice Tryd.underlying29 h1
    obtain ⟨v2, r2, g2⟩ := cell_slice Tryd.underlying29 h2
    obtain ⟨v3, r3, g3⟩ := cell_slice Tryd.underlying29 h3
    injection r0 with r0 _
    injection r1 with r1 _
    injection r2 with r2 _
    injection r3 with r3 _
    subst r0 r1 r2 r3
    obtain ⟨l0, a0, _, b0⟩ := law_counts g0
    obtain ⟨l1, a1, _⟩ := law_words g1
    obtain ⟨l2, a2, _⟩ := law_words g2
    obtain ⟨l3, a3, _⟩ := law_words g3
    exact ⟨⟨l0, l1, l2, l3⟩, ⟨_, _, _, _, rfl, a0, a1, a2, a3⟩, b0⟩
/-- A step. -/
structure StepV where
  kind : Int
  texts : List (List UInt8)
  ids : List ByteArray
  n : Int
  masks : List Int
def StepA (A : AH) (x : Value) (s : StepV) : Prop := ∃ t i m : Value, x = .agg #[ii s.kind, t, i, ii s.n, m] ∧ Byts A t s.texts ∧ SlT A i s.ids ∧ SlI A .i64 m s.masks
theorem StepA.le {A B : AH} {x : Value} {s : StepV} (h : StepA A x s) (hl : Le A B) : StepA B x s := by
  obtain ⟨t, i, m, h1, h2, h3, h4⟩ := h
  exact ⟨t, i, m, h1, h2.le hl, h3.le hl, h4.le hl⟩
def I64 (n : Int) : Prop := -9223372036854775808 ≤ n ∧ n < 9223372036854775808
def RangeT (s : StepV) : Prop := I64 s.kind ∧ I64 s.n ∧ (∀ m ∈ s.masks, I64 m) ∧ s.texts.length < 2 ^ 50 ∧ s.ids.length < 2 ^ 50 ∧ s.masks.length < 2 ^ 50 ∧ (∀ t ∈ s.texts, t.length < 2 ^ 50) ∧ ∀ t ∈ s.ids, t.size < 2 ^ 50
theorem good_step {A : AH} {F : Nat} {cs : List Value} (h : Good Tryd.prog A (F + 4) 26 cs) : ∃ s : StepV, StepA A (.agg cs.toArray) s ∧ RangeT s := by
  obtain ⟨hl, hf⟩ := good_fields Tryd.underlying26 h
  have hc : Tryd.prog.cellsOf 26 = 5 := by kernel_rfl
  rw [hc] at hl
  match cs, hl with
  | [c0, c1, c2, c3, c4], _ =>
    have e3 : Tryd.prog.cellsOf 3 = 1 := by kernel_rfl
    have e22 : Tryd.prog.cellsOf 22 = 1 := by kernel_rfl
    have e23 : Tryd.prog.cellsOf 23 = 1 := by kernel_rfl
    have e24 : Tryd.prog.cellsOf 24 = 1 := by kernel_rfl
    simp only [List.forall_mem_cons, e3, e22, e23, e24, List.drop_zero, List.drop_succ_cons, List.take_succ_cons, List.take_zero] at hf
    obtain ⟨h0, h1, h2, h3, h4, _⟩ := hf
    obtain ⟨k, r0, b0⟩ := cell_int Tryd.underlying3 h0
    obtain ⟨v1, r1, g1⟩ := cell_slice Tryd.underlying22 h1
    obtain ⟨v2, r2, g2⟩ := cell_slice Tryd.underlying23 h2
    obtain ⟨n, r3, b3⟩ := cell_int Tryd.underlying3 h3
    obtain ⟨v4, r4, g4⟩ := cell_slice Tryd.underlying24 h4
    injection r0 with r0 _
    injection r1 with r1 _
    injection r2 with r2 _
    injection r3 with r3 _
    injection r4 with r4 _
    subst r0 r1 r2 r3 r4
    obtain ⟨l1, a1, q1, q2⟩ := law_bytess Tryd.underlying22 Tryd.underlying55 Tryd.underlying5 (by kernel_rfl) (by kernel_rfl) (by decide +kernel) (by decide +kernel) g1
    obtain ⟨l2, a2, q3, q4⟩ := law_strs Tryd.underlying23 Tryd.underlying9 (by kernel_rfl) (by decide +kernel) g2
    obtain ⟨l4, a4, q5, q6⟩ := law_ints Tryd.underlying24 Tryd.underlying3 (by kernel_rfl) (by decide +kernel) g4
    exact ⟨⟨k, l1, l2, n, l4⟩, ⟨_, _, _, rfl, a1, ⟨by rw [List.length_map]; simp, (by simpa using a2.2)⟩, a4⟩, b0, b3, q6, q1, q3, q5, q2, q4⟩
theorem law_step {A : AH} {F : Nat} {v : Value} (h : GoodV Tryd.prog A (F + 4) 26 v) : ∃ s : StepV, StepA A v s ∧ RangeT s := by
  obtain ⟨cs, rfl, hg⟩ := good_struct Tryd.underlying26 h
  exact good_step hg
/-- A reply. -/
structure ReplyV where
  err : Int
  ids : List ByteArray
  texts : List (List UInt8)
  state : StateV
def ReplyA (A : AH) (x : Value) (r : ReplyV) : Prop := ∃ i t c m v l : Value, x = .agg #[ii r.err, i, t, c, m, v, l] ∧ SlT A i r.ids ∧ Byts A t r.texts ∧ StateA A (.agg #[c, m, v, l]) r.state
theorem ReplyA.le {A B : AH} {x : Value} {s : ReplyV} (h : ReplyA A x s) (hl : Le A B) : ReplyA B x s := by
  obtain ⟨i, t, c, m, v, l, h1, h2, h3, h4⟩ := h
  exact ⟨i, t, c, m, v, l, h1, h2.le hl, h3.le hl, h4.le hl⟩
def RangeR (r : ReplyV) : Prop := I64 r.err ∧ RangeS r.state ∧ r.texts.length < 2 ^ 50 ∧ r.ids.length < 2 ^ 50 ∧ (∀ t ∈ r.texts, t.length < 2 ^ 50) ∧ ∀ t ∈ r.ids, t.size < 2 ^ 50
theorem law_reply {A : AH} {F : Nat} {v : Value} (h : GoodV Tryd.prog A (F + 5) 33 v) : ∃ s : ReplyV, ReplyA A v s ∧ RangeR s := by
  obtain ⟨cs, rfl, hg⟩ := good_struct Tryd.underlying33 h
  obtain ⟨cs⟩ := cs
  simp only at hg
  obtain ⟨hl, hf⟩ := good_fields Tryd.underlying33 hg
  have hc : Tryd.prog.cellsOf 33 = 7 := by kernel_rfl
  rw [hc] at hl
  match cs, hl with
  | [c0, c1, c2, c3, c4, c5, c6], _ =>
    have e27 : Tryd.prog.cellsOf 27 = 1 := by kernel_rfl
    have e22 : Tryd.prog.cellsOf 22 = 1 := by kernel_rfl
    have e23 : Tryd.prog.cellsOf 23 = 1 := by kernel_rfl
    have e31 : Tryd.prog.cellsOf 31 = 4 := by kernel_rfl
    simp only [List.forall_mem_cons, e27, e22, e23, e31, List.drop_zero, List.drop_succ_cons, List.take_succ_cons, List.take_zero] at hf
    obtain ⟨h0, h1, h2, h3, _⟩ := hf
    obtain ⟨k, r0, b0⟩ := cell_int Tryd.underlying27 h0
    obtain ⟨v1, r1, g1⟩ := cell_slice Tryd.underlying23 h1
    obtain ⟨v2, r2, g2⟩ := cell_slice Tryd.underlying22 h2
    obtain ⟨s, hs, hr⟩ := good_state h3
    injection r0 with r0 _
    injection r1 with r1 _
    injection r2 with r2 _
    subst r0 r1 r2
    obtain ⟨l1, a1, q1, q2⟩ := law_bytess Tryd.underlying22 Tryd.underlying55 Tryd.underlying5 (by kernel_rfl) (by kernel_rfl) (by decide +kernel) (by decide +kernel) g2
    obtain ⟨l2, a2, q3, q4⟩ := law_strs Tryd.underlying23 Tryd.underlying9 (by kernel_rfl) (by decide +kernel) g1
    exact ⟨⟨k, l2, l1, s⟩, ⟨_, _, _, _, _, _, rfl, ⟨by rw [List.length_map]; simp, (by simpa using a2.2)⟩, a1, hs⟩, b0, hr, q1, q3, q2, q4⟩
/-- A fault. -/
theorem law_fault {A : AH} {F : Nat} {v : Value} (h : GoodV Tryd.prog A (F + 2) 35 v) : ∃ k n : Int, v = .agg #[ii k, ii n] ∧ I64 k ∧ I64 n := by
  obtain ⟨cs, rfl, hg⟩ := good_struct Tryd.underlying35 h
  obtain ⟨cs⟩ := cs
  simp only at hg
  obtain ⟨hl, hf⟩ := good_fields Tryd.underlying35 hg
  have hc : Tryd.prog.cellsOf 35 = 2 := by kernel_rfl
  rw [hc] at hl
  match cs, hl with
  | [c0, c1], _ =>
    have e3 : Tryd.prog.cellsOf 3 = 1 := by kernel_rfl
    simp only [List.forall_mem_cons, e3, List.drop_zero, List.drop_succ_cons, List.take_succ_cons, List.take_zero] at hf
    obtain ⟨h0, h1, _⟩ := hf
    obtain ⟨k, r0, b0⟩ := cell_int Tryd.underlying3 h0
    obtain ⟨n, r1, b1⟩ := cell_int Tryd.underlying3 h1
    injection r0 with r0 _
    injection r1 with r1 _
    subst r0 r1
    exact ⟨k, n, rfl, b0, b1⟩
end Go.AS.C


-- Printed by tab.py (wip/tools): all abstract codes of the chapter, as one table.
namespace Go.AS.C
open Go Go.Proofs
set_option maxRecDepth 100000
noncomputable def tab : List (Nat × CodeE) := [
  (chantrylaw40_TellSteps, ⟨ic_chantrylaw40_TellSteps, [.tmp 6], 3⟩),
  (chantrylaw40_TellStates, ⟨ic_chantrylaw40_TellStates, [.tmp 2], 1⟩),
  (chantrylaw40_TellUnlike, ⟨ic_chantrylaw40_TellUnlike, [.tmp 6], 3⟩),
  (chantryref39_Large, ⟨ic_chantryref39_Large, [.tmp 4], 2⟩),
  (chantrylaw40_large, ⟨ic_chantrylaw40_large, [.tmp 2], 1⟩),
  (chantrylaw40_awake, ⟨ic_chantrylaw40_awake, [.tmp 0], 0⟩),
  (tell_Step, ⟨ic_tell_Step, [.tmp 2], 1⟩),
  (chantryref40_Step, ⟨ic_chantryref40_Step, [.tmp 2], 1⟩),
  (chantryref01_Texts, ⟨ic_chantryref01_Texts, [.tmp 4], 2⟩),
  (tell_Reply, ⟨ic_tell_Reply, [.tmp 4], 2⟩),
  (chantryref40_Reply, ⟨ic_chantryref40_Reply, [.tmp 4], 2⟩),
  (tell_Fault, ⟨ic_tell_Fault, [.tmp 2], 1⟩),
  (chantryref40_Fault, ⟨ic_chantryref40_Fault, [.tmp 2], 1⟩),
  (tell_State, ⟨ic_tell_State, [.tmp 2], 1⟩),
  (chantryref40_State, ⟨ic_chantryref40_State, [.tmp 2], 1⟩),
  (chantryref23_Same, ⟨ic_chantryref23_Same, [.tmp 4], 2⟩),
  (chantryref39_Check, ⟨ic_chantryref39_Check, [.tmp 2], 1⟩),
  (chantryref39_Same, ⟨ic_chantryref39_Same, [.tmp 4], 2⟩),
  (tell_digits, ⟨ic_tell_digits, [.tmp 2], 1⟩),
  (tell_line, ⟨ic_tell_line, [.tmp 2], 1⟩),
  (chantryref40_name, ⟨ic_chantryref40_name, [.tmp 4], 2⟩),
  (chantryref40_digits, ⟨ic_chantryref40_digits, [.tmp 2], 1⟩),
  (chantryref40_number, ⟨ic_chantryref40_number, [.tmp 2], 1⟩),
  (tell_words, ⟨ic_tell_words, [.tmp 4], 2⟩),
  (chantryref40_words, ⟨ic_chantryref40_words, [.tmp 4], 2⟩),
  (chantryref19_Same, ⟨ic_chantryref19_Same, [.tmp 4], 2⟩),
  (chantryref20_SameWords, ⟨ic_chantryref20_SameWords, [.tmp 4], 2⟩),
  (chantryref39_may, ⟨ic_chantryref39_may, [.tmp 2], 1⟩),
  (chantryref01_Bytes, ⟨ic_chantryref01_Bytes, [.tmp 4], 2⟩),
  (chantryref01_Ints, ⟨ic_chantryref01_Ints, [.tmp 4], 2⟩),
  (ids_Hex, ⟨ic_ids_Hex, [.tmp 2], 1⟩),
  (strings_Join, ⟨ic_strings_Join, [.tmp 4], 2⟩),
  (chantryref04_Hex, ⟨ic_chantryref04_Hex, [.tmp 2], 1⟩),
  (chantryref14_Digits, ⟨ic_chantryref14_Digits, [.tmp 2], 1⟩),
  (chantryref39_uses, ⟨ic_chantryref39_uses, [.tmp 2, .tmp 3, .tmp 4, .tmp 5, .tmp 6], 1⟩),
  (strings_Builder_Grow, ⟨ic_strings_Builder_Grow, [], 2⟩),
  (strings_Builder_WriteString, ⟨ic_strings_Builder_WriteString, [.tmp 4, .tmp 5], 2⟩)]
theorem tabOk : ∀ p ∈ tab, Fits Tryd.prog 3 p.1 p.2.ic p.2.rs p.2.np := by
  unfold tab
  exact List.forall_mem_cons.2 ⟨fits_chantrylaw40_TellSteps, List.forall_mem_cons.2 ⟨fits_chantrylaw40_TellStates, List.forall_mem_cons.2 ⟨fits_chantrylaw40_TellUnlike, List.forall_mem_cons.2 ⟨fits_chantryref39_Large, List.forall_mem_cons.2 ⟨fits_chantrylaw40_large, List.forall_mem_cons.2 ⟨fits_chantrylaw40_awake, List.forall_mem_cons.2 ⟨fits_tell_Step, List.forall_mem_cons.2 ⟨fits_chantryref40_Step, List.forall_mem_cons.2 ⟨fits_chantryref01_Texts, List.forall_mem_cons.2 ⟨fits_tell_Reply, List.forall_mem_cons.2 ⟨fits_chantryref40_Reply, List.forall_mem_cons.2 ⟨fits_tell_Fault, List.forall_mem_cons.2 ⟨fits_chantryref40_Fault, List.forall_mem_cons.2 ⟨fits_tell_State, List.forall_mem_cons.2 ⟨fits_chantryref40_State, List.forall_mem_cons.2 ⟨fits_chantryref23_Same, List.forall_mem_cons.2 ⟨fits_chantryref39_Check, List.forall_mem_cons.2 ⟨fits_chantryref39_Same, List.forall_mem_cons.2 ⟨fits_tell_digits, List.forall_mem_cons.2 ⟨fits_tell_line, List.forall_mem_cons.2 ⟨fits_chantryref40_name, List.forall_mem_cons.2 ⟨fits_chantryref40_digits, List.forall_mem_cons.2 ⟨fits_chantryref40_number, List.forall_mem_cons.2 ⟨fits_tell_words, List.forall_mem_cons.2 ⟨fits_chantryref40_words, List.forall_mem_cons.2 ⟨fits_chantryref19_Same, List.forall_mem_cons.2 ⟨fits_chantryref20_SameWords, List.forall_mem_cons.2 ⟨fits_chantryref39_may, List.forall_mem_cons.2 ⟨fits_chantryref01_Bytes, List.forall_mem_cons.2 ⟨fits_chantryref01_Ints, List.forall_mem_cons.2 ⟨fits_ids_Hex, List.forall_mem_cons.2 ⟨fits_strings_Join, List.forall_mem_cons.2 ⟨fits_chantryref04_Hex, List.forall_mem_cons.2 ⟨fits_chantryref14_Digits, List.forall_mem_cons.2 ⟨fits_chantryref39_uses, List.forall_mem_cons.2 ⟨fits_strings_Builder_Grow, List.forall_mem_cons.2 ⟨fits_strings_Builder_WriteString, fun p h => by cases h⟩⟩⟩⟩⟩⟩⟩⟩⟩⟩⟩⟩⟩⟩⟩⟩⟩⟩⟩⟩⟩⟩⟩⟩⟩⟩⟩⟩⟩⟩⟩⟩⟩⟩⟩⟩⟩
end Go.AS.C


namespace Go.AS.C
open Go Go.Proofs
set_option linter.unusedVariables false
set_option linter.unusedSimpArgs false
set_option maxRecDepth 100000

/-! The law's own example is run; numbers' digits and joins are taken as known. -/
def vEq : Value → Value → Bool
  | .string a, .string b => decide (a = b)
  | .int k n, .int k' m => decide (k = k' ∧ n = m)
  | _, _ => false
theorem vEq_ok {a b : Value} (h : vEq a b = true) : a = b := by
  unfold vEq at h
  split at h
  · rw [decide_eq_true_eq] at h; rw [h]
  · rw [decide_eq_true_eq] at h; rw [h.1, h.2]
  · cases h
def vsEq : List Value → List Value → Bool
  | [], [] => true
  | a :: l, b :: r => vEq a b && vsEq l r
  | _, _ => false
theorem vsEq_ok : ∀ {l r : List Value}, vsEq l r = true → l = r
  | [], [], _ => rfl
  | a :: l, b :: r, h => by
    unfold vsEq at h
    rw [Bool.and_eq_true] at h
    rw [vEq_ok h.1, vsEq_ok h.2]
  | [], _ :: _, h => by cases h
  | _ :: _, [], h => by cases h
def isG : AH → Bool
  | .row a .ro 0 true :: .row b .ro 0 true :: .row c .ro 0 true :: _ => vsEq a kVs && (vsEq b kVf && vsEq c kVn)
  | _ => false
theorem isG_ok {A : AH} (h : isG A = true) : Le G3 A := by
  unfold isG at h
  split at h
  · rename_i a b c r
    rw [Bool.and_eq_true, Bool.and_eq_true] at h
    obtain ⟨h1, h2, h3⟩ := h
    obtain rfl := vsEq_ok h1
    obtain rfl := vsEq_ok h2
    obtain rfl := vsEq_ok h3
    refine Le.of_get (fun k hk => ?_) (by simp [G3])
    match k, hk with
    | 0, _ => rfl
    | 1, _ => rfl
    | 2, _ => rfl
  · cases h
def numW (n : Int) : Option ByteArray :=
  if -10 < n ∧ n < 0 then some ⟨#[45, UInt8.ofNat (48 + n.natAbs)]⟩ else if 0 ≤ n ∧ n < 10 then some ⟨#[UInt8.ofNat (48 + n.toNat)]⟩
  else if 10 ≤ n ∧ n < 100 then some ⟨#[UInt8.ofNat (48 + n.toNat / 10), UInt8.ofNat (48 + n.toNat % 10)]⟩ else none
theorem numW_ok {n : Int} {s : ByteArray} (h : numW n = some s) : s = numT n ∧ -100 < n ∧ n < 100 := by
  unfold numW at h
  unfold numT Lib.itoa
  split at h
  · injection h with h
    subst h
    rw [if_pos (by omega), Lib.decDigits_one (by omega)]
    exact ⟨rfl, by omega, by omega⟩
  · split at h
    · injection h with h
      subst h
      rw [if_neg (by omega), Lib.decDigits_one (by omega)]
      exact ⟨rfl, by omega, by omega⟩
    · split at h
      · injection h with h
        subst h
        rw [if_neg (by omega), Lib.decDigits_two (by omega) (by omega)]
        exact ⟨rfl, by omega, by omega⟩
      · cases h
def asT : List Value → Option (List ByteArray)
  | [] => some []
  | .string s :: r => (asT r).map (s :: ·)
  | _ => none
theorem asT_ok : ∀ {cs : List Value} {l : List ByteArray}, asT cs = some l → cs = l.map .string
  | [], l, h => by obtain rfl := Option.some.inj h; rfl
  | v :: r, l, h => by
    unfold asT at h
    split at h
    · rename_i e; cases e
    · rename_i n r' e
      injection e with e1 e2
      subst e1 e2
      rw [Option.map_eq_some_iff] at h
      obtain ⟨l', h1, rfl⟩ := h
      rw [asT_ok h1]; rfl
    · cases h
def textsAt (A : AH) : Value → Option (List ByteArray)
  | .slice none 0 0 => some []
  | .slice (some ⟨i, o, none⟩) n c => match A[i]? with
    | some (.row cs .own 1 _) => if n ≤ c ∧ o + n ≤ cs.length then asT ((cs.drop o).take n) else none
    | _ => none
  | _ => none
theorem textsAt_ok {A : AH} {v : Value} {l : List ByteArray} (h : textsAt A v = some l) : SlT A v l := by
  unfold textsAt at h
  split at h
  · obtain rfl := Option.some.inj h
    exact ⟨rfl, .inl ⟨rfl, rfl⟩⟩
  · split at h
    · split at h
      · rename_i i o n c _ cs ex hA hn
        have e := asT_ok h
        have hl : l.length = n := by
          have := congrArg List.length e
          rw [List.length_map, List.length_take, List.length_drop] at this
          omega
        refine ⟨by rw [List.length_map, Nat.mul_one], .inr (.inr ⟨i, o, c, cs, .own, ex, by rw [hl], by omega, hA, by decide, by omega, fun j hj => ?_⟩)⟩
        rw [← e, List.getElem?_take_of_lt (by omega), List.getElem?_drop]
      · cases h
    · cases h
  · cases h
def orcT : FuncId → List Value → AH → Option (Value × AH) := fun f args A =>
  if f = strings_Join then match args with
    | [v, .string s] => match textsAt A v with
      | some l => if l.length < 1000 ∧ (joinT l s).size < 1000 then some (.string (joinT l s), A) else none
      | none => none
    | _ => none
  else if f = strconv_Itoa then match args with
    | [.int .i64 n] => if isG A then (numW n).map fun s => (.string s, A) else none
    | _ => none
  else none
theorem orcT_ok : CallOk 3 Tryd.prog orcT := by
  intro f args A v A' h K k
  unfold orcT at h
  split at h
  · rename_i hf
    subst hf
    split at h
    · split at h
      · rename_i l hl
        split at h
        · rename_i s _ hs
          injection h with h
          injection h with h1 h2
          subst h1 h2
          exact join_spec joinsTexts (textsAt_ok hl) (by omega) (by omega) k
        · cases h
      · cases h
    · cases h
  · split at h
    · rename_i hf
      subst hf
      split at h
      · split at h
        · rename_i n hg
          rw [Option.map_eq_some_iff] at h
          obtain ⟨s, h1, h2⟩ := h
          obtain ⟨rfl, b0, b1⟩ := numW_ok h1
          injection h2 with h3 h4
          subst h3 h4
          exact itoa_spec (isG_ok hg) (by omega) (by omega) k
        · cases h
      · cases h
    · cases h
theorem awake_run : (runO Tryd.prog tab orcT (fun _ => false) 100000 60 chantrylaw40_awake [] G3).map (·.1) = some (.bool true) := by kernel_rfl
theorem wake {A : AH} {Q : Value → AH → Prop} (hg : Le G3 A) (hq : Q (.bool true) A) : ACalls 3 Tryd.prog chantrylaw40_awake [] Q A :=
  ACalls.runO (A0 := G3) mixed rfl (by decide +kernel) tabOk orcT_ok awake_run rfl rfl hg hq
end Go.AS.C


namespace Go.AS.C
open Go Go.Proofs
set_option linter.unusedVariables false
set_option linter.unusedSimpArgs false
set_option maxRecDepth 10000

theorem ref40_State_spec {A : AH} {x : Value} {s : StateV} {Q : Value → AH → Prop} (hx : StateA A x s) (hs : SmallS s) (hq : ∀ A' u, Le A A' → OwnT A.length A' u (stateL s) → Q u A') : ACalls 3 Tryd.prog chantryref40_State [x] Q A := by
  obtain ⟨c, m, v, l, rfl, hc, hm, hv, hl⟩ := hx
  obtain ⟨⟨sc, sc2⟩, ⟨sm, sm2⟩, ⟨sv, sv2⟩, ⟨sl, sl2⟩⟩ := hs
  refine ACalls.of_fits mixed fits_chantryref40_State rfl ?_
  unfold ic_chantryref40_State
  have i0 : initA [.agg #[c, m, v, l]] 0 = .agg #[c, m, v, l] := rfl
  generalize initA [.agg #[c, m, v, l]] = a at i0
  have oc := (Sl.one1 hc).2
  have om := (Sl.one1 hm).2
  have ov := (Sl.one1 hv).2
  have ol := (Sl.one1 hl).2
  refine W_mid (fun a B => B = A ++ [.row [c, m, v, l] .own 0 true] ∧ a 1 = ptr A.length) ?_ ?_
  · simp (maxSteps := 1000000) (disch := omega) only [stepS, reduceIte, Nat.reduceBEq, Nat.reduceEqDiff, tupleOf, stepT, stepX, heapR, lensR, Nat.reduceAdd, Nat.reduceLeDiff, i0, oc, om, ov, ol]
  rintro a B0 ⟨hB, g1⟩
  have k0 : Le A B0 := by rw [hB]; exact .push _ _
  have r1 : rowAt B0 A.length = some ([c, m, v, l], .own, 0, true) := by rw [hB]; exact rowAt_own (get_last _ _)
  clear i0 hB
  refine W_mid (fun a B => B = B0 ∧ a 1 = ptr A.length ∧ a 3 = .slice none 0 0) ?_ ?_
  · simp (maxSteps := 1000000) (disch := omega) only [stepS, reduceIte, Nat.reduceBEq, Nat.reduceEqDiff, tupleOf, stepT, stepX, heapR, lensR, Nat.reduceAdd, Nat.reduceLeDiff, g1]
  rintro a B' ⟨hB, g1, g3⟩
  obtain rfl : B0 = B' := hB.symm
  clear hB
  have hcl := hc.len
  refine W_mid (fun a B => ∃ u, Le B0 B ∧ a 1 = ptr A.length ∧ a 3 = u ∧ OwnT B0.length B u (s.counts.map lineC)) ?_ ?_
  · simp (maxSteps := 1000000) (disch := omega) only [stepS, reduceIte, Nat.reduceBEq, Nat.reduceEqDiff, tupleOf, stepT, g1, g3]
    refine W_loop (fun a' B => ∃ j : Nat, j ≤ s.counts.length ∧ Le B0 B ∧ a' 1 = ptr A.length ∧ a' 4 = ii j ∧ OwnT B0.length B (a' 3) ((s.counts.take j).map lineC)) (fun a' _ => s.counts.length - (iv (a' 4)).toNat) ?_ ?_
    · refine ⟨0, Nat.zero_le _, .refl _, ?_⟩
      simp (maxSteps := 1000000) (disch := omega) only [stepS, reduceIte, Nat.reduceBEq, Nat.reduceEqDiff, tupleOf, stepT, g1, g3]
      exact ⟨rfl, OwnT.nil _ _⟩
    · clear g1 g3
      rintro a2 B ⟨j, hj, hle, g1, g4, o3⟩
      obtain ⟨y, g3⟩ : ∃ y, a2 3 = y := ⟨_, rfl⟩
      rw [g3] at o3
      have r2 := hle.row r1
      rcases Nat.lt_or_ge j s.counts.length with hlt | hge
      · obtain ⟨w, hw⟩ := get_some hlt
        obtain ⟨hn1, hn2, hn3⟩ := sc2 w (List.mem_of_getElem? hw)
        obtain ⟨p, q, p1, p2, p3⟩ := hc.fld hw (o := 0) (x := .string w.name) rfl
        obtain ⟨p', q', u1, u2, u3⟩ := hc.fld hw (o := 1) (x := ii w.n) rfl
        have e : p' = p := by
          have h1 := p1 B j rfl
          rw [u1 B j rfl] at h1
          injection h1 with h1
          injection h1 with h1 _
        subst e
        have p4 := p3 B (k0.trans hle)
        have u4 := u3 B (k0.trans hle)
        have htk : s.counts.take (j + 1) = s.counts.take j ++ [w] := by rw [List.take_add_one, hw]; rfl
        have b2 := bl_size w.name
        have b3 := tail1_len (numT w.n)
        have b4 := numT_size hn2 (by omega)
        have c1 := cat_l [99, 111, 117, 110, 116, 32] w.name.data.toList (by simp; omega)
        have c2 := cat_l ([99, 111, 117, 110, 116, 32] ++ w.name.data.toList) (tail1 (numT w.n)) (by simp; omega)
        rw [← str_bl] at c1
        have e3 : (⟨([99, 111, 117, 110, 116, 32] ++ w.name.data.toList ++ tail1 (numT w.n)).toArray⟩ : ByteArray) = lineC w := by
          unfold lineC
          rw [lineT_cons]
          simp [tail1, countT]
        rw [e3] at c2
        simp only [List.cons_append, List.nil_append] at c1 c2
        obtain ⟨l1, x, F, q1, q2, q3, q4, q5⟩ := OwnT.push (lineC w) hle o3 (by rw [List.length_map, List.length_take]; omega)
        simp (maxSteps := 1000000) (disch := omega) only [stepS, reduceIte, Nat.reduceBEq, Nat.reduceEqDiff, tupleOf, stepT, stepX, heapR, lensR, Nat.reduceAdd, Nat.reduceLeDiff, g1, g3, g4, r2, hcl, c1, p1, p2, p4, u2, u4]
        refine ref40_number_spec (n := w.n) hn2 hn3 ?_
        simp (maxSteps := 1000000) (disch := omega) only [stepS, reduceIte, Nat.reduceBEq, Nat.reduceEqDiff, tupleOf, stepT, stepX, heapR, lensR, Nat.reduceAdd, Nat.reduceLeDiff, g1, g3, g4, r2, c2, l1, q1]
        refine ⟨⟨j + 1, by omega, q2, rfl, ?_⟩, by omega⟩
        rw [htk, List.map_append]
        exact q3
      · rw [List.take_of_length_le (by omega)] at o3
        simp (maxSteps := 1000000) (disch := omega) only [stepS, reduceIte, Nat.reduceBEq, Nat.reduceEqDiff, tupleOf, stepT, stepX, heapR, lensR, Nat.reduceAdd, Nat.reduceLeDiff, g1, g3, g4, r2, hcl]
        exact ⟨_, hle, rfl, o3⟩
  clear g1 g3 hcl
  rintro a B ⟨u, hle, g1, g3, o3⟩
  have r2 := hle.row r1
  have lc : (s.counts.map lineC).length ≤ 30 := by rw [List.length_map]; exact sc
  have lm : (s.members.map (lineW memberT)).length ≤ 30 := by rw [List.length_map]; exact sm
  have lv : (s.values.map (lineW valueT)).length ≤ 30 := by rw [List.length_map]; exact sv
  have ll : (s.lines.map (lineW linesT)).length ≤ 30 := by rw [List.length_map]; exact sl
  refine W_mid (fun a B => ∃ u, Le B0 B ∧ a 1 = ptr A.length ∧ a 3 = u ∧ OwnT B0.length B u (s.counts.map lineC ++ s.members.map (lineW memberT))) ?_ ?_
  · simp (maxSteps := 1000000) (disch := omega) only [stepS, reduceIte, Nat.reduceBEq, Nat.reduceEqDiff, tupleOf, stepT, stepX, heapR, lensR, Nat.reduceAdd, Nat.reduceLeDiff, g1, g3, r2]
    refine ref40_words_spec (what := memberT) (hm.le (k0.trans hle)) sm2 (by omega) (by decide) fun C t kC oC => ?_
    obtain ⟨x, D, q1, q2, q3, _⟩ := OwnT.app (hle.trans kC) (OwnT.le o3 kC) (OwnT.sl oC) (by omega)
    simp (maxSteps := 1000000) (disch := omega) only [stepS, reduceIte, Nat.reduceBEq, Nat.reduceEqDiff, tupleOf, stepT, stepX, heapR, lensR, Nat.reduceAdd, Nat.reduceLeDiff, g1, g3, q1]
    exact ⟨_, q2, rfl, q3⟩
  clear g1 g3 o3 r2 hle
  rintro a B ⟨u, hle, g1, g3, o3⟩
  have r2 := hle.row r1
  refine W_mid (fun a B => ∃ u, Le B0 B ∧ a 1 = ptr A.length ∧ a 3 = u ∧ OwnT B0.length B u (s.counts.map lineC ++ s.members.map (lineW memberT) ++ s.values.map (lineW valueT))) ?_ ?_
  · simp (maxSteps := 1000000) (disch := omega) only [stepS, reduceIte, Nat.reduceBEq, Nat.reduceEqDiff, tupleOf, stepT, stepX, heapR, lensR, Nat.reduceAdd, Nat.reduceLeDiff, g1, g3, r2]
    refine ref40_words_spec (what := valueT) (hv.le (k0.trans hle)) sv2 (by omega) (by decide) fun C t kC oC => ?_
    obtain ⟨x, D, q1, q2, q3, _⟩ := OwnT.app (hle.trans kC) (OwnT.le o3 kC) (OwnT.sl oC) (by rw [List.length_append]; omega)
    simp (maxSteps := 1000000) (disch := omega) only [stepS, reduceIte, Nat.reduceBEq, Nat.reduceEqDiff, tupleOf, stepT, stepX, heapR, lensR, Nat.reduceAdd, Nat.reduceLeDiff, g1, g3, q1]
    exact ⟨_, q2, rfl, q3⟩
  clear g1 g3 o3 r2 hle
  rintro a B ⟨u, hle, g1, g3, o3⟩
  have r2 := hle.row r1
  simp (maxSteps := 1000000) (disch := omega) only [stepS, reduceIte, Nat.reduceBEq, Nat.reduceEqDiff, tupleOf, stepT, stepX, heapR, lensR, Nat.reduceAdd, Nat.reduceLeDiff, g1, g3, r2]
  refine ref40_words_spec (what := linesT) (hl.le (k0.trans hle)) sl2 (by omega) (by decide) fun C t kC oC => ?_
  obtain ⟨x, D, q1, q2, q3, _⟩ := OwnT.app (hle.trans kC) (OwnT.le o3 kC) (OwnT.sl oC) (by rw [List.length_append, List.length_append]; omega)
  simp (maxSteps := 1000000) (disch := omega) only [stepS, reduceIte, Nat.reduceBEq, Nat.reduceEqDiff, tupleOf, stepT, stepX, heapR, lensR, Nat.reduceAdd, Nat.reduceLeDiff, g1, g3, q1]
  exact hq _ _ (k0.trans q2) (OwnT.mono q3 k0.len)
end Go.AS.C


namespace Go.AS.C
open Go Go.Proofs
set_option linter.unusedVariables false
set_option linter.unusedSimpArgs false
set_option maxRecDepth 10000

/-! Steps as lines, plainly. -/
/-- The name of a kind of steps. -/
def stepN (k : Int) : ByteArray := nameT stepsL.tail k
def faultN (k : Int) : ByteArray := nameT faultsL.tail k
def stepP (s : StepV) : List ByteArray :=
  if s.kind = 1 then s.texts.map (fun t => hexT ⟨t.toArray⟩) else if s.kind = 2 ∨ s.kind = 4 ∨ s.kind = 9 then s.ids.map hexT
  else if s.kind = 10 then [numT s.n] else if s.kind = 11 then s.masks.map numT else []
/-- A step's line. -/
def stepL (s : StepV) : ByteArray := lineT (stepN s.kind :: stepP s)
def SmallT (s : StepV) : Prop := I64 s.kind ∧ I64 s.n ∧ s.texts.length ≤ 70 ∧ (∀ t ∈ s.texts, t.length ≤ 1100) ∧ s.ids.length ≤ 70 ∧ (∀ t ∈ s.ids, t.size ≤ 70) ∧ s.masks.length ≤ 1030 ∧ ∀ m ∈ s.masks, I64 m
theorem stepP_1 {s : StepV} (h : s.kind = 1) : stepP s = s.texts.map (fun t => hexT ⟨t.toArray⟩) := if_pos h
theorem stepP_2 {s : StepV} (h : s.kind = 2 ∨ s.kind = 4 ∨ s.kind = 9) : stepP s = s.ids.map hexT := by
  unfold stepP; rw [if_neg (by omega), if_pos h]
theorem stepP_10 {s : StepV} (h : s.kind = 10) : stepP s = [numT s.n] := by
  unfold stepP; rw [if_neg (by omega), if_neg (by omega), if_pos h]
theorem stepP_11 {s : StepV} (h : s.kind = 11) : stepP s = s.masks.map numT := by
  unfold stepP; rw [if_neg (by omega), if_neg (by omega), if_neg (by omega), if_pos h]
theorem stepP_0 {s : StepV} (h1 : s.kind ≠ 1) (h2 : ¬ (s.kind = 2 ∨ s.kind = 4 ∨ s.kind = 9)) (h3 : s.kind ≠ 10) (h4 : s.kind ≠ 11) : stepP s = [] := by
  unfold stepP; rw [if_neg h1, if_neg h2, if_neg h3, if_neg h4]
theorem lineT_one (x : ByteArray) : lineT [x] = x := by rw [lineT_cons]; simp
theorem stepN_out {k : Int} (h : k < 0 ∨ 13 ≤ k) : stepN k = ⟨#[63]⟩ := by
  unfold stepN nameT
  rw [if_pos]
  have : stepsL.tail.length = 12 := rfl
  omega
theorem stepL_out {s : StepV} (h : s.kind < 0 ∨ 13 ≤ s.kind) : stepL s = ⟨#[63]⟩ := by
  unfold stepL
  rw [stepP_0 (by omega) (by omega) (by omega) (by omega), stepN_out h, lineT_one]
theorem kind_of {n : Int} (h : ¬ (n < 0 ∨ 13 ≤ n)) : ∃ k : Nat, n = (k : Int) ∧ k < 13 ∧ kVs[k]? = some (.string (stepN n)) := by
  obtain ⟨k, rfl⟩ : ∃ k : Nat, n = k := ⟨n.toNat, by omega⟩
  refine ⟨k, rfl, by omega, ?_⟩
  have : ∀ k : Fin 13, stepN ((k.val : Nat) : Int) = stepsL.getD k.val ⟨#[]⟩ := by decide +kernel
  have h1 := this ⟨k, by omega⟩
  simp only at h1
  rw [h1]
  unfold kVs
  have hl : stepsL.length = 13 := rfl
  rw [List.getElem?_map, List.getElem?_eq_getElem (by omega), List.getD_eq_getElem?_getD, List.getElem?_eq_getElem (by omega)]
  rfl
theorem iarrG {g k n : Nat} {v : Int} (h : v = (k : Int)) (hk : k < n) (B : AH) : sIarr B (.pointer (some ⟨g, 0, none⟩)) (.int .i64 v) n 1 = some (.pointer (some ⟨g, k, none⟩), B) := by
  subst h
  unfold sIarr
  simp only [asI, Option.bind_some]
  rw [if_pos ⟨by omega, by omega⟩]
  simp
theorem rowG0 : rowAt G3 0 = some (kVs, .ro, 0, true) := rfl
theorem rowG1 : rowAt G3 1 = some (kVf, .ro, 0, true) := rfl
theorem byts_one1 {A : AH} {v : Value} {l : List (List UInt8)} (h : Byts A v l) : one1 v := by
  obtain ⟨vs, h1, _⟩ := h
  exact Sl.one1 h1
theorem byts_lenB {A : AH} {v : Value} {l : List (List UInt8)} (h : Byts A v l) (B : AH) : sLens B false v = some (.int .i64 l.length, B) := by
  obtain ⟨vs, h1, h2⟩ := h
  rw [All2.len _ _ h2]
  exact Sl.lenB h1 B
theorem byts_atL {A : AH} {v : Value} {l : List (List UInt8)} (h : Byts A v l) {j : Nat} {bs : List UInt8} (hj : l[j]? = some bs) :
    ∃ p x, (∀ (B : AH) (n : Int), n = (j : Int) → sIaddr B v (.int .i64 n) 1 = some (p, B)) ∧ (∀ B, Le A B → sLoad1 B p = some (x, B)) ∧ Byt A x bs := by
  obtain ⟨vs, h1, h2⟩ := h
  have hlt := lt_of_get hj
  rw [All2.len _ _ h2] at hlt
  obtain ⟨x, hx⟩ : ∃ x, vs[j]? = some x := ⟨_, List.getElem?_eq_getElem hlt⟩
  obtain ⟨p, p1, p2⟩ := Sl.at1L h1 hx
  exact ⟨p, x, p1, p2, All2.get _ _ h2 j x bs hx hj⟩
theorem ints_atL {A : AH} {v : Value} {l : List Int} (h : SlI A .i64 v l) {j : Nat} {n : Int} (hj : l[j]? = some n) :
    ∃ p, (∀ (B : AH) (n : Int), n = (j : Int) → sIaddr B v (.int .i64 n) 1 = some (p, B)) ∧ ∀ B, Le A B → sLoad1 B p = some (.int .i64 n, B) :=
  Sl.at1L h (by unfold ints; rw [List.getElem?_map, hj]; rfl)
theorem ownT_last {A : AH} {a0 : Nat} (l : List ByteArray) (h : a0 ≤ A.length) : OwnT a0 (A ++ [.row (l.map .string) .own 1 true]) (.slice (some ⟨A.length, 0, none⟩) l.length l.length) l :=
  ⟨by rw [List.length_map, Nat.mul_one], .inr (.inr ⟨A.length, 0, l.length, l.map .string, true, rfl, Nat.le_refl _, h, get_last _ _, by rw [List.length_map]; omega, fun j hj => by rw [Nat.zero_add]⟩)⟩
theorem flat_tail_len {m : Nat} : ∀ {l : List ByteArray}, (∀ t ∈ l, t.size ≤ m) → (l.flatMap tail1).length ≤ l.length * (m + 1)
  | [], _ => by simp
  | x :: l, h => by
    have h1 := h x (by simp)
    have ih := flat_tail_len (l := l) fun t ht => h t (by simp [ht])
    have h2 := tail1_len x
    rw [List.flatMap_cons, List.length_append, List.length_cons, Nat.succ_mul]
    omega
theorem flat_tail_le {m n N : Nat} {l : List ByteArray} (h : ∀ t ∈ l, t.size ≤ m) (hl : l.length ≤ n) (hN : n * (m + 1) ≤ N) : (l.flatMap tail1).length ≤ N :=
  Nat.le_trans (flat_tail_len h) (Nat.le_trans (Nat.mul_le_mul_right _ hl) hN)
theorem stepN_size (k : Int) : (stepN k).size ≤ 20 := by
  by_cases h : k < 0 ∨ 13 ≤ k
  · rw [stepN_out h]; decide
  · obtain ⟨n, rfl⟩ : ∃ n : Nat, k = n := ⟨k.toNat, by omega⟩
    have : ∀ k : Fin 13, (stepN ((k.val : Nat) : Int)).size ≤ 20 := by decide +kernel
    exact this ⟨n, by omega⟩
theorem stepP_len {s : StepV} (h : SmallT s) : ((stepP s).flatMap tail1).length ≤ 1000000 := by
  obtain ⟨sk, sn, st1, st2, si1, si2, sm1, sm2⟩ := h
  unfold stepP
  split
  · refine flat_tail_le (m := 2201) (n := 70) ?_ (by rw [List.length_map]; exact st1) (by omega)
    intro t ht
    rw [List.mem_map] at ht
    obtain ⟨w, hw, rfl⟩ := ht
    have := st2 w hw
    rw [hexT_size]
    show 1 + 2 * w.length ≤ _
    omega
  · split
    · refine flat_tail_le (m := 141) (n := 70) ?_ (by rw [List.length_map]; exact si1) (by omega)
      intro t ht
      rw [List.mem_map] at ht
      obtain ⟨w, hw, rfl⟩ := ht
      have := si2 w hw
      rw [hexT_size]
      omega
    · split
      · refine flat_tail_le (m := 21) (n := 1) ?_ (by simp) (by omega)
        intro t ht
        rw [List.mem_singleton] at ht
        subst ht
        exact numT_size sn.1 (by have := sn.2; omega)
      · split
        · refine flat_tail_le (m := 21) (n := 1030) ?_ (by rw [List.length_map]; exact sm1) (by omega)
          intro t ht
          rw [List.mem_map] at ht
          obtain ⟨w, hw, rfl⟩ := ht
          have := sm2 w hw
          exact numT_size this.1 (by have := this.2; omega)
        · simp
theorem stepL_size {s : StepV} (h : SmallT s) : (stepL s).size ≤ 1000020 := by
  unfold stepL
  rw [lineT_cons]
  show ((stepN s.kind).data.toList ++ (stepP s).flatMap tail1).length ≤ _
  have h1 := stepP_len h
  have h2 := stepN_size s.kind
  have h3 := bl_size (stepN s.kind)
  rw [List.length_append]
  omega
theorem stepP_count {s : StepV} (h : SmallT s) : (stepP s).length ≤ 1030 := by
  obtain ⟨sk, sn, st1, st2, si1, si2, sm1, sm2⟩ := h
  unfold stepP
  split
  · rw [List.length_map]; omega
  · split
    · rw [List.length_map]; omega
    · split
      · simp
      · split
        · rw [List.length_map]; omega
        · simp
end Go.AS.C


namespace Go.AS
open Go
set_option linter.unusedVariables false
set_option linter.unusedSimpArgs false
section
variable {A B : AH} {v : Value} {sz : Nat} {es : List (List Value)}
/-- An element's fields, by one address. -/
theorem Sl.elfs (h : Sl A sz v es.length es.flatten) (he : ∀ e ∈ es, e.length = sz ∧ ones e = true) {j : Nat} {e : List Value} {x0 : Value} (hj : es[j]? = some e) (h0 : e[0]? = some x0) :
    ∃ p, (∀ (B : AH) (n : Int), n = (j : Int) → sIaddr B v (.int .i64 n) sz = some (p, B)) ∧ ∀ o x, e[o]? = some x → ∃ q, (∀ B, sFaddr B p o = some (q, B)) ∧ ∀ B, Le A B → sLoad1 B q = some (x, B) := by
  obtain ⟨p, q, p1, p2, p3⟩ := Sl.elfL h he hj h0
  refine ⟨p, p1, fun o x hx => ?_⟩
  obtain ⟨p', q', u1, u2, u3⟩ := Sl.elfL h he hj hx
  have e : p' = p := by
    have h1 := p1 A j rfl
    rw [u1 A j rfl] at h1
    injection h1 with h1
    injection h1 with h1 _
  subst e
  exact ⟨q', u2, u3⟩
/-- A literal of two elements. -/
theorem litE2 (A : AH) {z e f : List Value} (hz : z.length = sz) (he : e.length = sz) (hf : f.length = sz) (ho : ones e = true) (hp : ones f = true) :
    sLit A z sz 2 [(0, sz, .agg e.toArray), (sz, sz, .agg f.toArray)] = some (.slice (some ⟨A.length, 0, none⟩) 2 2, A ++ [.row (e ++ f) .own sz true]) := by
  unfold sLit
  have ec : (Value.agg e.toArray).cells = e.toArray := rfl
  have fc : (Value.agg f.toArray).cells = f.toArray := rfl
  have e1 : (List.replicate 2 z).flatten = z ++ z := by simp [List.replicate]
  rw [e1]
  unfold fillA
  rw [ec]
  rw [if_pos ⟨by simpa using he, by rw [List.length_append]; omega, by simpa using ho⟩]
  have e2 : setAll (z ++ z) 0 e.toArray.toList = e ++ z := by
    unfold setAll
    simp only [List.take_zero, List.nil_append, Nat.zero_add]
    rw [he, ← hz, List.drop_left]
  rw [e2]
  unfold fillA
  rw [fc]
  rw [if_pos ⟨by simpa using hf, by rw [List.length_append]; omega, by simpa using hp⟩]
  have e3 : setAll (e ++ z) sz f.toArray.toList = e ++ f := by
    unfold setAll
    show (e ++ z).take sz ++ f ++ (e ++ z).drop (sz + f.length) = e ++ f
    rw [← he, List.take_left, List.drop_of_length_le (by rw [List.length_append]; omega), List.append_nil]
  rw [e3]
  unfold fillA
  rfl
theorem sl_two {st : St} {ex : Bool} {e f : List Value} (A : AH) (he : e.length = sz) (hf : f.length = sz) (hs : st ≠ .dead) : Sl (A ++ [.row (e ++ f) st sz ex]) sz (.slice (some ⟨A.length, 0, none⟩) 2 2) [e, f].length [e, f].flatten := by
  refine ⟨by simp; omega, .inr (.inr ⟨A.length, 0, 2, e ++ f, st, ex, rfl, Nat.le_refl _, by simp, hs, by simp; omega, fun j hj => by simp⟩)⟩
end
end Go.AS


namespace Go.AS.C
open Go Go.Proofs
set_option linter.unusedVariables false
set_option linter.unusedSimpArgs false
set_option maxRecDepth 10000

/-! Steps in a slice; whether they are too large. -/
/-- An element that is a step. -/
def StepR (A : AH) (s : StepV) (r : List Value) : Prop := ∃ t i m : Value, r = [ii s.kind, t, i, ii s.n, m] ∧ Byts A t s.texts ∧ SlT A i s.ids ∧ SlI A .i64 m s.masks
theorem StepR.le {A B : AH} {s : StepV} {r : List Value} (h : StepR A s r) (hl : Le A B) : StepR B s r := by
  obtain ⟨t, i, m, h1, h2, h3, h4⟩ := h
  exact ⟨t, i, m, h1, h2.le hl, h3.le hl, h4.le hl⟩
def StepsA (A : AH) (v : Value) (l : List StepV) : Prop := ∃ rows : List (List Value), Sl A 5 v rows.length rows.flatten ∧ All2 (StepR A) l rows
theorem StepsA.le {A B : AH} {v : Value} {l : List StepV} (h : StepsA A v l) (hl : Le A B) : StepsA B v l := by
  obtain ⟨rows, h1, h2⟩ := h
  exact ⟨rows, h1.le hl, All2.imp (fun s r hr => StepR.le hr hl) _ _ h2⟩
theorem StepsA.len {A : AH} {v : Value} {l : List StepV} (h : StepsA A v l) (B : AH) : sLens B false v = some (ii l.length, B) := by
  obtain ⟨rows, h1, h2⟩ := h
  have := Sl.lenB h1 B
  rw [All2.len _ _ h2] at this
  exact this
theorem stepR_ok {A : AH} {s : StepV} {r : List Value} (h : StepR A s r) : r.length = 5 ∧ ones r = true := by
  obtain ⟨t, i, m, rfl, h1, h2, h3⟩ := h
  have e1 := (byts_one1 h1).2
  have e2 := (Sl.one1 h2).2
  have e3 := (Sl.one1 h3).2
  refine ⟨rfl, ?_⟩
  simp only [ones, List.all_cons, List.all_nil, e1, e2, e3]
  rfl
theorem all2_mem {α β : Type} {R : α → β → Prop} : ∀ {l : List α} {r : List β}, All2 R l r → ∀ b ∈ r, ∃ a, R a b
  | [], [], _, b, hb => by cases hb
  | a :: l, c :: r, h, b, hb => by
    rcases List.mem_cons.1 hb with rfl | hb
    · exact ⟨a, h.1⟩
    · exact all2_mem h.2 b hb
  | [], _ :: _, h, _, _ => h.elim
  | _ :: _, [], h, _, _ => h.elim
/-- A step in a slice: where it stands, and its parts. -/
theorem StepsA.at {A : AH} {v : Value} {l : List StepV} (h : StepsA A v l) {j : Nat} {s : StepV} (hj : l[j]? = some s) : ∃ t i m p q0 q1 q2 q3 q4, Byts A t s.texts ∧ SlT A i s.ids ∧ SlI A .i64 m s.masks ∧
    (∀ (B : AH) (n : Int), n = (j : Int) → sIaddr B v (.int .i64 n) 5 = some (p, B)) ∧ ((∀ B, sFaddr B p 0 = some (q0, B)) ∧ ∀ B, Le A B → sLoad1 B q0 = some (ii s.kind, B)) ∧ ((∀ B, sFaddr B p 1 = some (q1, B)) ∧ ∀ B, Le A B → sLoad1 B q1 = some (t, B)) ∧
    ((∀ B, sFaddr B p 2 = some (q2, B)) ∧ ∀ B, Le A B → sLoad1 B q2 = some (i, B)) ∧ ((∀ B, sFaddr B p 3 = some (q3, B)) ∧ ∀ B, Le A B → sLoad1 B q3 = some (ii s.n, B)) ∧ ((∀ B, sFaddr B p 4 = some (q4, B)) ∧ ∀ B, Le A B → sLoad1 B q4 = some (m, B)) := by
  obtain ⟨rows, h1, h2⟩ := h
  have hlt := lt_of_get hj
  have hl := All2.len _ _ h2
  obtain ⟨r, hr⟩ : ∃ r, rows[j]? = some r := ⟨_, List.getElem?_eq_getElem (by omega)⟩
  have hok : ∀ e ∈ rows, e.length = 5 ∧ ones e = true := fun e he => by
    obtain ⟨a, ha⟩ := all2_mem h2 e he
    exact stepR_ok ha
  obtain ⟨t, i, m, rfl, b1, b2, b3⟩ := All2.get _ _ h2 j s r hj hr
  obtain ⟨p, p1, p2⟩ := Sl.elfs h1 hok hr rfl
  obtain ⟨q0, c0⟩ := p2 0 _ rfl
  obtain ⟨q1, c1⟩ := p2 1 _ rfl
  obtain ⟨q2, c2⟩ := p2 2 _ rfl
  obtain ⟨q3, c3⟩ := p2 3 _ rfl
  obtain ⟨q4, c4⟩ := p2 4 _ rfl
  exact ⟨t, i, m, p, q0, q1, q2, q3, q4, b1, b2, b3, p1, c0, c1, c2, c3, c4⟩
/-- The same, the whole step. -/
theorem StepsA.load {A : AH} {v : Value} {l : List StepV} (h : StepsA A v l) {j : Nat} {s : StepV} (hj : l[j]? = some s) : ∃ p x, (∀ (B : AH) (n : Int), n = (j : Int) → sIaddr B v (.int .i64 n) 5 = some (p, B)) ∧ (∀ B, Le A B → sLoadn B p 5 = some (x, B)) ∧ StepA A x s := by
  obtain ⟨rows, h1, h2⟩ := h
  have hlt := lt_of_get hj
  have hl := All2.len _ _ h2
  obtain ⟨r, hr⟩ : ∃ r, rows[j]? = some r := ⟨_, List.getElem?_eq_getElem (by omega)⟩
  have hok : ∀ e ∈ rows, e.length = 5 ∧ ones e = true := fun e he => by
    obtain ⟨a, ha⟩ := all2_mem h2 e he
    exact stepR_ok ha
  obtain ⟨p, _, p1, _, p3⟩ := Sl.el h1 hok (j := j) (e := r) hr
  obtain ⟨t, i, m, rfl, b1, b2, b3⟩ := All2.get _ _ h2 j s r hj hr
  exact ⟨p, _, p1, fun B hB => p3 B (fun k b hb _ => hB.get hb), t, i, m, rfl, b1, b2, b3⟩
def SmallL (s : StepV) : Prop := s.texts.length ≤ 70 ∧ s.ids.length ≤ 70 ∧ s.masks.length ≤ 1030 ∧ (∀ t ∈ s.texts, t.length ≤ 1100) ∧ ∀ t ∈ s.ids, t.size ≤ 70
theorem small_step {s : StepV} (h : SmallL s) (r : RangeT s) : SmallT s := ⟨r.1, r.2.1, h.1, h.2.2.2.1, h.2.1, h.2.2.2.2, h.2.2.1, r.2.2.1⟩
def LargeS (l : List StepV) (most : Int) (v : Value) : Prop := ∃ b, v = .bool b ∧ (b = false → (l.length : Int) ≤ most ∧ ∀ s ∈ l, SmallL s)
theorem large39_spec {A : AH} {v : Value} {l : List StepV} {most : Int} {Q : Value → AH → Prop} (hx : StepsA A v l) (hl : l.length < 2 ^ 50) (hm : I64 most) (hr : ∀ s ∈ l, s.texts.length < 2 ^ 50 ∧ s.ids.length < 2 ^ 50 ∧ s.masks.length < 2 ^ 50 ∧ (∀ t ∈ s.texts, t.length < 2 ^ 50) ∧ ∀ t ∈ s.ids, t.size < 2 ^ 50)
    (hq : ∀ b : Bool, (b = false → (l.length : Int) ≤ most ∧ ∀ s ∈ l, SmallL s) → Q (.bool b) A) : ACalls 3 Tryd.prog chantryref39_Large [v, ii most] Q A := by
  refine ACalls.pure (S := LargeS l most) (fun v ⟨b, e, h⟩ => by rw [e]; exact hq b h) ?_
  have big : LargeS l most (.bool true) := ⟨true, rfl, fun h => by cases h⟩
  refine ACalls.of_fits mixed fits_chantryref39_Large rfl ?_
  unfold ic_chantryref39_Large
  have i0 : initA [v, ii most] 0 = v := rfl
  have i1 : initA [v, ii most] 1 = ii most := rfl
  generalize initA [v, ii most] = a at i0 i1
  have hll := hx.len
  obtain ⟨hm1, hm2⟩ := hm
  by_cases h1 : most < (l.length : Int)
  · simp (maxSteps := 1000000) (disch := omega) only [stepS, reduceIte, Nat.reduceBEq, Nat.reduceEqDiff, tupleOf, stepT, stepX, heapR, lensR, Nat.reduceAdd, Nat.reduceLeDiff, i0, i1, hll]
    exact ⟨.refl _, rfl, big⟩
  refine W_mid (fun a B => B = A ∧ a 0 = v ∧ a 1 = ii most) ?_ ?_
  · simp (maxSteps := 1000000) (disch := omega) only [stepS, reduceIte, Nat.reduceBEq, Nat.reduceEqDiff, tupleOf, stepT, stepX, heapR, lensR, Nat.reduceAdd, Nat.reduceLeDiff, i0, i1]
  clear i0 i1
  rintro a B ⟨hB, g0, g1⟩
  obtain rfl : A = B := hB.symm
  clear hB
  refine W_mid (fun a B => B = A ∧ a 0 = v) ?_ ?_
  · simp (maxSteps := 1000000) (disch := omega) only [stepS, reduceIte, Nat.reduceBEq, Nat.reduceEqDiff, tupleOf, stepT, stepX, heapR, lensR, Nat.reduceAdd, Nat.reduceLeDiff, g0, g1, hll]
  clear g0 g1
  rintro a B ⟨hB, g0⟩
  obtain rfl : A = B := hB.symm
  clear hB
  refine W_midR (fun a B => B = A ∧ ∀ s ∈ l, SmallL s) ?_ ?_
  · simp (maxSteps := 1000000) (disch := omega) only [stepS, reduceIte, Nat.reduceBEq, Nat.reduceEqDiff, tupleOf, stepT, g0]
    refine W_loop (fun a' D => ∃ j : Nat, j ≤ l.length ∧ D = A ∧ a' 0 = v ∧ a' 5 = ii j ∧ ∀ w ∈ l.take j, SmallL w) (fun a' _ => l.length - (iv (a' 5)).toNat) ?_ ?_
    · refine ⟨0, Nat.zero_le _, rfl, ?_⟩
      simp (maxSteps := 1000000) (disch := omega) only [stepS, reduceIte, Nat.reduceBEq, Nat.reduceEqDiff, tupleOf, stepT, g0]
      simp
    · clear g0
      rintro a2 D ⟨j, hj, hD, g0, g5, hs⟩
      obtain rfl : A = D := hD.symm
      clear hD
      rcases Nat.lt_or_ge j l.length with hlt | hge
      · obtain ⟨w, hw⟩ := get_some hlt
        have hwr := hr w (List.mem_of_getElem? hw)
        obtain ⟨r1, r2, r3, r4, r5⟩ := hwr
        obtain ⟨t, i, m, p, q0, q1, q2, q3, q4, ht, hi, hmm, p1, c0, ⟨u1, c1⟩, ⟨u2, c2⟩, c3, u4, c4⟩ := hx.at hw
        have c1 := c1 A (.refl _)
        have c2 := c2 A (.refl _)
        have c4 := c4 A (.refl _)
        have lt := byts_lenB ht
        have li := SlT.len hi
        have lm : ∀ B, sLens B false m = some (ii w.masks.length, B) := Sl.lenB hmm
        have htk : l.take (j + 1) = l.take j ++ [w] := by rw [List.take_add_one, hw]; rfl
        by_cases d1 : w.texts.length ≤ 70
        · by_cases d2 : w.ids.length ≤ 70
          · by_cases d3 : w.masks.length ≤ 1030
            · simp (maxSteps := 1000000) (disch := omega) only [stepS, reduceIte, Nat.reduceBEq, Nat.reduceEqDiff, tupleOf, stepT, stepX, heapR, lensR, Nat.reduceAdd, Nat.reduceLeDiff, g0, g5, hll, p1, u1, u2, u4, c1, c2, c4, lt, li, lm]
              refine W_loop (fun a' D => ∃ i : Nat, i ≤ w.texts.length ∧ D = A ∧ a' 0 = v ∧ a' 5 = ii j ∧ a' 6 = ii i ∧ ∀ t ∈ w.texts.take i, t.length ≤ 1100) (fun a' _ => w.texts.length - (iv (a' 6)).toNat) ?_ ?_
              · refine ⟨0, Nat.zero_le _, rfl, ?_⟩
                simp (maxSteps := 1000000) (disch := omega) only [stepS, reduceIte, Nat.reduceBEq, Nat.reduceEqDiff, tupleOf, stepT, stepX, heapR, lensR, Nat.reduceAdd, Nat.reduceLeDiff, g0, g5]
                simp
              · clear g0 g5
                rintro a3 D ⟨n, hn, hD, g0, g5, g6, hs1⟩
                obtain rfl : A = D := hD.symm
                clear hD
                rcases Nat.lt_or_ge n w.texts.length with hnl | hnl
                · obtain ⟨y, hy⟩ := get_some hnl
                  have ry := r4 y (List.mem_of_getElem? hy)
                  obtain ⟨z, x, z1, z2, hx2⟩ := byts_atL ht hy
                  have z2 := z2 A (.refl _)
                  have ly := Byt.len hx2
                  have hyk : w.texts.take (n + 1) = w.texts.take n ++ [y] := by rw [List.take_add_one, hy]; rfl
                  by_cases d4 : y.length ≤ 1100
                  · simp (maxSteps := 1000000) (disch := omega) only [stepS, reduceIte, Nat.reduceBEq, Nat.reduceEqDiff, tupleOf, stepT, stepX, heapR, lensR, Nat.reduceAdd, Nat.reduceLeDiff, g0, g5, g6, p1, u1, c1, lt, z1, z2, ly]
                    refine ⟨⟨n + 1, by omega, rfl, fun x hx => ?_⟩, by omega⟩
                    rw [hyk, List.mem_append, List.mem_singleton] at hx
                    rcases hx with hx | rfl
                    · exact hs1 x hx
                    · exact d4
                  · simp (maxSteps := 1000000) (disch := omega) only [stepS, reduceIte, Nat.reduceBEq, Nat.reduceEqDiff, tupleOf, stepT, stepX, heapR, lensR, Nat.reduceAdd, Nat.reduceLeDiff, g0, g5, g6, p1, u1, c1, lt, z1, z2, ly]
                    exact .inr ⟨.refl _, rfl, big⟩
                · rw [List.take_of_length_le hnl] at hs1
                  simp (maxSteps := 1000000) (disch := omega) only [stepS, reduceIte, Nat.reduceBEq, Nat.reduceEqDiff, tupleOf, stepT, stepX, heapR, lensR, Nat.reduceAdd, Nat.reduceLeDiff, g0, g5, g6, p1, u1, c1, lt]
                  refine W_loop (fun a' D => ∃ i : Nat, i ≤ w.ids.length ∧ D = A ∧ a' 0 = v ∧ a' 5 = ii j ∧ a' 7 = ii i ∧ ∀ t ∈ w.ids.take i, t.size ≤ 70) (fun a' _ => w.ids.length - (iv (a' 7)).toNat) ?_ ?_
                  · refine ⟨0, Nat.zero_le _, rfl, ?_⟩
                    simp (maxSteps := 1000000) (disch := omega) only [stepS, reduceIte, Nat.reduceBEq, Nat.reduceEqDiff, tupleOf, stepT, stepX, heapR, lensR, Nat.reduceAdd, Nat.reduceLeDiff, g0, g5]
                    simp
                  · clear g0 g5 g6 hn hnl
                    rintro a3 D ⟨n, hn, hD, g0, g5, g6, hs2⟩
                    obtain rfl : A = D := hD.symm
                    clear hD
                    rcases Nat.lt_or_ge n w.ids.length with hnl | hnl
                    · obtain ⟨y, hy⟩ := get_some hnl
                      have ry := r5 y (List.mem_of_getElem? hy)
                      obtain ⟨z, z1, z2⟩ := SlT.at hi hy
                      have z2 := z2 A (.refl _)
                      have hyk : w.ids.take (n + 1) = w.ids.take n ++ [y] := by rw [List.take_add_one, hy]; rfl
                      by_cases d4 : y.size ≤ 70
                      · simp (maxSteps := 1000000) (disch := omega) only [stepS, reduceIte, Nat.reduceBEq, Nat.reduceEqDiff, tupleOf, stepT, stepX, heapR, lensR, Nat.reduceAdd, Nat.reduceLeDiff, g0, g5, g6, p1, u2, c2, li, z1, z2]
                        refine ⟨⟨n + 1, by omega, rfl, fun x hx => ?_⟩, by omega⟩
                        rw [hyk, List.mem_append, List.mem_singleton] at hx
                        rcases hx with hx | rfl
                        · exact hs2 x hx
                        · exact d4
                      · simp (maxSteps := 1000000) (disch := omega) only [stepS, reduceIte, Nat.reduceBEq, Nat.reduceEqDiff, tupleOf, stepT, stepX, heapR, lensR, Nat.reduceAdd, Nat.reduceLeDiff, g0, g5, g6, p1, u2, c2, li, z1, z2]
                        exact .inr ⟨.refl _, rfl, big⟩
                    · rw [List.take_of_length_le hnl] at hs2
                      simp (maxSteps := 1000000) (disch := omega) only [stepS, reduceIte, Nat.reduceBEq, Nat.reduceEqDiff, tupleOf, stepT, stepX, heapR, lensR, Nat.reduceAdd, Nat.reduceLeDiff, g0, g5, g6, p1, u2, c2, li]
                      refine ⟨⟨j + 1, by omega, rfl, fun x hx => ?_⟩, by omega⟩
                      rw [htk, List.mem_append, List.mem_singleton] at hx
                      rcases hx with hx | rfl
                      · exact hs x hx
                      · exact ⟨d1, d2, d3, hs1, hs2⟩
            · simp (maxSteps := 1000000) (disch := omega) only [stepS, reduceIte, Nat.reduceBEq, Nat.reduceEqDiff, tupleOf, stepT, stepX, heapR, lensR, Nat.reduceAdd, Nat.reduceLeDiff, g0, g5, hll, p1, u1, u2, u4, c1, c2, c4, lt, li, lm]
              exact .inr ⟨.refl _, rfl, big⟩
          · simp (maxSteps := 1000000) (disch := omega) only [stepS, reduceIte, Nat.reduceBEq, Nat.reduceEqDiff, tupleOf, stepT, stepX, heapR, lensR, Nat.reduceAdd, Nat.reduceLeDiff, g0, g5, hll, p1, u1, u2, u4, c1, c2, c4, lt, li, lm]
            exact .inr ⟨.refl _, rfl, big⟩
        · simp (maxSteps := 1000000) (disch := omega) only [stepS, reduceIte, Nat.reduceBEq, Nat.reduceEqDiff, tupleOf, stepT, stepX, heapR, lensR, Nat.reduceAdd, Nat.reduceLeDiff, g0, g5, hll, p1, u1, u2, u4, c1, c2, c4, lt, li, lm]
          exact .inr ⟨.refl _, rfl, big⟩
      · simp (maxSteps := 1000000) (disch := omega) only [stepS, reduceIte, Nat.reduceBEq, Nat.reduceEqDiff, tupleOf, stepT, stepX, heapR, lensR, Nat.reduceAdd, Nat.reduceLeDiff, g0, g5, hll]
        rw [List.take_of_length_le hge] at hs
        exact .inl hs
  rintro a B ⟨hB, hall⟩
  subst hB
  simp (maxSteps := 1000000) (disch := omega) only [stepS, reduceIte, Nat.reduceBEq, Nat.reduceEqDiff, tupleOf, stepT]
  exact ⟨.refl _, rfl, false, rfl, fun _ => ⟨by omega, hall⟩⟩
end Go.AS.C


namespace Go.AS.C
open Go Go.Proofs
set_option linter.unusedVariables false
set_option linter.unusedSimpArgs false
set_option maxRecDepth 10000

theorem tell_Step_spec {A : AH} {x : Value} {s : StepV} {Q : Value → AH → Prop} (hg : Le G3 A) (hx : StepA A x s) (hs : SmallT s) (hq : Q (.string (stepL s)) A) : ACalls 3 Tryd.prog tell_Step [x] Q A := by
  refine ACalls.pure1 _ rfl hq fun Q hq => ?_
  obtain ⟨t, i, m, rfl, ht, hi, hm⟩ := hx
  obtain ⟨sk, sn, st1, st2, si1, si2, sm1, sm2⟩ := hs
  refine ACalls.of_fits mixed fits_tell_Step rfl ?_
  unfold ic_tell_Step
  have i0 : initA [.agg #[ii s.kind, t, i, ii s.n, m]] 0 = .agg #[ii s.kind, t, i, ii s.n, m] := rfl
  generalize initA [.agg #[ii s.kind, t, i, ii s.n, m]] = a at i0
  have ot := (byts_one1 ht).2
  have oi := (Sl.one1 hi).2
  have om := (Sl.one1 hm).2
  refine W_mid (fun a B => B = A ++ [.row [ii s.kind, t, i, ii s.n, m] .own 0 true] ∧ a 1 = ptr A.length) ?_ ?_
  · simp (maxSteps := 1000000) (disch := omega) only [stepS, reduceIte, Nat.reduceBEq, Nat.reduceEqDiff, tupleOf, stepT, stepX, heapR, lensR, Nat.reduceAdd, Nat.reduceLeDiff, i0, ot, oi, om]
  rintro a B0 ⟨hB, g1⟩
  have k0 : Le A B0 := by rw [hB]; exact .push _ _
  have r1 : rowAt B0 A.length = some ([ii s.kind, t, i, ii s.n, m], .own, 0, true) := by rw [hB]; exact rowAt_own (get_last _ _)
  clear i0 hB
  have rG : rowAt B0 0 = some (kVs, .ro, 0, true) := ((hg.trans k0)).row rowG0
  have hA0 : 0 < B0.length := by have := (hg.trans k0).len; simp [G3] at this; omega
  have kv0 : kVs[0]? = some (.string ⟨#[63]⟩) := rfl
  have xg0 : ∀ B : AH, sIarr B (.pointer (some ⟨0, 0, none⟩)) (.int .i64 0) 13 1 = some (.pointer (some ⟨0, 0, none⟩), B) := fun _ => rfl
  by_cases hk : s.kind < 0 ∨ 13 ≤ s.kind
  · have hq2 := hq B0 k0
    rw [stepL_out hk] at hq2
    rcases hk with hk | hk
    · simp (maxSteps := 1000000) (disch := omega) only [stepS, reduceIte, Nat.reduceBEq, Nat.reduceEqDiff, tupleOf, stepT, stepX, heapR, lensR, Nat.reduceAdd, Nat.reduceLeDiff, g1, r1, rG, xg0, kv0]
      exact hq2
    · by_cases hk2 : s.kind < 0
      · omega
      · simp (maxSteps := 1000000) (disch := omega) only [stepS, reduceIte, Nat.reduceBEq, Nat.reduceEqDiff, tupleOf, stepT, stepX, heapR, lensR, Nat.reduceAdd, Nat.reduceLeDiff, g1, r1, rG, xg0, kv0]
        exact hq2
  obtain ⟨k, hk2, hk3, hkv⟩ := kind_of hk
  have xg : ∀ B : AH, sIarr B (.pointer (some ⟨0, 0, none⟩)) (.int .i64 s.kind) 13 1 = some (.pointer (some ⟨0, k, none⟩), B) := iarrG hk2 hk3
  refine W_mid (fun a B => B = B0 ∧ a 1 = ptr A.length) ?_ ?_
  · simp (maxSteps := 1000000) (disch := omega) only [stepS, reduceIte, Nat.reduceBEq, Nat.reduceEqDiff, tupleOf, stepT, stepX, heapR, lensR, Nat.reduceAdd, Nat.reduceLeDiff, g1, r1, rG]
  rintro a B' ⟨hB, g1⟩
  obtain rfl : B0 = B' := hB.symm
  clear hB
  have l1 := lit1 (A := B0) (z := .string ⟨#[]⟩) (len := 1) (ps := [(0, 1, .string (stepN s.kind))]) [.string (stepN s.kind)] rfl rfl (fun x hx => by
    simp only [List.mem_cons, List.not_mem_nil, or_false] at hx
    subst hx; exact one1_str _)
  have own0 : OwnT B0.length (B0 ++ [.row [.string (stepN s.kind)] .own 1 true]) (.slice (some ⟨B0.length, 0, none⟩) 1 1) [stepN s.kind] := ownT_last [stepN s.kind] (Nat.le_refl _)
  refine W_mid (fun a B => ∃ u, Le B0 B ∧ a 1 = ptr A.length ∧ a 3 = u ∧ OwnT B0.length B u [stepN s.kind]) ?_ ?_
  · simp (maxSteps := 1000000) (disch := omega) only [stepS, reduceIte, Nat.reduceBEq, Nat.reduceEqDiff, tupleOf, stepT, stepX, heapR, lensR, Nat.reduceAdd, Nat.reduceLeDiff, g1, r1, rG, xg, hkv, l1]
    exact ⟨_, Le.push _ _, rfl, own0⟩
  clear g1 l1 own0
  rintro a B1 ⟨u, k1, g1, g3, o3⟩
  have r2 := k1.row r1
  refine W_mid (fun a B => ∃ u, Le B0 B ∧ a 3 = u ∧ OwnT B0.length B u (stepN s.kind :: stepP s)) ?_ ?_
  · by_cases h1 : s.kind = 1
    · have lt := byts_lenB ht
      simp (maxSteps := 1000000) (disch := omega) only [stepS, reduceIte, Nat.reduceBEq, Nat.reduceEqDiff, tupleOf, stepT, stepX, heapR, lensR, Nat.reduceAdd, Nat.reduceLeDiff, g1, g3, r2, lt]
      refine W_loop (fun a' B => ∃ j : Nat, j ≤ s.texts.length ∧ Le B0 B ∧ a' 30 = t ∧ a' 31 = ii s.texts.length ∧ a' 32 = ii j ∧ OwnT B0.length B (a' 3) (stepN s.kind :: (s.texts.take j).map (fun t => hexT ⟨t.toArray⟩))) (fun a' _ => s.texts.length - (iv (a' 32)).toNat) ?_ ?_
      · refine ⟨0, Nat.zero_le _, k1, ?_⟩
        simp (maxSteps := 1000000) (disch := omega) only [stepS, reduceIte, Nat.reduceBEq, Nat.reduceEqDiff, tupleOf, stepT, stepX, heapR, lensR, Nat.reduceAdd, Nat.reduceLeDiff, g1, g3, r2, lt]
        exact ⟨rfl, o3⟩
      · clear g1 g3 o3
        rintro a2 B ⟨j, hj, hle, g7, g8, g9, o3⟩
        obtain ⟨y, g3⟩ : ∃ y, a2 3 = y := ⟨_, rfl⟩
        rw [g3] at o3
        rcases Nat.lt_or_ge j s.texts.length with hlt | hge
        · obtain ⟨w, hw⟩ := get_some hlt
          have hsw := st2 w (List.mem_of_getElem? hw)
          obtain ⟨p, x, p1, p2, hx⟩ := byts_atL ht hw
          have p3 := p2 B (k0.trans hle)
          have hxs := (hx.le (k0.trans hle)).str
          have htk : s.texts.take (j + 1) = s.texts.take j ++ [w] := by rw [List.take_add_one, hw]; rfl
          simp (maxSteps := 1000000) (disch := omega) only [stepS, reduceIte, Nat.reduceBEq, Nat.reduceEqDiff, tupleOf, stepT, stepX, heapR, lensR, Nat.reduceAdd, Nat.reduceLeDiff, hxs, g3, g7, g8, g9, p1, p3]
          refine tell_digits_spec (s := ⟨w.toArray⟩) (by show w.length < _; omega) fun D kD => ?_
          obtain ⟨l1, x, F, q1, q2, q3, q4, q5⟩ := OwnT.push (hexT ⟨w.toArray⟩) (hle.trans kD) (OwnT.le o3 kD) (by rw [List.length_cons, List.length_map, List.length_take]; omega)
          simp (maxSteps := 1000000) (disch := omega) only [stepS, reduceIte, Nat.reduceBEq, Nat.reduceEqDiff, tupleOf, stepT, stepX, heapR, lensR, Nat.reduceAdd, Nat.reduceLeDiff, g3, g7, g8, g9, l1, q1]
          refine ⟨⟨j + 1, by omega, q2, rfl, ?_⟩, by omega⟩
          rw [htk, List.map_append]
          exact q3
        · rw [List.take_of_length_le (by omega)] at o3
          simp (maxSteps := 1000000) (disch := omega) only [stepS, reduceIte, Nat.reduceBEq, Nat.reduceEqDiff, tupleOf, stepT, stepX, heapR, lensR, Nat.reduceAdd, Nat.reduceLeDiff, g3, g7, g8, g9]
          refine ⟨_, hle, rfl, ?_⟩
          rw [stepP_1 h1]
          exact o3
    · by_cases h2 : s.kind = 2 ∨ s.kind = 4 ∨ s.kind = 9
      · have li := SlT.len hi
        rcases h2 with h2 | h2 | h2
        · simp (maxSteps := 1000000) (disch := omega) only [stepS, reduceIte, Nat.reduceBEq, Nat.reduceEqDiff, tupleOf, stepT, stepX, heapR, lensR, Nat.reduceAdd, Nat.reduceLeDiff, g1, g3, r2, li]
          refine W_loop (fun a' B => ∃ j : Nat, j ≤ s.ids.length ∧ Le B0 B ∧ a' 48 = i ∧ a' 49 = ii s.ids.length ∧ a' 50 = ii j ∧ OwnT B0.length B (a' 3) (stepN s.kind :: (s.ids.take j).map hexT)) (fun a' _ => s.ids.length - (iv (a' 50)).toNat) ?_ ?_
          · refine ⟨0, Nat.zero_le _, k1, ?_⟩
            simp (maxSteps := 1000000) (disch := omega) only [stepS, reduceIte, Nat.reduceBEq, Nat.reduceEqDiff, tupleOf, stepT, stepX, heapR, lensR, Nat.reduceAdd, Nat.reduceLeDiff, g1, g3, r2, li]
            exact ⟨rfl, o3⟩
          · clear g1 g3 o3
            rintro a2 B ⟨j, hj, hle, g7, g8, g9, o3⟩
            obtain ⟨y, g3⟩ : ∃ y, a2 3 = y := ⟨_, rfl⟩
            rw [g3] at o3
            rcases Nat.lt_or_ge j s.ids.length with hlt | hge
            · obtain ⟨w, hw⟩ := get_some hlt
              have hsw := si2 w (List.mem_of_getElem? hw)
              obtain ⟨p, p1, p2⟩ := SlT.at hi hw
              have p3 := p2 B (k0.trans hle)
              have htk : s.ids.take (j + 1) = s.ids.take j ++ [w] := by rw [List.take_add_one, hw]; rfl
              simp (maxSteps := 1000000) (disch := omega) only [stepS, reduceIte, Nat.reduceBEq, Nat.reduceEqDiff, tupleOf, stepT, stepX, heapR, lensR, Nat.reduceAdd, Nat.reduceLeDiff, g3, g7, g8, g9, p1, p3]
              refine tell_digits_spec (s := w) (by omega) fun D kD => ?_
              obtain ⟨l1, x, F, q1, q2, q3, q4, q5⟩ := OwnT.push (hexT w) (hle.trans kD) (OwnT.le o3 kD) (by rw [List.length_cons, List.length_map, List.length_take]; omega)
              simp (maxSteps := 1000000) (disch := omega) only [stepS, reduceIte, Nat.reduceBEq, Nat.reduceEqDiff, tupleOf, stepT, stepX, heapR, lensR, Nat.reduceAdd, Nat.reduceLeDiff, g3, g7, g8, g9, l1, q1]
              refine ⟨⟨j + 1, by omega, q2, rfl, ?_⟩, by omega⟩
              rw [htk, List.map_append]
              exact q3
            · rw [List.take_of_length_le (by omega)] at o3
              simp (maxSteps := 1000000) (disch := omega) only [stepS, reduceIte, Nat.reduceBEq, Nat.reduceEqDiff, tupleOf, stepT, stepX, heapR, lensR, Nat.reduceAdd, Nat.reduceLeDiff, g3, g7, g8, g9]
              refine ⟨_, hle, rfl, ?_⟩
              rw [stepP_2 (.inl h2)]
              exact o3
        · simp (maxSteps := 1000000) (disch := omega) only [stepS, reduceIte, Nat.reduceBEq, Nat.reduceEqDiff, tupleOf, stepT, stepX, heapR, lensR, Nat.reduceAdd, Nat.reduceLeDiff, g1, g3, r2, li]
          refine W_loop (fun a' B => ∃ j : Nat, j ≤ s.ids.length ∧ Le B0 B ∧ a' 48 = i ∧ a' 49 = ii s.ids.length ∧ a' 50 = ii j ∧ OwnT B0.length B (a' 3) (stepN s.kind :: (s.ids.take j).map hexT)) (fun a' _ => s.ids.length - (iv (a' 50)).toNat) ?_ ?_
          · refine ⟨0, Nat.zero_le _, k1, ?_⟩
            simp (maxSteps := 1000000) (disch := omega) only [stepS, reduceIte, Nat.reduceBEq, Nat.reduceEqDiff, tupleOf, stepT, stepX, heapR, lensR, Nat.reduceAdd, Nat.reduceLeDiff, g1, g3, r2, li]
            exact ⟨rfl, o3⟩
          · clear g1 g3 o3
            rintro a2 B ⟨j, hj, hle, g7, g8, g9, o3⟩
            obtain ⟨y, g3⟩ : ∃ y, a2 3 = y := ⟨_, rfl⟩
            rw [g3] at o3
            rcases Nat.lt_or_ge j s.ids.length with hlt | hge
            · obtain ⟨w, hw⟩ := get_some hlt
              have hsw := si2 w (List.mem_of_getElem? hw)
              obtain ⟨p, p1, p2⟩ := SlT.at hi hw
              have p3 := p2 B (k0.trans hle)
              have htk : s.ids.take (j + 1) = s.ids.take j ++ [w] := by rw [List.take_add_one, hw]; rfl
              simp (maxSteps := 1000000) (disch := omega) only [stepS, reduceIte, Nat.reduceBEq, Nat.reduceEqDiff, tupleOf, stepT, stepX, heapR, lensR, Nat.reduceAdd, Nat.reduceLeDiff, g3, g7, g8, g9, p1, p3]
              refine tell_digits_spec (s := w) (by omega) fun D kD => ?_
              obtain ⟨l1, x, F, q1, q2, q3, q4, q5⟩ := OwnT.push (hexT w) (hle.trans kD) (OwnT.le o3 kD) (by rw [List.length_cons, List.length_map, List.length_take]; omega)
              simp (maxSteps := 1000000) (disch := omega) only [stepS, reduceIte, Nat.reduceBEq, Nat.reduceEqDiff, tupleOf, stepT, stepX, heapR, lensR, Nat.reduceAdd, Nat.reduceLeDiff, g3, g7, g8, g9, l1, q1]
              refine ⟨⟨j + 1, by omega, q2, rfl, ?_⟩, by omega⟩
              rw [htk, List.map_append]
              exact q3
            · rw [List.take_of_length_le (by omega)] at o3
              simp (maxSteps := 1000000) (disch := omega) only [stepS, reduceIte, Nat.reduceBEq, Nat.reduceEqDiff, tupleOf, stepT, stepX, heapR, lensR, Nat.reduceAdd, Nat.reduceLeDiff, g3, g7, g8, g9]
              refine ⟨_, hle, rfl, ?_⟩
              rw [stepP_2 (.inr (.inl h2))]
              exact o3
        · simp (maxSteps := 1000000) (disch := omega) only [stepS, reduceIte, Nat.reduceBEq, Nat.reduceEqDiff, tupleOf, stepT, stepX, heapR, lensR, Nat.reduceAdd, Nat.reduceLeDiff, g1, g3, r2, li]
          refine W_loop (fun a' B => ∃ j : Nat, j ≤ s.ids.length ∧ Le B0 B ∧ a' 48 = i ∧ a' 49 = ii s.ids.length ∧ a' 50 = ii j ∧ OwnT B0.length B (a' 3) (stepN s.kind :: (s.ids.take j).map hexT)) (fun a' _ => s.ids.length - (iv (a' 50)).toNat) ?_ ?_
          · refine ⟨0, Nat.zero_le _, k1, ?_⟩
            simp (maxSteps := 1000000) (disch := omega) only [stepS, reduceIte, Nat.reduceBEq, Nat.reduceEqDiff, tupleOf, stepT, stepX, heapR, lensR, Nat.reduceAdd, Nat.reduceLeDiff, g1, g3, r2, li]
            exact ⟨rfl, o3⟩
          · clear g1 g3 o3
            rintro a2 B ⟨j, hj, hle, g7, g8, g9, o3⟩
            obtain ⟨y, g3⟩ : ∃ y, a2 3 = y := ⟨_, rfl⟩
            rw [g3] at o3
            rcases Nat.lt_or_ge j s.ids.length with hlt | hge
            · obtain ⟨w, hw⟩ := get_some hlt
              have hsw := si2 w (List.mem_of_getElem? hw)
              obtain ⟨p, p1, p2⟩ := SlT.at hi hw
              have p3 := p2 B (k0.trans hle)
              have htk : s.ids.take (j + 1) = s.ids.take j ++ [w] := by rw [List.take_add_one, hw]; rfl
              simp (maxSteps := 1000000) (disch := omega) only [stepS, reduceIte, Nat.reduceBEq, Nat.reduceEqDiff, tupleOf, stepT, stepX, heapR, lensR, Nat.reduceAdd, Nat.reduceLeDiff, g3, g7, g8, g9, p1, p3]
              refine tell_digits_spec (s := w) (by omega) fun D kD => ?_
              obtain ⟨l1, x, F, q1, q2, q3, q4, q5⟩ := OwnT.push (hexT w) (hle.trans kD) (OwnT.le o3 kD) (by rw [List.length_cons, List.length_map, List.length_take]; omega)
              simp (maxSteps := 1000000) (disch := omega) only [stepS, reduceIte, Nat.reduceBEq, Nat.reduceEqDiff, tupleOf, stepT, stepX, heapR, lensR, Nat.reduceAdd, Nat.reduceLeDiff, g3, g7, g8, g9, l1, q1]
              refine ⟨⟨j + 1, by omega, q2, rfl, ?_⟩, by omega⟩
              rw [htk, List.map_append]
              exact q3
            · rw [List.take_of_length_le (by omega)] at o3
              simp (maxSteps := 1000000) (disch := omega) only [stepS, reduceIte, Nat.reduceBEq, Nat.reduceEqDiff, tupleOf, stepT, stepX, heapR, lensR, Nat.reduceAdd, Nat.reduceLeDiff, g3, g7, g8, g9]
              refine ⟨_, hle, rfl, ?_⟩
              rw [stepP_2 (.inr (.inr h2))]
              exact o3
      · by_cases h3 : s.kind = 10
        · simp (maxSteps := 1000000) (disch := omega) only [stepS, reduceIte, Nat.reduceBEq, Nat.reduceEqDiff, tupleOf, stepT, stepX, heapR, lensR, Nat.reduceAdd, Nat.reduceLeDiff, g1, g3, r2]
          refine itoa_spec (n := s.n) (hg.trans (k0.trans k1)) sn.1 (by have := sn.2; omega) ?_
          obtain ⟨l1, x, F, q1, q2, q3, q4, q5⟩ := OwnT.push (numT s.n) k1 o3 (by simp)
          simp (maxSteps := 1000000) (disch := omega) only [stepS, reduceIte, Nat.reduceBEq, Nat.reduceEqDiff, tupleOf, stepT, stepX, heapR, lensR, Nat.reduceAdd, Nat.reduceLeDiff, g3, l1, q1]
          refine ⟨_, q2, rfl, ?_⟩
          rw [stepP_10 h3]
          exact q3
        · by_cases h4 : s.kind = 11
          · have lm : ∀ B, sLens B false m = some (ii s.masks.length, B) := fun B => by
              have := Sl.lenB hm B
              exact this
            simp (maxSteps := 1000000) (disch := omega) only [stepS, reduceIte, Nat.reduceBEq, Nat.reduceEqDiff, tupleOf, stepT, stepX, heapR, lensR, Nat.reduceAdd, Nat.reduceLeDiff, g1, g3, r2, lm]
            refine W_loop (fun a' B => ∃ j : Nat, j ≤ s.masks.length ∧ Le B0 B ∧ a' 71 = m ∧ a' 72 = ii s.masks.length ∧ a' 73 = ii j ∧ OwnT B0.length B (a' 3) (stepN s.kind :: (s.masks.take j).map numT)) (fun a' _ => s.masks.length - (iv (a' 73)).toNat) ?_ ?_
            · refine ⟨0, Nat.zero_le _, k1, ?_⟩
              simp (maxSteps := 1000000) (disch := omega) only [stepS, reduceIte, Nat.reduceBEq, Nat.reduceEqDiff, tupleOf, stepT, stepX, heapR, lensR, Nat.reduceAdd, Nat.reduceLeDiff, g1, g3, r2, lm]
              exact ⟨rfl, o3⟩
            · clear g1 g3 o3
              rintro a2 B ⟨j, hj, hle, g7, g8, g9, o3⟩
              obtain ⟨y, g3⟩ : ∃ y, a2 3 = y := ⟨_, rfl⟩
              rw [g3] at o3
              rcases Nat.lt_or_ge j s.masks.length with hlt | hge
              · obtain ⟨w, hw⟩ := get_some hlt
                have hsw := sm2 w (List.mem_of_getElem? hw)
                obtain ⟨p, p1, p2⟩ := ints_atL hm hw
                have p3 := p2 B (k0.trans hle)
                have htk : s.masks.take (j + 1) = s.masks.take j ++ [w] := by rw [List.take_add_one, hw]; rfl
                simp (maxSteps := 1000000) (disch := omega) only [stepS, reduceIte, Nat.reduceBEq, Nat.reduceEqDiff, tupleOf, stepT, stepX, heapR, lensR, Nat.reduceAdd, Nat.reduceLeDiff, g3, g7, g8, g9, p1, p3]
                refine itoa_spec (n := w) (hg.trans (k0.trans hle)) hsw.1 (by have := hsw.2; omega) ?_
                obtain ⟨l1, x, F, q1, q2, q3, q4, q5⟩ := OwnT.push (numT w) (hle) (o3) (by rw [List.length_cons, List.length_map, List.length_take]; omega)
                simp (maxSteps := 1000000) (disch := omega) only [stepS, reduceIte, Nat.reduceBEq, Nat.reduceEqDiff, tupleOf, stepT, stepX, heapR, lensR, Nat.reduceAdd, Nat.reduceLeDiff, g3, g7, g8, g9, l1, q1]
                refine ⟨⟨j + 1, by omega, q2, rfl, ?_⟩, by omega⟩
                rw [htk, List.map_append]
                exact q3
              · rw [List.take_of_length_le (by omega)] at o3
                simp (maxSteps := 1000000) (disch := omega) only [stepS, reduceIte, Nat.reduceBEq, Nat.reduceEqDiff, tupleOf, stepT, stepX, heapR, lensR, Nat.reduceAdd, Nat.reduceLeDiff, g3, g7, g8, g9]
                refine ⟨_, hle, rfl, ?_⟩
                rw [stepP_11 h4]
                exact o3
          · simp (maxSteps := 1000000) (disch := omega) only [stepS, reduceIte, Nat.reduceBEq, Nat.reduceEqDiff, tupleOf, stepT, stepX, heapR, lensR, Nat.reduceAdd, Nat.reduceLeDiff, g1, g3, r2]
            refine ⟨_, k1, rfl, ?_⟩
            rw [stepP_0 h1 h2 h3 h4]
            exact o3
  clear g1 g3 o3 r2
  rintro a B ⟨u, hle, g3, o3⟩
  have hz := stepL_size (s := s) ⟨sk, sn, st1, st2, si1, si2, sm1, sm2⟩
  have hc := stepP_count (s := s) ⟨sk, sn, st1, st2, si1, si2, sm1, sm2⟩
  simp (maxSteps := 1000000) (disch := omega) only [stepS, reduceIte, Nat.reduceBEq, Nat.reduceEqDiff, tupleOf, stepT, stepX, heapR, lensR, Nat.reduceAdd, Nat.reduceLeDiff, g3]
  refine tell_line_spec (OwnT.sl o3) (by rw [List.length_cons]; omega) (by show (stepL s).size ≤ _; omega) ?_
  simp (maxSteps := 1000000) (disch := omega) only [stepS, reduceIte, Nat.reduceBEq, Nat.reduceEqDiff, tupleOf, stepT, stepX, heapR, lensR, Nat.reduceAdd, Nat.reduceLeDiff]
  exact hq _ (k0.trans hle)
end Go.AS.C


namespace Go.AS.C
open Go Go.Proofs
set_option linter.unusedVariables false
set_option linter.unusedSimpArgs false
set_option maxRecDepth 10000

theorem ref40_Step_spec {A : AH} {x : Value} {s : StepV} {Q : Value → AH → Prop} (hx : StepA A x s) (hs : SmallT s) (hq : Q (.string (stepL s)) A) : ACalls 3 Tryd.prog chantryref40_Step [x] Q A := by
  refine ACalls.pure1 _ rfl hq fun Q hq => ?_
  obtain ⟨t, i, m, rfl, ht, hi, hm⟩ := hx
  have hsm := hs
  obtain ⟨sk, sn, st1, st2, si1, si2, sm1, sm2⟩ := hs
  refine ACalls.of_fits mixed fits_chantryref40_Step rfl ?_
  unfold ic_chantryref40_Step
  have i0 : initA [.agg #[ii s.kind, t, i, ii s.n, m]] 0 = .agg #[ii s.kind, t, i, ii s.n, m] := rfl
  generalize initA [.agg #[ii s.kind, t, i, ii s.n, m]] = a at i0
  have ot := (byts_one1 ht).2
  have oi := (Sl.one1 hi).2
  have om := (Sl.one1 hm).2
  refine W_mid (fun a B => B = A ++ [.row [ii s.kind, t, i, ii s.n, m] .own 0 true] ∧ a 1 = ptr A.length) ?_ ?_
  · simp (maxSteps := 1000000) (disch := omega) only [stepS, reduceIte, Nat.reduceBEq, Nat.reduceEqDiff, tupleOf, stepT, stepX, heapR, lensR, Nat.reduceAdd, Nat.reduceLeDiff, i0, ot, oi, om]
  rintro a B0 ⟨hB, g1⟩
  have k0 : Le A B0 := by rw [hB]; exact .push _ _
  have r1 : rowAt B0 A.length = some ([ii s.kind, t, i, ii s.n, m], .own, 0, true) := by rw [hB]; exact rowAt_own (get_last _ _)
  clear i0 hB
  have hA := lt_of_get (rowAt_get r1)
  have l12 : sLit B0 [.string ⟨#[]⟩] 1 12 [(0, 1, .string ⟨#[105, 110, 103, 101, 115, 116]⟩), (1, 1, .string ⟨#[103, 101, 116]⟩), (2, 1, .string ⟨#[104, 101, 97, 100, 115]⟩), (3, 1, .string ⟨#[99, 104, 105, 108, 100, 114, 101, 110]⟩), (4, 1, .string ⟨#[115, 116, 97, 116, 101]⟩), (5, 1, .string ⟨#[115, 110, 97, 112, 115, 104, 111, 116]⟩), (6, 1, .string ⟨#[99, 104, 101, 99, 107, 112, 111, 105, 110, 116]⟩), (7, 1, .string ⟨#[99, 111, 109, 112, 97, 99, 116]⟩), (8, 1, .string ⟨#[109, 105, 115, 115, 105, 110, 103]⟩), (9, 1, .string ⟨#[115, 116, 111, 112]⟩), (10, 1, .string ⟨#[99, 114, 97, 115, 104]⟩), (11, 1, .string ⟨#[111, 112, 101, 110]⟩)] = some (.slice (some ⟨B0.length, 0, none⟩) 12 12, B0 ++ [.row (stepsL.tail.map .string) .own 1 true]) := lit1 (stepsL.tail.map .string) rfl rfl (fun x hx => by
    rw [List.mem_map] at hx
    obtain ⟨w, _, rfl⟩ := hx
    exact one1_str _)
  have s12 : SlT (B0 ++ [.row (stepsL.tail.map .string) .own 1 true]) (.slice (some ⟨B0.length, 0, none⟩) 12 12) stepsL.tail := OwnT.sl (ownT_last (a0 := 0) stepsL.tail (Nat.zero_le _))
  have k12 : Le B0 (B0 ++ [.row (stepsL.tail.map .string) .own 1 true]) := .push _ _
  refine W_mid (fun a B => B = B0 ++ [.row (stepsL.tail.map .string) .own 1 true] ∧ a 1 = ptr A.length ∧ a 3 = .string (stepN s.kind)) ?_ ?_
  · simp (maxSteps := 1000000) (disch := omega) only [stepS, reduceIte, Nat.reduceBEq, Nat.reduceEqDiff, tupleOf, stepT, stepX, heapR, lensR, Nat.reduceAdd, Nat.reduceLeDiff, g1, r1, l12]
    refine ref40_name_spec (i := s.kind) s12 (by decide) sk.1 sk.2 ?_
    simp (maxSteps := 1000000) (disch := omega) only [stepS, reduceIte, Nat.reduceBEq, Nat.reduceEqDiff, tupleOf, stepT, stepX, heapR, lensR, Nat.reduceAdd, Nat.reduceLeDiff, g1]
    rfl
  clear g1
  rintro a B ⟨hB, g1, g3⟩
  rw [← hB] at k12 s12
  have r2 := k12.row r1
  clear hB l12 s12
  have k1 := k0.trans k12
  clear r1
  have hN := stepN_size s.kind
  have hP := stepP_len hsm
  rw [str_bl] at g3
  have bN := bl_size (stepN s.kind)
  have fin : ∀ {p : List ByteArray}, stepP s = p → (⟨((stepN s.kind).data.toList ++ p.flatMap tail1).toArray⟩ : ByteArray) = stepL s := by
    intro p hp
    unfold stepL
    rw [lineT_cons, hp]
  refine W_mid (fun a B' => B' = B ∧ a 3 = .string (stepL s)) ?_ ?_
  · by_cases h1 : s.kind = 1
    · have lt := byts_lenB ht
      simp (maxSteps := 1000000) (disch := omega) only [stepS, reduceIte, Nat.reduceBEq, Nat.reduceEqDiff, tupleOf, stepT, stepX, heapR, lensR, Nat.reduceAdd, Nat.reduceLeDiff, g1, g3, r2]
      refine W_loop (fun a' B' => ∃ j : Nat, j ≤ s.texts.length ∧ B' = B ∧ a' 1 = ptr A.length ∧ a' 4 = ii j ∧ a' 3 = .string ⟨((stepN s.kind).data.toList ++ ((s.texts.take j).map (fun t => hexT ⟨t.toArray⟩)).flatMap tail1).toArray⟩) (fun a' _ => s.texts.length - (iv (a' 4)).toNat) ?_ ?_
      · refine ⟨0, Nat.zero_le _, rfl, ?_⟩
        simp (maxSteps := 1000000) (disch := omega) only [stepS, reduceIte, Nat.reduceBEq, Nat.reduceEqDiff, tupleOf, stepT, stepX, heapR, lensR, Nat.reduceAdd, Nat.reduceLeDiff, g1, g3]
        simp
      · clear g1 g3
        rintro a2 B' ⟨j, hj, hB, g1, g9, g3⟩
        subst hB
        rcases Nat.lt_or_ge j s.texts.length with hlt | hge
        · obtain ⟨w, hw⟩ := get_some hlt
          have hsw := st2 w (List.mem_of_getElem? hw)
          obtain ⟨p, x, p1, p2, hx⟩ := byts_atL ht hw
          have p3 := p2 B' k1
          have hxs := (hx.le k1).str
          have htk : s.texts.take (j + 1) = s.texts.take j ++ [w] := by rw [List.take_add_one, hw]; rfl
          have hle : (((s.texts.take (j + 1)).map (fun t => hexT ⟨t.toArray⟩)).flatMap tail1).length ≤ 1000000 := by
            refine Nat.le_trans ?_ hP
            rw [stepP_1 h1]
            conv => rhs; rw [← List.take_append_drop (j + 1) s.texts]
            rw [List.map_append, List.flatMap_append, List.length_append]
            omega
          have e2 : ((s.texts.take (j + 1)).map (fun t => hexT ⟨t.toArray⟩)).flatMap tail1 = ((s.texts.take j).map (fun t => hexT ⟨t.toArray⟩)).flatMap tail1 ++ tail1 (hexT ⟨w.toArray⟩) := by rw [htk, List.map_append, List.flatMap_append]; simp
          rw [e2, List.length_append] at hle
          have c1 := cat_l ((stepN s.kind).data.toList ++ ((s.texts.take j).map (fun t => hexT ⟨t.toArray⟩)).flatMap tail1) (tail1 (hexT ⟨w.toArray⟩)) (by rw [List.length_append]; omega)
          rw [List.append_assoc, ← e2] at c1
          simp (maxSteps := 1000000) (disch := omega) only [stepS, reduceIte, Nat.reduceBEq, Nat.reduceEqDiff, tupleOf, stepT, stepX, heapR, lensR, Nat.reduceAdd, Nat.reduceLeDiff, hxs, g1, g3, g9, r2, lt, p1, p3]
          refine ACalls.pure1 _ rfl ?_ fun Q hq => ref40_digits_spec (s := ⟨w.toArray⟩) (by show w.length < _; omega) hq
          simp (maxSteps := 1000000) (disch := omega) only [stepS, reduceIte, Nat.reduceBEq, Nat.reduceEqDiff, tupleOf, stepT, stepX, heapR, lensR, Nat.reduceAdd, Nat.reduceLeDiff, g1, g3, g9, r2, c1]
          exact ⟨⟨j + 1, by omega, rfl, rfl⟩, by omega⟩
        · rw [List.take_of_length_le (by omega)] at g3
          simp (maxSteps := 1000000) (disch := omega) only [stepS, reduceIte, Nat.reduceBEq, Nat.reduceEqDiff, tupleOf, stepT, stepX, heapR, lensR, Nat.reduceAdd, Nat.reduceLeDiff, g1, g3, g9, r2, lt]
          rw [fin (stepP_1 h1)]
    · by_cases h2 : s.kind = 2 ∨ s.kind = 4 ∨ s.kind = 9
      · have li := SlT.len hi
        rcases h2 with h2 | h2 | h2
        · simp (maxSteps := 1000000) (disch := omega) only [stepS, reduceIte, Nat.reduceBEq, Nat.reduceEqDiff, tupleOf, stepT, stepX, heapR, lensR, Nat.reduceAdd, Nat.reduceLeDiff, g1, g3, r2]
          refine W_loop (fun a' B' => ∃ j : Nat, j ≤ s.ids.length ∧ B' = B ∧ a' 1 = ptr A.length ∧ a' 5 = ii j ∧ a' 3 = .string ⟨((stepN s.kind).data.toList ++ ((s.ids.take j).map hexT).flatMap tail1).toArray⟩) (fun a' _ => s.ids.length - (iv (a' 5)).toNat) ?_ ?_
          · refine ⟨0, Nat.zero_le _, rfl, ?_⟩
            simp (maxSteps := 1000000) (disch := omega) only [stepS, reduceIte, Nat.reduceBEq, Nat.reduceEqDiff, tupleOf, stepT, stepX, heapR, lensR, Nat.reduceAdd, Nat.reduceLeDiff, g1, g3]
            simp
          · clear g1 g3
            rintro a2 B' ⟨j, hj, hB, g1, g9, g3⟩
            subst hB
            rcases Nat.lt_or_ge j s.ids.length with hlt | hge
            · obtain ⟨w, hw⟩ := get_some hlt
              have hsw := si2 w (List.mem_of_getElem? hw)
              obtain ⟨p, p1, p2⟩ := SlT.at hi hw
              have p3 := p2 B' k1
              have htk : s.ids.take (j + 1) = s.ids.take j ++ [w] := by rw [List.take_add_one, hw]; rfl
              have hle : (((s.ids.take (j + 1)).map hexT).flatMap tail1).length ≤ 1000000 := by
                refine Nat.le_trans ?_ hP
                rw [stepP_2 (.inl h2)]
                conv => rhs; rw [← List.take_append_drop (j + 1) s.ids]
                rw [List.map_append, List.flatMap_append, List.length_append]
                omega
              have e2 : ((s.ids.take (j + 1)).map hexT).flatMap tail1 = ((s.ids.take j).map hexT).flatMap tail1 ++ tail1 (hexT w) := by rw [htk, List.map_append, List.flatMap_append]; simp
              rw [e2, List.length_append] at hle
              have c1 := cat_l ((stepN s.kind).data.toList ++ ((s.ids.take j).map hexT).flatMap tail1) (tail1 (hexT w)) (by rw [List.length_append]; omega)
              rw [List.append_assoc, ← e2] at c1
              simp (maxSteps := 1000000) (disch := omega) only [stepS, reduceIte, Nat.reduceBEq, Nat.reduceEqDiff, tupleOf, stepT, stepX, heapR, lensR, Nat.reduceAdd, Nat.reduceLeDiff, g1, g3, g9, r2, li, p1, p3]
              refine ACalls.pure1 _ rfl ?_ fun Q hq => ref40_digits_spec (s := w) (by omega) hq
              simp (maxSteps := 1000000) (disch := omega) only [stepS, reduceIte, Nat.reduceBEq, Nat.reduceEqDiff, tupleOf, stepT, stepX, heapR, lensR, Nat.reduceAdd, Nat.reduceLeDiff, g1, g3, g9, r2, c1]
              exact ⟨⟨j + 1, by omega, rfl, rfl⟩, by omega⟩
            · rw [List.take_of_length_le (by omega)] at g3
              simp (maxSteps := 1000000) (disch := omega) only [stepS, reduceIte, Nat.reduceBEq, Nat.reduceEqDiff, tupleOf, stepT, stepX, heapR, lensR, Nat.reduceAdd, Nat.reduceLeDiff, g1, g3, g9, r2, li]
              rw [fin (stepP_2 (.inl h2))]
        · simp (maxSteps := 1000000) (disch := omega) only [stepS, reduceIte, Nat.reduceBEq, Nat.reduceEqDiff, tupleOf, stepT, stepX, heapR, lensR, Nat.reduceAdd, Nat.reduceLeDiff, g1, g3, r2]
          refine W_loop (fun a' B' => ∃ j : Nat, j ≤ s.ids.length ∧ B' = B ∧ a' 1 = ptr A.length ∧ a' 5 = ii j ∧ a' 3 = .string ⟨((stepN s.kind).data.toList ++ ((s.ids.take j).map hexT).flatMap tail1).toArray⟩) (fun a' _ => s.ids.length - (iv (a' 5)).toNat) ?_ ?_
          · refine ⟨0, Nat.zero_le _, rfl, ?_⟩
            simp (maxSteps := 1000000) (disch := omega) only [stepS, reduceIte, Nat.reduceBEq, Nat.reduceEqDiff, tupleOf, stepT, stepX, heapR, lensR, Nat.reduceAdd, Nat.reduceLeDiff, g1, g3]
            simp
          · clear g1 g3
            rintro a2 B' ⟨j, hj, hB, g1, g9, g3⟩
            subst hB
            rcases Nat.lt_or_ge j s.ids.length with hlt | hge
            · obtain ⟨w, hw⟩ := get_some hlt
              have hsw := si2 w (List.mem_of_getElem? hw)
              obtain ⟨p, p1, p2⟩ := SlT.at hi hw
              have p3 := p2 B' k1
              have htk : s.ids.take (j + 1) = s.ids.take j ++ [w] := by rw [List.take_add_one, hw]; rfl
              have hle : (((s.ids.take (j + 1)).map hexT).flatMap tail1).length ≤ 1000000 := by
                refine Nat.le_trans ?_ hP
                rw [stepP_2 (.inr (.inl h2))]
                conv => rhs; rw [← List.take_append_drop (j + 1) s.ids]
                rw [List.map_append, List.flatMap_append, List.length_append]
                omega
              have e2 : ((s.ids.take (j + 1)).map hexT).flatMap tail1 = ((s.ids.take j).map hexT).flatMap tail1 ++ tail1 (hexT w) := by rw [htk, List.map_append, List.flatMap_append]; simp
              rw [e2, List.length_append] at hle
              have c1 := cat_l ((stepN s.kind).data.toList ++ ((s.ids.take j).map hexT).flatMap tail1) (tail1 (hexT w)) (by rw [List.length_append]; omega)
              rw [List.append_assoc, ← e2] at c1
              simp (maxSteps := 1000000) (disch := omega) only [stepS, reduceIte, Nat.reduceBEq, Nat.reduceEqDiff, tupleOf, stepT, stepX, heapR, lensR, Nat.reduceAdd, Nat.reduceLeDiff, g1, g3, g9, r2, li, p1, p3]
              refine ACalls.pure1 _ rfl ?_ fun Q hq => ref40_digits_spec (s := w) (by omega) hq
              simp (maxSteps := 1000000) (disch := omega) only [stepS, reduceIte, Nat.reduceBEq, Nat.reduceEqDiff, tupleOf, stepT, stepX, heapR, lensR, Nat.reduceAdd, Nat.reduceLeDiff, g1, g3, g9, r2, c1]
              exact ⟨⟨j + 1, by omega, rfl, rfl⟩, by omega⟩
            · rw [List.take_of_length_le (by omega)] at g3
              simp (maxSteps := 1000000) (disch := omega) only [stepS, reduceIte, Nat.reduceBEq, Nat.reduceEqDiff, tupleOf, stepT, stepX, heapR, lensR, Nat.reduceAdd, Nat.reduceLeDiff, g1, g3, g9, r2, li]
              rw [fin (stepP_2 (.inr (.inl h2)))]
        · simp (maxSteps := 1000000) (disch := omega) only [stepS, reduceIte, Nat.reduceBEq, Nat.reduceEqDiff, tupleOf, stepT, stepX, heapR, lensR, Nat.reduceAdd, Nat.reduceLeDiff, g1, g3, r2]
          refine W_loop (fun a' B' => ∃ j : Nat, j ≤ s.ids.length ∧ B' = B ∧ a' 1 = ptr A.length ∧ a' 5 = ii j ∧ a' 3 = .string ⟨((stepN s.kind).data.toList ++ ((s.ids.take j).map hexT).flatMap tail1).toArray⟩) (fun a' _ => s.ids.length - (iv (a' 5)).toNat) ?_ ?_
          · refine ⟨0, Nat.zero_le _, rfl, ?_⟩
            simp (maxSteps := 1000000) (disch := omega) only [stepS, reduceIte, Nat.reduceBEq, Nat.reduceEqDiff, tupleOf, stepT, stepX, heapR, lensR, Nat.reduceAdd, Nat.reduceLeDiff, g1, g3]
            simp
          · clear g1 g3
            rintro a2 B' ⟨j, hj, hB, g1, g9, g3⟩
            subst hB
            rcases Nat.lt_or_ge j s.ids.length with hlt | hge
            · obtain ⟨w, hw⟩ := get_some hlt
              have hsw := si2 w (List.mem_of_getElem? hw)
              obtain ⟨p, p1, p2⟩ := SlT.at hi hw
              have p3 := p2 B' k1
              have htk : s.ids.take (j + 1) = s.ids.take j ++ [w] := by rw [List.take_add_one, hw]; rfl
              have hle : (((s.ids.take (j + 1)).map hexT).flatMap tail1).length ≤ 1000000 := by
                refine Nat.le_trans ?_ hP
                rw [stepP_2 (.inr (.inr h2))]
                conv => rhs; rw [← List.take_append_drop (j + 1) s.ids]
                rw [List.map_append, List.flatMap_append, List.length_append]
                omega
              have e2 : ((s.ids.take (j + 1)).map hexT).flatMap tail1 = ((s.ids.take j).map hexT).flatMap tail1 ++ tail1 (hexT w) := by rw [htk, List.map_append, List.flatMap_append]; simp
              rw [e2, List.length_append] at hle
              have c1 := cat_l ((stepN s.kind).data.toList ++ ((s.ids.take j).map hexT).flatMap tail1) (tail1 (hexT w)) (by rw [List.length_append]; omega)
              rw [List.append_assoc, ← e2] at c1
              simp (maxSteps := 1000000) (disch := omega) only [stepS, reduceIte, Nat.reduceBEq, Nat.reduceEqDiff, tupleOf, stepT, stepX, heapR, lensR, Nat.reduceAdd, Nat.reduceLeDiff, g1, g3, g9, r2, li, p1, p3]
              refine ACalls.pure1 _ rfl ?_ fun Q hq => ref40_digits_spec (s := w) (by omega) hq
              simp (maxSteps := 1000000) (disch := omega) only [stepS, reduceIte, Nat.reduceBEq, Nat.reduceEqDiff, tupleOf, stepT, stepX, heapR, lensR, Nat.reduceAdd, Nat.reduceLeDiff, g1, g3, g9, r2, c1]
              exact ⟨⟨j + 1, by omega, rfl, rfl⟩, by omega⟩
            · rw [List.take_of_length_le (by omega)] at g3
              simp (maxSteps := 1000000) (disch := omega) only [stepS, reduceIte, Nat.reduceBEq, Nat.reduceEqDiff, tupleOf, stepT, stepX, heapR, lensR, Nat.reduceAdd, Nat.reduceLeDiff, g1, g3, g9, r2, li]
              rw [fin (stepP_2 (.inr (.inr h2)))]
      · by_cases h3 : s.kind = 10
        · have c1 := cat_l (stepN s.kind).data.toList (tail1 (numT s.n)) (by have := tail1_len (numT s.n); have := numT_size (n := s.n) sn.1 (by have := sn.2; omega); omega)
          simp (maxSteps := 1000000) (disch := omega) only [stepS, reduceIte, Nat.reduceBEq, Nat.reduceEqDiff, tupleOf, stepT, stepX, heapR, lensR, Nat.reduceAdd, Nat.reduceLeDiff, g1, g3, r2]
          refine ref40_number_spec (n := s.n) sn.1 sn.2 ?_
          simp (maxSteps := 1000000) (disch := omega) only [stepS, reduceIte, Nat.reduceBEq, Nat.reduceEqDiff, tupleOf, stepT, stepX, heapR, lensR, Nat.reduceAdd, Nat.reduceLeDiff, g3, c1]
          rw [← fin (stepP_10 h3)]
          simp
        · by_cases h4 : s.kind = 11
          · have lm : ∀ B, sLens B false m = some (ii s.masks.length, B) := fun B => by
              have := Sl.lenB hm B
              exact this
            simp (maxSteps := 1000000) (disch := omega) only [stepS, reduceIte, Nat.reduceBEq, Nat.reduceEqDiff, tupleOf, stepT, stepX, heapR, lensR, Nat.reduceAdd, Nat.reduceLeDiff, g1, g3, r2]
            refine W_loop (fun a' B' => ∃ j : Nat, j ≤ s.masks.length ∧ B' = B ∧ a' 1 = ptr A.length ∧ a' 6 = ii j ∧ a' 3 = .string ⟨((stepN s.kind).data.toList ++ ((s.masks.take j).map numT).flatMap tail1).toArray⟩) (fun a' _ => s.masks.length - (iv (a' 6)).toNat) ?_ ?_
            · refine ⟨0, Nat.zero_le _, rfl, ?_⟩
              simp (maxSteps := 1000000) (disch := omega) only [stepS, reduceIte, Nat.reduceBEq, Nat.reduceEqDiff, tupleOf, stepT, stepX, heapR, lensR, Nat.reduceAdd, Nat.reduceLeDiff, g1, g3]
              simp
            · clear g1 g3
              rintro a2 B' ⟨j, hj, hB, g1, g9, g3⟩
              subst hB
              rcases Nat.lt_or_ge j s.masks.length with hlt | hge
              · obtain ⟨w, hw⟩ := get_some hlt
                have hsw := sm2 w (List.mem_of_getElem? hw)
                obtain ⟨p, p1, p2⟩ := ints_atL hm hw
                have p3 := p2 B' k1
                have htk : s.masks.take (j + 1) = s.masks.take j ++ [w] := by rw [List.take_add_one, hw]; rfl
                have hle : (((s.masks.take (j + 1)).map numT).flatMap tail1).length ≤ 1000000 := by
                  refine Nat.le_trans ?_ hP
                  rw [stepP_11 h4]
                  conv => rhs; rw [← List.take_append_drop (j + 1) s.masks]
                  rw [List.map_append, List.flatMap_append, List.length_append]
                  omega
                have e2 : ((s.masks.take (j + 1)).map numT).flatMap tail1 = ((s.masks.take j).map numT).flatMap tail1 ++ tail1 (numT w) := by rw [htk, List.map_append, List.flatMap_append]; simp
                rw [e2, List.length_append] at hle
                have c1 := cat_l ((stepN s.kind).data.toList ++ ((s.masks.take j).map numT).flatMap tail1) (tail1 (numT w)) (by rw [List.length_append]; omega)
                rw [List.append_assoc, ← e2] at c1
                simp (maxSteps := 1000000) (disch := omega) only [stepS, reduceIte, Nat.reduceBEq, Nat.reduceEqDiff, tupleOf, stepT, stepX, heapR, lensR, Nat.reduceAdd, Nat.reduceLeDiff, g1, g3, g9, r2, lm, p1, p3]
                refine ref40_number_spec (n := w) hsw.1 hsw.2 ?_
                simp (maxSteps := 1000000) (disch := omega) only [stepS, reduceIte, Nat.reduceBEq, Nat.reduceEqDiff, tupleOf, stepT, stepX, heapR, lensR, Nat.reduceAdd, Nat.reduceLeDiff, g1, g3, g9, r2, c1]
                exact ⟨⟨j + 1, by omega, rfl, rfl⟩, by omega⟩
              · rw [List.take_of_length_le (by omega)] at g3
                simp (maxSteps := 1000000) (disch := omega) only [stepS, reduceIte, Nat.reduceBEq, Nat.reduceEqDiff, tupleOf, stepT, stepX, heapR, lensR, Nat.reduceAdd, Nat.reduceLeDiff, g1, g3, g9, r2, lm]
                rw [fin (stepP_11 h4)]
          · simp (maxSteps := 1000000) (disch := omega) only [stepS, reduceIte, Nat.reduceBEq, Nat.reduceEqDiff, tupleOf, stepT, stepX, heapR, lensR, Nat.reduceAdd, Nat.reduceLeDiff, g1, g3, r2]
            rw [← fin (stepP_0 h1 h2 h3 h4)]
            simp
  clear g1 g3
  rintro a B' ⟨hB, g3⟩
  subst hB
  simp (maxSteps := 1000000) (disch := omega) only [stepS, reduceIte, Nat.reduceBEq, Nat.reduceEqDiff, tupleOf, stepT, stepX, heapR, lensR, Nat.reduceAdd, Nat.reduceLeDiff, g3]
  exact hq _ k1
end Go.AS.C


namespace Go.AS.C
open Go Go.Proofs
set_option linter.unusedVariables false
set_option linter.unusedSimpArgs false
set_option maxRecDepth 10000

/-! Replies and faults as lines. -/
abbrev errorT : ByteArray := ⟨#[101, 114, 114, 111, 114]⟩
abbrev idsT : ByteArray := ⟨#[105, 100, 115]⟩
abbrev textT : ByteArray := ⟨#[116, 101, 120, 116]⟩
abbrev okT : ByteArray := ⟨#[111, 107]⟩
def lineX (t : List UInt8) : ByteArray := lineT [textT, hexT ⟨t.toArray⟩]
def replyL (k : Int) (r : ReplyV) : List ByteArray :=
  if r.err ≠ 0 then [lineT [errorT, numT r.err]] else if k = 1 ∨ k = 3 ∨ k = 4 then [lineT (idsT :: r.ids.map hexT)]
  else if k = 2 ∨ k = 9 then r.texts.map lineX else if k = 5 then stateL r.state else [okT]
def SmallR (r : ReplyV) : Prop := I64 r.err ∧ r.ids.length ≤ 70 ∧ (∀ t ∈ r.ids, t.size ≤ 70) ∧ r.texts.length ≤ 70 ∧ (∀ t ∈ r.texts, t.length ≤ 1100) ∧ SmallS r.state
theorem replyL_e {k : Int} {r : ReplyV} (h : r.err ≠ 0) : replyL k r = [lineT [errorT, numT r.err]] := if_pos h
theorem replyL_i {k : Int} {r : ReplyV} (h : r.err = 0) (h1 : k = 1 ∨ k = 3 ∨ k = 4) : replyL k r = [lineT (idsT :: r.ids.map hexT)] := by
  unfold replyL; rw [if_neg (fun h' => h' h), if_pos h1]
theorem replyL_t {k : Int} {r : ReplyV} (h : r.err = 0) (h1 : k = 2 ∨ k = 9) : replyL k r = r.texts.map lineX := by
  unfold replyL; rw [if_neg (fun h' => h' h), if_neg (by omega), if_pos h1]
theorem replyL_s {k : Int} {r : ReplyV} (h : r.err = 0) (h1 : k = 5) : replyL k r = stateL r.state := by
  unfold replyL; rw [if_neg (fun h' => h' h), if_neg (by omega), if_neg (by omega), if_pos h1]
theorem replyL_o {k : Int} {r : ReplyV} (h : r.err = 0) (h1 : ¬ (k = 1 ∨ k = 3 ∨ k = 4)) (h2 : ¬ (k = 2 ∨ k = 9)) (h3 : k ≠ 5) : replyL k r = [okT] := by
  unfold replyL; rw [if_neg (fun h' => h' h), if_neg h1, if_neg h2, if_neg h3]
theorem lineX_size {t : List UInt8} (h : t.length ≤ 1100) : (lineX t).size ≤ 10000 := by
  unfold lineX
  rw [lineT_cons]
  show (textT.data.toList ++ [hexT ⟨t.toArray⟩].flatMap tail1).length ≤ _
  have h2 := tail1_len (hexT ⟨t.toArray⟩)
  have h3 := hexT_size ⟨t.toArray⟩
  rw [show ∀ l : List UInt8, (textT.data.toList ++ l).length = 4 + l.length from fun l => by rw [List.length_append]; rfl]
  have h5 : (⟨t.toArray⟩ : ByteArray).size = t.length := rfl
  simp only [List.flatMap_cons, List.flatMap_nil, List.append_nil, List.length_append]
  omega
theorem ids_tail {l : List ByteArray} (h : ∀ t ∈ l, t.size ≤ 70) (hl : l.length ≤ 70) : ((l.map hexT).flatMap tail1).length ≤ 10000 := by
  refine flat_tail_le (m := 141) (n := 70) ?_ (by rw [List.length_map]; exact hl) (by omega)
  intro t ht
  rw [List.mem_map] at ht
  obtain ⟨w, hw, rfl⟩ := ht
  have := h w hw
  rw [hexT_size]
  omega
theorem ids_size {l : List ByteArray} (h : ∀ t ∈ l, t.size ≤ 70) (hl : l.length ≤ 70) : (lineT (idsT :: l.map hexT)).size ≤ 10100 := by
  rw [lineT_cons]
  show (idsT.data.toList ++ _).length ≤ _
  have h4 : idsT.data.toList.length = 3 := rfl
  have := ids_tail h hl
  rw [List.length_append]
  omega
theorem error_size {n : Int} (h : I64 n) : (lineT [errorT, numT n]).size ≤ 100 := by
  rw [lineT_cons]
  show (errorT.data.toList ++ [numT n].flatMap tail1).length ≤ _
  rw [show ∀ l : List UInt8, (errorT.data.toList ++ l).length = 5 + l.length from fun l => by rw [List.length_append]; rfl]
  have h2 := tail1_len (numT n)
  have h3 := numT_size h.1 (by have := h.2; omega)
  simp only [List.flatMap_cons, List.flatMap_nil, List.append_nil, List.length_append]
  omega
/-- A literal of two texts. -/
theorem lit2T (A : AH) (x y : ByteArray) : sLit A [.string ⟨#[]⟩] 1 2 [(0, 1, .string x), (1, 1, .string y)] = some (.slice (some ⟨A.length, 0, none⟩) 2 2, A ++ [.row [.string x, .string y] .own 1 true]) ∧ Le A (A ++ [.row [.string x, .string y] .own 1 true]) ∧
    SlT (A ++ [.row [.string x, .string y] .own 1 true]) (.slice (some ⟨A.length, 0, none⟩) 2 2) [x, y] :=
  ⟨lit1 [.string x, .string y] rfl rfl (fun z hz => by
    simp only [List.mem_cons, List.not_mem_nil, or_false] at hz
    rcases hz with rfl | rfl <;> exact one1_str _), .push _ _, OwnT.sl (ownT_last (a0 := 0) [x, y] (Nat.zero_le _))⟩
/-- A literal of one. -/
theorem lit1T (A : AH) (x : ByteArray) : sLit A [.string ⟨#[]⟩] 1 1 [(0, 1, .string x)] = some (.slice (some ⟨A.length, 0, none⟩) 1 1, A ++ [.row [.string x] .own 1 true]) ∧ Le A (A ++ [.row [.string x] .own 1 true]) ∧
    ∀ a0, a0 ≤ A.length → OwnT a0 (A ++ [.row [.string x] .own 1 true]) (.slice (some ⟨A.length, 0, none⟩) 1 1) [x] :=
  ⟨lit1 [.string x] rfl rfl (fun z hz => by
    simp only [List.mem_cons, List.not_mem_nil, or_false] at hz
    subst hz; exact one1_str _), .push _ _, fun a0 h => ownT_last [x] h⟩
theorem tell_Reply_spec {A : AH} {x y : Value} {s : StepV} {r : ReplyV} {Q : Value → AH → Prop} (hg : Le G3 A) (hx : StepA A x s) (hy : ReplyA A y r) (hs : I64 s.kind) (hr : SmallR r) (hq : ∀ A' u, Le A A' → OwnT A.length A' u (replyL s.kind r) → Q u A') : ACalls 3 Tryd.prog tell_Reply [x, y] Q A := by
  obtain ⟨t, i, m, rfl, ht, hi, hm⟩ := hx
  obtain ⟨ri, rt, c, sm, sv, sl, rfl, hri, hrt, hst⟩ := hy
  have hsm := hr
  obtain ⟨sk, si1, si2, st1, st2, sst⟩ := hr
  refine ACalls.of_fits mixed fits_tell_Reply rfl ?_
  unfold ic_tell_Reply
  have i0 : initA [.agg #[ii s.kind, t, i, ii s.n, m], .agg #[ii r.err, ri, rt, c, sm, sv, sl]] 0 = .agg #[ii s.kind, t, i, ii s.n, m] := rfl
  have i1 : initA [.agg #[ii s.kind, t, i, ii s.n, m], .agg #[ii r.err, ri, rt, c, sm, sv, sl]] 1 = .agg #[ii r.err, ri, rt, c, sm, sv, sl] := rfl
  generalize initA [.agg #[ii s.kind, t, i, ii s.n, m], .agg #[ii r.err, ri, rt, c, sm, sv, sl]] = a at i0 i1
  have ot := (byts_one1 ht).2
  have oi := (Sl.one1 hi).2
  have om := (Sl.one1 hm).2
  have ori := (Sl.one1 hri).2
  have ort := (byts_one1 hrt).2
  obtain ⟨c', sm', sv', sl', e, hc, hm', hv, hl⟩ := id hst
  injection e with e
  have e1 := congrArg Array.toList e
  simp only [List.cons.injEq, and_true] at e1
  obtain ⟨rfl, rfl, rfl, rfl⟩ := e1
  clear e
  have oc := (Sl.one1 hc).2
  have osm := (Sl.one1 hm').2
  have ov := (Sl.one1 hv).2
  have ol := (Sl.one1 hl).2
  refine W_mid (fun a B => B = A ++ [.row [ii s.kind, t, i, ii s.n, m] .own 0 true] ++ [.row [ii r.err, ri, rt, c, sm, sv, sl] .own 0 true] ∧ a 2 = ptr A.length ∧ a 3 = ptr (A.length + 1)) ?_ ?_
  · simp (maxSteps := 1000000) (disch := omega) only [stepS, reduceIte, Nat.reduceBEq, Nat.reduceEqDiff, tupleOf, stepT, stepX, heapR, lensR, Nat.reduceAdd, Nat.reduceLeDiff, i0, i1, ot, oi, om, ori, ort, oc, osm, ov, ol]
  rintro a B0 ⟨hB, g1, g2⟩
  have k0 : Le A B0 := by rw [hB]; exact (Le.push _ _).trans (.push _ _)
  have r1 : rowAt B0 A.length = some ([ii s.kind, t, i, ii s.n, m], .own, 0, true) := by rw [hB]; exact (Le.push _ _).row (rowAt_own (get_last _ _))
  have r2 : rowAt B0 (A.length + 1) = some ([ii r.err, ri, rt, c, sm, sv, sl], .own, 0, true) := by
    rw [hB]
    have := rowAt_own (get_last (A ++ [Blk.row [ii s.kind, t, i, ii s.n, m] .own 0 true]) (.row [ii r.err, ri, rt, c, sm, sv, sl] .own 0 true))
    simpa using this
  have hA1 := lt_of_get (rowAt_get r1)
  have hA2 := lt_of_get (rowAt_get r2)
  clear i0 i1 hB
  by_cases h0 : r.err ≠ 0
  · obtain ⟨l1, k1, s1⟩ := lit2T B0 errorT (numT r.err)
    obtain ⟨l2, k2, o2⟩ := lit1T (B0 ++ [.row [.string errorT, .string (numT r.err)] .own 1 true]) (lineT [errorT, numT r.err])
    have hz := error_size sk
    rw [replyL_e h0] at hq
    have hq2 := hq _ _ ((k0.trans k1).trans k2) (o2 A.length (by have := (k0.trans k1).len; omega))
    simp (maxSteps := 1000000) (disch := omega) only [stepS, reduceIte, Nat.reduceBEq, Nat.reduceEqDiff, tupleOf, stepT, stepX, heapR, lensR, Nat.reduceAdd, Nat.reduceLeDiff, g1, g2, r1, r2]
    refine itoa_spec (n := r.err) (hg.trans k0) sk.1 (by have := sk.2; omega) ?_
    simp (maxSteps := 1000000) (disch := omega) only [stepS, reduceIte, Nat.reduceBEq, Nat.reduceEqDiff, tupleOf, stepT, stepX, heapR, lensR, Nat.reduceAdd, Nat.reduceLeDiff, g1, g2, r1, r2, l1]
    refine tell_line_spec s1 (by simp) (by omega) ?_
    simp only [List.length_append, List.length_singleton] at l2 hq2
    simp (maxSteps := 1000000) (disch := omega) only [stepS, reduceIte, Nat.reduceBEq, Nat.reduceEqDiff, tupleOf, stepT, stepX, heapR, lensR, Nat.reduceAdd, Nat.reduceLeDiff, g1, g2, r1, r2, l2]
    exact hq2
  have h0 : r.err = 0 := by omega
  refine W_mid (fun a B => B = B0 ∧ a 2 = ptr A.length ∧ a 3 = ptr (A.length + 1)) ?_ ?_
  · simp (maxSteps := 1000000) (disch := omega) only [stepS, reduceIte, Nat.reduceBEq, Nat.reduceEqDiff, tupleOf, stepT, stepX, heapR, lensR, Nat.reduceAdd, Nat.reduceLeDiff, g1, g2, r1, r2]
  clear g1 g2
  rintro a B ⟨hB, g1, g2⟩
  obtain rfl : B0 = B := hB.symm
  clear hB
  have lri := SlT.len hri
  have lrt := byts_lenB hrt
  by_cases h1 : s.kind = 1 ∨ s.kind = 3 ∨ s.kind = 4
  · obtain ⟨l1, k1, o1⟩ := lit1T B0 idsT
    have o1 := o1 B0.length (Nat.le_refl _)
    have e := replyL_i h0 h1
    have r3 := k1.row r2
    have hz := ids_size si2 si1
    rcases h1 with h1 | h1 | h1
    · simp (maxSteps := 1000000) (disch := omega) only [stepS, reduceIte, Nat.reduceBEq, Nat.reduceEqDiff, tupleOf, stepT, stepX, heapR, lensR, Nat.reduceAdd, Nat.reduceLeDiff, g1, g2, r1, r2, r3, l1, lri]
      refine W_loop (fun a' B => ∃ j : Nat, j ≤ r.ids.length ∧ Le B0 B ∧ a' 5 = .slice none 0 0 ∧ a' 28 = ri ∧ a' 29 = ii r.ids.length ∧ a' 30 = ii j ∧ OwnT B0.length B (a' 6) (idsT :: (r.ids.take j).map hexT)) (fun a' _ => r.ids.length - (iv (a' 30)).toNat) ?_ ?_
      · refine ⟨0, Nat.zero_le _, k1, ?_⟩
        simp (maxSteps := 1000000) (disch := omega) only [stepS, reduceIte, Nat.reduceBEq, Nat.reduceEqDiff, tupleOf, stepT, stepX, heapR, lensR, Nat.reduceAdd, Nat.reduceLeDiff, g1, g2, r3, lri]
        exact ⟨rfl, o1⟩
      · clear g1 g2 l1 o1
        rintro a2 B ⟨j, hj, hle, g5, g7, g8, g9, o3⟩
        obtain ⟨y, g6⟩ : ∃ y, a2 6 = y := ⟨_, rfl⟩
        rw [g6] at o3
        rcases Nat.lt_or_ge j r.ids.length with hlt | hge
        · obtain ⟨w, hw⟩ := get_some hlt
          have hsw := si2 w (List.mem_of_getElem? hw)
          obtain ⟨p, p1, p2⟩ := SlT.at hri hw
          have p3 := p2 B (k0.trans hle)
          have htk : r.ids.take (j + 1) = r.ids.take j ++ [w] := by rw [List.take_add_one, hw]; rfl
          simp (maxSteps := 1000000) (disch := omega) only [stepS, reduceIte, Nat.reduceBEq, Nat.reduceEqDiff, tupleOf, stepT, stepX, heapR, lensR, Nat.reduceAdd, Nat.reduceLeDiff, g5, g6, g7, g8, g9, p1, p3]
          refine tell_digits_spec (s := w) (by omega) fun D kD => ?_
          obtain ⟨l1, x, F, q1, q2, q3, q4, q5⟩ := OwnT.push (hexT w) (hle.trans kD) (OwnT.le o3 kD) (by rw [List.length_cons, List.length_map, List.length_take]; omega)
          simp (maxSteps := 1000000) (disch := omega) only [stepS, reduceIte, Nat.reduceBEq, Nat.reduceEqDiff, tupleOf, stepT, stepX, heapR, lensR, Nat.reduceAdd, Nat.reduceLeDiff, g5, g6, g7, g8, g9, l1, q1]
          refine ⟨⟨j + 1, by omega, q2, rfl, ?_⟩, by omega⟩
          rw [htk, List.map_append]
          exact q3
        · rw [List.take_of_length_le (by omega)] at o3
          simp (maxSteps := 1000000) (disch := omega) only [stepS, reduceIte, Nat.reduceBEq, Nat.reduceEqDiff, tupleOf, stepT, stepX, heapR, lensR, Nat.reduceAdd, Nat.reduceLeDiff, g5, g6, g7, g8, g9]
          refine tell_line_spec (OwnT.sl o3) (by simp; omega) (by omega) ?_
          obtain ⟨l1, x, F, q1, q2, q3, q4, q5⟩ := OwnT.push (A0 := B0) (lineT (idsT :: r.ids.map hexT)) hle (OwnT.nil _ _) (by simp)
          simp (maxSteps := 1000000) (disch := omega) only [stepS, reduceIte, Nat.reduceBEq, Nat.reduceEqDiff, tupleOf, stepT, stepX, heapR, lensR, Nat.reduceAdd, Nat.reduceLeDiff, g5, l1, q1]
          refine hq _ _ (k0.trans q2) ?_
          rw [e]
          exact OwnT.mono q3 k0.len
    · simp (maxSteps := 1000000) (disch := omega) only [stepS, reduceIte, Nat.reduceBEq, Nat.reduceEqDiff, tupleOf, stepT, stepX, heapR, lensR, Nat.reduceAdd, Nat.reduceLeDiff, g1, g2, r1, r2, r3, l1, lri]
      refine W_loop (fun a' B => ∃ j : Nat, j ≤ r.ids.length ∧ Le B0 B ∧ a' 5 = .slice none 0 0 ∧ a' 28 = ri ∧ a' 29 = ii r.ids.length ∧ a' 30 = ii j ∧ OwnT B0.length B (a' 6) (idsT :: (r.ids.take j).map hexT)) (fun a' _ => r.ids.length - (iv (a' 30)).toNat) ?_ ?_
      · refine ⟨0, Nat.zero_le _, k1, ?_⟩
        simp (maxSteps := 1000000) (disch := omega) only [stepS, reduceIte, Nat.reduceBEq, Nat.reduceEqDiff, tupleOf, stepT, stepX, heapR, lensR, Nat.reduceAdd, Nat.reduceLeDiff, g1, g2, r3, lri]
        exact ⟨rfl, o1⟩
      · clear g1 g2 l1 o1
        rintro a2 B ⟨j, hj, hle, g5, g7, g8, g9, o3⟩
        obtain ⟨y, g6⟩ : ∃ y, a2 6 = y := ⟨_, rfl⟩
        rw [g6] at o3
        rcases Nat.lt_or_ge j r.ids.length with hlt | hge
        · obtain ⟨w, hw⟩ := get_some hlt
          have hsw := si2 w (List.mem_of_getElem? hw)
          obtain ⟨p, p1, p2⟩ := SlT.at hri hw
          have p3 := p2 B (k0.trans hle)
          have htk : r.ids.take (j + 1) = r.ids.take j ++ [w] := by rw [List.take_add_one, hw]; rfl
          simp (maxSteps := 1000000) (disch := omega) only [stepS, reduceIte, Nat.reduceBEq, Nat.reduceEqDiff, tupleOf, stepT, stepX, heapR, lensR, Nat.reduceAdd, Nat.reduceLeDiff, g5, g6, g7, g8, g9, p1, p3]
          refine tell_digits_spec (s := w) (by omega) fun D kD => ?_
          obtain ⟨l1, x, F, q1, q2, q3, q4, q5⟩ := OwnT.push (hexT w) (hle.trans kD) (OwnT.le o3 kD) (by rw [List.length_cons, List.length_map, List.length_take]; omega)
          simp (maxSteps := 1000000) (disch := omega) only [stepS, reduceIte, Nat.reduceBEq, Nat.reduceEqDiff, tupleOf, stepT, stepX, heapR, lensR, Nat.reduceAdd, Nat.reduceLeDiff, g5, g6, g7, g8, g9, l1, q1]
          refine ⟨⟨j + 1, by omega, q2, rfl, ?_⟩, by omega⟩
          rw [htk, List.map_append]
          exact q3
        · rw [List.take_of_length_le (by omega)] at o3
          simp (maxSteps := 1000000) (disch := omega) only [stepS, reduceIte, Nat.reduceBEq, Nat.reduceEqDiff, tupleOf, stepT, stepX, heapR, lensR, Nat.reduceAdd, Nat.reduceLeDiff, g5, g6, g7, g8, g9]
          refine tell_line_spec (OwnT.sl o3) (by simp; omega) (by omega) ?_
          obtain ⟨l1, x, F, q1, q2, q3, q4, q5⟩ := OwnT.push (A0 := B0) (lineT (idsT :: r.ids.map hexT)) hle (OwnT.nil _ _) (by simp)
          simp (maxSteps := 1000000) (disch := omega) only [stepS, reduceIte, Nat.reduceBEq, Nat.reduceEqDiff, tupleOf, stepT, stepX, heapR, lensR, Nat.reduceAdd, Nat.reduceLeDiff, g5, l1, q1]
          refine hq _ _ (k0.trans q2) ?_
          rw [e]
          exact OwnT.mono q3 k0.len
    · simp (maxSteps := 1000000) (disch := omega) only [stepS, reduceIte, Nat.reduceBEq, Nat.reduceEqDiff, tupleOf, stepT, stepX, heapR, lensR, Nat.reduceAdd, Nat.reduceLeDiff, g1, g2, r1, r2, r3, l1, lri]
      refine W_loop (fun a' B => ∃ j : Nat, j ≤ r.ids.length ∧ Le B0 B ∧ a' 5 = .slice none 0 0 ∧ a' 28 = ri ∧ a' 29 = ii r.ids.length ∧ a' 30 = ii j ∧ OwnT B0.length B (a' 6) (idsT :: (r.ids.take j).map hexT)) (fun a' _ => r.ids.length - (iv (a' 30)).toNat) ?_ ?_
      · refine ⟨0, Nat.zero_le _, k1, ?_⟩
        simp (maxSteps := 1000000) (disch := omega) only [stepS, reduceIte, Nat.reduceBEq, Nat.reduceEqDiff, tupleOf, stepT, stepX, heapR, lensR, Nat.reduceAdd, Nat.reduceLeDiff, g1, g2, r3, lri]
        exact ⟨rfl, o1⟩
      · clear g1 g2 l1 o1
        rintro a2 B ⟨j, hj, hle, g5, g7, g8, g9, o3⟩
        obtain ⟨y, g6⟩ : ∃ y, a2 6 = y := ⟨_, rfl⟩
        rw [g6] at o3
        rcases Nat.lt_or_ge j r.ids.length with hlt | hge
        · obtain ⟨w, hw⟩ := get_some hlt
          have hsw := si2 w (List.mem_of_getElem? hw)
          obtain ⟨p, p1, p2⟩ := SlT.at hri hw
          have p3 := p2 B (k0.trans hle)
          have htk : r.ids.take (j + 1) = r.ids.take j ++ [w] := by rw [List.take_add_one, hw]; rfl
          simp (maxSteps := 1000000) (disch := omega) only [stepS, reduceIte, Nat.reduceBEq, Nat.reduceEqDiff, tupleOf, stepT, stepX, heapR, lensR, Nat.reduceAdd, Nat.reduceLeDiff, g5, g6, g7, g8, g9, p1, p3]
          refine tell_digits_spec (s := w) (by omega) fun D kD => ?_
          obtain ⟨l1, x, F, q1, q2, q3, q4, q5⟩ := OwnT.push (hexT w) (hle.trans kD) (OwnT.le o3 kD) (by rw [List.length_cons, List.length_map, List.length_take]; omega)
          simp (maxSteps := 1000000) (disch := omega) only [stepS, reduceIte, Nat.reduceBEq, Nat.reduceEqDiff, tupleOf, stepT, stepX, heapR, lensR, Nat.reduceAdd, Nat.reduceLeDiff, g5, g6, g7, g8, g9, l1, q1]
          refine ⟨⟨j + 1, by omega, q2, rfl, ?_⟩, by omega⟩
          rw [htk, List.map_append]
          exact q3
        · rw [List.take_of_length_le (by omega)] at o3
          simp (maxSteps := 1000000) (disch := omega) only [stepS, reduceIte, Nat.reduceBEq, Nat.reduceEqDiff, tupleOf, stepT, stepX, heapR, lensR, Nat.reduceAdd, Nat.reduceLeDiff, g5, g6, g7, g8, g9]
          refine tell_line_spec (OwnT.sl o3) (by simp; omega) (by omega) ?_
          obtain ⟨l1, x, F, q1, q2, q3, q4, q5⟩ := OwnT.push (A0 := B0) (lineT (idsT :: r.ids.map hexT)) hle (OwnT.nil _ _) (by simp)
          simp (maxSteps := 1000000) (disch := omega) only [stepS, reduceIte, Nat.reduceBEq, Nat.reduceEqDiff, tupleOf, stepT, stepX, heapR, lensR, Nat.reduceAdd, Nat.reduceLeDiff, g5, l1, q1]
          refine hq _ _ (k0.trans q2) ?_
          rw [e]
          exact OwnT.mono q3 k0.len
  · by_cases h2 : s.kind = 2 ∨ s.kind = 9
    · have e := replyL_t (r := r) h0 h2
      rcases h2 with h2 | h2
      · simp (maxSteps := 1000000) (disch := omega) only [stepS, reduceIte, Nat.reduceBEq, Nat.reduceEqDiff, tupleOf, stepT, stepX, heapR, lensR, Nat.reduceAdd, Nat.reduceLeDiff, g1, g2, r1, r2, lrt]
        refine W_loop (fun a' B => ∃ j : Nat, j ≤ r.texts.length ∧ Le B0 B ∧ a' 49 = rt ∧ a' 50 = ii r.texts.length ∧ a' 51 = ii j ∧ OwnT B0.length B (a' 5) ((r.texts.take j).map lineX)) (fun a' _ => r.texts.length - (iv (a' 51)).toNat) ?_ ?_
        · refine ⟨0, Nat.zero_le _, .refl _, ?_⟩
          simp (maxSteps := 1000000) (disch := omega) only [stepS, reduceIte, Nat.reduceBEq, Nat.reduceEqDiff, tupleOf, stepT, stepX, heapR, lensR, Nat.reduceAdd, Nat.reduceLeDiff, g1, g2, r2, lrt]
          exact ⟨rfl, OwnT.nil _ _⟩
        · clear g1 g2
          rintro a2 B ⟨j, hj, hle, g7, g8, g9, o3⟩
          obtain ⟨y, g5⟩ : ∃ y, a2 5 = y := ⟨_, rfl⟩
          rw [g5] at o3
          rcases Nat.lt_or_ge j r.texts.length with hlt | hge
          · obtain ⟨w, hw⟩ := get_some hlt
            have hsw := st2 w (List.mem_of_getElem? hw)
            obtain ⟨p, x, p1, p2, hx⟩ := byts_atL hrt hw
            have p3 := p2 B (k0.trans hle)
            have hxs := (hx.le (k0.trans hle)).str
            have htk : r.texts.take (j + 1) = r.texts.take j ++ [w] := by rw [List.take_add_one, hw]; rfl
            have hzw := lineX_size hsw
            simp (maxSteps := 1000000) (disch := omega) only [stepS, reduceIte, Nat.reduceBEq, Nat.reduceEqDiff, tupleOf, stepT, stepX, heapR, lensR, Nat.reduceAdd, Nat.reduceLeDiff, g5, g7, g8, g9, p1, p3, hxs]
            refine tell_digits_spec (s := ⟨w.toArray⟩) (by show w.length < _; omega) fun D kD => ?_
            obtain ⟨l2, k2, s2⟩ := lit2T D textT (hexT ⟨w.toArray⟩)
            simp (maxSteps := 1000000) (disch := omega) only [stepS, reduceIte, Nat.reduceBEq, Nat.reduceEqDiff, tupleOf, stepT, stepX, heapR, lensR, Nat.reduceAdd, Nat.reduceLeDiff, g5, g7, g8, g9, l2]
            refine tell_line_spec s2 (by simp) (by show (lineX w).size ≤ _; omega) ?_
            obtain ⟨l1, x, F, q1, q2, q3, q4, q5⟩ := OwnT.push (lineX w) ((hle.trans kD).trans k2) ((OwnT.le o3 kD).le k2) (by rw [List.length_map, List.length_take]; omega)
            simp only [List.length_append, List.length_singleton] at l1 q1
            have e1 : lineT [textT, hexT ⟨w.toArray⟩] = lineX w := rfl
            rw [e1]
            simp (maxSteps := 1000000) (disch := omega) only [stepS, reduceIte, Nat.reduceBEq, Nat.reduceEqDiff, tupleOf, stepT, stepX, heapR, lensR, Nat.reduceAdd, Nat.reduceLeDiff, g5, g7, g8, g9, l1, q1]
            refine ⟨⟨j + 1, by omega, q2, rfl, ?_⟩, by omega⟩
            rw [htk, List.map_append]
            exact q3
          · rw [List.take_of_length_le (by omega)] at o3
            simp (maxSteps := 1000000) (disch := omega) only [stepS, reduceIte, Nat.reduceBEq, Nat.reduceEqDiff, tupleOf, stepT, stepX, heapR, lensR, Nat.reduceAdd, Nat.reduceLeDiff, g5, g7, g8, g9]
            refine hq _ _ (k0.trans hle) ?_
            rw [e]
            exact OwnT.mono o3 k0.len
      · simp (maxSteps := 1000000) (disch := omega) only [stepS, reduceIte, Nat.reduceBEq, Nat.reduceEqDiff, tupleOf, stepT, stepX, heapR, lensR, Nat.reduceAdd, Nat.reduceLeDiff, g1, g2, r1, r2, lrt]
        refine W_loop (fun a' B => ∃ j : Nat, j ≤ r.texts.length ∧ Le B0 B ∧ a' 49 = rt ∧ a' 50 = ii r.texts.length ∧ a' 51 = ii j ∧ OwnT B0.length B (a' 5) ((r.texts.take j).map lineX)) (fun a' _ => r.texts.length - (iv (a' 51)).toNat) ?_ ?_
        · refine ⟨0, Nat.zero_le _, .refl _, ?_⟩
          simp (maxSteps := 1000000) (disch := omega) only [stepS, reduceIte, Nat.reduceBEq, Nat.reduceEqDiff, tupleOf, stepT, stepX, heapR, lensR, Nat.reduceAdd, Nat.reduceLeDiff, g1, g2, r2, lrt]
          exact ⟨rfl, OwnT.nil _ _⟩
        · clear g1 g2
          rintro a2 B ⟨j, hj, hle, g7, g8, g9, o3⟩
          obtain ⟨y, g5⟩ : ∃ y, a2 5 = y := ⟨_, rfl⟩
          rw [g5] at o3
          rcases Nat.lt_or_ge j r.texts.length with hlt | hge
          · obtain ⟨w, hw⟩ := get_some hlt
            have hsw := st2 w (List.mem_of_getElem? hw)
            obtain ⟨p, x, p1, p2, hx⟩ := byts_atL hrt hw
            have p3 := p2 B (k0.trans hle)
            have hxs := (hx.le (k0.trans hle)).str
            have htk : r.texts.take (j + 1) = r.texts.take j ++ [w] := by rw [List.take_add_one, hw]; rfl
            have hzw := lineX_size hsw
            simp (maxSteps := 1000000) (disch := omega) only [stepS, reduceIte, Nat.reduceBEq, Nat.reduceEqDiff, tupleOf, stepT, stepX, heapR, lensR, Nat.reduceAdd, Nat.reduceLeDiff, g5, g7, g8, g9, p1, p3, hxs]
            refine tell_digits_spec (s := ⟨w.toArray⟩) (by show w.length < _; omega) fun D kD => ?_
            obtain ⟨l2, k2, s2⟩ := lit2T D textT (hexT ⟨w.toArray⟩)
            simp (maxSteps := 1000000) (disch := omega) only [stepS, reduceIte, Nat.reduceBEq, Nat.reduceEqDiff, tupleOf, stepT, stepX, heapR, lensR, Nat.reduceAdd, Nat.reduceLeDiff, g5, g7, g8, g9, l2]
            refine tell_line_spec s2 (by simp) (by show (lineX w).size ≤ _; omega) ?_
            obtain ⟨l1, x, F, q1, q2, q3, q4, q5⟩ := OwnT.push (lineX w) ((hle.trans kD).trans k2) ((OwnT.le o3 kD).le k2) (by rw [List.length_map, List.length_take]; omega)
            simp only [List.length_append, List.length_singleton] at l1 q1
            have e1 : lineT [textT, hexT ⟨w.toArray⟩] = lineX w := rfl
            rw [e1]
            simp (maxSteps := 1000000) (disch := omega) only [stepS, reduceIte, Nat.reduceBEq, Nat.reduceEqDiff, tupleOf, stepT, stepX, heapR, lensR, Nat.reduceAdd, Nat.reduceLeDiff, g5, g7, g8, g9, l1, q1]
            refine ⟨⟨j + 1, by omega, q2, rfl, ?_⟩, by omega⟩
            rw [htk, List.map_append]
            exact q3
          · rw [List.take_of_length_le (by omega)] at o3
            simp (maxSteps := 1000000) (disch := omega) only [stepS, reduceIte, Nat.reduceBEq, Nat.reduceEqDiff, tupleOf, stepT, stepX, heapR, lensR, Nat.reduceAdd, Nat.reduceLeDiff, g5, g7, g8, g9]
            refine hq _ _ (k0.trans hle) ?_
            rw [e]
            exact OwnT.mono o3 k0.len
    · by_cases h3 : s.kind = 5
      · have e := replyL_s (r := r) h0 h3
        simp (maxSteps := 1000000) (disch := omega) only [stepS, reduceIte, Nat.reduceBEq, Nat.reduceEqDiff, tupleOf, stepT, stepX, heapR, lensR, Nat.reduceAdd, Nat.reduceLeDiff, g1, g2, r1, r2]
        refine tell_State_spec (hg.trans k0) (hst.le k0) sst fun B u kB oB => ?_
        simp (maxSteps := 1000000) (disch := omega) only [stepS, reduceIte, Nat.reduceBEq, Nat.reduceEqDiff, tupleOf, stepT, stepX, heapR, lensR, Nat.reduceAdd, Nat.reduceLeDiff]
        refine hq _ _ (k0.trans kB) ?_
        rw [e]
        exact OwnT.mono oB k0.len
      · have e := replyL_o (r := r) h0 h1 h2 h3
        obtain ⟨l1, x, F, q1, q2, q3, q4, q5⟩ := OwnT.push (A0 := B0) okT (.refl _) (OwnT.nil _ _) (by simp)
        simp (maxSteps := 1000000) (disch := omega) only [stepS, reduceIte, Nat.reduceBEq, Nat.reduceEqDiff, tupleOf, stepT, stepX, heapR, lensR, Nat.reduceAdd, Nat.reduceLeDiff, g1, g2, r1, r2, l1, q1]
        refine hq _ _ (k0.trans q2) ?_
        rw [e]
        exact OwnT.mono q3 k0.len
end Go.AS.C


namespace Go.AS.C
open Go Go.Proofs
set_option linter.unusedVariables false
set_option linter.unusedSimpArgs false
set_option maxRecDepth 10000

theorem ref40_Reply_spec {A : AH} {x y : Value} {s : StepV} {r : ReplyV} {Q : Value → AH → Prop} (hx : StepA A x s) (hy : ReplyA A y r) (hs : I64 s.kind) (hr : SmallR r) (hq : ∀ A' u, Le A A' → OwnT A.length A' u (replyL s.kind r) → Q u A') : ACalls 3 Tryd.prog chantryref40_Reply [x, y] Q A := by
  obtain ⟨t, i, m, rfl, ht, hi, hm⟩ := hx
  obtain ⟨ri, rt, c, sm, sv, sl, rfl, hri, hrt, hst⟩ := hy
  have hsm := hr
  obtain ⟨sk, si1, si2, st1, st2, sst⟩ := hr
  refine ACalls.of_fits mixed fits_chantryref40_Reply rfl ?_
  unfold ic_chantryref40_Reply
  have i0 : initA [.agg #[ii s.kind, t, i, ii s.n, m], .agg #[ii r.err, ri, rt, c, sm, sv, sl]] 0 = .agg #[ii s.kind, t, i, ii s.n, m] := rfl
  have i1 : initA [.agg #[ii s.kind, t, i, ii s.n, m], .agg #[ii r.err, ri, rt, c, sm, sv, sl]] 1 = .agg #[ii r.err, ri, rt, c, sm, sv, sl] := rfl
  generalize initA [.agg #[ii s.kind, t, i, ii s.n, m], .agg #[ii r.err, ri, rt, c, sm, sv, sl]] = a at i0 i1
  have ot := (byts_one1 ht).2
  have oi := (Sl.one1 hi).2
  have om := (Sl.one1 hm).2
  have ori := (Sl.one1 hri).2
  have ort := (byts_one1 hrt).2
  obtain ⟨c', sm', sv', sl', e, hc, hm', hv, hl⟩ := id hst
  injection e with e
  have e1 := congrArg Array.toList e
  simp only [List.cons.injEq, and_true] at e1
  obtain ⟨rfl, rfl, rfl, rfl⟩ := e1
  clear e
  have oc := (Sl.one1 hc).2
  have osm := (Sl.one1 hm').2
  have ov := (Sl.one1 hv).2
  have ol := (Sl.one1 hl).2
  refine W_mid (fun a B => B = A ++ [.row [ii s.kind, t, i, ii s.n, m] .own 0 true] ++ [.row [ii r.err, ri, rt, c, sm, sv, sl] .own 0 true] ∧ a 2 = ptr A.length ∧ a 3 = ptr (A.length + 1)) ?_ ?_
  · simp (maxSteps := 1000000) (disch := omega) only [stepS, reduceIte, Nat.reduceBEq, Nat.reduceEqDiff, tupleOf, stepT, stepX, heapR, lensR, Nat.reduceAdd, Nat.reduceLeDiff, i0, i1, ot, oi, om, ori, ort, oc, osm, ov, ol]
  rintro a B0 ⟨hB, g1, g2⟩
  have k0 : Le A B0 := by rw [hB]; exact (Le.push _ _).trans (.push _ _)
  have r1 : rowAt B0 A.length = some ([ii s.kind, t, i, ii s.n, m], .own, 0, true) := by rw [hB]; exact (Le.push _ _).row (rowAt_own (get_last _ _))
  have r2 : rowAt B0 (A.length + 1) = some ([ii r.err, ri, rt, c, sm, sv, sl], .own, 0, true) := by
    rw [hB]
    have := rowAt_own (get_last (A ++ [Blk.row [ii s.kind, t, i, ii s.n, m] .own 0 true]) (.row [ii r.err, ri, rt, c, sm, sv, sl] .own 0 true))
    simpa using this
  have hA1 := lt_of_get (rowAt_get r1)
  have hA2 := lt_of_get (rowAt_get r2)
  clear i0 i1 hB
  by_cases h0 : r.err ≠ 0
  · obtain ⟨l2, k2, o2⟩ := lit1T B0 (lineT [errorT, numT r.err])
    have hz := error_size sk
    rw [replyL_e h0] at hq
    have hq2 := hq _ _ (k0.trans k2) (o2 A.length (by have := k0.len; omega))
    have c1 := cat_l [101, 114, 114, 111, 114] (tail1 (numT r.err)) (by have := tail1_len (numT r.err); have := numT_size (n := r.err) sk.1 (by have := sk.2; omega); simp only [List.length_cons, List.length_nil]; omega)
    have e : (⟨([101, 114, 114, 111, 114] ++ tail1 (numT r.err)).toArray⟩ : ByteArray) = lineT [errorT, numT r.err] := by
      rw [lineT_cons]; simp
    rw [e] at c1
    simp (maxSteps := 1000000) (disch := omega) only [stepS, reduceIte, Nat.reduceBEq, Nat.reduceEqDiff, tupleOf, stepT, stepX, heapR, lensR, Nat.reduceAdd, Nat.reduceLeDiff, g1, g2, r1, r2]
    refine ref40_number_spec (n := r.err) sk.1 sk.2 ?_
    simp (maxSteps := 1000000) (disch := omega) only [stepS, reduceIte, Nat.reduceBEq, Nat.reduceEqDiff, tupleOf, stepT, stepX, heapR, lensR, Nat.reduceAdd, Nat.reduceLeDiff, g1, g2, r1, r2, c1, l2]
    exact hq2
  have h0 : r.err = 0 := by omega
  refine W_mid (fun a B => B = B0 ∧ a 2 = ptr A.length ∧ a 3 = ptr (A.length + 1)) ?_ ?_
  · simp (maxSteps := 1000000) (disch := omega) only [stepS, reduceIte, Nat.reduceBEq, Nat.reduceEqDiff, tupleOf, stepT, stepX, heapR, lensR, Nat.reduceAdd, Nat.reduceLeDiff, g1, g2, r1, r2]
  clear g1 g2
  rintro a B ⟨hB, g1, g2⟩
  obtain rfl : B0 = B := hB.symm
  clear hB
  have lri := SlT.len hri
  have lrt := byts_lenB hrt
  by_cases h1 : s.kind = 1 ∨ s.kind = 3 ∨ s.kind = 4
  · have e := replyL_i h0 h1
    have hz := ids_size si2 si1
    have hP := ids_tail si2 si1
    obtain ⟨l2, k2, o2⟩ := lit1T B0 (lineT (idsT :: r.ids.map hexT))
    rw [e] at hq
    have hq2 := hq _ _ (k0.trans k2) (o2 A.length (by have := k0.len; omega))
    obtain ⟨idl, hid⟩ : ∃ l : List UInt8, l = idsT.data.toList := ⟨_, rfl⟩
    have hidl : idl.length = 3 := by rw [hid]; rfl
    rcases h1 with h1 | h1 | h1
    · simp (maxSteps := 1000000) (disch := omega) only [stepS, reduceIte, Nat.reduceBEq, Nat.reduceEqDiff, tupleOf, stepT, stepX, heapR, lensR, Nat.reduceAdd, Nat.reduceLeDiff, g1, g2, r1, r2]
      refine W_loop (fun a' B => ∃ j : Nat, j ≤ r.ids.length ∧ B = B0 ∧ a' 3 = ptr (A.length + 1) ∧ a' 6 = ii j ∧ a' 5 = .string ⟨(idl ++ ((r.ids.take j).map hexT).flatMap tail1).toArray⟩) (fun a' _ => r.ids.length - (iv (a' 6)).toNat) ?_ ?_
      · refine ⟨0, Nat.zero_le _, rfl, ?_⟩
        simp (maxSteps := 1000000) (disch := omega) only [stepS, reduceIte, Nat.reduceBEq, Nat.reduceEqDiff, tupleOf, stepT, stepX, heapR, lensR, Nat.reduceAdd, Nat.reduceLeDiff, g1, g2]
        rw [hid]; simp
      · clear g1 g2
        rintro a2 B ⟨j, hj, hB, g2, g9, g5⟩
        subst hB
        rcases Nat.lt_or_ge j r.ids.length with hlt | hge
        · obtain ⟨w, hw⟩ := get_some hlt
          have hsw := si2 w (List.mem_of_getElem? hw)
          obtain ⟨p, p1, p2⟩ := SlT.at hri hw
          have p3 := p2 B k0
          have htk : r.ids.take (j + 1) = r.ids.take j ++ [w] := by rw [List.take_add_one, hw]; rfl
          have hle : (((r.ids.take (j + 1)).map hexT).flatMap tail1).length ≤ 10000 := by
            refine Nat.le_trans ?_ hP
            conv => rhs; rw [← List.take_append_drop (j + 1) r.ids]
            rw [List.map_append, List.flatMap_append, List.length_append]
            omega
          have e2 : ((r.ids.take (j + 1)).map hexT).flatMap tail1 = ((r.ids.take j).map hexT).flatMap tail1 ++ tail1 (hexT w) := by rw [htk, List.map_append, List.flatMap_append]; simp
          rw [e2, List.length_append] at hle
          have c1 := cat_l (idl ++ ((r.ids.take j).map hexT).flatMap tail1) (tail1 (hexT w)) (by rw [List.length_append]; omega)
          rw [List.append_assoc, ← e2] at c1
          simp (maxSteps := 1000000) (disch := omega) only [stepS, reduceIte, Nat.reduceBEq, Nat.reduceEqDiff, tupleOf, stepT, stepX, heapR, lensR, Nat.reduceAdd, Nat.reduceLeDiff, g2, g5, g9, r2, lri, p1, p3]
          refine ACalls.pure1 _ rfl ?_ fun Q hq => ref40_digits_spec (s := w) (by omega) hq
          simp (maxSteps := 1000000) (disch := omega) only [stepS, reduceIte, Nat.reduceBEq, Nat.reduceEqDiff, tupleOf, stepT, stepX, heapR, lensR, Nat.reduceAdd, Nat.reduceLeDiff, g2, g5, g9, r2, c1]
          exact ⟨⟨j + 1, by omega, rfl, rfl⟩, by omega⟩
        · rw [List.take_of_length_le (by omega), hid, ← lineT_cons] at g5
          simp (maxSteps := 1000000) (disch := omega) only [stepS, reduceIte, Nat.reduceBEq, Nat.reduceEqDiff, tupleOf, stepT, stepX, heapR, lensR, Nat.reduceAdd, Nat.reduceLeDiff, g2, g5, g9, r2, lri, l2]
          exact hq2
    · simp (maxSteps := 1000000) (disch := omega) only [stepS, reduceIte, Nat.reduceBEq, Nat.reduceEqDiff, tupleOf, stepT, stepX, heapR, lensR, Nat.reduceAdd, Nat.reduceLeDiff, g1, g2, r1, r2]
      refine W_loop (fun a' B => ∃ j : Nat, j ≤ r.ids.length ∧ B = B0 ∧ a' 3 = ptr (A.length + 1) ∧ a' 6 = ii j ∧ a' 5 = .string ⟨(idl ++ ((r.ids.take j).map hexT).flatMap tail1).toArray⟩) (fun a' _ => r.ids.length - (iv (a' 6)).toNat) ?_ ?_
      · refine ⟨0, Nat.zero_le _, rfl, ?_⟩
        simp (maxSteps := 1000000) (disch := omega) only [stepS, reduceIte, Nat.reduceBEq, Nat.reduceEqDiff, tupleOf, stepT, stepX, heapR, lensR, Nat.reduceAdd, Nat.reduceLeDiff, g1, g2]
        rw [hid]; simp
      · clear g1 g2
        rintro a2 B ⟨j, hj, hB, g2, g9, g5⟩
        subst hB
        rcases Nat.lt_or_ge j r.ids.length with hlt | hge
        · obtain ⟨w, hw⟩ := get_some hlt
          have hsw := si2 w (List.mem_of_getElem? hw)
          obtain ⟨p, p1, p2⟩ := SlT.at hri hw
          have p3 := p2 B k0
          have htk : r.ids.take (j + 1) = r.ids.take j ++ [w] := by rw [List.take_add_one, hw]; rfl
          have hle : (((r.ids.take (j + 1)).map hexT).flatMap tail1).length ≤ 10000 := by
            refine Nat.le_trans ?_ hP
            conv => rhs; rw [← List.take_append_drop (j + 1) r.ids]
            rw [List.map_append, List.flatMap_append, List.length_append]
            omega
          have e2 : ((r.ids.take (j + 1)).map hexT).flatMap tail1 = ((r.ids.take j).map hexT).flatMap tail1 ++ tail1 (hexT w) := by rw [htk, List.map_append, List.flatMap_append]; simp
          rw [e2, List.length_append] at hle
          have c1 := cat_l (idl ++ ((r.ids.take j).map hexT).flatMap tail1) (tail1 (hexT w)) (by rw [List.length_append]; omega)
          rw [List.append_assoc, ← e2] at c1
          simp (maxSteps := 1000000) (disch := omega) only [stepS, reduceIte, Nat.reduceBEq, Nat.reduceEqDiff, tupleOf, stepT, stepX, heapR, lensR, Nat.reduceAdd, Nat.reduceLeDiff, g2, g5, g9, r2, lri, p1, p3]
          refine ACalls.pure1 _ rfl ?_ fun Q hq => ref40_digits_spec (s := w) (by omega) hq
          simp (maxSteps := 1000000) (disch := omega) only [stepS, reduceIte, Nat.reduceBEq, Nat.reduceEqDiff, tupleOf, stepT, stepX, heapR, lensR, Nat.reduceAdd, Nat.reduceLeDiff, g2, g5, g9, r2, c1]
          exact ⟨⟨j + 1, by omega, rfl, rfl⟩, by omega⟩
        · rw [List.take_of_length_le (by omega), hid, ← lineT_cons] at g5
          simp (maxSteps := 1000000) (disch := omega) only [stepS, reduceIte, Nat.reduceBEq, Nat.reduceEqDiff, tupleOf, stepT, stepX, heapR, lensR, Nat.reduceAdd, Nat.reduceLeDiff, g2, g5, g9, r2, lri, l2]
          exact hq2
    · simp (maxSteps := 1000000) (disch := omega) only [stepS, reduceIte, Nat.reduceBEq, Nat.reduceEqDiff, tupleOf, stepT, stepX, heapR, lensR, Nat.reduceAdd, Nat.reduceLeDiff, g1, g2, r1, r2]
      refine W_loop (fun a' B => ∃ j : Nat, j ≤ r.ids.length ∧ B = B0 ∧ a' 3 = ptr (A.length + 1) ∧ a' 6 = ii j ∧ a' 5 = .string ⟨(idl ++ ((r.ids.take j).map hexT).flatMap tail1).toArray⟩) (fun a' _ => r.ids.length - (iv (a' 6)).toNat) ?_ ?_
      · refine ⟨0, Nat.zero_le _, rfl, ?_⟩
        simp (maxSteps := 1000000) (disch := omega) only [stepS, reduceIte, Nat.reduceBEq, Nat.reduceEqDiff, tupleOf, stepT, stepX, heapR, lensR, Nat.reduceAdd, Nat.reduceLeDiff, g1, g2]
        rw [hid]; simp
      · clear g1 g2
        rintro a2 B ⟨j, hj, hB, g2, g9, g5⟩
        subst hB
        rcases Nat.lt_or_ge j r.ids.length with hlt | hge
        · obtain ⟨w, hw⟩ := get_some hlt
          have hsw := si2 w (List.mem_of_getElem? hw)
          obtain ⟨p, p1, p2⟩ := SlT.at hri hw
          have p3 := p2 B k0
          have htk : r.ids.take (j + 1) = r.ids.take j ++ [w] := by rw [List.take_add_one, hw]; rfl
          have hle : (((r.ids.take (j + 1)).map hexT).flatMap tail1).length ≤ 10000 := by
            refine Nat.le_trans ?_ hP
            conv => rhs; rw [← List.take_append_drop (j + 1) r.ids]
            rw [List.map_append, List.flatMap_append, List.length_append]
            omega
          have e2 : ((r.ids.take (j + 1)).map hexT).flatMap tail1 = ((r.ids.take j).map hexT).flatMap tail1 ++ tail1 (hexT w) := by rw [htk, List.map_append, List.flatMap_append]; simp
          rw [e2, List.length_append] at hle
          have c1 := cat_l (idl ++ ((r.ids.take j).map hexT).flatMap tail1) (tail1 (hexT w)) (by rw [List.length_append]; omega)
          rw [List.append_assoc, ← e2] at c1
          simp (maxSteps := 1000000) (disch := omega) only [stepS, reduceIte, Nat.reduceBEq, Nat.reduceEqDiff, tupleOf, stepT, stepX, heapR, lensR, Nat.reduceAdd, Nat.reduceLeDiff, g2, g5, g9, r2, lri, p1, p3]
          refine ACalls.pure1 _ rfl ?_ fun Q hq => ref40_digits_spec (s := w) (by omega) hq
          simp (maxSteps := 1000000) (disch := omega) only [stepS, reduceIte, Nat.reduceBEq, Nat.reduceEqDiff, tupleOf, stepT, stepX, heapR, lensR, Nat.reduceAdd, Nat.reduceLeDiff, g2, g5, g9, r2, c1]
          exact ⟨⟨j + 1, by omega, rfl, rfl⟩, by omega⟩
        · rw [List.take_of_length_le (by omega), hid, ← lineT_cons] at g5
          simp (maxSteps := 1000000) (disch := omega) only [stepS, reduceIte, Nat.reduceBEq, Nat.reduceEqDiff, tupleOf, stepT, stepX, heapR, lensR, Nat.reduceAdd, Nat.reduceLeDiff, g2, g5, g9, r2, lri, l2]
          exact hq2
  · by_cases h2 : s.kind = 2 ∨ s.kind = 9
    · have e := replyL_t (r := r) h0 h2
      rcases h2 with h2 | h2
      · simp (maxSteps := 1000000) (disch := omega) only [stepS, reduceIte, Nat.reduceBEq, Nat.reduceEqDiff, tupleOf, stepT, stepX, heapR, lensR, Nat.reduceAdd, Nat.reduceLeDiff, g1, g2, r1, r2, lrt]
        refine W_loop (fun a' B => ∃ j : Nat, j ≤ r.texts.length ∧ Le B0 B ∧ a' 3 = ptr (A.length + 1) ∧ a' 8 = ii j ∧ OwnT B0.length B (a' 7) ((r.texts.take j).map lineX)) (fun a' _ => r.texts.length - (iv (a' 8)).toNat) ?_ ?_
        · refine ⟨0, Nat.zero_le _, .refl _, ?_⟩
          simp (maxSteps := 1000000) (disch := omega) only [stepS, reduceIte, Nat.reduceBEq, Nat.reduceEqDiff, tupleOf, stepT, stepX, heapR, lensR, Nat.reduceAdd, Nat.reduceLeDiff, g1, g2, r2, lrt]
          exact ⟨rfl, OwnT.nil _ _⟩
        · clear g1 g2
          rintro a2 B ⟨j, hj, hle, g2, g9, o3⟩
          obtain ⟨y, g7⟩ : ∃ y, a2 7 = y := ⟨_, rfl⟩
          rw [g7] at o3
          have r3 := hle.row r2
          rcases Nat.lt_or_ge j r.texts.length with hlt | hge
          · obtain ⟨w, hw⟩ := get_some hlt
            have hsw := st2 w (List.mem_of_getElem? hw)
            obtain ⟨p, x, p1, p2, hx⟩ := byts_atL hrt hw
            have p3 := p2 B (k0.trans hle)
            have hxs := (hx.le (k0.trans hle)).str
            have htk : r.texts.take (j + 1) = r.texts.take j ++ [w] := by rw [List.take_add_one, hw]; rfl
            have hzw := lineX_size hsw
            simp (maxSteps := 1000000) (disch := omega) only [stepS, reduceIte, Nat.reduceBEq, Nat.reduceEqDiff, tupleOf, stepT, stepX, heapR, lensR, Nat.reduceAdd, Nat.reduceLeDiff, g2, g7, g9, r3, p1, p3, hxs, lrt]
            refine ACalls.pure1 _ rfl ?_ fun Q hq => ref40_digits_spec (s := ⟨w.toArray⟩) (by show w.length < _; omega) hq
            have c1 := cat_l [116, 101, 120, 116] (tail1 (hexT ⟨w.toArray⟩)) (by have := tail1_len (hexT ⟨w.toArray⟩); have := hexT_size ⟨w.toArray⟩; have h5 : (⟨w.toArray⟩ : ByteArray).size = w.length := rfl; simp only [List.length_cons, List.length_nil]; omega)
            have e1 : (⟨([116, 101, 120, 116] ++ tail1 (hexT ⟨w.toArray⟩)).toArray⟩ : ByteArray) = lineX w := by
              unfold lineX
              rw [lineT_cons]; simp
            rw [e1] at c1
            obtain ⟨l1, x, F, q1, q2, q3, q4, q5⟩ := OwnT.push (lineX w) hle o3 (by rw [List.length_map, List.length_take]; omega)
            simp (maxSteps := 1000000) (disch := omega) only [stepS, reduceIte, Nat.reduceBEq, Nat.reduceEqDiff, tupleOf, stepT, stepX, heapR, lensR, Nat.reduceAdd, Nat.reduceLeDiff, g2, g7, g9, r3, c1, l1, q1]
            refine ⟨⟨j + 1, by omega, q2, rfl, ?_⟩, by omega⟩
            rw [htk, List.map_append]
            exact q3
          · rw [List.take_of_length_le (by omega)] at o3
            simp (maxSteps := 1000000) (disch := omega) only [stepS, reduceIte, Nat.reduceBEq, Nat.reduceEqDiff, tupleOf, stepT, stepX, heapR, lensR, Nat.reduceAdd, Nat.reduceLeDiff, g2, g7, g9, r3, lrt]
            refine hq _ _ (k0.trans hle) ?_
            rw [e]
            exact OwnT.mono o3 k0.len
      · simp (maxSteps := 1000000) (disch := omega) only [stepS, reduceIte, Nat.reduceBEq, Nat.reduceEqDiff, tupleOf, stepT, stepX, heapR, lensR, Nat.reduceAdd, Nat.reduceLeDiff, g1, g2, r1, r2, lrt]
        refine W_loop (fun a' B => ∃ j : Nat, j ≤ r.texts.length ∧ Le B0 B ∧ a' 3 = ptr (A.length + 1) ∧ a' 8 = ii j ∧ OwnT B0.length B (a' 7) ((r.texts.take j).map lineX)) (fun a' _ => r.texts.length - (iv (a' 8)).toNat) ?_ ?_
        · refine ⟨0, Nat.zero_le _, .refl _, ?_⟩
          simp (maxSteps := 1000000) (disch := omega) only [stepS, reduceIte, Nat.reduceBEq, Nat.reduceEqDiff, tupleOf, stepT, stepX, heapR, lensR, Nat.reduceAdd, Nat.reduceLeDiff, g1, g2, r2, lrt]
          exact ⟨rfl, OwnT.nil _ _⟩
        · clear g1 g2
          rintro a2 B ⟨j, hj, hle, g2, g9, o3⟩
          obtain ⟨y, g7⟩ : ∃ y, a2 7 = y := ⟨_, rfl⟩
          rw [g7] at o3
          have r3 := hle.row r2
          rcases Nat.lt_or_ge j r.texts.length with hlt | hge
          · obtain ⟨w, hw⟩ := get_some hlt
            have hsw := st2 w (List.mem_of_getElem? hw)
            obtain ⟨p, x, p1, p2, hx⟩ := byts_atL hrt hw
            have p3 := p2 B (k0.trans hle)
            have hxs := (hx.le (k0.trans hle)).str
            have htk : r.texts.take (j + 1) = r.texts.take j ++ [w] := by rw [List.take_add_one, hw]; rfl
            have hzw := lineX_size hsw
            simp (maxSteps := 1000000) (disch := omega) only [stepS, reduceIte, Nat.reduceBEq, Nat.reduceEqDiff, tupleOf, stepT, stepX, heapR, lensR, Nat.reduceAdd, Nat.reduceLeDiff, g2, g7, g9, r3, p1, p3, hxs, lrt]
            refine ACalls.pure1 _ rfl ?_ fun Q hq => ref40_digits_spec (s := ⟨w.toArray⟩) (by show w.length < _; omega) hq
            have c1 := cat_l [116, 101, 120, 116] (tail1 (hexT ⟨w.toArray⟩)) (by have := tail1_len (hexT ⟨w.toArray⟩); have := hexT_size ⟨w.toArray⟩; have h5 : (⟨w.toArray⟩ : ByteArray).size = w.length := rfl; simp only [List.length_cons, List.length_nil]; omega)
            have e1 : (⟨([116, 101, 120, 116] ++ tail1 (hexT ⟨w.toArray⟩)).toArray⟩ : ByteArray) = lineX w := by
              unfold lineX
              rw [lineT_cons]; simp
            rw [e1] at c1
            obtain ⟨l1, x, F, q1, q2, q3, q4, q5⟩ := OwnT.push (lineX w) hle o3 (by rw [List.length_map, List.length_take]; omega)
            simp (maxSteps := 1000000) (disch := omega) only [stepS, reduceIte, Nat.reduceBEq, Nat.reduceEqDiff, tupleOf, stepT, stepX, heapR, lensR, Nat.reduceAdd, Nat.reduceLeDiff, g2, g7, g9, r3, c1, l1, q1]
            refine ⟨⟨j + 1, by omega, q2, rfl, ?_⟩, by omega⟩
            rw [htk, List.map_append]
            exact q3
          · rw [List.take_of_length_le (by omega)] at o3
            simp (maxSteps := 1000000) (disch := omega) only [stepS, reduceIte, Nat.reduceBEq, Nat.reduceEqDiff, tupleOf, stepT, stepX, heapR, lensR, Nat.reduceAdd, Nat.reduceLeDiff, g2, g7, g9, r3, lrt]
            refine hq _ _ (k0.trans hle) ?_
            rw [e]
            exact OwnT.mono o3 k0.len
    · by_cases h3 : s.kind = 5
      · have e := replyL_s (r := r) h0 h3
        simp (maxSteps := 1000000) (disch := omega) only [stepS, reduceIte, Nat.reduceBEq, Nat.reduceEqDiff, tupleOf, stepT, stepX, heapR, lensR, Nat.reduceAdd, Nat.reduceLeDiff, g1, g2, r1, r2]
        refine ref40_State_spec (hst.le k0) sst fun B u kB oB => ?_
        simp (maxSteps := 1000000) (disch := omega) only [stepS, reduceIte, Nat.reduceBEq, Nat.reduceEqDiff, tupleOf, stepT, stepX, heapR, lensR, Nat.reduceAdd, Nat.reduceLeDiff]
        refine hq _ _ (k0.trans kB) ?_
        rw [e]
        exact OwnT.mono oB k0.len
      · have e := replyL_o (r := r) h0 h1 h2 h3
        obtain ⟨l2, k2, o2⟩ := lit1T B0 okT
        rw [e] at hq
        have hq2 := hq _ _ (k0.trans k2) (o2 A.length (by have := k0.len; omega))
        simp (maxSteps := 1000000) (disch := omega) only [stepS, reduceIte, Nat.reduceBEq, Nat.reduceEqDiff, tupleOf, stepT, stepX, heapR, lensR, Nat.reduceAdd, Nat.reduceLeDiff, g1, g2, r1, r2, l2]
        exact hq2
/-- A fault's line. -/
def faultT (k n : Int) : ByteArray := if k < 1 ∨ 8 ≤ k then ⟨#[63]⟩ else lineT [faultN k, numT n]
theorem faultN_out {k : Int} (h : k < 1 ∨ 8 ≤ k) : faultN k = ⟨#[63]⟩ := by
  unfold faultN nameT
  rw [if_pos]
  have : faultsL.tail.length = 7 := rfl
  omega
theorem fault_of {n : Int} (h : ¬ (n < 1 ∨ 8 ≤ n)) : ∃ k : Nat, n = (k : Int) ∧ k < 8 ∧ kVf[k]? = some (.string (faultN n)) ∧ faultN n ≠ ⟨#[63]⟩ ∧ (faultN n).size ≤ 20 := by
  obtain ⟨k, rfl⟩ : ∃ k : Nat, n = k := ⟨n.toNat, by omega⟩
  have : ∀ k : Fin 8, k.val ≠ 0 → faultN ((k.val : Nat) : Int) = faultsL.getD k.val ⟨#[]⟩ ∧ faultN ((k.val : Nat) : Int) ≠ ⟨#[63]⟩ ∧ (faultN ((k.val : Nat) : Int)).size ≤ 20 := by decide +kernel
  have h1 := this ⟨k, by omega⟩ (by show k ≠ 0; omega)
  simp only at h1
  refine ⟨k, rfl, by omega, ?_, h1.2⟩
  rw [h1.1]
  unfold kVf
  have hl : faultsL.length = 8 := rfl
  rw [List.getElem?_map, List.getElem?_eq_getElem (by omega), List.getD_eq_getElem?_getD, List.getElem?_eq_getElem (by omega)]
  rfl
theorem tell_Fault_spec {A : AH} {k n : Int} {Q : Value → AH → Prop} (hg : Le G3 A) (hk : I64 k) (hn : I64 n) (hq : Q (.string (faultT k n)) A) : ACalls 3 Tryd.prog tell_Fault [.agg #[ii k, ii n]] Q A := by
  refine ACalls.pure1 _ rfl hq fun Q hq => ?_
  refine ACalls.of_fits mixed fits_tell_Fault rfl ?_
  unfold ic_tell_Fault
  have i0 : initA [.agg #[ii k, ii n]] 0 = .agg #[ii k, ii n] := rfl
  generalize initA [.agg #[ii k, ii n]] = a at i0
  refine W_mid (fun a B => B = A ++ [.row [ii k, ii n] .own 0 true] ∧ a 1 = ptr A.length) ?_ ?_
  · simp (maxSteps := 1000000) (disch := omega) only [stepS, reduceIte, Nat.reduceBEq, Nat.reduceEqDiff, tupleOf, stepT, stepX, heapR, lensR, Nat.reduceAdd, Nat.reduceLeDiff, i0]
  rintro a B0 ⟨hB, g1⟩
  have k0 : Le A B0 := by rw [hB]; exact .push _ _
  have r1 : rowAt B0 A.length = some ([ii k, ii n], .own, 0, true) := by rw [hB]; exact rowAt_own (get_last _ _)
  have hA := lt_of_get (rowAt_get r1)
  clear i0 hB
  have rG : rowAt B0 1 = some (kVf, .ro, 0, true) := ((hg.trans k0)).row rowG1
  have kv0 : kVf[0]? = some (.string ⟨#[63]⟩) := rfl
  have xg0 : ∀ B : AH, sIarr B (.pointer (some ⟨1, 0, none⟩)) (.int .i64 0) 8 1 = some (.pointer (some ⟨1, 0, none⟩), B) := fun _ => rfl
  by_cases ho : k < 1 ∨ 8 ≤ k
  · have hq2 := hq B0 k0
    unfold faultT at hq2
    rw [if_pos ho] at hq2
    by_cases h1 : k < 1
    · simp (maxSteps := 1000000) (disch := omega) only [stepS, reduceIte, Nat.reduceBEq, Nat.reduceEqDiff, tupleOf, stepT, stepX, heapR, lensR, Nat.reduceAdd, Nat.reduceLeDiff, g1, r1, rG, xg0, kv0]
      exact hq2
    · simp (maxSteps := 1000000) (disch := omega) only [stepS, reduceIte, Nat.reduceBEq, Nat.reduceEqDiff, tupleOf, stepT, stepX, heapR, lensR, Nat.reduceAdd, Nat.reduceLeDiff, g1, r1, rG, xg0, kv0]
      exact hq2
  obtain ⟨j, hj, hj2, hkv, _, hsz⟩ := fault_of ho
  have xg : ∀ B : AH, sIarr B (.pointer (some ⟨1, 0, none⟩)) (.int .i64 k) 8 1 = some (.pointer (some ⟨1, j, none⟩), B) := iarrG hj hj2
  obtain ⟨l1, k1, s1⟩ := lit2T B0 (faultN k) (numT n)
  have e : faultT k n = lineT [faultN k, numT n] := if_neg ho
  rw [e] at hq
  refine W_mid (fun a B => B = B0 ∧ a 1 = ptr A.length) ?_ ?_
  · simp (maxSteps := 1000000) (disch := omega) only [stepS, reduceIte, Nat.reduceBEq, Nat.reduceEqDiff, tupleOf, stepT, stepX, heapR, lensR, Nat.reduceAdd, Nat.reduceLeDiff, g1, r1, rG]
  clear g1
  rintro a B ⟨hB, g1⟩
  obtain rfl : B0 = B := hB.symm
  clear hB
  have hz : (lineT [faultN k, numT n]).size ≤ 1000 := by
    rw [lineT_cons]
    show ((faultN k).data.toList ++ [numT n].flatMap tail1).length ≤ _
    have h2 := tail1_len (numT n)
    have h3 := numT_size hn.1 (by have := hn.2; omega)
    have h4 := bl_size (faultN k)
    simp only [List.flatMap_cons, List.flatMap_nil, List.append_nil, List.length_append]
    omega
  simp (maxSteps := 1000000) (disch := omega) only [stepS, reduceIte, Nat.reduceBEq, Nat.reduceEqDiff, tupleOf, stepT, stepX, heapR, lensR, Nat.reduceAdd, Nat.reduceLeDiff, g1, r1, rG, xg, hkv]
  refine itoa_spec (n := n) (hg.trans k0) hn.1 (by have := hn.2; omega) ?_
  simp (maxSteps := 1000000) (disch := omega) only [stepS, reduceIte, Nat.reduceBEq, Nat.reduceEqDiff, tupleOf, stepT, stepX, heapR, lensR, Nat.reduceAdd, Nat.reduceLeDiff, g1, l1]
  refine tell_line_spec s1 (by simp) (by omega) ?_
  simp (maxSteps := 1000000) (disch := omega) only [stepS, reduceIte, Nat.reduceBEq, Nat.reduceEqDiff, tupleOf, stepT, stepX, heapR, lensR, Nat.reduceAdd, Nat.reduceLeDiff]
  exact hq _ (k0.trans k1)
theorem ref40_Fault_spec {A : AH} {k n : Int} {Q : Value → AH → Prop} (hk : I64 k) (hn : I64 n) (hq : Q (.string (faultT k n)) A) : ACalls 3 Tryd.prog chantryref40_Fault [.agg #[ii k, ii n]] Q A := by
  refine ACalls.pure1 _ rfl hq fun Q hq => ?_
  refine ACalls.of_fits mixed fits_chantryref40_Fault rfl ?_
  unfold ic_chantryref40_Fault
  have i0 : initA [.agg #[ii k, ii n]] 0 = .agg #[ii k, ii n] := rfl
  generalize initA [.agg #[ii k, ii n]] = a at i0
  refine W_mid (fun a B => B = A ++ [.row [ii k, ii n] .own 0 true] ∧ a 1 = ptr A.length) ?_ ?_
  · simp (maxSteps := 1000000) (disch := omega) only [stepS, reduceIte, Nat.reduceBEq, Nat.reduceEqDiff, tupleOf, stepT, stepX, heapR, lensR, Nat.reduceAdd, Nat.reduceLeDiff, i0]
  rintro a B0 ⟨hB, g1⟩
  have k0 : Le A B0 := by rw [hB]; exact .push _ _
  have r1 : rowAt B0 A.length = some ([ii k, ii n], .own, 0, true) := by rw [hB]; exact rowAt_own (get_last _ _)
  have hA := lt_of_get (rowAt_get r1)
  clear i0 hB
  have l12 : sLit B0 [.string ⟨#[]⟩] 1 7 [(0, 1, .string ⟨#[115, 117, 112, 101, 114]⟩), (1, 1, .string ⟨#[109, 97, 110, 105, 102, 101, 115, 116]⟩), (2, 1, .string ⟨#[115, 101, 103, 109, 101, 110, 116]⟩), (3, 1, .string ⟨#[116, 119, 105, 99, 101]⟩), (4, 1, .string ⟨#[117, 112, 100, 97, 116, 101]⟩), (5, 1, .string ⟨#[112, 114, 101, 100]⟩), (6, 1, .string ⟨#[115, 110, 97, 112, 115, 104, 111, 116]⟩)] = some (.slice (some ⟨B0.length, 0, none⟩) 7 7, B0 ++ [.row (faultsL.tail.map .string) .own 1 true]) := lit1 (faultsL.tail.map .string) rfl rfl (fun x hx => by
    rw [List.mem_map] at hx
    obtain ⟨w, _, rfl⟩ := hx
    exact one1_str _)
  have s12 : SlT (B0 ++ [.row (faultsL.tail.map .string) .own 1 true]) (.slice (some ⟨B0.length, 0, none⟩) 7 7) faultsL.tail := OwnT.sl (ownT_last (a0 := 0) faultsL.tail (Nat.zero_le _))
  have k12 : Le B0 (B0 ++ [.row (faultsL.tail.map .string) .own 1 true]) := .push _ _
  have k1 := k0.trans k12
  simp (maxSteps := 1000000) (disch := omega) only [stepS, reduceIte, Nat.reduceBEq, Nat.reduceEqDiff, tupleOf, stepT, stepX, heapR, lensR, Nat.reduceAdd, Nat.reduceLeDiff, g1, r1, l12]
  refine ref40_name_spec (i := k) s12 (by decide) hk.1 hk.2 ?_
  have e0 : nameT faultsL.tail k = faultN k := rfl
  rw [e0]
  by_cases ho : k < 1 ∨ 8 ≤ k
  · have hq2 := hq _ k1
    unfold faultT at hq2
    rw [if_pos ho] at hq2
    rw [faultN_out ho]
    simp (maxSteps := 1000000) (disch := omega) only [stepS, reduceIte, Nat.reduceBEq, Nat.reduceEqDiff, tupleOf, stepT, stepX, heapR, lensR, Nat.reduceAdd, Nat.reduceLeDiff]
    exact hq2
  · obtain ⟨j, hj, hj2, hkv, hne, hsz⟩ := fault_of ho
    have e : faultT k n = lineT [faultN k, numT n] := if_neg ho
    rw [e] at hq
    have c1 := cat_l (faultN k).data.toList (tail1 (numT n)) (by have := tail1_len (numT n); have := numT_size (n := n) hn.1 (by have := hn.2; omega); have := bl_size (faultN k); omega)
    rw [← str_bl] at c1
    have e1 : (⟨((faultN k).data.toList ++ tail1 (numT n)).toArray⟩ : ByteArray) = lineT [faultN k, numT n] := by
      rw [lineT_cons]; simp
    rw [e1] at c1
    have hne2 : binA .eql (.string (faultN k)) (.string ⟨#[63]⟩) = some (.bool false) := by
      rw [eq_strD, decide_eq_false hne]
    simp (maxSteps := 1000000) (disch := omega) only [stepS, reduceIte, Nat.reduceBEq, Nat.reduceEqDiff, tupleOf, stepT, stepX, heapR, lensR, Nat.reduceAdd, Nat.reduceLeDiff, g1, r1, hne2]
    refine ref40_number_spec (n := n) hn.1 hn.2 ?_
    simp (maxSteps := 1000000) (disch := omega) only [stepS, reduceIte, Nat.reduceBEq, Nat.reduceEqDiff, tupleOf, stepT, stepX, heapR, lensR, Nat.reduceAdd, Nat.reduceLeDiff, c1]
    exact hq _ k1
end Go.AS.C


namespace Go.AS.C
open Go Go.Proofs
set_option linter.unusedVariables false
set_option linter.unusedSimpArgs false
set_option maxRecDepth 10000

theorem stateL_len {s : StateV} (h : SmallS s) : (stateL s).length < 2 ^ 50 := by
  obtain ⟨⟨h1, _⟩, ⟨h2, _⟩, ⟨h3, _⟩, ⟨h4, _⟩⟩ := h
  unfold stateL
  simp only [List.length_append, List.length_map]
  omega
theorem replyL_len {k : Int} {r : ReplyV} (h : SmallR r) : (replyL k r).length < 2 ^ 50 := by
  obtain ⟨_, s1, _, s3, _, s5⟩ := h
  have := stateL_len s5
  unfold replyL
  split
  · simp
  · split
    · simp
    · split
      · rw [List.length_map]; omega
      · split
        · exact this
        · simp
theorem range_lt {s : StepV} (h : RangeT s) : s.texts.length < 2 ^ 50 ∧ s.ids.length < 2 ^ 50 ∧ s.masks.length < 2 ^ 50 ∧ (∀ t ∈ s.texts, t.length < 2 ^ 50) ∧ ∀ t ∈ s.ids, t.size < 2 ^ 50 := ⟨h.2.2.2.1, h.2.2.2.2.1, h.2.2.2.2.2.1, h.2.2.2.2.2.2.1, h.2.2.2.2.2.2.2⟩
theorem TellSteps_spec {A : AH} {x y : Value} {s : StepV} {r : ReplyV} {k n : Int} {Q : Value → AH → Prop} (hg : Le G3 A) (hx : StepA A x s) (hs : RangeT s) (hy : ReplyA A y r) (hr : RangeR r) (hk : I64 k) (hn : I64 n) (hq : ∀ A', Q (.bool true) A') : ACalls 3 Tryd.prog chantrylaw40_TellSteps [x, y, .agg #[ii k, ii n]] Q A := by
  have hx0 := hx
  have hy0 := hy
  obtain ⟨t, i, m, rfl, ht, hi, hm⟩ := hx
  obtain ⟨ri, rt, c, sm, sv, sl, rfl, hri, hrt, hst⟩ := hy
  refine ACalls.of_fits mixed fits_chantrylaw40_TellSteps rfl ?_
  unfold ic_chantrylaw40_TellSteps
  have i0 : initA [.agg #[ii s.kind, t, i, ii s.n, m], .agg #[ii r.err, ri, rt, c, sm, sv, sl], .agg #[ii k, ii n]] 0 = .agg #[ii s.kind, t, i, ii s.n, m] := rfl
  have i1 : initA [.agg #[ii s.kind, t, i, ii s.n, m], .agg #[ii r.err, ri, rt, c, sm, sv, sl], .agg #[ii k, ii n]] 1 = .agg #[ii r.err, ri, rt, c, sm, sv, sl] := rfl
  have i2 : initA [.agg #[ii s.kind, t, i, ii s.n, m], .agg #[ii r.err, ri, rt, c, sm, sv, sl], .agg #[ii k, ii n]] 2 = .agg #[ii k, ii n] := rfl
  generalize initA [.agg #[ii s.kind, t, i, ii s.n, m], .agg #[ii r.err, ri, rt, c, sm, sv, sl], .agg #[ii k, ii n]] = a at i0 i1 i2
  have ot := (byts_one1 ht).2
  have oi := (Sl.one1 hi).2
  have om := (Sl.one1 hm).2
  have ori := (Sl.one1 hri).2
  have ort := (byts_one1 hrt).2
  obtain ⟨c', sm', sv', sl', e, hc, hm', hv, hl⟩ := id hst
  injection e with e
  have e1 := congrArg Array.toList e
  simp only [List.cons.injEq, and_true] at e1
  obtain ⟨rfl, rfl, rfl, rfl⟩ := e1
  clear e
  have oc := (Sl.one1 hc).2
  have osm := (Sl.one1 hm').2
  have ov := (Sl.one1 hv).2
  have ol := (Sl.one1 hl).2
  refine W_mid (fun a B => B = A ++ [.row [ii s.kind, t, i, ii s.n, m] .own 0 true] ++ [.row [ii r.err, ri, rt, c, sm, sv, sl] .own 0 true] ++ [.row [ii k, ii n] .own 0 true] ∧ a 3 = ptr A.length ∧ a 4 = ptr (A.length + 1) ∧ a 5 = ptr (A.length + 2)) ?_ ?_
  · simp (maxSteps := 1000000) (disch := omega) only [stepS, reduceIte, Nat.reduceBEq, Nat.reduceEqDiff, tupleOf, stepT, stepX, heapR, lensR, Nat.reduceAdd, Nat.reduceLeDiff, i0, i1, i2, ot, oi, om, ori, ort, oc, osm, ov, ol]
  rintro a B0 ⟨hB, g3, g4, g5⟩
  have k0 : Le A B0 := by rw [hB]; exact ((Le.push _ _).trans (.push _ _)).trans (.push _ _)
  have r1 : rowAt B0 A.length = some ([ii s.kind, t, i, ii s.n, m], .own, 0, true) := by rw [hB]; exact ((Le.push _ _).trans (.push _ _)).row (rowAt_own (get_last _ _))
  have r2 : rowAt B0 (A.length + 1) = some ([ii r.err, ri, rt, c, sm, sv, sl], .own, 0, true) := by
    rw [hB]
    have := (Le.push _ (.row [ii k, ii n] .own 0 true)).row (rowAt_own (get_last (A ++ [Blk.row [ii s.kind, t, i, ii s.n, m] .own 0 true]) (.row [ii r.err, ri, rt, c, sm, sv, sl] .own 0 true)))
    simpa using this
  have r3 : rowAt B0 (A.length + 2) = some ([ii k, ii n], .own, 0, true) := by
    rw [hB]
    have := rowAt_own (get_last (A ++ [Blk.row [ii s.kind, t, i, ii s.n, m] .own 0 true] ++ [Blk.row [ii r.err, ri, rt, c, sm, sv, sl] .own 0 true]) (.row [ii k, ii n] .own 0 true))
    simpa using this
  clear i0 i1 i2 hB
  have hA1 := lt_of_get (rowAt_get r1)
  have hA2 := lt_of_get (rowAt_get r2)
  have hA3 := lt_of_get (rowAt_get r3)
  obtain ⟨er, hxr⟩ : ∃ er : List Value, er = [ii s.kind, t, i, ii s.n, m] := ⟨_, rfl⟩
  have hb : fillA [.int .i64 0, .slice none 0 0, .slice none 0 0, .int .i64 0, .slice none 0 0] [(1, 1, rt), (2, 1, ri)] = some [ii 0, rt, ri, ii 0, .slice none 0 0] := by
    rw [fill_one (byts_one1 hrt) (by decide), fill_one (Sl.one1 hri) (by simp)]
    rfl
  have l2 := litE2 (sz := 5) B0 (z := [.int .i64 0, .slice none 0 0, .slice none 0 0, .int .i64 0, .slice none 0 0]) (e := [ii s.kind, t, i, ii s.n, m]) (f := [ii 0, rt, ri, ii 0, .slice none 0 0]) rfl rfl rfl
    (by simp only [ones, List.all_cons, List.all_nil, ot, oi, om]; rfl) (by simp only [ones, List.all_cons, List.all_nil, ort, ori]; rfl)
  have s2 := sl_two (sz := 5) (st := .own) (ex := true) B0 (e := [ii s.kind, t, i, ii s.n, m]) (f := [ii 0, rt, ri, ii 0, .slice none 0 0]) rfl rfl (by decide)
  have k2 : Le B0 (B0 ++ [.row ([ii s.kind, t, i, ii s.n, m] ++ [ii 0, rt, ri, ii 0, .slice none 0 0]) .own 5 true]) := .push _ _
  obtain ⟨B1, hB1⟩ : ∃ B1, B1 = B0 ++ [.row ([ii s.kind, t, i, ii s.n, m] ++ [ii 0, rt, ri, ii 0, .slice none 0 0]) .own 5 true] := ⟨_, rfl⟩
  rw [← hB1] at l2 s2 k2
  clear hB1 hxr
  have kA := k0.trans k2
  have hxB := hx0.le kA
  have hyB := hy0.le kA
  have hgB := hg.trans kA
  have q1 := k2.row r1
  have q2 := k2.row r2
  have q3 := k2.row r3
  have hsteps : StepsA B1 (.slice (some ⟨B0.length, 0, none⟩) 2 2) [s, ⟨0, r.texts, r.ids, 0, []⟩] := ⟨_, s2, ⟨t, i, m, rfl, ht.le kA, hi.le kA, hm.le kA⟩, ⟨rt, ri, .slice none 0 0, rfl, hrt.le kA, hri.le kA, ⟨rfl, .inl ⟨rfl, rfl⟩⟩⟩, trivial⟩
  have hlt := range_lt hs
  obtain ⟨rr1, rr2, rr3, rr4, rr5, rr6⟩ := hr
  simp (maxSteps := 1000000) (disch := omega) only [stepS, reduceIte, Nat.reduceBEq, Nat.reduceEqDiff, tupleOf, stepT, stepX, heapR, lensR, Nat.reduceAdd, Nat.reduceLeDiff, g3, g4, g5, r1, r2, r3, hb, l2]
  refine large39_spec (most := 2) hsteps (by simp) ⟨by decide, by decide⟩ (fun x hx => ?_) fun b hb => ?_
  · simp only [List.mem_cons, List.not_mem_nil, or_false] at hx
    rcases hx with rfl | rfl
    · exact hlt
    · exact ⟨rr3, rr4, by simp, rr5, rr6⟩
  cases b with
  | true =>
    simp (maxSteps := 1000000) (disch := omega) only [stepS, reduceIte, Nat.reduceBEq, Nat.reduceEqDiff, tupleOf, stepT, stepX, heapR, lensR, Nat.reduceAdd, Nat.reduceLeDiff, g3, g4, g5, q1, q2, q3]
    refine wake hgB ?_
    simp (maxSteps := 1000000) (disch := omega) only [stepS, reduceIte, Nat.reduceBEq, Nat.reduceEqDiff, tupleOf, stepT, stepX, heapR, lensR, Nat.reduceAdd, Nat.reduceLeDiff]
    exact hq _
  | false =>
    obtain ⟨_, hsm⟩ := hb rfl
    have hss := small_step (hsm s (by simp)) hs
    have hsr := hsm ⟨0, r.texts, r.ids, 0, []⟩ (by simp)
    simp (maxSteps := 1000000) (disch := omega) only [stepS, reduceIte, Nat.reduceBEq, Nat.reduceEqDiff, tupleOf, stepT, stepX, heapR, lensR, Nat.reduceAdd, Nat.reduceLeDiff, g3, g4, g5, q1, q2, q3]
    refine large_spec (hst.le kA) fun b hb => ?_
    cases b with
    | true =>
      simp (maxSteps := 1000000) (disch := omega) only [stepS, reduceIte, Nat.reduceBEq, Nat.reduceEqDiff, tupleOf, stepT, stepX, heapR, lensR, Nat.reduceAdd, Nat.reduceLeDiff, g3, g4, g5, q1, q2, q3]
      refine wake hgB ?_
      simp (maxSteps := 1000000) (disch := omega) only [stepS, reduceIte, Nat.reduceBEq, Nat.reduceEqDiff, tupleOf, stepT, stepX, heapR, lensR, Nat.reduceAdd, Nat.reduceLeDiff]
      exact hq _
    | false =>
      have hrs : SmallR r := ⟨rr1, hsr.2.1, hsr.2.2.2.2, hsr.1, hsr.2.2.2.1, small_of (hb rfl) rr2⟩
      simp (maxSteps := 1000000) (disch := omega) only [stepS, reduceIte, Nat.reduceBEq, Nat.reduceEqDiff, tupleOf, stepT, stepX, heapR, lensR, Nat.reduceAdd, Nat.reduceLeDiff, g3, g4, g5, q1, q2, q3]
      refine tell_Step_spec hgB hxB hss ?_
      simp (maxSteps := 1000000) (disch := omega) only [stepS, reduceIte, Nat.reduceBEq, Nat.reduceEqDiff, tupleOf, stepT, stepX, heapR, lensR, Nat.reduceAdd, Nat.reduceLeDiff, g3, g4, g5, q1, q2, q3]
      refine ref40_Step_spec hxB hss ?_
      simp (maxSteps := 1000000) (disch := omega) only [stepS, reduceIte, Nat.reduceBEq, Nat.reduceEqDiff, tupleOf, stepT, stepX, heapR, lensR, Nat.reduceAdd, Nat.reduceLeDiff, g3, g4, g5, q1, q2, q3, eq_strD]
      refine tell_Reply_spec hgB hxB hyB hss.1 hrs fun C u k3 o1 => ?_
      have q1' := k3.row q1
      have q2' := k3.row q2
      have q3' := k3.row q3
      simp (maxSteps := 1000000) (disch := omega) only [stepS, reduceIte, Nat.reduceBEq, Nat.reduceEqDiff, tupleOf, stepT, stepX, heapR, lensR, Nat.reduceAdd, Nat.reduceLeDiff, g3, g4, g5, q1', q2', q3', k3.rd]
      refine ref40_Reply_spec (hxB.le k3) (hyB.le k3) hss.1 hrs fun D w k4 o2 => ?_
      have q3'' := k4.row q3'
      simp (maxSteps := 1000000) (disch := omega) only [stepS, reduceIte, Nat.reduceBEq, Nat.reduceEqDiff, tupleOf, stepT, stepX, heapR, lensR, Nat.reduceAdd, Nat.reduceLeDiff, g3, g4, g5, q3'', k4.rd]
      refine ref01_Texts_spec ((OwnT.sl o1).le k4) (OwnT.sl o2) (replyL_len hrs) (replyL_len hrs) fun b hb => ?_
      obtain rfl : b = true := hb.2 rfl
      simp (maxSteps := 1000000) (disch := omega) only [stepS, reduceIte, Nat.reduceBEq, Nat.reduceEqDiff, tupleOf, stepT, stepX, heapR, lensR, Nat.reduceAdd, Nat.reduceLeDiff, g3, g4, g5, q3'']
      refine tell_Fault_spec (hgB.trans (k3.trans k4)) hk hn ?_
      simp (maxSteps := 1000000) (disch := omega) only [stepS, reduceIte, Nat.reduceBEq, Nat.reduceEqDiff, tupleOf, stepT, stepX, heapR, lensR, Nat.reduceAdd, Nat.reduceLeDiff, g3, g4, g5, q3'']
      refine ref40_Fault_spec hk hn ?_
      simp (maxSteps := 1000000) (disch := omega) only [stepS, reduceIte, Nat.reduceBEq, Nat.reduceEqDiff, tupleOf, stepT, stepX, heapR, lensR, Nat.reduceAdd, Nat.reduceLeDiff, eq_strD]
      refine wake (hgB.trans (k3.trans k4)) ?_
      simp (maxSteps := 1000000) (disch := omega) only [stepS, reduceIte, Nat.reduceBEq, Nat.reduceEqDiff, tupleOf, stepT, stepX, heapR, lensR, Nat.reduceAdd, Nat.reduceLeDiff]
      exact hq _
theorem TellSteps_law {A : AH} {v0 v1 v2 : Value} (hG : Le [kBs, kBf, kBn] A) (g0 : GoodV Tryd.prog A 9 26 v0) (g1 : GoodV Tryd.prog A 9 33 v1) (g2 : GoodV Tryd.prog A 9 35 v2) : ACalls 3 Tryd.prog chantrylaw40_TellSteps [v0, v1, v2] (fun v _ => v = .bool true) A := by
  obtain ⟨s, hs, rs⟩ := law_step g0
  obtain ⟨r, hr, rr⟩ := law_reply g1
  obtain ⟨k, n, rfl, hk, hn⟩ := law_fault g2
  exact TellSteps_spec hG hs rs hr rr hk hn fun _ => rfl
end Go.AS.C
