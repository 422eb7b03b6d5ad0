/- Lemmas for the proof of a given statement; no conditions. -/
import Derived.Test.YticplnaplklpnaaM5
set_option maxHeartbeats 1000000

namespace Go.AS.C
open Go Go.Proofs
set_option linter.unusedVariables false
set_option linter.unusedSimpArgs false
set_option maxRecDepth 10000

/-! diff.apply (printed by gen41apply.py). -/
section
variable {s : StateV} {nm tx : ByteArray} {n kd : Int}
open Classical in
theorem turn1 : turnD s ⟨1, nm, tx, n⟩ = (if ∃ y ∈ s.counts, eqCn y (⟨nm, 0⟩ : CountV) then some { s with counts := rem ltC (⟨nm, 0⟩ : CountV) s.counts } else none) := by
  unfold turnD
  dsimp only
  rw [if_pos rfl]
open Classical in
theorem turn2 : turnD s ⟨2, nm, tx, n⟩ = (if (∃ y ∈ s.counts, eqCn y (⟨nm, n⟩ : CountV)) ∧ (true = false ∨ (⟨nm, n⟩ : CountV) ∈ s.counts) then none else some { s with counts := ins ltC (⟨nm, n⟩ : CountV) s.counts }) := by
  unfold turnD
  dsimp only
  rw [if_neg (by decide), if_pos rfl]
open Classical in
theorem turn3 : turnD s ⟨3, nm, tx, n⟩ = (if ∃ y ∈ s.members, y = (⟨nm, tx⟩ : WordV) then some { s with members := rem ltWd (⟨nm, tx⟩ : WordV) s.members } else none) := by
  unfold turnD
  dsimp only
  rw [if_neg (by decide), if_neg (by decide), if_pos rfl]
open Classical in
theorem turn4 : turnD s ⟨4, nm, tx, n⟩ = (if (∃ y ∈ s.members, y = (⟨nm, tx⟩ : WordV)) ∧ (false = false ∨ (⟨nm, tx⟩ : WordV) ∈ s.members) then none else some { s with members := ins ltWd (⟨nm, tx⟩ : WordV) s.members }) := by
  unfold turnD
  dsimp only
  rw [if_neg (by decide), if_neg (by decide), if_neg (by decide), if_pos rfl]
open Classical in
theorem turn5 : turnD s ⟨5, nm, tx, n⟩ = (if ∃ y ∈ s.values, y = (⟨nm, tx⟩ : WordV) then some { s with values := rem ltWd (⟨nm, tx⟩ : WordV) s.values } else none) := by
  unfold turnD
  dsimp only
  rw [if_neg (by decide), if_neg (by decide), if_neg (by decide), if_neg (by decide), if_pos rfl]
open Classical in
theorem turn6 : turnD s ⟨6, nm, tx, n⟩ = (if (∃ y ∈ s.values, y = (⟨nm, tx⟩ : WordV)) ∧ (false = false ∨ (⟨nm, tx⟩ : WordV) ∈ s.values) then none else some { s with values := ins ltWd (⟨nm, tx⟩ : WordV) s.values }) := by
  unfold turnD
  dsimp only
  rw [if_neg (by decide), if_neg (by decide), if_neg (by decide), if_neg (by decide), if_neg (by decide), if_pos rfl]
open Classical in
theorem turn7 : turnD s ⟨7, nm, tx, n⟩ = (if ∃ y ∈ s.lines, eqN y (⟨nm, tx⟩ : WordV) then some { s with lines := rem ltN (⟨nm, tx⟩ : WordV) s.lines } else none) := by
  unfold turnD
  dsimp only
  rw [if_neg (by decide), if_neg (by decide), if_neg (by decide), if_neg (by decide), if_neg (by decide), if_neg (by decide), if_pos rfl]
open Classical in
theorem turn8 : turnD s ⟨8, nm, tx, n⟩ = (if (∃ y ∈ s.lines, eqN y (⟨nm, tx⟩ : WordV)) ∧ (true = false ∨ (⟨nm, tx⟩ : WordV) ∈ s.lines) then none else some { s with lines := ins ltN (⟨nm, tx⟩ : WordV) s.lines }) := by
  unfold turnD
  dsimp only
  rw [if_neg (by decide), if_neg (by decide), if_neg (by decide), if_neg (by decide), if_neg (by decide), if_neg (by decide), if_neg (by decide), if_pos rfl]
theorem turn0 (h : ¬ (kd = 1 ∨ kd = 2 ∨ kd = 3 ∨ kd = 4 ∨ kd = 5 ∨ kd = 6 ∨ kd = 7 ∨ kd = 8)) : turnD s ⟨kd, nm, tx, n⟩ = none := by
  unfold turnD
  dsimp only
  rw [if_neg (by omega), if_neg (by omega), if_neg (by omega), if_neg (by omega), if_neg (by omega), if_neg (by omega), if_neg (by omega), if_neg (by omega)]
end
def BigS (s : StateV) (N : Nat) : Prop := (s.counts.length ≤ N ∧ ∀ w ∈ s.counts, FinC w) ∧ (s.members.length ≤ N ∧ ∀ w ∈ s.members, FinW w) ∧ (s.values.length ≤ N ∧ ∀ w ∈ s.values, FinW w) ∧ (s.lines.length ≤ N ∧ ∀ w ∈ s.lines, FinW w)
/-- A state behind a pointer. -/
structure PtrS (A : AH) (i : Nat) (s : StateV) : Prop where
  ex : ∃ c m v l : Value, rowAt A i = some ([c, m, v, l], .own, 0, true) ∧ CountsA A c s.counts ∧ WordsA A m s.members ∧ WordsA A v s.values ∧ WordsA A l s.lines
theorem kpr {A B : AH} {v : Value} {n i : Nat} {cs xs : List Value} {st : St} {ex : Bool} (h : Sl A 2 v n cs) (hr : rowAt A i = some (xs, st, 0, ex)) (k : Keep A i B) : Sl B 2 v n cs := Sl.kp h k (rowAt_get hr) (by decide)
theorem eqCf {A : AH} {a b : CountV} (ha : FinC a) (hb : FinC b) : (a = b → sEqagg A false (Try.prog.keyLits 8 40) (.agg (countE a).toArray) (.agg (countE b).toArray) = some (.bool true, A)) ∧ (a ≠ b → sEqagg A false (Try.prog.keyLits 8 40) (.agg (countE a).toArray) (.agg (countE b).toArray) = some (.bool false, A)) :=
  ⟨fun h => eqagg_flat (b := true) (ks := [.str, .int .i64]) (xs := countE a) (ys := countE b) (by kernel_rfl) ⟨le_max ha.1, FK.hasI ha.2, trivial⟩ ⟨le_max hb.1, FK.hasI hb.2, trivial⟩ ⟨fun _ => by rw [h], fun _ => rfl⟩,
   fun h => eqagg_flat (b := false) (ks := [.str, .int .i64]) (xs := countE a) (ys := countE b) (by kernel_rfl) ⟨le_max ha.1, FK.hasI ha.2, trivial⟩ ⟨le_max hb.1, FK.hasI hb.2, trivial⟩ ⟨(fun h => by cases h), fun e => absurd (countE_inj _ _ e) h⟩⟩
set_option maxHeartbeats 8000000 in
theorem diff_apply_spec {A : AH} {i : Nat} {s : StateV} {d : DeltaV} {Q : Value → AH → Prop} (hp : PtrS A i s) (ts : TidyS s) (fs : BigS s (2 ^ 25)) (fd : FinC ⟨d.name, d.n⟩ ∧ FinW ⟨d.name, d.text⟩)
    (hq1 : ∀ s', stepD s d = some s' → ∀ A', Keep A i A' → PtrS A' i s' → Q (.bool true) A') (hq2 : stepD s d = none → ∀ A', Keep A i A' → Q (.bool false) A') :
    ACalls 0 Try.prog diff_apply [ptr i, .agg #[ii d.kind, .string d.name, .string d.text, ii d.n]] Q A := by
  obtain ⟨kd, nm, tx, n⟩ := d
  obtain ⟨c, m, v, l, hr, hc, hm, hv, hl⟩ := hp.ex
  obtain ⟨fd1, fd2⟩ := fd
  have z0 : I64 0 := ⟨by decide, by decide⟩
  have fc0 : FinC ⟨nm, 0⟩ := ⟨fd1.1, z0⟩
  show ACalls 0 Try.prog diff_apply [ptr i, .agg #[ii kd, .string nm, .string tx, ii n]] Q A
  have hi := lt_of_get (rowAt_get hr)
  have on : (Value.slice none 0 0).oneCell' = true := rfl
  have oc := (Sl.one1 hc).2
  have om := (Sl.one1 hm).2
  have ov := (Sl.one1 hv).2
  have ol := (Sl.one1 hl).2
  refine ACalls.of_fits mixed fits_diff_apply rfl ?_
  unfold ic_diff_apply
  have i0 : initA [ptr i, .agg #[ii kd, .string nm, .string tx, ii n]] 0 = ptr i := rfl
  have i1 : initA [ptr i, .agg #[ii kd, .string nm, .string tx, ii n]] 1 = .agg #[ii kd, .string nm, .string tx, ii n] := rfl
  generalize initA [ptr i, .agg #[ii kd, .string nm, .string tx, ii n]] = a at i0 i1
  refine W_mid (fun a' B => B = A ++ [.row [ii kd, .string nm, .string tx, ii n] .own 0 true] ∧ a' 0 = ptr i ∧ a' 3 = ptr A.length) ?_ ?_
  · simp (maxSteps := 1000000) (disch := omega) only [stepS, reduceIte, Nat.reduceBEq, Nat.reduceEqDiff, tupleOf, stepT, stepX, heapR, lensR, Nat.reduceAdd, Nat.reduceLeDiff, i0, i1]
  clear i0 i1
  rintro a B0 ⟨hB, g0, g3⟩
  have k0 : Le A B0 := by rw [hB]; exact .push _ _
  have r2 : rowAt B0 A.length = some ([ii kd, .string nm, .string tx, ii n], .own, 0, true) := by rw [hB]; exact rowAt_own (get_last _ _)
  have hbl : B0.length = A.length + 1 := by rw [hB]; simp
  clear hB
  refine W_mid (fun a' B => B = B0 ∧ a' 0 = ptr i ∧ a' 3 = ptr A.length ∧ a' 5 = .bool false) ?_ ?_
  · simp (maxSteps := 1000000) (disch := omega) only [stepS, reduceIte, Nat.reduceBEq, Nat.reduceEqDiff, tupleOf, stepT, stepX, heapR, lensR, Nat.reduceAdd, Nat.reduceLeDiff, g0, g3]
  clear g0 g3
  rintro a B ⟨hB, g0, g3, g5⟩
  obtain rfl : B0 = B := hB.symm
  clear hB
  have hset : (B0 ++ [Blk.row [.string ⟨#[]⟩, .string ⟨#[]⟩] .own 0 true]).set B0.length (.row [.string nm, .string tx] .own 0 true) = B0 ++ [Blk.row [.string nm, .string tx] .own 0 true] := by simp
  refine W_mid (fun a' B => B = B0 ++ [Blk.row [.string nm, .string tx] .own 0 true] ∧ a' 0 = ptr i ∧ a' 3 = ptr A.length ∧ a' 5 = .bool false ∧ a' 6 = ptr B0.length) ?_ ?_
  · simp (maxSteps := 1000000) (disch := omega) only [stepS, reduceIte, Nat.reduceBEq, Nat.reduceEqDiff, tupleOf, stepT, stepX, heapR, lensR, Nat.reduceAdd, Nat.reduceLeDiff, g0, g3, g5, r2, hset]
  clear g0 g3 g5 hset
  rintro a B1 ⟨hB, g0, g3, g5, g6⟩
  have k1 : Le B0 B1 := by rw [hB]; exact .push _ _
  have r3 : rowAt B1 B0.length = some ([.string nm, .string tx], .own, 0, true) := by rw [hB]; exact rowAt_own (get_last _ _)
  have hbl1 : B1.length = A.length + 2 := by rw [hB]; simp; omega
  clear hB
  have kA := k0.trans k1
  have r1 := kA.row hr
  have r2 := k1.row r2
  by_cases h1 : kd = 1
  · subst h1
    simp (maxSteps := 1000000) (disch := omega) only [stepS, reduceIte, Nat.reduceBEq, Nat.reduceEqDiff, tupleOf, stepT, stepX, heapR, lensR, Nat.reduceAdd, Nat.reduceLeDiff, g0, g3, g5, g6, r1, r2, r3, nilc_ptr, oc, om, ov, ol]
    refine outC_spec (x := (⟨nm, 0⟩ : CountV)) countE_enc countE_inj cmpC ord4C (hc.le kA) (Nat.le_trans fs.1.1 (by decide)) ts.1 (fun hno A2 e2 => ?_) (fun hyes u A2 e2 hu => ?_)
    · have r1' := e2.row r1
      have r2' := e2.row r2
      have ht := (turn1 (s := s) (nm := nm) (tx := tx) (n := n)).trans (if_neg hno)
      simp (maxSteps := 1000000) (disch := omega) only [stepS, reduceIte, Nat.reduceBEq, Nat.reduceEqDiff, tupleOf, stepT, stepX, heapR, lensR, Nat.reduceAdd, Nat.reduceLeDiff, g0, g3, g5, g6, r1', r2', on, nilc_ptr, oc, om, ov, ol]
      exact hq2 (stepD_none ht) _ (((kA.trans e2).kp i).trans (.set _ _ _))
    · have r1' := e2.row r1
      have r2' := e2.row r2
      have ou : ∀ A', stQ (some ([c, m, v, l], .own, 0, true)) i 0 1 u A' = some (undef, A'.set i (.row [u, m, v, l] .own 0 true)) := fun A' => stQ_one (Sl.one1 hu) (by simp)
      have ht := (turn1 (s := s) (nm := nm) (tx := tx) (n := n)).trans (if_pos hyes)
      have hlt := lt_of_get (rowAt_get r2')
      simp (maxSteps := 1000000) (disch := omega) only [stepS, reduceIte, Nat.reduceBEq, Nat.reduceEqDiff, tupleOf, stepT, stepX, heapR, lensR, Nat.reduceAdd, Nat.reduceLeDiff, g0, g3, g5, g6, r1', r2', ou, nilc_ptr, oc, om, ov, ol]
      refine diff_odd_spec (d := ⟨1, nm, tx, n⟩) fun b hb => ?_
      have kk : Keep A2 i (A2.set i (.row [u, m, v, l] .own 0 true)) := .set _ _ _
      cases b with
      | true =>
        simp (maxSteps := 1000000) (disch := omega) only [stepS, reduceIte, Nat.reduceBEq, Nat.reduceEqDiff, tupleOf, stepT, stepX, heapR, lensR, Nat.reduceAdd, Nat.reduceLeDiff, g0, g3]
        exact hq2 (stepD_odd (hb.1 rfl)) _ (((kA.trans e2).kp i).trans kk)
      | false =>
        have hs := (stepD_turn (s := s) (d := ⟨1, nm, tx, n⟩) (fun e => by have := hb.2 e; cases this)).trans ht
        simp (maxSteps := 1000000) (disch := omega) only [stepS, reduceIte, Nat.reduceBEq, Nat.reduceEqDiff, tupleOf, stepT, stepX, heapR, lensR, Nat.reduceAdd, Nat.reduceLeDiff, g0, g3]
        refine hq1 _ hs _ (((kA.trans e2).kp i).trans kk) ⟨u, m, v, l, rowAt_own (List.getElem?_set_self (by omega)), kpr hu r1' kk, kpr (hm.le (kA.trans e2)) r1' kk, kpr (hv.le (kA.trans e2)) r1' kk, kpr (hl.le (kA.trans e2)) r1' kk⟩
  by_cases h2 : kd = 2
  · subst h2
    simp (maxSteps := 1000000) (disch := omega) only [stepS, reduceIte, Nat.reduceBEq, Nat.reduceEqDiff, tupleOf, stepT, stepX, heapR, lensR, Nat.reduceAdd, Nat.reduceLeDiff, g0, g3, g5, g6, r1, r2, r3, nilc_ptr, oc, om, ov, ol]
    refine inC_spec (rep := true) (x := (⟨nm, n⟩ : CountV)) countE_enc countE_inj cmpC ord4C (fun B y hy => eqCf (fs.1.2 y hy) fd1) (hc.le kA) (Nat.le_trans fs.1.1 (by decide)) ts.1 (fun hno A2 e2 => ?_) (fun hyes u A2 e2 hu => ?_)
    · have r1' := e2.row r1
      have r2' := e2.row r2
      have ht := (turn2 (s := s) (nm := nm) (tx := tx) (n := n)).trans (if_pos hno)
      simp (maxSteps := 1000000) (disch := omega) only [stepS, reduceIte, Nat.reduceBEq, Nat.reduceEqDiff, tupleOf, stepT, stepX, heapR, lensR, Nat.reduceAdd, Nat.reduceLeDiff, g0, g3, g5, g6, r1', r2', on, nilc_ptr, oc, om, ov, ol]
      exact hq2 (stepD_none ht) _ (((kA.trans e2).kp i).trans (.set _ _ _))
    · have r1' := e2.row r1
      have r2' := e2.row r2
      have ou : ∀ A', stQ (some ([c, m, v, l], .own, 0, true)) i 0 1 u A' = some (undef, A'.set i (.row [u, m, v, l] .own 0 true)) := fun A' => stQ_one (Sl.one1 hu) (by simp)
      have ht := (turn2 (s := s) (nm := nm) (tx := tx) (n := n)).trans (if_neg hyes)
      have hlt := lt_of_get (rowAt_get r2')
      simp (maxSteps := 1000000) (disch := omega) only [stepS, reduceIte, Nat.reduceBEq, Nat.reduceEqDiff, tupleOf, stepT, stepX, heapR, lensR, Nat.reduceAdd, Nat.reduceLeDiff, g0, g3, g5, g6, r1', r2', ou, nilc_ptr, oc, om, ov, ol]
      refine diff_odd_spec (d := ⟨2, nm, tx, n⟩) fun b hb => ?_
      have kk : Keep A2 i (A2.set i (.row [u, m, v, l] .own 0 true)) := .set _ _ _
      cases b with
      | true =>
        simp (maxSteps := 1000000) (disch := omega) only [stepS, reduceIte, Nat.reduceBEq, Nat.reduceEqDiff, tupleOf, stepT, stepX, heapR, lensR, Nat.reduceAdd, Nat.reduceLeDiff, g0, g3]
        exact hq2 (stepD_odd (hb.1 rfl)) _ (((kA.trans e2).kp i).trans kk)
      | false =>
        have hs := (stepD_turn (s := s) (d := ⟨2, nm, tx, n⟩) (fun e => by have := hb.2 e; cases this)).trans ht
        simp (maxSteps := 1000000) (disch := omega) only [stepS, reduceIte, Nat.reduceBEq, Nat.reduceEqDiff, tupleOf, stepT, stepX, heapR, lensR, Nat.reduceAdd, Nat.reduceLeDiff, g0, g3]
        refine hq1 _ hs _ (((kA.trans e2).kp i).trans kk) ⟨u, m, v, l, rowAt_own (List.getElem?_set_self (by omega)), kpr hu r1' kk, kpr (hm.le (kA.trans e2)) r1' kk, kpr (hv.le (kA.trans e2)) r1' kk, kpr (hl.le (kA.trans e2)) r1' kk⟩
  by_cases h3 : kd = 3
  · subst h3
    simp (maxSteps := 1000000) (disch := omega) only [stepS, reduceIte, Nat.reduceBEq, Nat.reduceEqDiff, tupleOf, stepT, stepX, heapR, lensR, Nat.reduceAdd, Nat.reduceLeDiff, g0, g3, g5, g6, r1, r2, r3, nilc_ptr, oc, om, ov, ol]
    refine outW_spec (x := (⟨nm, tx⟩ : WordV)) wordE_enc wordE_inj cmpW ord4W (hm.le kA) (Nat.le_trans fs.2.1.1 (by decide)) ts.2.1 (fun hno A2 e2 => ?_) (fun hyes u A2 e2 hu => ?_)
    · have r1' := e2.row r1
      have r2' := e2.row r2
      have ht := (turn3 (s := s) (nm := nm) (tx := tx) (n := n)).trans (if_neg hno)
      simp (maxSteps := 1000000) (disch := omega) only [stepS, reduceIte, Nat.reduceBEq, Nat.reduceEqDiff, tupleOf, stepT, stepX, heapR, lensR, Nat.reduceAdd, Nat.reduceLeDiff, g0, g3, g5, g6, r1', r2', on, nilc_ptr, oc, om, ov, ol]
      exact hq2 (stepD_none ht) _ (((kA.trans e2).kp i).trans (.set _ _ _))
    · have r1' := e2.row r1
      have r2' := e2.row r2
      have ou : ∀ A', stQ (some ([c, m, v, l], .own, 0, true)) i 1 1 u A' = some (undef, A'.set i (.row [c, u, v, l] .own 0 true)) := fun A' => stQ_one (Sl.one1 hu) (by simp)
      have ht := (turn3 (s := s) (nm := nm) (tx := tx) (n := n)).trans (if_pos hyes)
      have hlt := lt_of_get (rowAt_get r2')
      simp (maxSteps := 1000000) (disch := omega) only [stepS, reduceIte, Nat.reduceBEq, Nat.reduceEqDiff, tupleOf, stepT, stepX, heapR, lensR, Nat.reduceAdd, Nat.reduceLeDiff, g0, g3, g5, g6, r1', r2', ou, nilc_ptr, oc, om, ov, ol]
      refine diff_odd_spec (d := ⟨3, nm, tx, n⟩) fun b hb => ?_
      have kk : Keep A2 i (A2.set i (.row [c, u, v, l] .own 0 true)) := .set _ _ _
      cases b with
      | true =>
        simp (maxSteps := 1000000) (disch := omega) only [stepS, reduceIte, Nat.reduceBEq, Nat.reduceEqDiff, tupleOf, stepT, stepX, heapR, lensR, Nat.reduceAdd, Nat.reduceLeDiff, g0, g3]
        exact hq2 (stepD_odd (hb.1 rfl)) _ (((kA.trans e2).kp i).trans kk)
      | false =>
        have hs := (stepD_turn (s := s) (d := ⟨3, nm, tx, n⟩) (fun e => by have := hb.2 e; cases this)).trans ht
        simp (maxSteps := 1000000) (disch := omega) only [stepS, reduceIte, Nat.reduceBEq, Nat.reduceEqDiff, tupleOf, stepT, stepX, heapR, lensR, Nat.reduceAdd, Nat.reduceLeDiff, g0, g3]
        refine hq1 _ hs _ (((kA.trans e2).kp i).trans kk) ⟨c, u, v, l, rowAt_own (List.getElem?_set_self (by omega)), kpr (hc.le (kA.trans e2)) r1' kk, kpr hu r1' kk, kpr (hv.le (kA.trans e2)) r1' kk, kpr (hl.le (kA.trans e2)) r1' kk⟩
  by_cases h4 : kd = 4
  · subst h4
    simp (maxSteps := 1000000) (disch := omega) only [stepS, reduceIte, Nat.reduceBEq, Nat.reduceEqDiff, tupleOf, stepT, stepX, heapR, lensR, Nat.reduceAdd, Nat.reduceLeDiff, g0, g3, g5, g6, r1, r2, r3, nilc_ptr, oc, om, ov, ol]
    refine inW_spec (rep := false) (x := (⟨nm, tx⟩ : WordV)) wordE_enc wordE_inj cmpW ord4W (fun B y hy => eqW (n := false) (fs.2.1.2 y hy) fd2) (hm.le kA) (Nat.le_trans fs.2.1.1 (by decide)) ts.2.1 (fun hno A2 e2 => ?_) (fun hyes u A2 e2 hu => ?_)
    · have r1' := e2.row r1
      have r2' := e2.row r2
      have ht := (turn4 (s := s) (nm := nm) (tx := tx) (n := n)).trans (if_pos hno)
      simp (maxSteps := 1000000) (disch := omega) only [stepS, reduceIte, Nat.reduceBEq, Nat.reduceEqDiff, tupleOf, stepT, stepX, heapR, lensR, Nat.reduceAdd, Nat.reduceLeDiff, g0, g3, g5, g6, r1', r2', on, nilc_ptr, oc, om, ov, ol]
      exact hq2 (stepD_none ht) _ (((kA.trans e2).kp i).trans (.set _ _ _))
    · have r1' := e2.row r1
      have r2' := e2.row r2
      have ou : ∀ A', stQ (some ([c, m, v, l], .own, 0, true)) i 1 1 u A' = some (undef, A'.set i (.row [c, u, v, l] .own 0 true)) := fun A' => stQ_one (Sl.one1 hu) (by simp)
      have ht := (turn4 (s := s) (nm := nm) (tx := tx) (n := n)).trans (if_neg hyes)
      have hlt := lt_of_get (rowAt_get r2')
      simp (maxSteps := 1000000) (disch := omega) only [stepS, reduceIte, Nat.reduceBEq, Nat.reduceEqDiff, tupleOf, stepT, stepX, heapR, lensR, Nat.reduceAdd, Nat.reduceLeDiff, g0, g3, g5, g6, r1', r2', ou, nilc_ptr, oc, om, ov, ol]
      refine diff_odd_spec (d := ⟨4, nm, tx, n⟩) fun b hb => ?_
      have kk : Keep A2 i (A2.set i (.row [c, u, v, l] .own 0 true)) := .set _ _ _
      cases b with
      | true =>
        simp (maxSteps := 1000000) (disch := omega) only [stepS, reduceIte, Nat.reduceBEq, Nat.reduceEqDiff, tupleOf, stepT, stepX, heapR, lensR, Nat.reduceAdd, Nat.reduceLeDiff, g0, g3]
        exact hq2 (stepD_odd (hb.1 rfl)) _ (((kA.trans e2).kp i).trans kk)
      | false =>
        have hs := (stepD_turn (s := s) (d := ⟨4, nm, tx, n⟩) (fun e => by have := hb.2 e; cases this)).trans ht
        simp (maxSteps := 1000000) (disch := omega) only [stepS, reduceIte, Nat.reduceBEq, Nat.reduceEqDiff, tupleOf, stepT, stepX, heapR, lensR, Nat.reduceAdd, Nat.reduceLeDiff, g0, g3]
        refine hq1 _ hs _ (((kA.trans e2).kp i).trans kk) ⟨c, u, v, l, rowAt_own (List.getElem?_set_self (by omega)), kpr (hc.le (kA.trans e2)) r1' kk, kpr hu r1' kk, kpr (hv.le (kA.trans e2)) r1' kk, kpr (hl.le (kA.trans e2)) r1' kk⟩
  by_cases h5 : kd = 5
  · subst h5
    simp (maxSteps := 1000000) (disch := omega) only [stepS, reduceIte, Nat.reduceBEq, Nat.reduceEqDiff, tupleOf, stepT, stepX, heapR, lensR, Nat.reduceAdd, Nat.reduceLeDiff, g0, g3, g5, g6, r1, r2, r3, nilc_ptr, oc, om, ov, ol]
    refine outW_spec (x := (⟨nm, tx⟩ : WordV)) wordE_enc wordE_inj cmpW ord4W (hv.le kA) (Nat.le_trans fs.2.2.1.1 (by decide)) ts.2.2.1 (fun hno A2 e2 => ?_) (fun hyes u A2 e2 hu => ?_)
    · have r1' := e2.row r1
      have r2' := e2.row r2
      have ht := (turn5 (s := s) (nm := nm) (tx := tx) (n := n)).trans (if_neg hno)
      simp (maxSteps := 1000000) (disch := omega) only [stepS, reduceIte, Nat.reduceBEq, Nat.reduceEqDiff, tupleOf, stepT, stepX, heapR, lensR, Nat.reduceAdd, Nat.reduceLeDiff, g0, g3, g5, g6, r1', r2', on, nilc_ptr, oc, om, ov, ol]
      exact hq2 (stepD_none ht) _ (((kA.trans e2).kp i).trans (.set _ _ _))
    · have r1' := e2.row r1
      have r2' := e2.row r2
      have ou : ∀ A', stQ (some ([c, m, v, l], .own, 0, true)) i 2 1 u A' = some (undef, A'.set i (.row [c, m, u, l] .own 0 true)) := fun A' => stQ_one (Sl.one1 hu) (by simp)
      have ht := (turn5 (s := s) (nm := nm) (tx := tx) (n := n)).trans (if_pos hyes)
      have hlt := lt_of_get (rowAt_get r2')
      simp (maxSteps := 1000000) (disch := omega) only [stepS, reduceIte, Nat.reduceBEq, Nat.reduceEqDiff, tupleOf, stepT, stepX, heapR, lensR, Nat.reduceAdd, Nat.reduceLeDiff, g0, g3, g5, g6, r1', r2', ou, nilc_ptr, oc, om, ov, ol]
      refine diff_odd_spec (d := ⟨5, nm, tx, n⟩) fun b hb => ?_
      have kk : Keep A2 i (A2.set i (.row [c, m, u, l] .own 0 true)) := .set _ _ _
      cases b with
      | true =>
        simp (maxSteps := 1000000) (disch := omega) only [stepS, reduceIte, Nat.reduceBEq, Nat.reduceEqDiff, tupleOf, stepT, stepX, heapR, lensR, Nat.reduceAdd, Nat.reduceLeDiff, g0, g3]
        exact hq2 (stepD_odd (hb.1 rfl)) _ (((kA.trans e2).kp i).trans kk)
      | false =>
        have hs := (stepD_turn (s := s) (d := ⟨5, nm, tx, n⟩) (fun e => by have := hb.2 e; cases this)).trans ht
        simp (maxSteps := 1000000) (disch := omega) only [stepS, reduceIte, Nat.reduceBEq, Nat.reduceEqDiff, tupleOf, stepT, stepX, heapR, lensR, Nat.reduceAdd, Nat.reduceLeDiff, g0, g3]
        refine hq1 _ hs _ (((kA.trans e2).kp i).trans kk) ⟨c, m, u, l, rowAt_own (List.getElem?_set_self (by omega)), kpr (hc.le (kA.trans e2)) r1' kk, kpr (hm.le (kA.trans e2)) r1' kk, kpr hu r1' kk, kpr (hl.le (kA.trans e2)) r1' kk⟩
  by_cases h6 : kd = 6
  · subst h6
    simp (maxSteps := 1000000) (disch := omega) only [stepS, reduceIte, Nat.reduceBEq, Nat.reduceEqDiff, tupleOf, stepT, stepX, heapR, lensR, Nat.reduceAdd, Nat.reduceLeDiff, g0, g3, g5, g6, r1, r2, r3, nilc_ptr, oc, om, ov, ol]
    refine inW_spec (rep := false) (x := (⟨nm, tx⟩ : WordV)) wordE_enc wordE_inj cmpW ord4W (fun B y hy => eqW (n := false) (fs.2.2.1.2 y hy) fd2) (hv.le kA) (Nat.le_trans fs.2.2.1.1 (by decide)) ts.2.2.1 (fun hno A2 e2 => ?_) (fun hyes u A2 e2 hu => ?_)
    · have r1' := e2.row r1
      have r2' := e2.row r2
      have ht := (turn6 (s := s) (nm := nm) (tx := tx) (n := n)).trans (if_pos hno)
      simp (maxSteps := 1000000) (disch := omega) only [stepS, reduceIte, Nat.reduceBEq, Nat.reduceEqDiff, tupleOf, stepT, stepX, heapR, lensR, Nat.reduceAdd, Nat.reduceLeDiff, g0, g3, g5, g6, r1', r2', on, nilc_ptr, oc, om, ov, ol]
      exact hq2 (stepD_none ht) _ (((kA.trans e2).kp i).trans (.set _ _ _))
    · have r1' := e2.row r1
      have r2' := e2.row r2
      have ou : ∀ A', stQ (some ([c, m, v, l], .own, 0, true)) i 2 1 u A' = some (undef, A'.set i (.row [c, m, u, l] .own 0 true)) := fun A' => stQ_one (Sl.one1 hu) (by simp)
      have ht := (turn6 (s := s) (nm := nm) (tx := tx) (n := n)).trans (if_neg hyes)
      have hlt := lt_of_get (rowAt_get r2')
      simp (maxSteps := 1000000) (disch := omega) only [stepS, reduceIte, Nat.reduceBEq, Nat.reduceEqDiff, tupleOf, stepT, stepX, heapR, lensR, Nat.reduceAdd, Nat.reduceLeDiff, g0, g3, g5, g6, r1', r2', ou, nilc_ptr, oc, om, ov, ol]
      refine diff_odd_spec (d := ⟨6, nm, tx, n⟩) fun b hb => ?_
      have kk : Keep A2 i (A2.set i (.row [c, m, u, l] .own 0 true)) := .set _ _ _
      cases b with
      | true =>
        simp (maxSteps := 1000000) (disch := omega) only [stepS, reduceIte, Nat.reduceBEq, Nat.reduceEqDiff, tupleOf, stepT, stepX, heapR, lensR, Nat.reduceAdd, Nat.reduceLeDiff, g0, g3]
        exact hq2 (stepD_odd (hb.1 rfl)) _ (((kA.trans e2).kp i).trans kk)
      | false =>
        have hs := (stepD_turn (s := s) (d := ⟨6, nm, tx, n⟩) (fun e => by have := hb.2 e; cases this)).trans ht
        simp (maxSteps := 1000000) (disch := omega) only [stepS, reduceIte, Nat.reduceBEq, Nat.reduceEqDiff, tupleOf, stepT, stepX, heapR, lensR, Nat.reduceAdd, Nat.reduceLeDiff, g0, g3]
        refine hq1 _ hs _ (((kA.trans e2).kp i).trans kk) ⟨c, m, u, l, rowAt_own (List.getElem?_set_self (by omega)), kpr (hc.le (kA.trans e2)) r1' kk, kpr (hm.le (kA.trans e2)) r1' kk, kpr hu r1' kk, kpr (hl.le (kA.trans e2)) r1' kk⟩
  by_cases h7 : kd = 7
  · subst h7
    simp (maxSteps := 1000000) (disch := omega) only [stepS, reduceIte, Nat.reduceBEq, Nat.reduceEqDiff, tupleOf, stepT, stepX, heapR, lensR, Nat.reduceAdd, Nat.reduceLeDiff, g0, g3, g5, g6, r1, r2, r3, nilc_ptr, oc, om, ov, ol]
    refine outW_spec (x := (⟨nm, tx⟩ : WordV)) wordE_enc wordE_inj cmpN ord4N (hl.le kA) (Nat.le_trans fs.2.2.2.1 (by decide)) ts.2.2.2 (fun hno A2 e2 => ?_) (fun hyes u A2 e2 hu => ?_)
    · have r1' := e2.row r1
      have r2' := e2.row r2
      have ht := (turn7 (s := s) (nm := nm) (tx := tx) (n := n)).trans (if_neg hno)
      simp (maxSteps := 1000000) (disch := omega) only [stepS, reduceIte, Nat.reduceBEq, Nat.reduceEqDiff, tupleOf, stepT, stepX, heapR, lensR, Nat.reduceAdd, Nat.reduceLeDiff, g0, g3, g5, g6, r1', r2', on, nilc_ptr, oc, om, ov, ol]
      exact hq2 (stepD_none ht) _ (((kA.trans e2).kp i).trans (.set _ _ _))
    · have r1' := e2.row r1
      have r2' := e2.row r2
      have ou : ∀ A', stQ (some ([c, m, v, l], .own, 0, true)) i 3 1 u A' = some (undef, A'.set i (.row [c, m, v, u] .own 0 true)) := fun A' => stQ_one (Sl.one1 hu) (by simp)
      have ht := (turn7 (s := s) (nm := nm) (tx := tx) (n := n)).trans (if_pos hyes)
      have hlt := lt_of_get (rowAt_get r2')
      simp (maxSteps := 1000000) (disch := omega) only [stepS, reduceIte, Nat.reduceBEq, Nat.reduceEqDiff, tupleOf, stepT, stepX, heapR, lensR, Nat.reduceAdd, Nat.reduceLeDiff, g0, g3, g5, g6, r1', r2', ou, nilc_ptr, oc, om, ov, ol]
      refine diff_odd_spec (d := ⟨7, nm, tx, n⟩) fun b hb => ?_
      have kk : Keep A2 i (A2.set i (.row [c, m, v, u] .own 0 true)) := .set _ _ _
      cases b with
      | true =>
        simp (maxSteps := 1000000) (disch := omega) only [stepS, reduceIte, Nat.reduceBEq, Nat.reduceEqDiff, tupleOf, stepT, stepX, heapR, lensR, Nat.reduceAdd, Nat.reduceLeDiff, g0, g3]
        exact hq2 (stepD_odd (hb.1 rfl)) _ (((kA.trans e2).kp i).trans kk)
      | false =>
        have hs := (stepD_turn (s := s) (d := ⟨7, nm, tx, n⟩) (fun e => by have := hb.2 e; cases this)).trans ht
        simp (maxSteps := 1000000) (disch := omega) only [stepS, reduceIte, Nat.reduceBEq, Nat.reduceEqDiff, tupleOf, stepT, stepX, heapR, lensR, Nat.reduceAdd, Nat.reduceLeDiff, g0, g3]
        refine hq1 _ hs _ (((kA.trans e2).kp i).trans kk) ⟨c, m, v, u, rowAt_own (List.getElem?_set_self (by omega)), kpr (hc.le (kA.trans e2)) r1' kk, kpr (hm.le (kA.trans e2)) r1' kk, kpr (hv.le (kA.trans e2)) r1' kk, kpr hu r1' kk⟩
  by_cases h8 : kd = 8
  · subst h8
    simp (maxSteps := 1000000) (disch := omega) only [stepS, reduceIte, Nat.reduceBEq, Nat.reduceEqDiff, tupleOf, stepT, stepX, heapR, lensR, Nat.reduceAdd, Nat.reduceLeDiff, g0, g3, g5, g6, r1, r2, r3, nilc_ptr, oc, om, ov, ol]
    refine inW_spec (rep := true) (x := (⟨nm, tx⟩ : WordV)) wordE_enc wordE_inj cmpN ord4N (fun B y hy => eqW (n := false) (fs.2.2.2.2 y hy) fd2) (hl.le kA) (Nat.le_trans fs.2.2.2.1 (by decide)) ts.2.2.2 (fun hno A2 e2 => ?_) (fun hyes u A2 e2 hu => ?_)
    · have r1' := e2.row r1
      have r2' := e2.row r2
      have ht := (turn8 (s := s) (nm := nm) (tx := tx) (n := n)).trans (if_pos hno)
      simp (maxSteps := 1000000) (disch := omega) only [stepS, reduceIte, Nat.reduceBEq, Nat.reduceEqDiff, tupleOf, stepT, stepX, heapR, lensR, Nat.reduceAdd, Nat.reduceLeDiff, g0, g3, g5, g6, r1', r2', on, nilc_ptr, oc, om, ov, ol]
      exact hq2 (stepD_none ht) _ (((kA.trans e2).kp i).trans (.set _ _ _))
    · have r1' := e2.row r1
      have r2' := e2.row r2
      have ou : ∀ A', stQ (some ([c, m, v, l], .own, 0, true)) i 3 1 u A' = some (undef, A'.set i (.row [c, m, v, u] .own 0 true)) := fun A' => stQ_one (Sl.one1 hu) (by simp)
      have ht := (turn8 (s := s) (nm := nm) (tx := tx) (n := n)).trans (if_neg hyes)
      have hlt := lt_of_get (rowAt_get r2')
      simp (maxSteps := 1000000) (disch := omega) only [stepS, reduceIte, Nat.reduceBEq, Nat.reduceEqDiff, tupleOf, stepT, stepX, heapR, lensR, Nat.reduceAdd, Nat.reduceLeDiff, g0, g3, g5, g6, r1', r2', ou, nilc_ptr, oc, om, ov, ol]
      refine diff_odd_spec (d := ⟨8, nm, tx, n⟩) fun b hb => ?_
      have kk : Keep A2 i (A2.set i (.row [c, m, v, u] .own 0 true)) := .set _ _ _
      cases b with
      | true =>
        simp (maxSteps := 1000000) (disch := omega) only [stepS, reduceIte, Nat.reduceBEq, Nat.reduceEqDiff, tupleOf, stepT, stepX, heapR, lensR, Nat.reduceAdd, Nat.reduceLeDiff, g0, g3]
        exact hq2 (stepD_odd (hb.1 rfl)) _ (((kA.trans e2).kp i).trans kk)
      | false =>
        have hs := (stepD_turn (s := s) (d := ⟨8, nm, tx, n⟩) (fun e => by have := hb.2 e; cases this)).trans ht
        simp (maxSteps := 1000000) (disch := omega) only [stepS, reduceIte, Nat.reduceBEq, Nat.reduceEqDiff, tupleOf, stepT, stepX, heapR, lensR, Nat.reduceAdd, Nat.reduceLeDiff, g0, g3]
        refine hq1 _ hs _ (((kA.trans e2).kp i).trans kk) ⟨c, m, v, u, rowAt_own (List.getElem?_set_self (by omega)), kpr (hc.le (kA.trans e2)) r1' kk, kpr (hm.le (kA.trans e2)) r1' kk, kpr (hv.le (kA.trans e2)) r1' kk, kpr hu r1' kk⟩
  · have hne : ¬ (kd = 1 ∨ kd = 2 ∨ kd = 3 ∨ kd = 4 ∨ kd = 5 ∨ kd = 6 ∨ kd = 7 ∨ kd = 8) := by omega
    simp (maxSteps := 1000000) (disch := omega) only [stepS, reduceIte, Nat.reduceBEq, Nat.reduceEqDiff, tupleOf, stepT, stepX, heapR, lensR, Nat.reduceAdd, Nat.reduceLeDiff, g0, g3, g5, g6, r1, r2, r3]
    exact hq2 (stepD_none (turn0 hne)) _ (kA.kp i)
end Go.AS.C


namespace Go.AS.C
open Go Go.Proofs
set_option linter.unusedVariables false
set_option linter.unusedSimpArgs false
set_option maxRecDepth 10000

/-! What changes keep; many changes. -/
section
variable {α : Type} {lt eq : α → α → Prop} {l : List α} {x y : α}
theorem adj_ins (o : Ord4 lt eq) (h : Adj lt l) : Adj lt (ins lt x l) := adj_of (pw_ins o (pw_of o.toOrd3 h))
theorem adj_rem (o : Ord4 lt eq) (h : Adj lt l) : Adj lt (rem lt x l) := adj_of (pw_rem o (pw_of o.toOrd3 h))
theorem excl_len : ∀ (l : List α) (p q : α → Bool), (∀ x ∈ l, ¬ (p x = true ∧ q x = true)) → (l.filter p).length + (l.filter q).length ≤ l.length
  | [], p, q, _ => by simp
  | a :: l, p, q, h => by
    have ih := excl_len l p q (fun x hx => h x (List.mem_cons_of_mem _ hx))
    have ha := h a List.mem_cons_self
    cases hp : p a <;> cases hq : q a <;> simp [List.filter_cons, hp, hq] <;> first | omega | (exact absurd ⟨hp, hq⟩ ha)
open Classical in
theorem ins_len (o : Ord4 lt eq) : (ins lt x l).length ≤ l.length + 1 := by
  have := excl_len l (fun y => decide (lt y x)) (fun y => decide (lt x y)) (fun z _ h => by
    simp only [decide_eq_true_eq] at h
    exact o.irr _ (o.tr h.1 h.2))
  unfold ins below above
  simp only [List.length_append, List.length_cons]
  omega
open Classical in
theorem rem_len (o : Ord4 lt eq) : (rem lt x l).length ≤ l.length := by
  have := excl_len l (fun y => decide (lt y x)) (fun y => decide (lt x y)) (fun z _ h => by
    simp only [decide_eq_true_eq] at h
    exact o.irr _ (o.tr h.1 h.2))
  unfold rem below above
  simp only [List.length_append]
  omega
theorem all_ins {P : α → Prop} (h : ∀ y ∈ l, P y) (hx : P x) : ∀ y ∈ ins lt x l, P y := by
  intro y hy
  rcases mem_ins.1 hy with rfl | ⟨hy, _⟩
  · exact hx
  · exact h y hy
theorem all_rem {P : α → Prop} (h : ∀ y ∈ l, P y) : ∀ y ∈ rem lt x l, P y := fun y hy => h y (mem_rem.1 hy).1
end
theorem BigS.up {s : StateV} {M N : Nat} (h : BigS s M) (k : M ≤ N) : BigS s N := by
  obtain ⟨⟨h1, h2⟩, ⟨h3, h4⟩, ⟨h5, h6⟩, h7, h8⟩ := h
  exact ⟨⟨by omega, h2⟩, ⟨by omega, h4⟩, ⟨by omega, h6⟩, by omega, h8⟩
theorem keeps {s s' : StateV} {d : DeltaV} {N : Nat} (h : stepD s d = some s') (ts : TidyS s) (fs : BigS s N) (fd : FinC ⟨d.name, d.n⟩ ∧ FinW ⟨d.name, d.text⟩) : TidyS s' ∧ BigS s' (N + 1) := by
  obtain ⟨t1, t2, t3, t4⟩ := ts
  have up := fs.up (show N ≤ N + 1 by omega)
  obtain ⟨u1, u2, u3, u4⟩ := up
  obtain ⟨⟨a1, a2⟩, ⟨b1, b2⟩, ⟨c1, c2⟩, d1, d2⟩ := fs
  obtain ⟨fc, fw⟩ := fd
  have rc : ∀ {x : CountV}, ((rem ltC x s.counts).length ≤ N + 1 ∧ ∀ w ∈ rem ltC x s.counts, FinC w) := ⟨Nat.le_trans (rem_len ord4C) (by omega), all_rem a2⟩
  have rw1 : ∀ {l : List WordV} {x : WordV}, l.length ≤ N → (∀ w ∈ l, FinW w) → ((rem ltWd x l).length ≤ N + 1 ∧ ∀ w ∈ rem ltWd x l, FinW w) := fun h k => ⟨Nat.le_trans (rem_len ord4W) (by omega), all_rem k⟩
  have rn1 : ∀ {l : List WordV} {x : WordV}, l.length ≤ N → (∀ w ∈ l, FinW w) → ((rem ltN x l).length ≤ N + 1 ∧ ∀ w ∈ rem ltN x l, FinW w) := fun h k => ⟨Nat.le_trans (rem_len ord4N) (by omega), all_rem k⟩
  have ic : ((ins ltC ⟨d.name, d.n⟩ s.counts).length ≤ N + 1 ∧ ∀ w ∈ ins ltC ⟨d.name, d.n⟩ s.counts, FinC w) := ⟨Nat.le_trans (ins_len ord4C) (by omega), all_ins a2 fc⟩
  have iw1 : ∀ {l : List WordV}, l.length ≤ N → (∀ w ∈ l, FinW w) → ((ins ltWd ⟨d.name, d.text⟩ l).length ≤ N + 1 ∧ ∀ w ∈ ins ltWd ⟨d.name, d.text⟩ l, FinW w) := fun h k => ⟨Nat.le_trans (ins_len ord4W) (by omega), all_ins k fw⟩
  have in1 : ∀ {l : List WordV}, l.length ≤ N → (∀ w ∈ l, FinW w) → ((ins ltN ⟨d.name, d.text⟩ l).length ≤ N + 1 ∧ ∀ w ∈ ins ltN ⟨d.name, d.text⟩ l, FinW w) := fun h k => ⟨Nat.le_trans (ins_len ord4N) (by omega), all_ins k fw⟩
  by_cases ho : OddD d
  · rw [stepD_odd ho] at h; cases h
  rw [stepD_turn ho] at h
  unfold turnD at h
  repeat' split at h
  all_goals first
    | (cases h; done)
    | (injection h with h; subst h)
  all_goals first
    | exact ⟨⟨adj_rem ord4C t1, t2, t3, t4⟩, rc, u2, u3, u4⟩
    | exact ⟨⟨adj_ins ord4C t1, t2, t3, t4⟩, ic, u2, u3, u4⟩
    | exact ⟨⟨t1, adj_rem ord4W t2, t3, t4⟩, u1, rw1 b1 b2, u3, u4⟩
    | exact ⟨⟨t1, adj_ins ord4W t2, t3, t4⟩, u1, iw1 b1 b2, u3, u4⟩
    | exact ⟨⟨t1, t2, adj_rem ord4W t3, t4⟩, u1, u2, rw1 c1 c2, u4⟩
    | exact ⟨⟨t1, t2, adj_ins ord4W t3, t4⟩, u1, u2, iw1 c1 c2, u4⟩
    | exact ⟨⟨t1, t2, t3, adj_rem ord4N t4⟩, u1, u2, u3, rn1 d1 d2⟩
    | exact ⟨⟨t1, t2, t3, adj_ins ord4N t4⟩, u1, u2, u3, in1 d1 d2⟩
noncomputable def applyD : StateV → List DeltaV → Option StateV
  | s, [] => some s
  | s, d :: l => (stepD s d).bind fun s' => applyD s' l
theorem applyD_append : ∀ (a b : List DeltaV) (s : StateV), applyD s (a ++ b) = (applyD s a).bind fun s' => applyD s' b
  | [], b, s => rfl
  | d :: a, b, s => by
    show (stepD s d).bind _ = ((stepD s d).bind _).bind _
    rw [Option.bind_assoc]
    congr 1
    funext s'
    exact applyD_append a b s'
theorem applyD_one (s : StateV) (d : DeltaV) : applyD s [d] = stepD s d := by
  show (stepD s d).bind some = stepD s d
  cases stepD s d <;> rfl
def emptyS : StateV := ⟨[], [], [], []⟩
open Classical in
noncomputable def applyR (s : StateV) (l : List DeltaV) : StateV × Int := if TidyS s then match applyD s l with | some s' => (s', 0) | none => (emptyS, 5) else (emptyS, 1)
theorem applyR_1 {s : StateV} {l : List DeltaV} (h : ¬ TidyS s) : applyR s l = (emptyS, 1) := by unfold applyR; rw [if_neg h]
theorem applyR_5 {s : StateV} {l : List DeltaV} (h : TidyS s) (k : applyD s l = none) : applyR s l = (emptyS, 5) := by unfold applyR; rw [if_pos h, k]
theorem applyR_0 {s s' : StateV} {l : List DeltaV} (h : TidyS s) (k : applyD s l = some s') : applyR s l = (s', 0) := by unfold applyR; rw [if_pos h, k]
theorem emptyA (A : AH) : StateA A (.agg #[.slice none 0 0, .slice none 0 0, .slice none 0 0, .slice none 0 0]) emptyS :=
  ⟨_, _, _, _, rfl, ⟨rfl, .inl ⟨rfl, rfl⟩⟩, ⟨rfl, .inl ⟨rfl, rfl⟩⟩, ⟨rfl, .inl ⟨rfl, rfl⟩⟩, ⟨rfl, .inl ⟨rfl, rfl⟩⟩⟩
end Go.AS.C


namespace Go.AS.C
open Go Go.Proofs
set_option linter.unusedVariables false
set_option linter.unusedSimpArgs false
set_option maxRecDepth 10000

/-! diff.Apply. -/
abbrev nl : Value := .slice none 0 0
theorem diff_Tidy_spec' {A : AH} {x : Value} {s : StateV} {Q : Value → AH → Prop} (hx : StateA A x s) (hs : BigS s (2 ^ 25)) (hq : ∀ b : Bool, (b = true ↔ TidyS s) → Q (.bool b) A) : ACalls 0 Try.prog diff_Tidy [x] Q A := by
  obtain ⟨⟨a1, a2⟩, ⟨b1, b2⟩, ⟨c1, c2⟩, d1, d2⟩ := hs
  exact diff_Tidy_spec hx ⟨⟨by omega, a2⟩, ⟨by omega, b2⟩, ⟨by omega, c2⟩, by omega, d2⟩ hq
theorem keep_row {A B : AH} {i j : Nat} {cs : List Value} {sz : Nat} {ex : Bool} (h : Keep A i B) (k : rowAt A j = some (cs, .own, sz, ex)) (hne : j ≠ i) : rowAt B j = some (cs, .own, sz, ex) := rowAt_own (h.2 j _ hne (rowAt_get k))
set_option maxHeartbeats 4000000 in
theorem diff_Apply_spec {A : AH} {x w : Value} {s : StateV} {l : List DeltaV} {N : Nat} {Q : Value → AH → Prop} (hx : StateA A x s) (hw : DeltasA A w l) (fs : BigS s N) (hN : N + l.length ≤ 2 ^ 25) (fd : ∀ d ∈ l, FinC ⟨d.name, d.n⟩ ∧ FinW ⟨d.name, d.text⟩)
    (hq : ∀ y A', Le A A' → StateA A' y (applyR s l).1 → Q (.tuple #[y, ii (applyR s l).2]) A') : ACalls 0 Try.prog diff_Apply [x, w] Q A := by
  have hx' := hx
  obtain ⟨c, m, v, q, rfl, hc, hm, hv, hl⟩ := hx
  refine ACalls.of_fits mixed fits_diff_Apply rfl ?_
  unfold ic_diff_Apply
  have i0 : initA [.agg #[c, m, v, q], w] 0 = .agg #[c, m, v, q] := rfl
  have i1 : initA [.agg #[c, m, v, q], w] 1 = w := rfl
  generalize initA [.agg #[c, m, v, q], w] = a at i0 i1
  have oc := (Sl.one1 hc).2
  have om := (Sl.one1 hm).2
  have ov := (Sl.one1 hv).2
  have ol := (Sl.one1 hl).2
  have hwl := hw.len
  refine W_mid (fun a B => B = A ++ [.row [c, m, v, q] .own 0 true] ++ [.row [nl, nl, nl, nl] .own 0 true] ∧ a 1 = w ∧ a 2 = ptr A.length ∧ a 4 = ptr (A.length + 1)) ?_ ?_
  · simp (maxSteps := 1000000) (disch := omega) only [stepS, reduceIte, Nat.reduceBEq, Nat.reduceEqDiff, tupleOf, stepT, stepX, heapR, lensR, Nat.reduceAdd, Nat.reduceLeDiff, i0, i1, oc, om, ov, ol]
  clear i0 i1
  rintro a B0 ⟨hB, g1, g2, g4⟩
  have k0 : Le A B0 := by rw [hB]; exact (Le.push _ _).trans (.push _ _)
  have r1 : rowAt B0 A.length = some ([c, m, v, q], .own, 0, true) := by rw [hB]; exact (Le.push _ _).row (rowAt_own (get_last _ _))
  have r2 : rowAt B0 (A.length + 1) = some ([nl, nl, nl, nl], .own, 0, true) := by
    have := rowAt_own (get_last (A ++ [Blk.row [c, m, v, q] .own 0 true]) (.row [nl, nl, nl, nl] .own 0 true))
    rw [hB]; simpa using this
  have hbl : B0.length = A.length + 2 := by rw [hB]; simp
  clear hB
  have hps : PtrS B0 A.length s := ⟨c, m, v, q, r1, hc.le k0, hm.le k0, hv.le k0, hl.le k0⟩
  refine W_midR (fun a B => B = B0 ∧ TidyS s ∧ a 1 = w ∧ a 2 = ptr A.length ∧ a 4 = ptr (A.length + 1)) ?_ ?_
  · simp (maxSteps := 1000000) (disch := omega) only [stepS, reduceIte, Nat.reduceBEq, Nat.reduceEqDiff, tupleOf, stepT, stepX, heapR, lensR, Nat.reduceAdd, Nat.reduceLeDiff, g1, g2, g4, r1, r2]
    refine diff_Tidy_spec' (hx'.le k0) (fs.up (by omega)) fun b1 h1 => ?_
    cases b1 with
    | false =>
      have hns : ¬ TidyS s := fun h => by have := h1.2 h; cases this
      rw [applyR_1 hns] at hq
      simp (maxSteps := 1000000) (disch := omega) only [stepS, reduceIte, Nat.reduceBEq, Nat.reduceEqDiff, tupleOf, stepT, stepX, heapR, lensR, Nat.reduceAdd, Nat.reduceLeDiff, g1, g2, g4, r1, r2, reduceCtorEq, false_and, false_or, true_and]
      exact hq _ _ (((k0.kp _).trans (.set _ (A.length + 1) _)).le (.refl A) (by omega)) (emptyA _)
    | true =>
      simp (maxSteps := 1000000) (disch := omega) only [stepS, reduceIte, Nat.reduceBEq, Nat.reduceEqDiff, tupleOf, stepT, stepX, heapR, lensR, Nat.reduceAdd, Nat.reduceLeDiff, g1, g2, g4, r1, r2, reduceCtorEq, false_and, or_false, true_and]
      exact h1.1 rfl
  clear g1 g2 g4
  rintro a B ⟨hB, ts, g1, g2, g4⟩
  obtain rfl : B0 = B := hB.symm
  clear hB
  obtain ⟨Inv, hInv⟩ : ∃ P : Nat → AH → Prop, P = fun k B => ∃ sk, applyD s (l.take k) = some sk ∧ TidyS sk ∧ BigS sk (N + k) ∧ PtrS B A.length sk ∧ Le A B ∧ rowAt B (A.length + 1) = some ([nl, nl, nl, nl], .own, 0, true) := ⟨_, rfl⟩
  have hinv0 : Inv 0 B0 := by
    rw [hInv]
    exact ⟨s, by rw [List.take_zero]; rfl, ts, fs, hps, k0, r2⟩
  simp (maxSteps := 1000000) (disch := omega) only [stepS, reduceIte, Nat.reduceBEq, Nat.reduceEqDiff, tupleOf, stepT, stepX, heapR, lensR, Nat.reduceAdd, Nat.reduceLeDiff, g1, g2, g4, hwl]
  refine W_loop (fun a' B => ∃ k : Nat, k ≤ l.length ∧ a' 2 = ptr A.length ∧ a' 4 = ptr (A.length + 1) ∧ a' 12 = w ∧ a' 13 = ii l.length ∧ a' 14 = ii k ∧ Inv k B) (fun a' _ => l.length - (iv (a' 14)).toNat) ?_ ?_
  · refine ⟨0, by omega, ?_⟩
    simp (maxSteps := 1000000) (disch := omega) only [stepS, reduceIte, Nat.reduceBEq, Nat.reduceEqDiff, tupleOf, stepT, stepX, heapR, lensR, Nat.reduceAdd, Nat.reduceLeDiff, g1, g2, g4]
    exact ⟨rfl, hinv0⟩
  · clear g1 g2 g4
    rintro a B ⟨k, hk, g2, g4, g12, g13, g14, hi⟩
    rw [hInv] at hi
    obtain ⟨sk, s1, s2, s3, s4, s5, s6⟩ := hi
    have hlt4 := lt_of_get (rowAt_get s6)
    rcases Nat.lt_or_ge k l.length with hlt | hge
    · obtain ⟨d, hd⟩ := get_some hlt
      obtain ⟨p, p1, p2⟩ := hw.at hd
      have p2 := p2 B s5
      have hap : applyD s (l.take (k + 1)) = stepD sk d := by rw [List.take_add_one, hd, applyD_append, s1]; exact applyD_one sk d
      have hset : (B ++ [Blk.row [.int .i64 0, .string ⟨#[]⟩, .string ⟨#[]⟩, .int .i64 0] .own 0 true]).set B.length (.row [ii d.kind, .string d.name, .string d.text, ii d.n] .own 0 true) = B ++ [Blk.row [ii d.kind, .string d.name, .string d.text, ii d.n] .own 0 true] := by simp
      have e1 : Le B (B ++ [Blk.row [ii d.kind, .string d.name, .string d.text, ii d.n] .own 0 true]) := .push _ _
      have hfd := fd d (List.mem_of_getElem? hd)
      obtain ⟨c', m', v', q', t1, t2, t3, t4, t5⟩ := s4.ex
      simp (maxSteps := 1000000) (disch := omega) only [stepS, reduceIte, Nat.reduceBEq, Nat.reduceEqDiff, tupleOf, stepT, stepX, heapR, lensR, Nat.reduceAdd, Nat.reduceLeDiff, g2, g4, g12, g13, g14, p1, p2, hset]
      refine diff_apply_spec ⟨c', m', v', q', e1.row t1, t2.le e1, t3.le e1, t4.le e1, t5.le e1⟩ s2 (s3.up (by omega)) hfd (fun s' hs A' kk pp => ?_) (fun hn A' kk => ?_)
      · have keep := keeps hs s2 s3 hfd
        have hinv1 : Inv (k + 1) A' := by
          rw [hInv]
          exact ⟨s', by rw [hap, hs], keep.1, keep.2, pp, kk.le (s5.trans e1) (Nat.le_refl _), keep_row kk (e1.row s6) (by omega)⟩
        simp (maxSteps := 1000000) (disch := omega) only [stepS, reduceIte, Nat.reduceBEq, Nat.reduceEqDiff, tupleOf, stepT, stepX, heapR, lensR, Nat.reduceAdd, Nat.reduceLeDiff, g2, g4, g12, g13, g14]
        exact ⟨⟨k + 1, by omega, rfl, hinv1⟩, by omega⟩
      · have s6' := keep_row kk (e1.row s6) (by omega)
        have hlt6 := lt_of_get (rowAt_get s6')
        have hnone : applyD s l = none := by
          rw [← List.take_append_drop (k + 1) l, applyD_append, hap, hn]; rfl
        rw [applyR_5 ts hnone] at hq
        simp (maxSteps := 1000000) (disch := omega) only [stepS, reduceIte, Nat.reduceBEq, Nat.reduceEqDiff, tupleOf, stepT, stepX, heapR, lensR, Nat.reduceAdd, Nat.reduceLeDiff, g2, g4, g12, g13, g14, s6']
        exact hq _ _ ((Keep.set A' (A.length + 1) _).le (kk.le (s5.trans e1) (Nat.le_refl _)) (by omega)) (emptyA _)
    · rw [List.take_of_length_le hge] at s1
      rw [applyR_0 ts s1] at hq
      obtain ⟨c', m', v', q', t1, t2, t3, t4, t5⟩ := s4.ex
      have oc' := (Sl.one1 t2).2
      have om' := (Sl.one1 t3).2
      have ov' := (Sl.one1 t4).2
      have ol' := (Sl.one1 t5).2
      simp (maxSteps := 1000000) (disch := omega) only [stepS, reduceIte, Nat.reduceBEq, Nat.reduceEqDiff, tupleOf, stepT, stepX, heapR, lensR, Nat.reduceAdd, Nat.reduceLeDiff, g2, g4, g12, g13, g14, t1, s6, oc', om', ov', ol']
      have kk : Keep B (A.length + 1) (B.set (A.length + 1) (.row [c', m', v', q'] .own 0 true)) := .set _ _ _
      exact hq _ _ (kk.le s5 (by omega)) ⟨c', m', v', q', rfl, kpr t2 s6 kk, kpr t3 s6 kk, kpr t4 s6 kk, kpr t5 s6 kk⟩
end Go.AS.C


namespace Go.AS.C
open Go Go.Proofs
set_option linter.unusedVariables false
set_option linter.unusedSimpArgs false
set_option maxRecDepth 10000

/-! The reference's put and cut. -/
abbrev OwnW (a0 : Nat) (A : AH) (v : Value) (l : List WordV) : Prop := OwnE a0 A 2 v (l.map wordE)
theorem OwnW.sl {a0 : Nat} {A : AH} {v : Value} {l : List WordV} (h : OwnW a0 A v l) : WordsA A v l := h.2.sl
end Go.AS.C


namespace Go.AS.C
open Go Go.Proofs
set_option linter.unusedVariables false
set_option linter.unusedSimpArgs false
set_option maxRecDepth 10000

/-! The reference's turn. -/
end Go.AS.C


namespace Go.AS.C
open Go Go.Proofs
set_option linter.unusedVariables false
set_option linter.unusedSimpArgs false
set_option maxRecDepth 10000

/-! The reference's line. -/
end Go.AS.C


namespace Go.AS.C
open Go Go.Proofs
set_option linter.unusedVariables false
set_option linter.unusedSimpArgs false
set_option maxRecDepth 10000

/-! The reference's count. -/
section
variable {α : Type} {lt eq : α → α → Prop} {m : List α} {x y : α}
end
def FailC (l : List CountV) (d : DeltaV) : Prop := d.text ≠ noT ∨ (d.kind = 1 ∧ ((¬ ∃ y ∈ l, eqCn y ⟨d.name, 0⟩) ∨ d.n ≠ 0)) ∨ (d.kind = 2 ∧ (⟨d.name, d.n⟩ : CountV) ∈ l)
section
variable {l : List CountV} {x y : CountV} {kd : Int} {k : Nat} {inb : Bool} {out : List CountV}
end
end Go.AS.C


namespace Go.AS.C
open Go Go.Proofs
set_option linter.unusedVariables false
set_option linter.unusedSimpArgs false
set_option maxRecDepth 10000

/-! The reference's Apply (printed by gen41refapply.py). -/
section
variable {s : StateV} {nm tx : ByteArray} {n : Int}
theorem ok1 (h : ¬ FailC s.counts ⟨1, nm, tx, n⟩) : stepD s ⟨1, nm, tx, n⟩ = some { s with counts := rem ltC ⟨nm, n⟩ s.counts } := by
  have h1 : ∃ y ∈ s.counts, eqCn y ⟨nm, 0⟩ := Classical.not_not.1 fun k => h (.inr (.inl ⟨rfl, .inl k⟩))
  have h2 : n = 0 := Classical.not_not.1 fun k => h (.inr (.inl ⟨rfl, .inr k⟩))
  have h3 : tx = noT := Classical.not_not.1 fun k => h (.inl k)
  rw [stepD_turn (by rintro (⟨_, k⟩ | ⟨_, k⟩); exact k h2; exact k h3), turn1, if_pos h1]
  rfl
end
end Go.AS.C


namespace Go.AS.C
open Go Go.Proofs
set_option linter.unusedVariables false
set_option linter.unusedSimpArgs false
set_option maxRecDepth 10000

/-! DiffApplies. -/
theorem big_of {s : StateV} (h : SmallS0 s) (hr : RangeS s) : BigS s 20 := by
  obtain ⟨⟨f1, f2, f3, f4⟩, _⟩ := fin_of h hr
  obtain ⟨⟨a1, _⟩, ⟨b1, _⟩, ⟨c1, _⟩, d1, _⟩ := h
  exact ⟨⟨a1, f1.2⟩, ⟨b1, f2.2⟩, ⟨c1, f3.2⟩, d1, f4.2⟩
theorem BigS.fin {s : StateV} (h : BigS s (2 ^ 25)) : FinS s := by
  obtain ⟨⟨a1, a2⟩, ⟨b1, b2⟩, ⟨c1, c2⟩, d1, d2⟩ := h
  exact ⟨⟨by omega, a2⟩, ⟨by omega, b2⟩, ⟨by omega, c2⟩, by omega, d2⟩
end Go.AS.C


namespace Go.AS.C
open Go Go.Proofs
set_option linter.unusedVariables false
set_option linter.unusedSimpArgs false
set_option maxRecDepth 10000

/-! Many things put in, or taken out, one by one. -/
section
variable {α : Type} {lt eq : α → α → Prop}
noncomputable def rems (lt : α → α → Prop) : List α → List α → List α
  | [], l => l
  | x :: xs, l => rems lt xs (rem lt x l)
noncomputable def inss (lt : α → α → Prop) : List α → List α → List α
  | [], l => l
  | x :: xs, l => inss lt xs (ins lt x l)
theorem adj_rems (o : Ord4 lt eq) : ∀ (xs l : List α), Adj lt l → Adj lt (rems lt xs l)
  | [], l, h => h
  | x :: xs, l, h => adj_rems o xs _ (adj_rem o h)
theorem adj_inss (o : Ord4 lt eq) : ∀ (xs l : List α), Adj lt l → Adj lt (inss lt xs l)
  | [], l, h => h
  | x :: xs, l, h => adj_inss o xs _ (adj_ins o h)
theorem mem_rems (o : Ord4 lt eq) : ∀ (xs l : List α) (y : α), y ∈ rems lt xs l ↔ y ∈ l ∧ ∀ x ∈ xs, ¬ eq y x
  | [], l, y => by simp [rems]
  | x :: xs, l, y => by
    show y ∈ rems lt xs (rem lt x l) ↔ _
    rw [mem_rems o xs _ y, mem_rem, o.ne_iff]
    simp only [List.forall_mem_cons, and_assoc]
theorem mem_inss (o : Ord4 lt eq) : ∀ (xs l : List α) (y : α), xs.Pairwise (fun a b => ¬ eq a b) → (y ∈ inss lt xs l ↔ y ∈ xs ∨ (y ∈ l ∧ ∀ x ∈ xs, ¬ eq y x))
  | [], l, y, _ => by simp [inss]
  | x :: xs, l, y, hp => by
    rw [List.pairwise_cons] at hp
    show y ∈ inss lt xs (ins lt x l) ↔ _
    rw [mem_inss o xs _ y hp.2, mem_ins, o.ne_iff, List.mem_cons]
    constructor
    · rintro (h | ⟨h | ⟨h, k⟩, h2⟩)
      · exact .inl (.inr h)
      · exact .inl (.inl h)
      · exact .inr ⟨h, List.forall_mem_cons.2 ⟨k, h2⟩⟩
    · rintro ((rfl | h) | ⟨h, k⟩)
      · exact .inr ⟨.inl rfl, hp.1⟩
      · exact .inl h
      · obtain ⟨k1, k2⟩ := List.forall_mem_cons.1 k
        exact .inr ⟨.inr ⟨h, k1⟩, k2⟩
theorem pw_ne (o : Ord4 lt eq) {l : List α} (h : Adj lt l) (p : α → Bool) : (l.filter p).Pairwise (fun a b => ¬ eq a b) :=
  ((pw_of o.toOrd3 h).imp (fun h e => o.ne e h)).filter _
theorem final_eq (o : Ord4 lt eq) {a b : List α} {p q : α → Bool} (ha : Adj lt a) (hb : Adj lt b) (hp : ∀ x, p x = true ↔ ¬ x ∈ a) (hq : ∀ x, q x = true ↔ ¬ ∃ y ∈ b, eq y x) : inss lt (b.filter p) (rems lt (a.filter q) a) = b := by
  refine pw_ext o.toOrd3 (pw_of o.toOrd3 (adj_inss o _ _ (adj_rems o _ _ ha))) (pw_of o.toOrd3 hb) fun y => ?_
  rw [mem_inss o _ _ y (pw_ne o hb p), mem_rems o, List.mem_filter, hp]
  constructor
  · rintro (⟨h, _⟩ | ⟨⟨h1, h2⟩, h3⟩)
    · exact h
    · have hz : ∃ z ∈ b, eq z y := Classical.not_not.1 fun k => h2 y (List.mem_filter.2 ⟨h1, (hq y).2 k⟩) (o.rf y)
      obtain ⟨z, hz, e⟩ := hz
      by_cases hza : z ∈ a
      · rw [← pw_uniq o.toOrd3 (pw_of o.toOrd3 ha) (fun _ _ h => o.sy h) hza h1 e]; exact hz
      · exact absurd (o.sy e) (h3 z (List.mem_filter.2 ⟨hz, (hp z).2 hza⟩))
  · intro hy
    by_cases hya : y ∈ a
    · refine .inr ⟨⟨hya, fun x hx e => ?_⟩, fun x hx e => ?_⟩
      · exact (hq x).1 (List.mem_filter.1 hx).2 ⟨y, hy, e⟩
      · obtain ⟨h1, h2⟩ := List.mem_filter.1 hx
        have := pw_uniq o.toOrd3 (pw_of o.toOrd3 hb) (fun _ _ h => o.sy h) hy h1 e
        rw [this] at hya
        exact (hp x).1 h2 hya
    · exact .inl ⟨hy, hya⟩
theorem keep_out (o : Ord4 lt eq) {c : α} {xs l : List α} (h1 : ∀ x ∈ xs, ¬ eq c x) (h2 : ∀ x ∈ xs, ∃ y ∈ l, eq y x) (tr : ∀ {a b c : α}, eq a b → eq a c → eq b c) : ∀ x ∈ xs, ∃ y ∈ rem lt c l, eq y x := by
  intro x hx
  obtain ⟨y, hy, e⟩ := h2 x hx
  exact ⟨y, mem_rem.2 ⟨hy, o.ne_iff.2 fun k => h1 x hx (tr k e)⟩, e⟩
theorem keep_in (o : Ord4 lt eq) {c : α} {xs l : List α} (h1 : ∀ x ∈ xs, ¬ eq c x) (h2 : ∀ x ∈ xs, ¬ x ∈ l) : ∀ x ∈ xs, ¬ x ∈ ins lt c l := by
  intro x hx h
  rcases mem_ins.1 h with rfl | ⟨h, _⟩
  · exact h1 x hx (o.rf x)
  · exact h2 x hx h
end
theorem not_odd1 {nm : ByteArray} : ¬ OddD ⟨1, nm, noT, 0⟩ := by rintro (⟨_, k⟩ | ⟨_, k⟩) <;> exact k rfl
theorem not_odd2 {nm : ByteArray} {n : Int} : ¬ OddD ⟨2, nm, noT, n⟩ := by rintro (⟨k, _⟩ | ⟨_, k⟩) <;> exact k rfl
theorem not_odd7 {nm : ByteArray} : ¬ OddD ⟨7, nm, noT, 0⟩ := by rintro (⟨_, k⟩ | ⟨_, k⟩) <;> exact k rfl
theorem not_oddW {k : Int} {nm tx : ByteArray} (h : k ≠ 1 ∧ k ≠ 2 ∧ k ≠ 7) : ¬ OddD ⟨k, nm, tx, 0⟩ := by
  rintro (⟨_, e⟩ | ⟨e | e | e, _⟩)
  · exact e rfl
  · exact h.1 e
  · exact h.2.1 e
  · exact h.2.2 e
theorem apply_cons {s s' : StateV} {d : DeltaV} {l : List DeltaV} (h : stepD s d = some s') : applyD s (d :: l) = applyD s' l := by
  show (stepD s d).bind _ = _
  rw [h]; rfl
theorem apply_couts : ∀ (xs : List CountV) (s : StateV), (∀ x ∈ xs, ∃ y ∈ s.counts, eqCn y x) → xs.Pairwise (fun a b => ¬ eqCn a b) → applyD s (xs.map cOutD) = some { s with counts := rems ltC xs s.counts }
  | [], s, _, _ => rfl
  | c :: xs, s, h, hp => by
    rw [List.pairwise_cons] at hp
    obtain ⟨h1, h2⟩ := List.forall_mem_cons.1 h
    have hs : stepD s (cOutD c) = some { s with counts := rem ltC c s.counts } := (stepD_turn not_odd1).trans (turn1.trans (if_pos h1))
    rw [List.map_cons, apply_cons hs, apply_couts xs _ (keep_out ord4C hp.1 h2 (fun a b => a.symm.trans b)) hp.2]
    rfl
theorem apply_cins : ∀ (xs : List CountV) (s : StateV), (∀ x ∈ xs, ¬ x ∈ s.counts) → xs.Pairwise (fun a b => ¬ eqCn a b) → applyD s (xs.map cInD) = some { s with counts := inss ltC xs s.counts }
  | [], s, _, _ => rfl
  | c :: xs, s, h, hp => by
    rw [List.pairwise_cons] at hp
    obtain ⟨h1, h2⟩ := List.forall_mem_cons.1 h
    have hs : stepD s (cInD c) = some { s with counts := ins ltC c s.counts } := (stepD_turn not_odd2).trans (turn2.trans (if_neg (by rintro ⟨_, k | k⟩; exact absurd k (by decide); exact h1 k)))
    rw [List.map_cons, apply_cons hs, apply_cins xs _ (keep_in ord4C hp.1 h2) hp.2]
    rfl
end Go.AS.C


namespace Go.AS.C
open Go Go.Proofs
set_option linter.unusedVariables false
set_option linter.unusedSimpArgs false
set_option maxRecDepth 10000

/-! What is between two tidy states, applied to the one, makes the other. -/
theorem apply_w3 : ∀ (xs : List WordV) (s : StateV), (∀ x ∈ xs, ∃ y ∈ s.members, y = x) → xs.Pairwise (fun a b => ¬ a = b) → applyD s (xs.map (wordD 3)) = some { s with members := rems ltWd xs s.members }
  | [], s, _, _ => rfl
  | c :: xs, s, h, hp => by
    rw [List.pairwise_cons] at hp
    obtain ⟨h1, h2⟩ := List.forall_mem_cons.1 h
    have hs : stepD s (wordD 3 c) = some { s with members := rem ltWd c s.members } := (stepD_turn (not_oddW (by decide))).trans (turn3.trans (if_pos h1))
    rw [List.map_cons, apply_cons hs, apply_w3 xs _ (keep_out ord4W hp.1 h2 (fun a b => a.symm.trans b)) hp.2]
    rfl
theorem apply_w4 : ∀ (xs : List WordV) (s : StateV), (∀ x ∈ xs, ¬ x ∈ s.members) → xs.Pairwise (fun a b => ¬ a = b) → applyD s (xs.map (wordD 4)) = some { s with members := inss ltWd xs s.members }
  | [], s, _, _ => rfl
  | c :: xs, s, h, hp => by
    rw [List.pairwise_cons] at hp
    obtain ⟨h1, h2⟩ := List.forall_mem_cons.1 h
    have hs : stepD s (wordD 4 c) = some { s with members := ins ltWd c s.members } := (stepD_turn (not_oddW (by decide))).trans (turn4.trans (if_neg (by rintro ⟨⟨y, hy, e⟩, _⟩; have e' : y = c := e; rw [e'] at hy; exact h1 hy)))
    rw [List.map_cons, apply_cons hs, apply_w4 xs _ (keep_in ord4W hp.1 h2) hp.2]
    rfl
theorem apply_w5 : ∀ (xs : List WordV) (s : StateV), (∀ x ∈ xs, ∃ y ∈ s.values, y = x) → xs.Pairwise (fun a b => ¬ a = b) → applyD s (xs.map (wordD 5)) = some { s with values := rems ltWd xs s.values }
  | [], s, _, _ => rfl
  | c :: xs, s, h, hp => by
    rw [List.pairwise_cons] at hp
    obtain ⟨h1, h2⟩ := List.forall_mem_cons.1 h
    have hs : stepD s (wordD 5 c) = some { s with values := rem ltWd c s.values } := (stepD_turn (not_oddW (by decide))).trans (turn5.trans (if_pos h1))
    rw [List.map_cons, apply_cons hs, apply_w5 xs _ (keep_out ord4W hp.1 h2 (fun a b => a.symm.trans b)) hp.2]
    rfl
theorem apply_w6 : ∀ (xs : List WordV) (s : StateV), (∀ x ∈ xs, ¬ x ∈ s.values) → xs.Pairwise (fun a b => ¬ a = b) → applyD s (xs.map (wordD 6)) = some { s with values := inss ltWd xs s.values }
  | [], s, _, _ => rfl
  | c :: xs, s, h, hp => by
    rw [List.pairwise_cons] at hp
    obtain ⟨h1, h2⟩ := List.forall_mem_cons.1 h
    have hs : stepD s (wordD 6 c) = some { s with values := ins ltWd c s.values } := (stepD_turn (not_oddW (by decide))).trans (turn6.trans (if_neg (by rintro ⟨⟨y, hy, e⟩, _⟩; have e' : y = c := e; rw [e'] at hy; exact h1 hy)))
    rw [List.map_cons, apply_cons hs, apply_w6 xs _ (keep_in ord4W hp.1 h2) hp.2]
    rfl
theorem apply_names : ∀ (xs : List WordV) (s : StateV), (∀ x ∈ xs, ∃ y ∈ s.lines, eqN y x) → xs.Pairwise (fun a b => ¬ eqN a b) → applyD s (xs.map nameD) = some { s with lines := rems ltN xs s.lines }
  | [], s, _, _ => rfl
  | c :: xs, s, h, hp => by
    rw [List.pairwise_cons] at hp
    obtain ⟨h1, h2⟩ := List.forall_mem_cons.1 h
    have hs : stepD s (nameD c) = some { s with lines := rem ltN c s.lines } := (stepD_turn not_odd7).trans (turn7.trans (if_pos h1))
    rw [List.map_cons, apply_cons hs, apply_names xs _ (keep_out ord4N hp.1 h2 (fun a b => a.symm.trans b)) hp.2]
    rfl
theorem apply_lines : ∀ (xs : List WordV) (s : StateV), (∀ x ∈ xs, ¬ x ∈ s.lines) → xs.Pairwise (fun a b => ¬ eqN a b) → applyD s (xs.map (wordD 8)) = some { s with lines := inss ltN xs s.lines }
  | [], s, _, _ => rfl
  | c :: xs, s, h, hp => by
    rw [List.pairwise_cons] at hp
    obtain ⟨h1, h2⟩ := List.forall_mem_cons.1 h
    have hs : stepD s (wordD 8 c) = some { s with lines := ins ltN c s.lines } := (stepD_turn (not_oddW (by decide))).trans (turn8.trans (if_neg (by rintro ⟨_, k | k⟩; exact absurd k (by decide); exact h1 k)))
    rw [List.map_cons, apply_cons hs, apply_lines xs _ (keep_in ord4N hp.1 h2) hp.2]
    rfl
theorem lackW {b : List WordV} {x : WordV} : notIn b x = true ↔ ¬ ∃ y ∈ b, y = x := by
  rw [notIn_true]
  exact not_congr ⟨fun h => ⟨x, h, rfl⟩, fun ⟨y, hy, e⟩ => e ▸ hy⟩
theorem self_in {α : Type} {eq : α → α → Prop} (rf : ∀ a, eq a a) {l : List α} (p : α → Bool) : ∀ x ∈ l.filter p, ∃ y ∈ l, eq y x := fun x hx => ⟨x, (List.mem_filter.1 hx).1, rf x⟩
theorem not_rems {α : Type} {lt eq : α → α → Prop} (o : Ord4 lt eq) {a b xs : List α} : ∀ x ∈ b.filter (notIn a), ¬ x ∈ rems lt xs a := fun x hx h => notIn_true.1 (List.mem_filter.1 hx).2 ((mem_rems o xs a x).1 h).1
theorem between_back {s t : StateV} (hs : TidyS s) (ht : TidyS t) : applyD s (between s t) = some t := by
  obtain ⟨s1, s2, s3, s4⟩ := hs
  obtain ⟨t1, t2, t3, t4⟩ := ht
  have e1 : inss ltC (t.counts.filter (notIn s.counts)) (rems ltC (s.counts.filter (lackC t.counts)) s.counts) = t.counts := final_eq ord4C s1 t1 (fun x => notIn_true) (fun x => lackC_true)
  have e2 : inss ltWd (t.members.filter (notIn s.members)) (rems ltWd (s.members.filter (notIn t.members)) s.members) = t.members := final_eq ord4W s2 t2 (fun x => notIn_true) (fun x => lackW)
  have e3 : inss ltWd (t.values.filter (notIn s.values)) (rems ltWd (s.values.filter (notIn t.values)) s.values) = t.values := final_eq ord4W s3 t3 (fun x => notIn_true) (fun x => lackW)
  have e4 : inss ltN (t.lines.filter (notIn s.lines)) (rems ltN (s.lines.filter (lackN t.lines)) s.lines) = t.lines := final_eq ord4N s4 t4 (fun x => notIn_true) (fun x => lackN_true)
  have hb : between s t = (s.counts.filter (lackC t.counts)).map cOutD ++ ((t.counts.filter (notIn s.counts)).map cInD ++ ((s.members.filter (notIn t.members)).map (wordD 3) ++ ((t.members.filter (notIn s.members)).map (wordD 4) ++ ((s.values.filter (notIn t.values)).map (wordD 5) ++ ((t.values.filter (notIn s.values)).map (wordD 6) ++ ((s.lines.filter (lackN t.lines)).map nameD ++ (t.lines.filter (notIn s.lines)).map (wordD 8))))))) := by
    unfold between wordsD
    simp only [List.flatten_cons, List.flatten_nil, List.append_nil, List.append_assoc]
  rw [hb]
  rw [applyD_append, apply_couts _ s (self_in ordC.rf _) (pw_ne ord4C s1 _), Option.bind_some]
  rw [applyD_append, apply_cins _ _ (not_rems ord4C) (pw_ne ord4C t1 _), Option.bind_some]
  dsimp only
  rw [e1]
  rw [applyD_append, apply_w3 _ ⟨t.counts, s.members, s.values, s.lines⟩ (self_in (eq := fun a b => a = b) ordW.rf _) (pw_ne ord4W s2 _), Option.bind_some]
  dsimp only
  rw [applyD_append, apply_w4 _ ⟨t.counts, rems ltWd (s.members.filter (notIn t.members)) s.members, s.values, s.lines⟩ (not_rems ord4W) (pw_ne ord4W t2 _), Option.bind_some]
  dsimp only
  rw [e2]
  rw [applyD_append, apply_w5 _ ⟨t.counts, t.members, s.values, s.lines⟩ (self_in (eq := fun a b => a = b) ordW.rf _) (pw_ne ord4W s3 _), Option.bind_some]
  dsimp only
  rw [applyD_append, apply_w6 _ ⟨t.counts, t.members, rems ltWd (s.values.filter (notIn t.values)) s.values, s.lines⟩ (not_rems ord4W) (pw_ne ord4W t3 _), Option.bind_some]
  dsimp only
  rw [e3]
  rw [applyD_append, apply_names _ ⟨t.counts, t.members, t.values, s.lines⟩ (self_in ordN.rf _) (pw_ne ord4N s4 _), Option.bind_some]
  dsimp only
  rw [apply_lines _ ⟨t.counts, t.members, t.values, rems ltN (s.lines.filter (lackN t.lines)) s.lines⟩ (not_rems ord4N) (pw_ne ord4N t4 _)]
  dsimp only
  rw [e4]
end Go.AS.C


namespace Go.AS.C
open Go Go.Proofs
set_option linter.unusedVariables false
set_option linter.unusedSimpArgs false
set_option maxRecDepth 10000

/-! DiffBack. -/
theorem finw_between {s t : StateV} (hs : FinS s) (ht : FinS t) : ∀ d ∈ between s t, FinC ⟨d.name, d.n⟩ ∧ FinW ⟨d.name, d.text⟩ := by
  intro d hd
  obtain ⟨⟨_, sc⟩, ⟨_, sm⟩, ⟨_, sv⟩, _, sl⟩ := hs
  obtain ⟨⟨_, tc⟩, ⟨_, tm⟩, ⟨_, tv⟩, _, tl⟩ := ht
  have z : (0 : Nat) ≤ 200 := Nat.zero_le _
  have z0 : I64 0 := ⟨by decide, by decide⟩
  rcases mem_between hd with ⟨c, hc, hd⟩ | ⟨w, k, hw, k1, k2, hd⟩
  · have fc : FinC c := hc.elim (sc c) (tc c)
    rcases hd with rfl | rfl
    · exact ⟨⟨fc.1, z0⟩, fc.1, z⟩
    · exact ⟨fc, fc.1, z⟩
  · have fw : FinW w := hw.elim (sm w) fun h => h.elim (tm w) fun h => h.elim (sv w) fun h => h.elim (tv w) fun h => h.elim (sl w) (tl w)
    rcases hd with rfl | rfl
    · exact ⟨⟨fw.1, z0⟩, fw⟩
    · exact ⟨⟨fw.1, z0⟩, fw.1, z⟩
set_option maxHeartbeats 4000000 in
theorem DiffBack_spec {A : AH} {x y : Value} {s t : StateV} {Q : Value → AH → Prop} (hx : StateA A x s) (hy : StateA A y t) (rs : RangeS s) (rt : RangeS t) (hq : ∀ A', Q (.bool true) A') : ACalls 0 Try.prog chantrylaw41_DiffBack [x, y] Q A := by
  have hx' := hx
  have hy' := hy
  obtain ⟨c, m, v, l, rfl, hc, hm, hv, hl⟩ := hx
  obtain ⟨c', m', v', l', rfl, hc', hm', hv', hl'⟩ := hy
  refine ACalls.of_fits mixed fits_chantrylaw41_DiffBack rfl ?_
  unfold ic_chantrylaw41_DiffBack
  have i0 : initA [.agg #[c, m, v, l], .agg #[c', m', v', l']] 0 = .agg #[c, m, v, l] := rfl
  have i1 : initA [.agg #[c, m, v, l], .agg #[c', m', v', l']] 1 = .agg #[c', m', v', l'] := rfl
  generalize initA [.agg #[c, m, v, l], .agg #[c', m', v', l']] = a at i0 i1
  have oc := (Sl.one1 hc).2
  have om := (Sl.one1 hm).2
  have ov := (Sl.one1 hv).2
  have ol := (Sl.one1 hl).2
  have oc' := (Sl.one1 hc').2
  have om' := (Sl.one1 hm').2
  have ov' := (Sl.one1 hv').2
  have ol' := (Sl.one1 hl').2
  refine W_mid (fun a B => B = A ++ [.row [c, m, v, l] .own 0 true] ++ [.row [c', m', v', l'] .own 0 true] ∧ a 2 = ptr A.length ∧ a 3 = ptr (A.length + 1)) ?_ ?_
  · simp (maxSteps := 1000000) (disch := omega) only [stepS, reduceIte, Nat.reduceBEq, Nat.reduceEqDiff, tupleOf, stepT, stepX, heapR, lensR, Nat.reduceAdd, Nat.reduceLeDiff, i0, i1, oc, om, ov, ol, oc', om', ov', ol']
  clear i0 i1
  rintro a B0 ⟨hB, g2, g3⟩
  have k0 : Le A B0 := by rw [hB]; exact (Le.push _ _).trans (.push _ _)
  have r1 : rowAt B0 A.length = some ([c, m, v, l], .own, 0, true) := by rw [hB]; exact (Le.push _ _).row (rowAt_own (get_last _ _))
  have r2 : rowAt B0 (A.length + 1) = some ([c', m', v', l'], .own, 0, true) := by
    have := rowAt_own (get_last (A ++ [Blk.row [c, m, v, l] .own 0 true]) (.row [c', m', v', l'] .own 0 true))
    rw [hB]; simpa using this
  have hbl : B0.length = A.length + 2 := by rw [hB]; simp
  clear hB
  simp (maxSteps := 1000000) (disch := omega) only [stepS, reduceIte, Nat.reduceBEq, Nat.reduceEqDiff, tupleOf, stepT, stepX, heapR, lensR, Nat.reduceAdd, Nat.reduceLeDiff, g2, g3, r1, r2]
  refine large_spec (hx'.le k0) fun b1 h1 => ?_
  cases b1 with
  | true =>
    simp (maxSteps := 1000000) (disch := omega) only [stepS, reduceIte, Nat.reduceBEq, Nat.reduceEqDiff, tupleOf, stepT, stepX, heapR, lensR, Nat.reduceAdd, Nat.reduceLeDiff, g2, g3, r1, r2]
    refine wake ?_
    simp (maxSteps := 1000000) (disch := omega) only [stepS, reduceIte, Nat.reduceBEq, Nat.reduceEqDiff, tupleOf, stepT, stepX, heapR, lensR, Nat.reduceAdd, Nat.reduceLeDiff]
    exact hq _
  | false =>
  simp (maxSteps := 1000000) (disch := omega) only [stepS, reduceIte, Nat.reduceBEq, Nat.reduceEqDiff, tupleOf, stepT, stepX, heapR, lensR, Nat.reduceAdd, Nat.reduceLeDiff, g2, g3, r1, r2]
  refine large_spec (hy'.le k0) fun b2 h2 => ?_
  cases b2 with
  | true =>
    simp (maxSteps := 1000000) (disch := omega) only [stepS, reduceIte, Nat.reduceBEq, Nat.reduceEqDiff, tupleOf, stepT, stepX, heapR, lensR, Nat.reduceAdd, Nat.reduceLeDiff, g2, g3, r1, r2]
    refine wake ?_
    simp (maxSteps := 1000000) (disch := omega) only [stepS, reduceIte, Nat.reduceBEq, Nat.reduceEqDiff, tupleOf, stepT, stepX, heapR, lensR, Nat.reduceAdd, Nat.reduceLeDiff]
    exact hq _
  | false =>
  obtain ⟨fs, ws⟩ := fin_of (h1 rfl) rs
  obtain ⟨ft, wt⟩ := fin_of (h2 rfl) rt
  have bs := big_of (h1 rfl) rs
  have bt := big_of (h2 rfl) rt
  simp (maxSteps := 1000000) (disch := omega) only [stepS, reduceIte, Nat.reduceBEq, Nat.reduceEqDiff, tupleOf, stepT, stepX, heapR, lensR, Nat.reduceAdd, Nat.reduceLeDiff, g2, g3, r1, r2]
  refine ref41_Tidy_spec (hx'.le k0) fs fun b3 h3 => ?_
  cases b3 with
  | false =>
    simp (maxSteps := 1000000) (disch := omega) only [stepS, reduceIte, Nat.reduceBEq, Nat.reduceEqDiff, tupleOf, stepT, stepX, heapR, lensR, Nat.reduceAdd, Nat.reduceLeDiff, g2, g3, r1, r2]
    refine wake ?_
    simp (maxSteps := 1000000) (disch := omega) only [stepS, reduceIte, Nat.reduceBEq, Nat.reduceEqDiff, tupleOf, stepT, stepX, heapR, lensR, Nat.reduceAdd, Nat.reduceLeDiff]
    exact hq _
  | true =>
  simp (maxSteps := 1000000) (disch := omega) only [stepS, reduceIte, Nat.reduceBEq, Nat.reduceEqDiff, tupleOf, stepT, stepX, heapR, lensR, Nat.reduceAdd, Nat.reduceLeDiff, g2, g3, r1, r2]
  refine ref41_Tidy_spec (hy'.le k0) ft fun b4 h4 => ?_
  cases b4 with
  | false =>
    simp (maxSteps := 1000000) (disch := omega) only [stepS, reduceIte, Nat.reduceBEq, Nat.reduceEqDiff, tupleOf, stepT, stepX, heapR, lensR, Nat.reduceAdd, Nat.reduceLeDiff, g2, g3, r1, r2]
    refine wake ?_
    simp (maxSteps := 1000000) (disch := omega) only [stepS, reduceIte, Nat.reduceBEq, Nat.reduceEqDiff, tupleOf, stepT, stepX, heapR, lensR, Nat.reduceAdd, Nat.reduceLeDiff]
    exact hq _
  | true =>
  have ts := h3.1 rfl
  have tt := h4.1 rfl
  have n1 : 20 + (between s t).length ≤ 2 ^ 25 := by have := between_len ws wt; omega
  have n2 : 20 + (between t s).length ≤ 2 ^ 25 := by have := between_len wt ws; omega
  simp (maxSteps := 1000000) (disch := omega) only [stepS, reduceIte, Nat.reduceBEq, Nat.reduceEqDiff, tupleOf, stepT, stepX, heapR, lensR, Nat.reduceAdd, Nat.reduceLeDiff, g2, g3, r1, r2]
  refine diff_Between_spec (hx'.le k0) (hy'.le k0) fs ft ws wt (fun _ _ u A1 e1 q1 => ?_) (fun h => absurd ⟨ts, tt⟩ h)
  have r1 := e1.row r1
  have r2 := e1.row r2
  have k1 := k0.trans e1
  simp (maxSteps := 1000000) (disch := omega) only [stepS, reduceIte, Nat.reduceBEq, Nat.reduceEqDiff, tupleOf, stepT, stepX, heapR, lensR, Nat.reduceAdd, Nat.reduceLeDiff, g2, g3, r1, r2]
  refine diff_Between_spec (hy'.le k1) (hx'.le k1) ft fs wt ws (fun _ _ w A2 e2 q2 => ?_) (fun h => absurd ⟨tt, ts⟩ h)
  have r1 := e2.row r1
  have r2 := e2.row r2
  have k2 := k1.trans e2
  simp (maxSteps := 1000000) (disch := omega) only [stepS, reduceIte, Nat.reduceBEq, Nat.reduceEqDiff, tupleOf, stepT, stepX, heapR, lensR, Nat.reduceAdd, Nat.reduceLeDiff, g2, g3, r1, r2]
  refine diff_Apply_spec (hx'.le k2) (q1.le e2) bs n1 (finw_between fs ft) fun y A3 e3 hz => ?_
  rw [applyR_0 ts (between_back ts tt)] at hz ⊢
  dsimp only at hz ⊢
  have hz0 := hz
  obtain ⟨y0, y1, y2, y3, rfl, u0, u1, u2, u3⟩ := hz
  have p0 := (Sl.one1 u0).2
  have p1 := (Sl.one1 u1).2
  have p2 := (Sl.one1 u2).2
  have p3 := (Sl.one1 u3).2
  obtain ⟨A4, hA4⟩ : ∃ X, X = A3 ++ [Blk.row [y0, y1, y2, y3] .own 0 true] := ⟨_, rfl⟩
  have hset1 : (A3 ++ [Blk.row [nl, nl, nl, nl] .own 0 true]).set A3.length (.row [y0, y1, y2, y3] .own 0 true) = A4 := by rw [hA4]; simp
  have e4 : Le A3 A4 := by rw [hA4]; exact .push _ _
  have s1 : rowAt A4 A3.length = some ([y0, y1, y2, y3], .own, 0, true) := by rw [hA4]; exact rowAt_own (get_last _ _)
  clear hA4
  have r1' := e3.row r1
  have r2' := e3.row r2
  simp (maxSteps := 1000000) (disch := omega) only [stepS, reduceIte, Nat.reduceBEq, Nat.reduceEqDiff, tupleOf, stepT, stepX, heapR, lensR, Nat.reduceAdd, Nat.reduceLeDiff, g2, g3, r1', r2', p0, p1, p2, p3, hset1, s1]
  refine diff_Apply_spec (hz0.le e4) (q2.le (e3.trans e4)) bt n2 (finw_between ft fs) fun y A5 e5 hw => ?_
  rw [applyR_0 tt (between_back tt ts)] at hw ⊢
  dsimp only at hw ⊢
  have hw0 := hw
  obtain ⟨z0, z1, z2, z3, rfl, w0, w1, w2, w3⟩ := hw
  have q0 := (Sl.one1 w0).2
  have qq1 := (Sl.one1 w1).2
  have qq2 := (Sl.one1 w2).2
  have q3 := (Sl.one1 w3).2
  obtain ⟨A6, hA6⟩ : ∃ X, X = A5 ++ [Blk.row [z0, z1, z2, z3] .own 0 true] := ⟨_, rfl⟩
  have hset2 : (A5 ++ [Blk.row [nl, nl, nl, nl] .own 0 true]).set A5.length (.row [z0, z1, z2, z3] .own 0 true) = A6 := by rw [hA6]; simp
  have e6 : Le A5 A6 := by rw [hA6]; exact .push _ _
  have s2 : rowAt A6 A5.length = some ([z0, z1, z2, z3], .own, 0, true) := by rw [hA6]; exact rowAt_own (get_last _ _)
  clear hA6
  have s1' := (e5.trans e6).row s1
  have e36 := (e4.trans e5).trans e6
  have r1'' := e36.row r1'
  have r2'' := e36.row r2'
  have kk := (k2.trans e3).trans e36
  simp (maxSteps := 1000000) (disch := omega) only [stepS, reduceIte, Nat.reduceBEq, Nat.reduceEqDiff, tupleOf, stepT, stepX, heapR, lensR, Nat.reduceAdd, Nat.reduceLeDiff, g2, g3, r1'', r2'', q0, qq1, qq2, q3, hset2, s1', s2]
  refine ref23_Same_spec (hz0.le e36) (hy'.le kk) ft ft fun b hb => ?_
  obtain rfl : b = true := hb.2 rfl
  simp (maxSteps := 1000000) (disch := omega) only [stepS, reduceIte, Nat.reduceBEq, Nat.reduceEqDiff, tupleOf, stepT, stepX, heapR, lensR, Nat.reduceAdd, Nat.reduceLeDiff, g2, g3, r1'', r2'', s1', s2]
  refine ref23_Same_spec (hw0.le e6) (hx'.le kk) fs fs fun b hb => ?_
  obtain rfl : b = true := hb.2 rfl
  simp (maxSteps := 1000000) (disch := omega) only [stepS, reduceIte, Nat.reduceBEq, Nat.reduceEqDiff, tupleOf, stepT, stepX, heapR, lensR, Nat.reduceAdd, Nat.reduceLeDiff, g2, g3]
  refine wake ?_
  simp (maxSteps := 1000000) (disch := omega) only [stepS, reduceIte, Nat.reduceBEq, Nat.reduceEqDiff, tupleOf, stepT, stepX, heapR, lensR, Nat.reduceAdd, Nat.reduceLeDiff]
  exact hq _
theorem DiffBack_law {A : AH} {v0 v1 : Value} (g0 : GoodV Try.prog A 9 25 v0) (g1 : GoodV Try.prog A 9 25 v1) : ACalls 0 Try.prog chantrylaw41_DiffBack [v0, v1] (fun v _ => v = .bool true) A := by
  obtain ⟨s, hs, rs⟩ := law_state g0
  obtain ⟨t, ht, rt⟩ := law_state g1
  exact DiffBack_spec hs ht rs rt fun _ => rfl
end Go.AS.C
