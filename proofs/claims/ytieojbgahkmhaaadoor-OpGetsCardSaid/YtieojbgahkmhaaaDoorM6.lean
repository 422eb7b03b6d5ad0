/- Lemmas for the proof of a given statement; no conditions. -/
import Derived.Test.YtieojbgahkmhaaaDoorM5
set_option maxHeartbeats 1000000

namespace Go.AS.C
open Go Go.Proofs
set_option linter.unusedVariables false
set_option linter.unusedSimpArgs false
set_option maxRecDepth 10000

/-! op.Get. -/
theorem unfixN_le (bs : List UInt8) : (unfixN bs).1 ≤ 2147483647 := by
  unfold unfixN
  split
  · simp
  · split
    · assumption
    · simp
theorem byteC_le (st : CurS) : (byteC st).2 ≤ 255 := by
  unfold byteC
  split
  · simp
  · simp
  · rename_i b r; have := b.toNat_lt; simp only; omega
theorem op_number_spec {A A0 : AH} {i : Nat} {st : CurS} {Q : Value → AH → Prop} (hl : Le A0 A) (hc : CurA A0.length A i st)
    (hq : ∀ A', Le A0 A' → Keep A i A' → CurA A0.length A' i (numS st).1 → Q (.tuple #[ii (numS st).2.1, .bool (numS st).2.2]) A') : ACalls 1 Tryd.prog op_number [ptr i] Q A := by
  refine ACalls.of_fits mixed fits_op_number rfl ?_
  unfold ic_op_number
  have i0 : initA [ptr i] 0 = ptr i := rfl
  generalize initA [ptr i] = a at i0
  simp (maxSteps := 1000000) (disch := omega) only [stepS, reduceIte, Nat.reduceBEq, Nat.reduceEqDiff, tupleOf, stepT, i0]
  refine cur_Byte_spec hl hc fun A1 k1 p1 c1 => ?_
  simp (maxSteps := 1000000) (disch := omega) only [stepS, reduceIte, Nat.reduceBEq, Nat.reduceEqDiff, tupleOf, stepT, i0]
  refine cur_Take_spec (n := 4) k1 c1 fun A2 v k2 p2 c2 o2 => ?_
  simp (maxSteps := 1000000) (disch := omega) only [stepS, reduceIte, Nat.reduceBEq, Nat.reduceEqDiff, tupleOf, stepT, i0]
  refine num_Unfix_spec o2.byt ?_
  have hu := unfixN_le (takeC (byteC st).1 4).2
  have hs := byteC_le st
  have hres : ∀ n b, (numS st).2 = (n, b) → Q (.tuple #[ii n, .bool b]) A2 := fun n b h => by
    have := hq A2 k2 (p1.trans p2) c2
    rw [h] at this
    exact this
  unfold numS at hres
  simp only at hres
  generalize (takeC (byteC st).1 4).2 = t at hu hres ⊢
  generalize (byteC st).2 = s at hs hres ⊢
  by_cases h1 : s > 1
  · simp (maxSteps := 1000000) (disch := omega) only [stepS, reduceIte, Nat.reduceBEq, Nat.reduceEqDiff, tupleOf, stepT, i0]
    exact hres _ _ (if_pos (.inl (by omega)))
  · by_cases h2 : s = 1
    · by_cases h3 : (unfixN t).1 = 0
      · simp (maxSteps := 1000000) (disch := omega) only [stepS, reduceIte, Nat.reduceBEq, Nat.reduceEqDiff, tupleOf, stepT, i0]
        exact hres _ _ (if_pos (.inr ⟨h2, h3⟩))
      · subst h2
        have m1 : binA .mul (.int .i64 2) (.int .i64 ((1 : Nat) : Int)) = some (.int .i64 2) := rfl
        have m2 : binA .sub (.int .i64 1) (.int .i64 2) = some (.int .i64 (-1)) := rfl
        have m3 : binA .mul (ii ((unfixN t).1 : Nat)) (.int .i64 (-1)) = some (ii (((unfixN t).1 : Int) * (1 - 2 * ((1 : Nat) : Int)))) := mulI _ _ (by omega) (by omega)
        simp (maxSteps := 1000000) (disch := omega) only [stepS, reduceIte, Nat.reduceBEq, Nat.reduceEqDiff, tupleOf, stepT, i0, m1, m2, m3]
        rw [show (decide (((unfixN t).2 : Int) = 0)) = decide ((unfixN t).2 = 0) by rw [decide_eq_decide]; omega]
        exact hres _ _ (if_neg (by omega))
    · obtain rfl : s = 0 := by omega
      have m1 : binA .mul (.int .i64 2) (.int .i64 ((0 : Nat) : Int)) = some (.int .i64 0) := rfl
      have m2 : binA .sub (.int .i64 1) (.int .i64 0) = some (.int .i64 1) := rfl
      have m3 : binA .mul (ii ((unfixN t).1 : Nat)) (.int .i64 1) = some (ii (((unfixN t).1 : Int) * (1 - 2 * ((0 : Nat) : Int)))) := mulI _ _ (by omega) (by omega)
      simp (maxSteps := 1000000) (disch := omega) only [stepS, reduceIte, Nat.reduceBEq, Nat.reduceEqDiff, tupleOf, stepT, i0, m1, m2, m3]
      rw [show (decide (((unfixN t).2 : Int) = 0)) = decide ((unfixN t).2 = 0) by rw [decide_eq_decide]; omega]
      exact hres _ _ (if_neg (by omega))
theorem op_place_spec {A A0 : AH} {i : Nat} {k : Int} {st : CurS} {Q : Value → AH → Prop} (hl : Le A0 A) (hc : CurA A0.length A i st)
    (hq : ∀ A', Le A0 A' → Keep A i A' → CurA A0.length A' i (plS k st).1 → Q (.tuple #[.string (bA (plS k st).2.1), .bool (plS k st).2.2]) A') : ACalls 1 Tryd.prog op_place [ptr i, ii k] Q A := by
  refine ACalls.of_fits mixed fits_op_place rfl ?_
  unfold ic_op_place
  have i0 : initA [ptr i, ii k] 0 = ptr i := rfl
  have i1 : initA [ptr i, ii k] 1 = ii k := rfl
  generalize initA [ptr i, ii k] = a at i0 i1
  unfold plS at hq
  by_cases h5 : k = 5
  · rw [if_pos h5] at hq
    simp (maxSteps := 1000000) (disch := omega) only [stepS, reduceIte, Nat.reduceBEq, Nat.reduceEqDiff, tupleOf, stepT, i0, i1]
    refine cur_Byte_spec hl hc fun A1 k1 p1 c1 => ?_
    by_cases h0 : (byteC st).2 = 0
    · rw [if_pos h0] at hq
      simp (maxSteps := 1000000) (disch := omega) only [stepS, reduceIte, Nat.reduceBEq, Nat.reduceEqDiff, tupleOf, stepT, i0, i1]
      exact hq _ k1 p1 c1
    · rw [if_neg h0] at hq
      by_cases h1 : (byteC st).2 = 1
      · rw [if_pos h1] at hq
        simp (maxSteps := 1000000) (disch := omega) only [stepS, reduceIte, Nat.reduceBEq, Nat.reduceEqDiff, tupleOf, stepT, i0, i1]
        refine cur_Take_spec (n := 32) k1 c1 fun A2 v k2 p2 c2 o2 => ?_
        simp (maxSteps := 1000000) (disch := omega) only [stepS, reduceIte, Nat.reduceBEq, Nat.reduceEqDiff, tupleOf, stepT, i0, i1, o2.byt.str]
        exact hq _ k2 (p1.trans p2) c2
      · rw [if_neg h1] at hq
        simp (maxSteps := 1000000) (disch := omega) only [stepS, reduceIte, Nat.reduceBEq, Nat.reduceEqDiff, tupleOf, stepT, i0, i1]
        exact hq _ k1 p1 c1
  · rw [if_neg h5] at hq
    simp (maxSteps := 1000000) (disch := omega) only [stepS, reduceIte, Nat.reduceBEq, Nat.reduceEqDiff, tupleOf, stepT, i0, i1]
    refine cur_Take_spec (n := 32) hl hc fun A2 v k2 p2 c2 o2 => ?_
    simp (maxSteps := 1000000) (disch := omega) only [stepS, reduceIte, Nat.reduceBEq, Nat.reduceEqDiff, tupleOf, stepT, i0, i1, o2.byt.str]
    exact hq _ k2 p2 c2

structure GetH (A B : AH) (z i j : Nat) (st : CurS) (o : OpV) : Prop where
  le : Le A B
  cur : CurA A.length B i st
  rj : rowAt B j = some ([ii o.k, .string o.name, .string o.text, ii o.n, .string o.place], .own, 0, true)
  rz : rowAt B z = some ([.int .i64 0, .string e0, .string e0, .int .i64 0, .string e0], .own, 0, true)
theorem GetH.step {A B C : AH} {z i j : Nat} {st st' : CurS} {o : OpV} (h : GetH A B z i j st o) (hj : j ≠ i) (hz : z ≠ i) (hl : Le A C) (hk : Keep B i C) (hc : CurA A.length C i st') : GetH A C z i j st' o :=
  ⟨hl, hc, rowAt_own (hk.2 _ _ hj (rowAt_get h.rj)), rowAt_own (hk.2 _ _ hz (rowAt_get h.rz))⟩
theorem GetH.put {A B : AH} {z i j : Nat} {st : CurS} {o o' : OpV} (h : GetH A B z i j st o) (hj : j ≠ i) (hz : z ≠ j) (hg : A.length ≤ j) {cs : List Value} (hcs : cs = [ii o'.k, .string o'.name, .string o'.text, ii o'.n, .string o'.place]) : GetH A (B.set j (.row cs .own 0 true)) z i j st o' := by
  subst hcs
  have g := rowAt_get h.rj
  refine ⟨h.le.set hg, h.cur.keep (Keep.set _ _ _) (Ne.symm hj) (fun c hc => ?_), rowAt_own (set_get g), rowAt_own (by rw [List.getElem?_set_ne (Ne.symm hz)]; exact rowAt_get h.rz)⟩
  rw [g] at hc
  obtain rfl := (Option.some.inj hc).symm
  exact ⟨_, _, _, _, rfl, by decide⟩
theorem has_pos {k : Int} (h : hN k = true ∨ hT k = true ∨ hI k = true ∨ hA k = true) : hK k = true ∧ 0 < hasO k := by
  unfold hN hT hI hA at h
  simp only [decide_eq_true_eq] at h
  have hk : hK k = true := by unfold hK; rw [decide_eq_true_eq]; omega
  refine ⟨hk, ?_⟩
  rcases opKind hk with rfl | rfl | rfl | rfl | rfl | rfl | rfl <;> first | decide | omega
theorem has_kind {k : Int} (h : 0 < hasO k) : hK k = true := by
  unfold hK
  rw [decide_eq_true_eq]
  unfold hasO at h
  by_cases h1 : 1 ≤ k ∧ k ≤ 7
  · exact h1
  · rw [if_neg (by omega), if_neg (by omega), if_neg (by omega), if_neg (by omega), if_neg (by omega)] at h
    omega
theorem op_Get_spec {A : AH} {v : Value} {bs : List UInt8} {Q : Value → AH → Prop} (hv : Byt A v bs) (hl : bs.length ≤ 2 ^ 40) (hq : Q (getOV bs) A) : ACalls 1 Tryd.prog op_Get [v] Q A := by
  refine ACalls.pure1 _ (getOV_flat bs) hq fun Q hq => ?_
  refine ACalls.of_fits mixed fits_op_Get rfl ?_
  unfold ic_op_Get
  have i0 : initA [v] 0 = v := rfl
  generalize initA [v] = a at i0
  have k0 : Le A (A ++ [.row [.int .i64 0, .string e0, .string e0, .int .i64 0, .string e0] .own 0 true]) := .push _ _
  refine W_mid (fun a B => B = A ++ [.row [.int .i64 0, .string e0, .string e0, .int .i64 0, .string e0] .own 0 true] ∧ a 0 = v ∧ a 2 = ptr A.length) ?_ ?_
  · simp (maxSteps := 1000000) (disch := omega) only [stepS, reduceIte, Nat.reduceBEq, Nat.reduceEqDiff, tupleOf, stepT, stepX, heapR, lensR, Nat.reduceAdd, Nat.reduceLeDiff, i0]
    all_goals trivial
  rintro a B ⟨rfl, g0, g2⟩
  refine W_mid (fun a B => ∃ i, a 0 = v ∧ a 2 = ptr A.length ∧ a 5 = ptr i ∧ i ≠ A.length ∧ Le A B ∧ CurA A.length B i (some bs) ∧ rowAt B A.length = some ([.int .i64 0, .string e0, .string e0, .int .i64 0, .string e0], .own, 0, true)) ?_ ?_
  · simp (maxSteps := 1000000) (disch := omega) only [stepS, reduceIte, Nat.reduceBEq, Nat.reduceEqDiff, tupleOf, stepT, stepX, heapR, lensR, Nat.reduceAdd, Nat.reduceLeDiff, g0, g2]
    refine num_From_spec (hv.le k0) hl fun B i k1 c1 => ?_
    simp (maxSteps := 1000000) (disch := omega) only [stepS, reduceIte, Nat.reduceBEq, Nat.reduceEqDiff, tupleOf, stepT, stepX, heapR, lensR, Nat.reduceAdd, Nat.reduceLeDiff, g0, g2]
    refine ⟨i, rfl, ?_, k0.trans k1, ?_, k1.row (by simp (maxSteps := 1000000) (disch := omega) only [stepS, reduceIte, Nat.reduceBEq, Nat.reduceEqDiff, tupleOf, stepT, stepX, heapR, lensR, Nat.reduceAdd, Nat.reduceLeDiff])⟩
    · obtain ⟨w, ⟨h1, _⟩, _⟩ := c1
      simp at h1
      omega
    · obtain ⟨w, ⟨h1, h2⟩, h3⟩ := c1
      exact ⟨w, ⟨by simp at h1; omega, h2⟩, h3⟩
  rintro a B ⟨i, g0, g2, g5, hzi, kB, cB, rz⟩
  generalize hk : (byteC (some bs)).2 = kn
  have hkle : kn ≤ 255 := by rw [← hk]; exact byteC_le _
  generalize hkk : (kn : Int) = k
  generalize hst0 : (byteC (some bs)).1 = st0
  refine W_mid (fun a B => ∃ j, a 0 = v ∧ a 2 = ptr A.length ∧ a 5 = ptr i ∧ a 6 = ptr j ∧ j ≠ i ∧ A.length ≠ j ∧ A.length ≤ j ∧ GetH A B A.length i j st0 ⟨k, e0, e0, 0, e0⟩) ?_ ?_
  · simp (maxSteps := 1000000) (disch := omega) only [stepS, reduceIte, Nat.reduceBEq, Nat.reduceEqDiff, tupleOf, stepT, stepX, heapR, lensR, Nat.reduceAdd, Nat.reduceLeDiff, g0, g2, g5]
    refine cur_Byte_spec kB cB fun C k1 p1 c1 => ?_
    rw [hk, hkk, hst0] at *
    simp (maxSteps := 1000000) (disch := omega) only [stepS, reduceIte, Nat.reduceBEq, Nat.reduceEqDiff, tupleOf, stepT, stepX, heapR, lensR, Nat.reduceAdd, Nat.reduceLeDiff, g0, g2, g5]
    have hi := c1.lt
    have hz := lt_of_get (rowAt_get (rowAt_own (p1.2 _ _ (Ne.symm hzi) (rowAt_get rz))))
    refine ⟨C.length, rfl, by omega, by omega, by omega, ?_, ?_, ?_, ?_⟩
    · (repeat first | exact Le.refl _ | assumption | refine Le.app ?_ _ | refine Le.set ?_ ?_ | omega | (simp only [List.length_append, List.length_singleton, List.length_set]; omega))
    · refine CurA.keep (c1.le (.push _ _)) (Keep.set _ _ _) (by omega) (fun c hc => ?_)
      rw [get_last] at hc
      obtain rfl := (Option.some.inj hc).symm
      exact ⟨_, _, _, _, rfl, by decide⟩
    · simp (maxSteps := 1000000) (disch := omega) only [stepS, reduceIte, Nat.reduceBEq, Nat.reduceEqDiff, tupleOf, stepT, stepX, heapR, lensR, Nat.reduceAdd, Nat.reduceLeDiff]
    · have rz2 := rowAt_own (p1.2 _ _ (Ne.symm hzi) (rowAt_get rz))
      simp (maxSteps := 1000000) (disch := omega) only [stepS, reduceIte, Nat.reduceBEq, Nat.reduceEqDiff, tupleOf, stepT, stepX, heapR, lensR, Nat.reduceAdd, Nat.reduceLeDiff, rz2]
  rintro a B ⟨j, g0, g2, g5, g6, hji, hzj, hlj, hh⟩
  clear kB cB rz
  refine W_mid (fun a B' => B' = B ∧ a 0 = v ∧ a 2 = ptr A.length ∧ a 5 = ptr i ∧ a 6 = ptr j ∧ a 7 = ii (hasO k) ∧ a 8 = .bool true ∧ a 9 = .bool true) ?_ ?_
  · have rj := hh.rj
    simp (maxSteps := 1000000) (disch := omega) only [stepS, reduceIte, Nat.reduceBEq, Nat.reduceEqDiff, tupleOf, stepT, stepX, heapR, lensR, Nat.reduceAdd, Nat.reduceLeDiff, g0, g2, g5, g6, rj]
    refine op_has_spec ?_
    simp (maxSteps := 1000000) (disch := omega) only [stepS, reduceIte, Nat.reduceBEq, Nat.reduceEqDiff, tupleOf, stepT, stepX, heapR, lensR, Nat.reduceAdd, Nat.reduceLeDiff, g0, g2, g5, g6]
  rintro a B ⟨rfl, g0, g2, g5, g6, g7, g8, g9⟩
  generalize hs1 : tIf (hN k) st0 = s1
  refine W_mid (fun a B => GetH A B A.length i j s1.1 ⟨k, bA s1.2, e0, 0, e0⟩ ∧ a 0 = v ∧ a 2 = ptr A.length ∧ a 5 = ptr i ∧ a 6 = ptr j ∧ a 7 = ii (hasO k) ∧ a 8 = .bool true ∧ a 9 = .bool true) ?_ ?_
  · cases hn : hN k with
    | true =>
      obtain ⟨q1, q2⟩ := has_pos (.inl hn)
      have b1 := (and_has q1).1
      rw [hn, if_pos rfl] at b1
      simp (maxSteps := 1000000) (disch := omega) only [stepS, reduceIte, Nat.reduceBEq, Nat.reduceEqDiff, tupleOf, stepT, stepX, heapR, lensR, Nat.reduceAdd, Nat.reduceLeDiff, g0, g2, g5, g6, g7, g8, g9, b1]
      refine cur_Text_spec hh.le hh.cur fun C u k1 p1 c1 o1 => ?_
      have hC := hh.step hji (Ne.symm hzi) k1 p1 c1
      have rj := hC.rj
      simp (maxSteps := 1000000) (disch := omega) only [stepS, reduceIte, Nat.reduceBEq, Nat.reduceEqDiff, tupleOf, stepT, stepX, heapR, lensR, Nat.reduceAdd, Nat.reduceLeDiff, g0, g2, g5, g6, g7, g8, g9, o1.byt.str, rj]
      rw [← hs1, hn]
      exact hC.put hji hzj hlj rfl
    | false =>
      have e : s1 = (st0, []) := by rw [← hs1, hn]; rfl
      rw [e]
      by_cases hp : 0 < hasO k
      · have b1 := (and_has (has_kind hp)).1
        rw [hn, if_neg (by simp)] at b1
        simp (maxSteps := 1000000) (disch := omega) only [stepS, reduceIte, Nat.reduceBEq, Nat.reduceEqDiff, tupleOf, stepT, stepX, heapR, lensR, Nat.reduceAdd, Nat.reduceLeDiff, g0, g2, g5, g6, g7, g8, g9, b1]
        exact hh
      · simp (maxSteps := 1000000) (disch := omega) only [stepS, reduceIte, Nat.reduceBEq, Nat.reduceEqDiff, tupleOf, stepT, stepX, heapR, lensR, Nat.reduceAdd, Nat.reduceLeDiff, g0, g2, g5, g6, g7, g8, g9]
        exact hh
  rintro a B' ⟨hh, g0, g2, g5, g6, g7, g8, g9⟩
  generalize hs2 : tIf (hT k) s1.1 = s2
  refine W_mid (fun a B => GetH A B A.length i j s2.1 ⟨k, bA s1.2, bA s2.2, 0, e0⟩ ∧ a 0 = v ∧ a 2 = ptr A.length ∧ a 5 = ptr i ∧ a 6 = ptr j ∧ a 7 = ii (hasO k) ∧ a 8 = .bool true ∧ a 9 = .bool true) ?_ ?_
  · cases hn : hT k with
    | true =>
      obtain ⟨q1, q2⟩ := has_pos (.inr (.inl hn))
      have b1 := (and_has q1).2.1
      rw [hn, if_pos rfl] at b1
      simp (maxSteps := 1000000) (disch := omega) only [stepS, reduceIte, Nat.reduceBEq, Nat.reduceEqDiff, tupleOf, stepT, stepX, heapR, lensR, Nat.reduceAdd, Nat.reduceLeDiff, g0, g2, g5, g6, g7, g8, g9, b1]
      refine cur_Text_spec hh.le hh.cur fun C u k1 p1 c1 o1 => ?_
      have hC := hh.step hji (Ne.symm hzi) k1 p1 c1
      have rj := hC.rj
      simp (maxSteps := 1000000) (disch := omega) only [stepS, reduceIte, Nat.reduceBEq, Nat.reduceEqDiff, tupleOf, stepT, stepX, heapR, lensR, Nat.reduceAdd, Nat.reduceLeDiff, g0, g2, g5, g6, g7, g8, g9, o1.byt.str, rj]
      rw [← hs2, hn]
      exact hC.put hji hzj hlj rfl
    | false =>
      have e : s2 = (s1.1, []) := by rw [← hs2, hn]; rfl
      rw [e]
      by_cases hp : 0 < hasO k
      · have b1 := (and_has (has_kind hp)).2.1
        rw [hn, if_neg (by simp)] at b1
        simp (maxSteps := 1000000) (disch := omega) only [stepS, reduceIte, Nat.reduceBEq, Nat.reduceEqDiff, tupleOf, stepT, stepX, heapR, lensR, Nat.reduceAdd, Nat.reduceLeDiff, g0, g2, g5, g6, g7, g8, g9, b1]
        exact hh
      · simp (maxSteps := 1000000) (disch := omega) only [stepS, reduceIte, Nat.reduceBEq, Nat.reduceEqDiff, tupleOf, stepT, stepX, heapR, lensR, Nat.reduceAdd, Nat.reduceLeDiff, g0, g2, g5, g6, g7, g8, g9]
        exact hh
  rintro a B ⟨hh, g0, g2, g5, g6, g7, g8, g9⟩
  generalize hs3 : nIf (hI k) s2.1 = s3
  refine W_mid (fun a B => GetH A B A.length i j s3.1 ⟨k, bA s1.2, bA s2.2, s3.2.1, e0⟩ ∧ a 0 = v ∧ a 2 = ptr A.length ∧ a 5 = ptr i ∧ a 6 = ptr j ∧ a 7 = ii (hasO k) ∧ a 8 = .bool s3.2.2 ∧ a 9 = .bool true) ?_ ?_
  · cases hn : hI k with
    | true =>
      obtain ⟨q1, q2⟩ := has_pos (.inr (.inr (.inl hn)))
      have b1 := (and_has q1).2.2.1
      rw [hn, if_pos rfl] at b1
      simp (maxSteps := 1000000) (disch := omega) only [stepS, reduceIte, Nat.reduceBEq, Nat.reduceEqDiff, tupleOf, stepT, stepX, heapR, lensR, Nat.reduceAdd, Nat.reduceLeDiff, g0, g2, g5, g6, g7, g8, g9, b1]
      refine op_number_spec hh.le hh.cur fun C k1 p1 c1 => ?_
      have hC := hh.step hji (Ne.symm hzi) k1 p1 c1
      have rj := hC.rj
      simp (maxSteps := 1000000) (disch := omega) only [stepS, reduceIte, Nat.reduceBEq, Nat.reduceEqDiff, tupleOf, stepT, stepX, heapR, lensR, Nat.reduceAdd, Nat.reduceLeDiff, g0, g2, g5, g6, g7, g8, g9, rj]
      rw [← hs3, hn]
      exact ⟨hC.put hji hzj hlj rfl, rfl⟩
    | false =>
      have e : s3 = (s2.1, 0, true) := by rw [← hs3, hn]; rfl
      rw [e]
      by_cases hp : 0 < hasO k
      · have b1 := (and_has (has_kind hp)).2.2.1
        rw [hn, if_neg (by simp)] at b1
        simp (maxSteps := 1000000) (disch := omega) only [stepS, reduceIte, Nat.reduceBEq, Nat.reduceEqDiff, tupleOf, stepT, stepX, heapR, lensR, Nat.reduceAdd, Nat.reduceLeDiff, g0, g2, g5, g6, g7, g8, g9, b1]
        exact hh
      · simp (maxSteps := 1000000) (disch := omega) only [stepS, reduceIte, Nat.reduceBEq, Nat.reduceEqDiff, tupleOf, stepT, stepX, heapR, lensR, Nat.reduceAdd, Nat.reduceLeDiff, g0, g2, g5, g6, g7, g8, g9]
        exact hh
  rintro a B' ⟨hh, g0, g2, g5, g6, g7, g8, g9⟩
  generalize hs4 : pIf (hA k) k s3.1 = s4
  refine W_mid (fun a B => GetH A B A.length i j s4.1 ⟨k, bA s1.2, bA s2.2, s3.2.1, bA s4.2.1⟩ ∧ a 0 = v ∧ a 2 = ptr A.length ∧ a 5 = ptr i ∧ a 6 = ptr j ∧ a 8 = .bool s3.2.2 ∧ a 9 = .bool s4.2.2) ?_ ?_
  · cases hn : hA k with
    | true =>
      obtain ⟨q1, q2⟩ := has_pos (.inr (.inr (.inr hn)))
      have b1 := (and_has q1).2.2.2.1
      rw [hn, if_pos rfl] at b1
      have rj0 := hh.rj
      simp (maxSteps := 1000000) (disch := omega) only [stepS, reduceIte, Nat.reduceBEq, Nat.reduceEqDiff, tupleOf, stepT, stepX, heapR, lensR, Nat.reduceAdd, Nat.reduceLeDiff, g0, g2, g5, g6, g7, g8, g9, b1, rj0]
      refine op_place_spec hh.le hh.cur fun C k1 p1 c1 => ?_
      have hC := hh.step hji (Ne.symm hzi) k1 p1 c1
      have rj := hC.rj
      simp (maxSteps := 1000000) (disch := omega) only [stepS, reduceIte, Nat.reduceBEq, Nat.reduceEqDiff, tupleOf, stepT, stepX, heapR, lensR, Nat.reduceAdd, Nat.reduceLeDiff, g0, g2, g5, g6, g7, g8, g9, rj]
      rw [← hs4, hn]
      exact ⟨hC.put hji hzj hlj rfl, rfl⟩
    | false =>
      have e : s4 = (s3.1, [], true) := by rw [← hs4, hn]; rfl
      rw [e]
      by_cases hp : 0 < hasO k
      · have b1 := (and_has (has_kind hp)).2.2.2.1
        rw [hn, if_neg (by simp)] at b1
        simp (maxSteps := 1000000) (disch := omega) only [stepS, reduceIte, Nat.reduceBEq, Nat.reduceEqDiff, tupleOf, stepT, stepX, heapR, lensR, Nat.reduceAdd, Nat.reduceLeDiff, g0, g2, g5, g6, g7, g8, g9, b1]
        exact hh
      · simp (maxSteps := 1000000) (disch := omega) only [stepS, reduceIte, Nat.reduceBEq, Nat.reduceEqDiff, tupleOf, stepT, stepX, heapR, lensR, Nat.reduceAdd, Nat.reduceLeDiff, g0, g2, g5, g6, g7, g8, g9]
        exact hh
  rintro a B ⟨hh, g0, g2, g5, g6, g8, g9⟩
  have hP : parseP (some bs) = (⟨k, bA s1.2, bA s2.2, s3.2.1, bA s4.2.1⟩, s4.1, s3.2.2 && s4.2.2) := by
    unfold parseP
    simp only [hk, hkk, hst0, hs1, hs2, hs3, hs4]
  have hfin : (⟨k, bA s1.2, bA s2.2, s3.2.1, bA s4.2.1⟩ : OpV).Fin := by
    have := parseP_fin hl
    rw [hP] at this
    exact this
  have hG : getP bs = if s4.1.isSome && (s3.2.2 && s4.2.2) && opOk ⟨k, bA s1.2, bA s2.2, s3.2.1, bA s4.2.1⟩ then some (⟨k, bA s1.2, bA s2.2, s3.2.1, bA s4.2.1⟩, bs.length - leftC s4.1) else none := by
    unfold getP
    rw [hP]
  clear hP hs1 hs2 hs3 hs4 hk hkk hst0
  generalize (⟨k, bA s1.2, bA s2.2, s3.2.1, bA s4.2.1⟩ : OpV) = o at hh hG hfin
  generalize s4.1 = st at hh hG
  generalize s3.2.2 = ok1 at g8 hG
  generalize s4.2.2 = ok2 at g9 hG
  have bad : getP bs = none → ∀ A', Le A A' → Q (.tuple #[OpV.zero.v, ii 0, ii 5]) A' := fun h A' k => by have := hq A' k; unfold getOV at this; rw [h] at this; exact this
  rw [OpV.v_eq] at bad
  simp only [OpV.zero] at bad
  have rz := hh.rz
  have rj := hh.rj
  have hle := hh.le
  have hvB := (hv.le hle).len
  have hlt : A.length < B.length := lt_of_get (rowAt_get rz)
  have badE : getP bs = none → Q (.tuple #[.agg #[ii 0, .string e0, .string e0, ii 0, .string e0], ii 0, ii 5]) (B.set A.length (.row [ii 0, .string e0, .string e0, ii 0, .string e0] .own 0 true)) := fun h => bad h _ (hle.set (Nat.le_refl _))
  simp (maxSteps := 1000000) (disch := omega) only [stepS, reduceIte, Nat.reduceBEq, Nat.reduceEqDiff, tupleOf, stepT, stepX, heapR, lensR, Nat.reduceAdd, Nat.reduceLeDiff, g0, g2, g5, g6, g8, g9, rj, rz]
  refine cur_Bad_spec hh.cur ?_
  cases st with
  | none =>
    have e : (none : CurS).isNone = true := rfl
    rw [e]
    simp (maxSteps := 1000000) (disch := omega) only [stepS, reduceIte, Nat.reduceBEq, Nat.reduceEqDiff, tupleOf, stepT, stepX, heapR, lensR, Nat.reduceAdd, Nat.reduceLeDiff, g0, g2, g5, g6, g8, g9, rj, rz]
    exact badE (by rw [hG]; rfl)
  | some r =>
    have e : (some r : CurS).isNone = false := rfl
    rw [e]
    cases ok1 with
    | false =>
      simp (maxSteps := 1000000) (disch := omega) only [stepS, reduceIte, Nat.reduceBEq, Nat.reduceEqDiff, tupleOf, stepT, stepX, heapR, lensR, Nat.reduceAdd, Nat.reduceLeDiff, g0, g2, g5, g6, g8, g9, rj, rz]
      exact badE (by rw [hG]; rfl)
    | true =>
      cases ok2 with
      | false =>
        simp (maxSteps := 1000000) (disch := omega) only [stepS, reduceIte, Nat.reduceBEq, Nat.reduceEqDiff, tupleOf, stepT, stepX, heapR, lensR, Nat.reduceAdd, Nat.reduceLeDiff, g0, g2, g5, g6, g8, g9, rj, rz]
        exact badE (by rw [hG]; rfl)
      | true =>
        simp (maxSteps := 1000000) (disch := omega) only [stepS, reduceIte, Nat.reduceBEq, Nat.reduceEqDiff, tupleOf, stepT, stepX, heapR, lensR, Nat.reduceAdd, Nat.reduceLeDiff, g0, g2, g5, g6, g8, g9, rj, rz]
        refine op_Check_spec hfin ?_
        unfold checkO
        cases ho : opOk o with
        | false =>
          simp (maxSteps := 1000000) (disch := omega) only [stepS, reduceIte, Nat.reduceBEq, Nat.reduceEqDiff, tupleOf, stepT, stepX, heapR, lensR, Nat.reduceAdd, Nat.reduceLeDiff, g0, g2, g5, g6, g8, g9, rj, rz]
          exact badE (by rw [hG, ho]; rfl)
        | true =>
          rw [ho] at hG
          simp only [Option.isSome_some, Bool.and_self, if_true] at hG
          simp (maxSteps := 1000000) (disch := omega) only [stepS, reduceIte, Nat.reduceBEq, Nat.reduceEqDiff, tupleOf, stepT, stepX, heapR, lensR, Nat.reduceAdd, Nat.reduceLeDiff, g0, g2, g5, g6, g8, g9, rj, rz, hvB]
          refine cur_Left_spec hh.cur ?_
          have hn := (getP_iff.1 hG).2.1
          have hp : 1 ≤ (putO o).length := by unfold putO; simp
          have good : ∀ A', Le A A' → Q (.tuple #[.agg #[ii o.k, .string o.name, .string o.text, ii o.n, .string o.place], ii ((bs.length : Int) - (leftC (some r) : Nat)), ii 0]) A' := fun A' k => by
            have := hq A' k
            unfold getOV at this
            rw [hG] at this
            rw [show ((bs.length : Int) - (leftC (some r) : Nat)) = ((bs.length - leftC (some r) : Nat) : Int) by omega]
            exact this
          simp (maxSteps := 1000000) (disch := omega) only [stepS, reduceIte, Nat.reduceBEq, Nat.reduceEqDiff, tupleOf, stepT, stepX, heapR, lensR, Nat.reduceAdd, Nat.reduceLeDiff, g0, g2, g5, g6, g8, g9, rj, rz]
          exact good _ (hle.set (Nat.le_refl _))
end Go.AS.C


namespace Go.AS.C
open Go Go.Proofs
set_option linter.unusedVariables false
set_option linter.unusedSimpArgs false
set_option maxRecDepth 100000

/-! The law's own example. -/
/-- The same text, of a number of one digit: the kernel can say it. -/
def numW (n : Int) : ByteArray := if n < 0 then ⟨#[45, UInt8.ofNat (48 + n.natAbs)]⟩ else ⟨#[UInt8.ofNat (48 + n.toNat)]⟩
theorem numW_eq {n : Int} (h0 : -10 < n) (h1 : n < 10) : numW n = numT n := by
  unfold numW numT Lib.itoa
  split
  · rw [Lib.decDigits_one (by omega)]
  · rw [Lib.decDigits_one (by omega)]
def showC (o : OpV) : ByteArray := if opOk o then joinT (sT o ++ (if hI o.k then [numW o.n] else []) ++ (if hA o.k then [hexT o.place] else [])) ⟨#[32]⟩ else ⟨#[63]⟩
theorem showC_eq {o : OpV} (h0 : -10 < o.n) (h1 : o.n < 10) : showC o = showB o := by
  unfold showC showB
  rw [numW_eq h0 h1]
  rfl
abbrev wA : OpV := ⟨1, ⟨#[110]⟩, ⟨#[]⟩, -5, ⟨#[]⟩⟩
abbrev wM : OpV := ⟨7, ⟨#[110]⟩, ⟨#[]⟩, 0, ⟨#[]⟩⟩
abbrev wI : OpV := ⟨5, ⟨#[108]⟩, ⟨#[97, 98]⟩, 0, ⟨#[]⟩⟩
abbrev wZ : OpV := ⟨0, ⟨#[]⟩, ⟨#[]⟩, 0, ⟨#[]⟩⟩
abbrev wE : OpV := ⟨7, ⟨#[]⟩, ⟨#[]⟩, 0, ⟨#[]⟩⟩
theorem fin_small {k n : Int} {a b c : ByteArray} (hk : -100 < k ∧ k < 100) (hn : -100 < n ∧ n < 100) (ha : a.size < 100) (hb : b.size < 100) (hc : c.size < 100) : (⟨k, a, b, n, c⟩ : OpV).Fin :=
  ⟨⟨by simp only; omega, by simp only; omega⟩, ⟨by simp only; omega, by simp only; omega⟩, by simp only; omega, by simp only; omega, by simp only; omega⟩
theorem wA_fin : wA.Fin := fin_small (by decide) (by decide) (by decide) (by decide) (by decide)
theorem wM_fin : wM.Fin := fin_small (by decide) (by decide) (by decide) (by decide) (by decide)
theorem wI_fin : wI.Fin := fin_small (by decide) (by decide) (by decide) (by decide) (by decide)
theorem wZ_fin : wZ.Fin := fin_small (by decide) (by decide) (by decide) (by decide) (by decide)
theorem wE_fin : wE.Fin := fin_small (by decide) (by decide) (by decide) (by decide) (by decide)
theorem wA_ok : opOk wA = true := by decide +kernel
theorem wM_ok : opOk wM = false := by decide +kernel
theorem wE_ok : opOk wE = true := by decide +kernel
theorem wA_put : putO wA = [1, 1, 110, 1, 5, 0, 0, 0] := by decide +kernel
theorem get9 : getP [9] = none := by decide +kernel
theorem get0 : getP [] = none := by decide +kernel
theorem getA : getP (putO wA ++ [9]) = some (wA, 8) := getP_iff.2 ⟨wA_ok, by rw [wA_put]; rfl, [9], rfl⟩
theorem showA : showB wA = ⟨#[99, 111, 117, 110, 116, 32, 110, 32, 45, 53]⟩ := by rw [← showC_eq (by decide) (by decide)]; decide +kernel
theorem showI : showB wI = ⟨#[105, 110, 115, 101, 114, 116, 32, 108, 32, 35, 54, 49, 54, 50, 32, 35]⟩ := by rw [← showC_eq (by decide) (by decide)]; decide +kernel
theorem showZ : showB wZ = ⟨#[63]⟩ := by rw [← showC_eq (by decide) (by decide)]; decide +kernel
theorem wnm1 : nameOk ⟨#[97, 45, 49]⟩ = true := by decide +kernel
theorem wnm2 : nameOk ⟨#[65]⟩ = false := by decide +kernel
theorem wck1 : checkO wA = 0 := by unfold checkO; rw [wA_ok]; rfl
theorem wck2 : checkO wE = 0 := by unfold checkO; rw [wE_ok]; rfl
theorem wake {A : AH} {Q : Value → AH → Prop} (hg : Le [kB] A) (hq : Q (.bool true) A) : ACalls 1 Tryd.prog chantrylaw14_awake [] Q A := by
  refine ACalls.pure1 _ rfl hq fun Q hq => ?_
  refine ACalls.of_fits mixed fits_chantrylaw14_awake rfl ?_
  unfold ic_chantrylaw14_awake
  generalize initA [] = a
  refine W_mid (fun _ B => B = A) ?_ ?_
  · simp (maxSteps := 1000000) (disch := omega) only [stepS, reduceIte, Nat.reduceBEq, Nat.reduceEqDiff, tupleOf, stepT, stepX, heapR, lensR, Nat.reduceAdd, Nat.reduceLeDiff]
  rintro a A2 hB
  obtain rfl : A = A2 := hB.symm
  have k1 : Le A ((A ++ [Blk.row [.int .i64 0, .string ⟨#[]⟩, .string ⟨#[]⟩, .int .i64 0, .string ⟨#[]⟩] .own 0 true]).set A.length (Blk.row (cellsO wA) .own 0 true)) := by (repeat first | exact Le.refl _ | assumption | refine Le.app ?_ _ | refine Le.set ?_ ?_ | omega | (simp only [List.length_append, List.length_singleton, List.length_set]; omega))
  refine W_mid (fun a B => Le A B ∧ a 1 = ptr A.length ∧ rowAt B A.length = some (cellsO wA, .own, 0, true)) ?_ ?_
  · simp (maxSteps := 1000000) (disch := omega) only [stepS, reduceIte, Nat.reduceBEq, Nat.reduceEqDiff, tupleOf, stepT, stepX, heapR, lensR, Nat.reduceAdd, Nat.reduceLeDiff]
    exact k1
  rintro a B ⟨hl, g1, r1⟩
  clear k1
  refine W_mid (fun a B' => ∃ t, Le B B' ∧ a 1 = ptr A.length ∧ a 2 = t ∧ a 3 = ii 0 ∧ Byt B' t (putO wA)) ?_ ?_
  · simp (maxSteps := 1000000) (disch := omega) only [stepS, reduceIte, Nat.reduceBEq, Nat.reduceEqDiff, tupleOf, stepT, stepX, heapR, lensR, Nat.reduceAdd, Nat.reduceLeDiff, g1, r1]
    refine op_Put_spec (o := wA) wA_fin (fun _ C t kC oC => ?_) (fun h => by rw [wA_ok] at h; cases h)
    simp (maxSteps := 1000000) (disch := omega) only [stepS, reduceIte, Nat.reduceBEq, Nat.reduceEqDiff, tupleOf, stepT, stepX, heapR, lensR, Nat.reduceAdd, Nat.reduceLeDiff, g1]
    exact ⟨_, kC, rfl, oC.byt⟩
  rintro a C ⟨t, k2, g1, g2, g3, ht⟩
  have r2 := k2.row r1
  have l0 : sLit C [.int .u8 0] 1 0 [] = some (.slice (some ⟨C.length, 0, none⟩) 0 0, C ++ [.row [] .own 1 true]) := rfl
  have k0 : Le C (C ++ [.row [] .own 1 true]) := .push _ _
  obtain ⟨w1, A1, e1, j1, o1, _⟩ := app_bytes k0 (own_lit_none (.refl C)) (ht.le k0) (by rw [wA_put]; simp)
  rw [List.nil_append] at o1
  have e1' : sApp (C ++ [.row [] .own 1 true]) (.slice (some ⟨C.length, 0, none⟩) 0 0) t 1 1 = some (w1, A1) := e1
  have m1 := lit_by8 A1 9
  have k9 : Le A1 (A1 ++ [.row [by8 9] .own 1 true]) := .push _ _
  obtain ⟨w2, A2, e2, j2, o2, _⟩ := app_bytes (j1.trans k9) (OwnS.le o1 k9) (byt_by8 A1 9) (by rw [wA_put]; simp)
  have m1' : sLit A1 [.int .u8 0] 1 1 [(0, 1, .int .u8 9)] = some (.slice (some ⟨A1.length, 0, none⟩) 1 1, A1 ++ [.row [by8 9] .own 1 true]) := m1
  have r3 := j2.row r2
  have h3 := lt_of_get (rowAt_get r3)
  refine W_mid (fun a B' => ∃ c, Le C B' ∧ a 1 = ptr A.length ∧ a 2 = t ∧ a 3 = ii 0 ∧ a 4 = ptr c ∧ a 5 = ii 8 ∧ a 6 = ii 0 ∧ rowAt B' c = some (cellsO wA, .own, 0, true)) ?_ ?_
  · simp (maxSteps := 1000000) (disch := omega) only [stepS, reduceIte, Nat.reduceBEq, Nat.reduceEqDiff, tupleOf, stepT, stepX, heapR, lensR, Nat.reduceAdd, Nat.reduceLeDiff, g1, g2, g3, l0, e1', m1', e2]
    refine op_Get_spec o2.byt (by rw [wA_put]; decide) ?_
    unfold getOV
    rw [getA]
    simp only [OpV.v_eq]
    have k4 : Le A2 ((A2 ++ [Blk.row [.int .i64 0, .string ⟨#[]⟩, .string ⟨#[]⟩, .int .i64 0, .string ⟨#[]⟩] .own 0 true]).set A2.length (Blk.row (cellsO wA) .own 0 true)) := by (repeat first | exact Le.refl _ | assumption | refine Le.app ?_ _ | refine Le.set ?_ ?_ | omega | (simp only [List.length_append, List.length_singleton, List.length_set]; omega))
    have r4 : rowAt ((A2 ++ [Blk.row [.int .i64 0, .string ⟨#[]⟩, .string ⟨#[]⟩, .int .i64 0, .string ⟨#[]⟩] .own 0 true]).set A2.length (Blk.row (cellsO wA) .own 0 true)) A2.length = some (cellsO wA, .own, 0, true) := by simp (maxSteps := 1000000) (disch := omega) only [stepS, reduceIte, Nat.reduceBEq, Nat.reduceEqDiff, tupleOf, stepT, stepX, heapR, lensR, Nat.reduceAdd, Nat.reduceLeDiff]
    simp (maxSteps := 1000000) (disch := omega) only [stepS, reduceIte, Nat.reduceBEq, Nat.reduceEqDiff, tupleOf, stepT, stepX, heapR, lensR, Nat.reduceAdd, Nat.reduceLeDiff, g1, g2, g3]
    refine ⟨A2.length, j2.trans k4, rfl, rfl, ?_⟩
    simp (maxSteps := 1000000) (disch := omega) only [stepS, reduceIte, Nat.reduceBEq, Nat.reduceEqDiff, tupleOf, stepT, stepX, heapR, lensR, Nat.reduceAdd, Nat.reduceLeDiff]
  clear g1 g2 g3 e1 e1' m1 m1' e2 l0 k0 k9 o1 o2 j1 h3 r3
  rintro a D ⟨c, k5, g1, g2, g3, g4, g5, g6, rc⟩
  have r5 := (k5.row r2)
  have tD := ht.le k5
  refine W_mid (fun a B' => Le D B' ∧ a 1 = ptr A.length ∧ a 2 = t ∧ a 3 = ii 0 ∧ a 4 = ptr c ∧ a 5 = ii 8 ∧ a 6 = ii 0 ∧ a 8 = ii 1) ?_ ?_
  · simp (maxSteps := 1000000) (disch := omega) only [stepS, reduceIte, Nat.reduceBEq, Nat.reduceEqDiff, tupleOf, stepT, stepX, heapR, lensR, Nat.reduceAdd, Nat.reduceLeDiff, g1, g2, g3, g4, g5, g6]
    refine op_Put_spec (o := wM) wM_fin (fun h => by rw [wM_ok] at h; cases h) (fun _ E kE => ?_)
    simp (maxSteps := 1000000) (disch := omega) only [stepS, reduceIte, Nat.reduceBEq, Nat.reduceEqDiff, tupleOf, stepT, stepX, heapR, lensR, Nat.reduceAdd, Nat.reduceLeDiff, g1, g2, g3, g4, g5, g6]
    exact kE
  clear g1 g2 g3 g4 g5 g6
  rintro a E ⟨k6, g1, g2, g3, g4, g5, g6, g8⟩
  have m9 := lit_by8 E 9
  have m9' : sLit E [.int .u8 0] 1 1 [(0, 1, .int .u8 9)] = some (.slice (some ⟨E.length, 0, none⟩) 1 1, E ++ [.row [by8 9] .own 1 true]) := m9
  refine W_mid (fun a B' => Le E B' ∧ a 1 = ptr A.length ∧ a 2 = t ∧ a 3 = ii 0 ∧ a 4 = ptr c ∧ a 5 = ii 8 ∧ a 6 = ii 0 ∧ a 8 = ii 1 ∧ a 11 = ii 5) ?_ ?_
  · simp (maxSteps := 1000000) (disch := omega) only [stepS, reduceIte, Nat.reduceBEq, Nat.reduceEqDiff, tupleOf, stepT, stepX, heapR, lensR, Nat.reduceAdd, Nat.reduceLeDiff, g1, g2, g3, g4, g5, g6, g8, m9']
    refine op_Get_spec (byt_by8 E 9) (by decide) ?_
    unfold getOV
    rw [get9]
    simp only [OpV.v_eq, OpV.zero]
    have k7 : Le E (((E ++ [Blk.row [by8 9] .own 1 true]) ++ [Blk.row [.int .i64 0, .string ⟨#[]⟩, .string ⟨#[]⟩, .int .i64 0, .string ⟨#[]⟩] .own 0 true]).set (E.length + 1) (Blk.row [ii 0, .string e0, .string e0, ii 0, .string e0] .own 0 true)) := by (repeat first | exact Le.refl _ | assumption | refine Le.app ?_ _ | refine Le.set ?_ ?_ | omega | (simp only [List.length_append, List.length_singleton, List.length_set]; omega))
    simp (maxSteps := 1000000) (disch := omega) only [stepS, reduceIte, Nat.reduceBEq, Nat.reduceEqDiff, tupleOf, stepT, stepX, heapR, lensR, Nat.reduceAdd, Nat.reduceLeDiff, g1, g2, g3, g4, g5, g6, g8]
    exact k7
  clear g1 g2 g3 g4 g5 g6 g8
  rintro a F ⟨k7, g1, g2, g3, g4, g5, g6, g8, g11⟩
  refine W_mid (fun a B' => Le F B' ∧ a 1 = ptr A.length ∧ a 2 = t ∧ a 3 = ii 0 ∧ a 4 = ptr c ∧ a 5 = ii 8 ∧ a 6 = ii 0 ∧ a 8 = ii 1 ∧ a 11 = ii 5 ∧ a 14 = ii 5) ?_ ?_
  · simp (maxSteps := 1000000) (disch := omega) only [stepS, reduceIte, Nat.reduceBEq, Nat.reduceEqDiff, tupleOf, stepT, stepX, heapR, lensR, Nat.reduceAdd, Nat.reduceLeDiff, g1, g2, g3, g4, g5, g6, g8, g11]
    refine op_Get_spec (bs := []) ⟨rfl, .inl ⟨rfl, rfl⟩⟩ (by decide) ?_
    unfold getOV
    rw [get0]
    simp only [OpV.v_eq, OpV.zero]
    have k8 : Le F ((F ++ [Blk.row [.int .i64 0, .string ⟨#[]⟩, .string ⟨#[]⟩, .int .i64 0, .string ⟨#[]⟩] .own 0 true]).set F.length (Blk.row [ii 0, .string e0, .string e0, ii 0, .string e0] .own 0 true)) := by (repeat first | exact Le.refl _ | assumption | refine Le.app ?_ _ | refine Le.set ?_ ?_ | omega | (simp only [List.length_append, List.length_singleton, List.length_set]; omega))
    simp (maxSteps := 1000000) (disch := omega) only [stepS, reduceIte, Nat.reduceBEq, Nat.reduceEqDiff, tupleOf, stepT, stepX, heapR, lensR, Nat.reduceAdd, Nat.reduceLeDiff, g1, g2, g3, g4, g5, g6, g8, g11]
    exact k8
  clear g1 g2 g3 g4 g5 g6 g8 g11
  rintro a B' ⟨k8, g1, g2, g3, g4, g5, g6, g8, g11, g14⟩
  have k9 := (k6.trans k7).trans k8
  have ra := k9.row r5
  have rb := k9.row rc
  have ts := (tD.le k9).str
  rw [wA_put] at ts
  have eo : sEqagg B' false (Tryd.prog.keyLits 8 opT) (.agg #[ii 1, .string ⟨#[110]⟩, .string ⟨#[]⟩, ii (-5), .string ⟨#[]⟩]) (.agg #[ii 1, .string ⟨#[110]⟩, .string ⟨#[]⟩, ii (-5), .string ⟨#[]⟩]) = some (.bool true, B') := by
    have := eqop B' false wA_fin wA_fin
    rw [decide_eq_true rfl] at this
    exact this
  have hgB := hg.trans (((hl.trans k2).trans k5).trans k9)
  have hAB := (((hl.trans k2).trans k5).trans k9)
  simp (maxSteps := 1000000) (disch := omega) only [stepS, reduceIte, Nat.reduceBEq, Nat.reduceEqDiff, tupleOf, stepT, stepX, heapR, lensR, Nat.reduceAdd, Nat.reduceLeDiff, g1, g2, g3, g4, g5, g6, g8, g11, g14, ra, rb, ts, eo]
  refine op_Show_spec (o := wA) hgB wA_fin ?_
  rw [showA]
  simp (maxSteps := 1000000) (disch := omega) only [stepS, reduceIte, Nat.reduceBEq, Nat.reduceEqDiff, tupleOf, stepT, stepX, heapR, lensR, Nat.reduceAdd, Nat.reduceLeDiff, g1, ra]
  refine op_Show_spec (o := wI) hgB wI_fin ?_
  rw [showI]
  simp (maxSteps := 1000000) (disch := omega) only [stepS, reduceIte, Nat.reduceBEq, Nat.reduceEqDiff, tupleOf, stepT, stepX, heapR, lensR, Nat.reduceAdd, Nat.reduceLeDiff, g1, ra]
  refine op_Show_spec (o := wZ) hgB wZ_fin ?_
  rw [showZ]
  simp (maxSteps := 1000000) (disch := omega) only [stepS, reduceIte, Nat.reduceBEq, Nat.reduceEqDiff, tupleOf, stepT, stepX, heapR, lensR, Nat.reduceAdd, Nat.reduceLeDiff, g1, ra]
  refine op_Name_spec ?_
  rw [wnm1]
  simp (maxSteps := 1000000) (disch := omega) only [stepS, reduceIte, Nat.reduceBEq, Nat.reduceEqDiff, tupleOf, stepT, stepX, heapR, lensR, Nat.reduceAdd, Nat.reduceLeDiff, g1, ra]
  refine op_Name_spec ?_
  rw [wnm2]
  simp (maxSteps := 1000000) (disch := omega) only [stepS, reduceIte, Nat.reduceBEq, Nat.reduceEqDiff, tupleOf, stepT, stepX, heapR, lensR, Nat.reduceAdd, Nat.reduceLeDiff, g1, ra]
  refine op_Check_spec (o := wA) wA_fin ?_
  rw [wck1]
  simp (maxSteps := 1000000) (disch := omega) only [stepS, reduceIte, Nat.reduceBEq, Nat.reduceEqDiff, tupleOf, stepT, stepX, heapR, lensR, Nat.reduceAdd, Nat.reduceLeDiff, g1, ra]
  refine op_Check_spec (o := wE) wE_fin ?_
  rw [wck2]
  simp (maxSteps := 1000000) (disch := omega) only [stepS, reduceIte, Nat.reduceBEq, Nat.reduceEqDiff, tupleOf, stepT, stepX, heapR, lensR, Nat.reduceAdd, Nat.reduceLeDiff, g1, ra]
  exact hq _ hAB
end Go.AS.C


namespace Go.AS.C
open Go Go.Proofs
set_option linter.unusedVariables false
set_option linter.unusedSimpArgs false
set_option maxRecDepth 10000

/-! Two operations that are shown so are the same. -/
end Go.AS.C


namespace Go.AS.C
open Go Go.Proofs
set_option linter.unusedVariables false
set_option linter.unusedSimpArgs false
set_option maxRecDepth 10000

/-! The reference's Put of operations. -/
theorem own_app {A0 A : AH} {bs xs : List UInt8} {v x : Value} (h1 : Le A0 A) (h4 : OwnB A0.length A v bs) (hx : Byt A x xs) (hb : bs.length + xs.length ≤ 2 ^ 47) :
    ∃ u B, sApp A v x 1 1 = some (u, B) ∧ Le A0 B ∧ OwnB A0.length B u (bs ++ xs) ∧ (∀ (k : Nat) (cs : List Value) (ex : Bool), A[k]? = some (Blk.row cs .own 0 ex) → B[k]? = some (Blk.row cs .own 0 ex)) ∧ (∀ y ys, Byt A y ys → (∀ k ∈ blkOf y, k ∉ blkOf v) → Byt B y ys) := by
  obtain ⟨u1, B1, p1, p2, p3, p4⟩ := app_bytes h1 h4 hx (by omega)
  refine ⟨u1, B1, p1, p2, p3, fun k cs ex hr => p4 k _ hr fun o c e => Sl.blk h4.sl hr (by decide) k (by rw [e]; simp [blkOf]) rfl, fun y ys hy hd => hy.keepB fun k b hb hk => p4 k b hb fun o c e => hd k hk (by rw [e]; simp [blkOf])⟩
theorem ref14_Put_spec {A : AH} {o : OpV} {Q : Value → AH → Prop} (hs : o.Fin) (hok : opOk o = true → ∀ A' t, Le A A' → OwnB A.length A' t (putO o) → Q (.tuple #[t, ii 0]) A') (hbad : opOk o = false → ∀ A', Le A A' → Q (.tuple #[.slice none 0 0, ii 1]) A') : ACalls 1 Tryd.prog chantryref14_Put [o.v] Q A := by
  refine ACalls.of_fits mixed fits_chantryref14_Put rfl ?_
  unfold ic_chantryref14_Put
  have i0 : initA [o.v] 0 = o.v := rfl
  generalize initA [o.v] = a at i0
  rw [OpV.v_eq] at i0
  have hA : ∀ {B : AH}, B = A ++ [.row [ii o.k, .string o.name, .string o.text, ii o.n, .string o.place] .own 0 true] → rowAt B A.length = some ([ii o.k, .string o.name, .string o.text, ii o.n, .string o.place], .own, 0, true) := fun h => by subst h; simp (maxSteps := 1000000) (disch := omega) only [stepS, reduceIte, Nat.reduceBEq, Nat.reduceEqDiff, tupleOf, stepT, stepX, heapR, lensR, Nat.reduceAdd, Nat.reduceLeDiff]
  refine W_mid (fun a B => B = A ++ [.row [ii o.k, .string o.name, .string o.text, ii o.n, .string o.place] .own 0 true] ∧ a 1 = ptr A.length) ?_ ?_
  · simp (maxSteps := 1000000) (disch := omega) only [stepS, reduceIte, Nat.reduceBEq, Nat.reduceEqDiff, tupleOf, stepT, stepX, heapR, lensR, Nat.reduceAdd, Nat.reduceLeDiff, i0]
  rintro a B ⟨hB, g1⟩
  have r1 := hA hB
  have hl : Le A B := by rw [hB]; exact .push _ _
  clear hA i0 hB
  refine W_midR (fun a B' => opOk o = true ∧ B' = B ∧ a 1 = ptr A.length) ?_ ?_
  · simp (maxSteps := 1000000) (disch := omega) only [stepS, reduceIte, Nat.reduceBEq, Nat.reduceEqDiff, tupleOf, stepT, stepX, heapR, lensR, Nat.reduceAdd, Nat.reduceLeDiff, g1, r1]
    refine ref14_Check_spec hs ?_
    cases hop : opOk o with
    | false =>
      simp (maxSteps := 1000000) (disch := omega) only [stepS, reduceIte, Nat.reduceBEq, Nat.reduceEqDiff, tupleOf, stepT, stepX, heapR, lensR, Nat.reduceAdd, Nat.reduceLeDiff, g1, r1, reduceCtorEq, false_and, false_or, true_and]
      exact hbad hop _ hl
    | true =>
      simp (maxSteps := 1000000) (disch := omega) only [stepS, reduceIte, Nat.reduceBEq, Nat.reduceEqDiff, tupleOf, stepT, stepX, heapR, lensR, Nat.reduceAdd, Nat.reduceLeDiff, g1, r1, reduceCtorEq, false_and, or_false, true_and]
  rintro a B ⟨hop, rfl, g1⟩
  obtain ⟨h1, h2, h3, h4, h5, h6, h7, h8, h9, h10⟩ := opOk_iff.1 hop
  have hck := conv_kind h1
  clear hbad
  refine W_mid (fun a B' => B' = B ∧ a 1 = ptr A.length ∧ a 4 = .bool (hN o.k) ∧ a 5 = .bool (hT o.k) ∧ a 6 = .bool (hI o.k) ∧ a 7 = .bool (hA o.k)) ?_ ?_
  · simp (maxSteps := 1000000) (disch := omega) only [stepS, reduceIte, Nat.reduceBEq, Nat.reduceEqDiff, tupleOf, stepT, stepX, heapR, lensR, Nat.reduceAdd, Nat.reduceLeDiff, g1, r1]
    refine ref14_Has_spec ?_
    simp (maxSteps := 1000000) (disch := omega) only [stepS, reduceIte, Nat.reduceBEq, Nat.reduceEqDiff, tupleOf, stepT, stepX, heapR, lensR, Nat.reduceAdd, Nat.reduceLeDiff, g1, sExt, List.getElem?_toArray]
    all_goals trivial
  rintro a B ⟨rfl, g1, g4, g5, g6, g7⟩
  have nm : hN o.k = true → o.name.size ≤ 12 := fun h => by rw [if_pos h] at h2; exact (nameOk_size h2).2
  have lenA : (pA o).length = 1 := rfl
  refine W_mid (fun a B' => Le A B' ∧ OwnB A.length B' (a 9) (pA o) ∧ rowAt B' A.length = some ([ii o.k, .string o.name, .string o.text, ii o.n, .string o.place], .own, 0, true) ∧ a 1 = ptr A.length ∧ a 4 = .bool (hN o.k) ∧ a 5 = .bool (hT o.k) ∧ a 6 = .bool (hI o.k) ∧ a 7 = .bool (hA o.k)) ?_ ?_
  · have k2 : Le B (B ++ [.row [by8 (UInt8.ofNat o.k.toNat)] .own 1 true]) := .push _ _
    have r2 := k2.row r1
    have hj : A.length < B.length := lt_of_get (rowAt_get r1)
    simp (maxSteps := 1000000) (disch := omega) only [stepS, reduceIte, Nat.reduceBEq, Nat.reduceEqDiff, tupleOf, stepT, stepX, heapR, lensR, Nat.reduceAdd, Nat.reduceLeDiff, g1, g4, g5, g6, g7, r1, hck, lit_by8]
    exact ⟨hl.trans k2, own_row (bs := pA o) (get_last _ _) rfl (Nat.le_refl _) hl.len⟩
  rintro a B' ⟨hl, o1, r1, g1, g4, g5, g6, g7⟩
  have keep : ∀ {C D : AH}, rowAt C A.length = some ([ii o.k, .string o.name, .string o.text, ii o.n, .string o.place], .own, 0, true) → (∀ (k : Nat) (cs : List Value) (ex : Bool), C[k]? = some (Blk.row cs .own 0 ex) → D[k]? = some (Blk.row cs .own 0 ex)) → rowAt D A.length = some ([ii o.k, .string o.name, .string o.text, ii o.n, .string o.place], .own, 0, true) :=
    fun h1 h2 => rowAt_own (h2 _ _ _ (rowAt_get h1))
  refine W_mid (fun a B' => Le A B' ∧ OwnB A.length B' (a 9) (pB o) ∧ rowAt B' A.length = some ([ii o.k, .string o.name, .string o.text, ii o.n, .string o.place], .own, 0, true) ∧ a 1 = ptr A.length ∧ a 5 = .bool (hT o.k) ∧ a 6 = .bool (hI o.k) ∧ a 7 = .bool (hA o.k)) ?_ ?_
  · cases hn : hN o.k with
    | true =>
      have e : pB o = pA o ++ textN (bl o.name) := by unfold pB; rw [hn]; rfl
      rw [hn] at g4
      have h12 := nm hn
      have k1 : Le B' (B' ++ [.row (o.name.data.toList.map by8) .own 1 false]) := .push _ _
      simp (maxSteps := 1000000) (disch := omega) only [stepS, reduceIte, Nat.reduceBEq, Nat.reduceEqDiff, tupleOf, stepT, stepX, heapR, lensR, Nat.reduceAdd, Nat.reduceLeDiff, g1, g4, g5, g6, g7, r1, s2b_eq]
      refine ref01_Text_spec (byt_s2b o.name) (fun t C ht k2 o2 => ?_) (fun h => absurd h (by rw [bl_size]; omega))
      have := textN_len (s := o.name) (by omega)
      obtain ⟨y, g9⟩ : ∃ y, a 9 = y := ⟨_, rfl⟩
      rw [g9] at o1
      obtain ⟨u, D, q1, q2, q3, q4, _⟩ := own_app (xs := textN (bl o.name)) ((hl.trans k1).trans k2) (o1.le (k1.trans k2)) o2.byt (by omega)
      simp (maxSteps := 1000000) (disch := omega) only [stepS, reduceIte, Nat.reduceBEq, Nat.reduceEqDiff, tupleOf, stepT, stepX, heapR, lensR, Nat.reduceAdd, Nat.reduceLeDiff, g1, g4, g5, g6, g7, g9, q1]
      rw [e]
      exact ⟨q2, q3, keep ((k1.trans k2).row r1) q4⟩
    | false =>
      have e : pB o = pA o := by unfold pB; rw [hn]; simp
      rw [hn] at g4
      rw [e]
      simp (maxSteps := 1000000) (disch := omega) only [stepS, reduceIte, Nat.reduceBEq, Nat.reduceEqDiff, tupleOf, stepT, stepX, heapR, lensR, Nat.reduceAdd, Nat.reduceLeDiff, g1, g4, g5, g6, g7, r1]
      exact ⟨hl, o1⟩
  rintro a B ⟨hl, o1, r1, g1, g5, g6, g7⟩
  have lenB : (pB o).length ≤ 400 := by
    unfold pB
    cases hn : hN o.k with
    | true => have := nm hn; have := textN_len (s := o.name) (by omega); simp; omega
    | false => simp; omega
  refine W_mid (fun a B' => Le A B' ∧ OwnB A.length B' (a 9) (pC o) ∧ rowAt B' A.length = some ([ii o.k, .string o.name, .string o.text, ii o.n, .string o.place], .own, 0, true) ∧ a 1 = ptr A.length ∧ a 6 = .bool (hI o.k) ∧ a 7 = .bool (hA o.k)) ?_ ?_
  · cases hn : hT o.k with
    | true =>
      have e : pC o = pB o ++ textN (bl o.text) := by unfold pC; rw [hn]; rfl
      rw [hn] at g5
      have k1 : Le B (B ++ [.row (o.text.data.toList.map by8) .own 1 false]) := .push _ _
      simp (maxSteps := 1000000) (disch := omega) only [stepS, reduceIte, Nat.reduceBEq, Nat.reduceEqDiff, tupleOf, stepT, stepX, heapR, lensR, Nat.reduceAdd, Nat.reduceLeDiff, g1, g5, g6, g7, r1, s2b_eq]
      refine ref01_Text_spec (byt_s2b o.text) (fun t C ht k2 o2 => ?_) (fun h => absurd h (by rw [bl_size]; omega))
      have := textN_len (s := o.text) (by omega)
      obtain ⟨y, g9⟩ : ∃ y, a 9 = y := ⟨_, rfl⟩
      rw [g9] at o1
      obtain ⟨u, D, q1, q2, q3, q4, _⟩ := own_app (xs := textN (bl o.text)) ((hl.trans k1).trans k2) (o1.le (k1.trans k2)) o2.byt (by omega)
      simp (maxSteps := 1000000) (disch := omega) only [stepS, reduceIte, Nat.reduceBEq, Nat.reduceEqDiff, tupleOf, stepT, stepX, heapR, lensR, Nat.reduceAdd, Nat.reduceLeDiff, g1, g5, g6, g7, g9, q1]
      rw [e]
      exact ⟨q2, q3, keep ((k1.trans k2).row r1) q4⟩
    | false =>
      have e : pC o = pB o := by unfold pC; rw [hn]; simp
      rw [hn] at g5
      rw [e]
      simp (maxSteps := 1000000) (disch := omega) only [stepS, reduceIte, Nat.reduceBEq, Nat.reduceEqDiff, tupleOf, stepT, stepX, heapR, lensR, Nat.reduceAdd, Nat.reduceLeDiff, g1, g5, g6, g7, r1]
      exact ⟨hl, o1⟩
  rintro a B ⟨hl, o1, r1, g1, g6, g7⟩
  have lenC : (pC o).length ≤ 800 := by
    unfold pC
    have := textN_len (s := o.text) (by omega)
    cases hn : hT o.k with
    | true => simp; omega
    | false => simp; omega
  refine W_mid (fun a B' => Le A B' ∧ OwnB A.length B' (a 9) (pD o) ∧ rowAt B' A.length = some ([ii o.k, .string o.name, .string o.text, ii o.n, .string o.place], .own, 0, true) ∧ a 1 = ptr A.length ∧ a 7 = .bool (hA o.k)) ?_ ?_
  · cases hn : hI o.k with
    | true =>
      have hf : fixF (o.n.natAbs : Int) 4 = some (leB o.n.natAbs 4) := by
        unfold fixF
        have : o.n.natAbs / 256 ^ 4 = 0 := Nat.div_eq_of_lt (by omega)
        rw [if_pos ⟨by omega, by omega, by simpa using this⟩]
        rfl
      rw [hn] at g6
      have e : pD o = pC o ++ [if o.n < 0 then 1 else 0] ++ leB o.n.natAbs 4 := by unfold pD; rw [hn]; simp [numO]
      by_cases hneg : o.n < 0
      · simp (maxSteps := 1000000) (disch := omega) only [stepS, reduceIte, Nat.reduceBEq, Nat.reduceEqDiff, tupleOf, stepT, stepX, heapR, lensR, Nat.reduceAdd, Nat.reduceLeDiff, g1, g6, g7, r1, negI]
        rw [e, if_pos hneg]
        have hf : fixF (0 - o.n) 4 = some (leB o.n.natAbs 4) := by rw [show (0 - o.n) = (o.n.natAbs : Int) by omega]; exact hf
        generalize hsg : (1 : UInt8) = sg
        have l8 : ∀ A, sLit A [.int .u8 0] 1 1 [(0, 1, .int .u8 1)] = some (.slice (some ⟨A.length, 0, none⟩) 1 1, A ++ [.row [by8 sg] .own 1 true]) := fun A => by rw [← hsg]; exact lit_by8 A 1
        refine ref01_Fix_spec (fun z t C hz k1 o2 => ?_) (fun h => by rw [hf] at h; cases h)
        rw [hf] at hz
        obtain rfl := Option.some.inj hz
        obtain ⟨y, g9⟩ : ∃ y, a 9 = y := ⟨_, rfl⟩
        rw [g9] at o1
        have hlt : ∀ k ∈ blkOf y, k < B.length := fun k hk => (OwnS.ge o1 k hk).2
        have k2 : Le C (C ++ [.row [by8 sg] .own 1 true]) := .push _ _
        obtain ⟨u1, D1, p1, p2, p3, p4, p5⟩ := own_app ((hl.trans k1).trans k2) (o1.le (k1.trans k2)) (byt_by8 C sg) (by simp; omega)
        have hy := p5 t _ (o2.byt.le k2) (fun k hk hv => by have h1 := hlt k hv; have h2 := (OwnS.ge o2 k hk).1; omega)
        obtain ⟨u, D, q1, q2, q3, q4, _⟩ := own_app p2 p3 hy (by simp [leB_length]; omega)
        simp (maxSteps := 1000000) (disch := omega) only [stepS, reduceIte, Nat.reduceBEq, Nat.reduceEqDiff, tupleOf, stepT, stepX, heapR, lensR, Nat.reduceAdd, Nat.reduceLeDiff, g1, g6, g7, g9, l8, p1, q1]
        exact ⟨q2, q3, keep (keep ((k1.trans k2).row r1) p4) q4⟩
      · simp (maxSteps := 1000000) (disch := omega) only [stepS, reduceIte, Nat.reduceBEq, Nat.reduceEqDiff, tupleOf, stepT, stepX, heapR, lensR, Nat.reduceAdd, Nat.reduceLeDiff, g1, g6, g7, r1, negI]
        rw [e, if_neg hneg]
        have hf : fixF o.n 4 = some (leB o.n.natAbs 4) := by
          have e2 : o.n = (o.n.natAbs : Int) := by omega
          rw [← e2] at hf; exact hf
        generalize hsg : (0 : UInt8) = sg
        have l8 : ∀ A, sLit A [.int .u8 0] 1 1 [(0, 1, .int .u8 0)] = some (.slice (some ⟨A.length, 0, none⟩) 1 1, A ++ [.row [by8 sg] .own 1 true]) := fun A => by rw [← hsg]; exact lit_by8 A 0
        refine ref01_Fix_spec (fun z t C hz k1 o2 => ?_) (fun h => by rw [hf] at h; cases h)
        rw [hf] at hz
        obtain rfl := Option.some.inj hz
        obtain ⟨y, g9⟩ : ∃ y, a 9 = y := ⟨_, rfl⟩
        rw [g9] at o1
        have hlt : ∀ k ∈ blkOf y, k < B.length := fun k hk => (OwnS.ge o1 k hk).2
        have k2 : Le C (C ++ [.row [by8 sg] .own 1 true]) := .push _ _
        obtain ⟨u1, D1, p1, p2, p3, p4, p5⟩ := own_app ((hl.trans k1).trans k2) (o1.le (k1.trans k2)) (byt_by8 C sg) (by simp; omega)
        have hy := p5 t _ (o2.byt.le k2) (fun k hk hv => by have h1 := hlt k hv; have h2 := (OwnS.ge o2 k hk).1; omega)
        obtain ⟨u, D, q1, q2, q3, q4, _⟩ := own_app p2 p3 hy (by simp [leB_length]; omega)
        simp (maxSteps := 1000000) (disch := omega) only [stepS, reduceIte, Nat.reduceBEq, Nat.reduceEqDiff, tupleOf, stepT, stepX, heapR, lensR, Nat.reduceAdd, Nat.reduceLeDiff, g1, g6, g7, g9, l8, p1, q1]
        exact ⟨q2, q3, keep (keep ((k1.trans k2).row r1) p4) q4⟩
    | false =>
      have e : pD o = pC o := by unfold pD; rw [hn]; simp
      rw [hn] at g6
      rw [e]
      simp (maxSteps := 1000000) (disch := omega) only [stepS, reduceIte, Nat.reduceBEq, Nat.reduceEqDiff, tupleOf, stepT, stepX, heapR, lensR, Nat.reduceAdd, Nat.reduceLeDiff, g1, g6, g7, r1]
      exact ⟨hl, o1⟩
  rintro a B ⟨hl, o1, r1, g1, g7⟩
  have lenD : (pD o).length ≤ 900 := by
    unfold pD
    cases hn : hI o.k with
    | true => simp [numO, leB_length]; omega
    | false => simp; omega
  refine W_mid (fun a B' => Le A B' ∧ OwnB A.length B' (a 9) (pE o) ∧ rowAt B' A.length = some ([ii o.k, .string o.name, .string o.text, ii o.n, .string o.place], .own, 0, true) ∧ a 1 = ptr A.length) ?_ ?_
  · by_cases k5 : o.k = 5
    · have hA5 : hA o.k = true := by unfold hA; rw [decide_eq_true_eq]; omega
      have e : pE o = pD o ++ [if o.place = e0 then 0 else 1] := by unfold pE; rw [if_pos k5]
      rw [hA5] at g7
      obtain ⟨y, g9⟩ : ∃ y, a 9 = y := ⟨_, rfl⟩
      rw [g9] at o1
      by_cases hp : o.place = e0
      · rw [e, if_pos hp]
        have k2 : Le B (B ++ [.row [by8 0] .own 1 true]) := .push _ _
        obtain ⟨u, D, q1, q2, q3, q4, _⟩ := own_app (hl.trans k2) (o1.le k2) (byt_by8 B 0) (by simp; omega)
        have l8 : ∀ A, sLit A [.int .u8 0] 1 1 [(0, 1, .int .u8 0)] = some (.slice (some ⟨A.length, 0, none⟩) 1 1, A ++ [.row [by8 0] .own 1 true]) := fun A => lit_by8 A 0
        simp (maxSteps := 1000000) (disch := omega) only [stepS, reduceIte, Nat.reduceBEq, Nat.reduceEqDiff, tupleOf, stepT, stepX, heapR, lensR, Nat.reduceAdd, Nat.reduceLeDiff, g1, g7, g9, r1, decide_eq_false (fun h => h hp : ¬ o.place ≠ e0), l8, q1]
        exact ⟨q2, q3, keep (k2.row r1) q4⟩
      · rw [e, if_neg hp]
        have k2 : Le B (B ++ [.row [by8 1] .own 1 true]) := .push _ _
        obtain ⟨u, D, q1, q2, q3, q4, _⟩ := own_app (hl.trans k2) (o1.le k2) (byt_by8 B 1) (by simp; omega)
        have l8 : ∀ A, sLit A [.int .u8 0] 1 1 [(0, 1, .int .u8 1)] = some (.slice (some ⟨A.length, 0, none⟩) 1 1, A ++ [.row [by8 1] .own 1 true]) := fun A => lit_by8 A 1
        simp (maxSteps := 1000000) (disch := omega) only [stepS, reduceIte, Nat.reduceBEq, Nat.reduceEqDiff, tupleOf, stepT, stepX, heapR, lensR, Nat.reduceAdd, Nat.reduceLeDiff, g1, g7, g9, r1, decide_eq_true (show o.place ≠ e0 from hp), l8, q1]
        exact ⟨q2, q3, keep (k2.row r1) q4⟩
    · have e : pE o = pD o := by unfold pE; rw [if_neg k5]; simp
      rw [e]
      cases hn : hA o.k with
      | true =>
        rw [hn] at g7
        simp (maxSteps := 1000000) (disch := omega) only [stepS, reduceIte, Nat.reduceBEq, Nat.reduceEqDiff, tupleOf, stepT, stepX, heapR, lensR, Nat.reduceAdd, Nat.reduceLeDiff, g1, g7, r1]
        exact ⟨hl, o1⟩
      | false =>
        rw [hn] at g7
        simp (maxSteps := 1000000) (disch := omega) only [stepS, reduceIte, Nat.reduceBEq, Nat.reduceEqDiff, tupleOf, stepT, stepX, heapR, lensR, Nat.reduceAdd, Nat.reduceLeDiff, g1, g7, r1]
        exact ⟨hl, o1⟩
  rintro a B ⟨hl, o1, r1, g1⟩
  have lenE : (pE o).length ≤ 901 := by
    unfold pE
    split <;> simp <;> omega
  have hsz : o.place.size ≤ 32 := by
    rcases h8 with h | h
    · rw [h]; decide
    · omega
  obtain ⟨y, g9⟩ : ∃ y, a 9 = y := ⟨_, rfl⟩
  rw [g9] at o1
  obtain ⟨u, C, q1, q2, q3, _⟩ := apps_bytes (s := o.place) hl o1 (by omega)
  simp (maxSteps := 1000000) (disch := omega) only [stepS, reduceIte, Nat.reduceBEq, Nat.reduceEqDiff, tupleOf, stepT, stepX, heapR, lensR, Nat.reduceAdd, Nat.reduceLeDiff, g1, g9, r1, q1]
  refine hok hop _ _ q2 ?_
  rw [putO_pE]
  exact q3
end Go.AS.C


namespace Go.AS.C
open Go Go.Proofs
set_option linter.unusedVariables false
set_option linter.unusedSimpArgs false
set_option maxRecDepth 10000

theorem ref01_Unfix_spec {A : AH} {v : Value} {bs : List UInt8} {Q : Value → AH → Prop} (hv : Byt A v bs) (hq : Q (.tuple #[ii ((unfixN bs).1 : Nat), ii ((unfixN bs).2 : Nat)]) A) : ACalls 1 Tryd.prog chantryref01_Unfix [v] Q A := by
  refine ACalls.of_fits mixed fits_chantryref01_Unfix rfl ?_
  unfold ic_chantryref01_Unfix
  have i0 : initA [v] 0 = v := rfl
  generalize initA [v] = a at i0
  by_cases h1 : bs.length < 1
  · have c1 : ((bs.length : Int) < 1) = True := by simp; omega
    simp only [stepS, reduceIte, Nat.reduceBEq, Nat.reduceEqDiff, tupleOf, i0, hv.len, binA_lss, c1]
    have e : unfixN bs = (0, 1) := by unfold unfixN; rw [if_pos (.inl h1)]
    rw [e] at hq
    exact hq
  · have c1 : ((bs.length : Int) < 1) = False := by simp; omega
    by_cases h4 : 4 < bs.length
    · have c2 : ((bs.length : Int) > 4) = True := by simp; omega
      simp only [stepS, reduceIte, Nat.reduceBEq, Nat.reduceEqDiff, tupleOf, i0, hv.len, binA_lss, c1, binA_gtr, c2]
      have e : unfixN bs = (0, 1) := by unfold unfixN; rw [if_pos (.inr h4)]
      rw [e] at hq
      exact hq
    · have c2 : ((bs.length : Int) > 4) = False := by simp; omega
      have c3 : binA .sub (ii (bs.length : Nat)) (ii 1) = some (ii ((bs.length : Nat) - 1)) := binA_subi _ _ (by omega) (by omega)
      simp only [stepS, reduceIte, Nat.reduceBEq, Nat.reduceEqDiff, tupleOf, i0, hv.len, binA_lss, c1, binA_gtr, c2, c3]
      -- k bytes are still ahead
      refine W_loop (fun a' A' => A' = A ∧ ∃ k : Nat, k ≤ bs.length ∧ a' 0 = v ∧ a' 5 = ii ((k : Nat) - 1) ∧ a' 4 = ii (leN (bs.drop k) : Nat)) (fun a' _ => ((iv (a' 5)) + 1).toNat) ?_ ?_
      · refine ⟨rfl, bs.length, by omega, ?_⟩
        simp only [stepS, reduceIte, Nat.reduceBEq, Nat.reduceEqDiff, tupleOf, i0]
        simp [leN]
      · rintro a A' ⟨rfl, k, hk, g0, g5, g4⟩
        rcases Nat.eq_zero_or_pos k with h0 | hpos
        · subst h0
          have hc : (((0 : Nat) : Int) - 1 ≥ 0) = False := by simp
          rw [List.drop_zero] at g4
          by_cases hmax : leN bs ≤ 2147483647
          · have c4 : (((leN bs : Nat) : Int) > 2147483647) = False := by simp; omega
            have e : unfixN bs = (leN bs, 0) := by unfold unfixN; rw [if_neg (by omega), if_pos hmax]
            rw [e] at hq
            simp only [stepS, reduceIte, Nat.reduceBEq, Nat.reduceEqDiff, tupleOf, g0, g5, g4, binA_geq, hc, binA_gtr, c4]
            exact hq
          · have c4 : (((leN bs : Nat) : Int) > 2147483647) = True := by simp; omega
            have e : unfixN bs = (0, 5) := by unfold unfixN; rw [if_neg (by omega), if_neg hmax]
            rw [e] at hq
            simp only [stepS, reduceIte, Nat.reduceBEq, Nat.reduceEqDiff, tupleOf, g0, g5, g4, binA_geq, hc, binA_gtr, c4]
            exact hq
        · have hc : (((k : Nat) : Int) - 1 ≥ 0) = True := by simp; omega
          obtain ⟨j, rfl⟩ : ∃ j, k = j + 1 := ⟨k - 1, by omega⟩
          obtain ⟨b, hb⟩ : ∃ b, bs[j]? = some b := ⟨_, List.getElem?_eq_getElem (by omega)⟩
          obtain ⟨p, hp1, hp2⟩ := hv.at1 hb
          have ej : ((((j + 1 : Nat)) : Int) - 1) = (j : Int) := by omega
          rw [ej] at g5 hc
          have hlow := leN_lt (bs.drop (j + 1))
          have hpw : 256 ^ (bs.drop (j + 1)).length ≤ 256 ^ 4 := Nat.pow_le_pow_right (by omega) (by simp; omega)
          have hb8 := b.toNat_lt
          have d1 : binA .mul (ii 256) (ii (leN (bs.drop (j + 1)) : Nat)) = some (ii ((256 * leN (bs.drop (j + 1)) : Nat) : Int)) := mul_ii 256 _ (by omega)
          have d2 := add_ii (256 * leN (bs.drop (j + 1))) b.toNat (by omega)
          have d3 : binA .sub (ii (j : Int)) (ii 1) = some (ii ((j : Int) - 1)) := binA_subi _ _ (by omega) (by omega)
          simp only [stepS, reduceIte, Nat.reduceBEq, Nat.reduceEqDiff, tupleOf, g0, g5, g4, binA_geq, hc, hp1, hp2, conv_i64_by8, d1, d2, d3]
          refine ⟨⟨j, by omega, rfl, ?_⟩, by omega⟩
          have hdr : bs.drop j = b :: bs.drop (j + 1) := by
            rw [List.drop_eq_getElem_cons (by omega)]
            congr 1
            rw [List.getElem?_eq_getElem (by omega)] at hb
            exact Option.some.inj hb
          rw [hdr, leN]
          congr 2
          omega
end Go.AS.C


namespace Go.AS.C
open Go Go.Proofs
set_option linter.unusedVariables false
set_option linter.unusedSimpArgs false
set_option maxRecDepth 10000

/-! The reference's Get of operations. -/
structure RefH (R B : AH) (z c j : Nat) (st : CurS) (o : OpV) : Prop where
  le : Le R B
  rr : ∃ (b : Value) (k : Nat), one1 b ∧ RefA R.length B (.agg #[b, ii k, .bool st.isNone]) st ∧ rowAt B c = some ([b, ii k, .bool st.isNone], .own, 0, true)
  rj : rowAt B j = some ([ii o.k, .string o.name, .string o.text, ii o.n, .string o.place], .own, 0, true)
  rz : rowAt B z = some ([.int .i64 0, .string e0, .string e0, .int .i64 0, .string e0], .own, 0, true)
theorem BytR.base {R C D : AH} {t : Value} {bs : List UInt8} (h : BytR R.length C t bs) (hC : Le R C) (hD : Le R D) : Byt D t bs := by
  refine h.1.keepB fun i b hb hi => ?_
  have hlt := h.2 i hi
  obtain ⟨c0, hc0⟩ : ∃ c0, R[i]? = some c0 := ⟨_, List.getElem?_eq_getElem hlt⟩
  rw [hC.get hc0] at hb
  rw [← hb]
  exact hD.get hc0
abbrev rowC (b : Value) (k : Nat) (d : Bool) : Blk := .row [b, ii k, .bool d] .own 0 true
abbrev rowZ : Blk := .row [.slice none 0 0, .int .i64 0, .bool false] .own 0 true
/-- What a reading leaves: the reader's new state, put in its place. -/
abbrev afterR (C : AH) (c : Nat) (b : Value) (k : Nat) (d : Bool) : AH := ((C ++ [rowZ]).set C.length (rowC b k d)).set c (rowC b k d)
theorem RefH.read {R B C : AH} {z c j : Nat} {st st' : CurS} {o : OpV} {b : Value} {k : Nat} (h : RefH R B z c j st o) (hz : z < R.length) (hc : R.length ≤ c) (hj : R.length ≤ j) (hcj : c ≠ j) (hl : Le B C) (hb : one1 b) (hr : RefA R.length C (refV b k st'.isNone) st') : RefH R (afterR C c b k st'.isNone) z c j st' o := by
  obtain ⟨h1, ⟨b0, k0, _, _, h3⟩, h4, h5⟩ := h
  have kC := h1.trans hl
  have c1 := lt_of_get (rowAt_get (hl.row h3))
  have c2 := lt_of_get (rowAt_get (hl.row h4))
  have c3 := lt_of_get (rowAt_get (hl.row h5))
  have r3 := hl.row h3
  have r4 := hl.row h4
  have r5 := hl.row h5
  have hC := kC.len
  have kD : Le R (afterR C c b k st'.isNone) := by unfold afterR; (repeat first | exact Le.refl _ | assumption | refine Le.app ?_ _ | refine Le.set ?_ ?_ | omega | (simp only [List.length_append, List.length_singleton, List.length_set]; omega))
  refine ⟨kD, ⟨b, k, hb, RefA.base kC kD hr, ?_⟩, ?_, ?_⟩
  · simp (maxSteps := 1000000) (disch := omega) only [stepS, reduceIte, Nat.reduceBEq, Nat.reduceEqDiff, tupleOf, stepT, stepX, heapR, lensR, Nat.reduceAdd, Nat.reduceLeDiff]
  · simp (maxSteps := 1000000) (disch := omega) only [stepS, reduceIte, Nat.reduceBEq, Nat.reduceEqDiff, tupleOf, stepT, stepX, heapR, lensR, Nat.reduceAdd, Nat.reduceLeDiff, r4]
  · simp (maxSteps := 1000000) (disch := omega) only [stepS, reduceIte, Nat.reduceBEq, Nat.reduceEqDiff, tupleOf, stepT, stepX, heapR, lensR, Nat.reduceAdd, Nat.reduceLeDiff, r5]
theorem RefH.put {R B : AH} {z c j : Nat} {st : CurS} {o o' : OpV} (h : RefH R B z c j st o) (hz : z < R.length) (hj : R.length ≤ j) (hcj : c ≠ j) {cs : List Value} (hcs : cs = [ii o'.k, .string o'.name, .string o'.text, ii o'.n, .string o'.place]) : RefH R (B.set j (.row cs .own 0 true)) z c j st o' := by
  subst hcs
  obtain ⟨h1, ⟨b0, k0, h2, h2b, h3⟩, h4, h5⟩ := h
  have c2 := lt_of_get (rowAt_get h4)
  have kD : Le R (B.set j (.row [ii o'.k, .string o'.name, .string o'.text, ii o'.n, .string o'.place] .own 0 true)) := h1.set hj
  refine ⟨kD, ⟨b0, k0, h2, RefA.base h1 kD h2b, ?_⟩, ?_, ?_⟩
  · simp (maxSteps := 1000000) (disch := omega) only [stepS, reduceIte, Nat.reduceBEq, Nat.reduceEqDiff, tupleOf, stepT, stepX, heapR, lensR, Nat.reduceAdd, Nat.reduceLeDiff, h3]
  · simp (maxSteps := 1000000) (disch := omega) only [stepS, reduceIte, Nat.reduceBEq, Nat.reduceEqDiff, tupleOf, stepT, stepX, heapR, lensR, Nat.reduceAdd, Nat.reduceLeDiff]
  · simp (maxSteps := 1000000) (disch := omega) only [stepS, reduceIte, Nat.reduceBEq, Nat.reduceEqDiff, tupleOf, stepT, stepX, heapR, lensR, Nat.reduceAdd, Nat.reduceLeDiff, h5]
theorem ref14_Get_spec {A : AH} {v : Value} {bs : List UInt8} {Q : Value → AH → Prop} (hv : Byt A v bs) (hl : bs.length ≤ 2 ^ 40) (hq : Q (getOV bs) A) : ACalls 1 Tryd.prog chantryref14_Get [v] Q A := by
  refine ACalls.pure1 _ (getOV_flat bs) hq fun Q hq => ?_
  refine ACalls.of_fits mixed fits_chantryref14_Get rfl ?_
  unfold ic_chantryref14_Get
  have i0 : initA [v] 0 = v := rfl
  generalize initA [v] = a at i0
  refine W_mid (fun a B => B = A ++ [.row [.int .i64 0, .string e0, .string e0, .int .i64 0, .string e0] .own 0 true] ∧ a 0 = v ∧ a 2 = ptr A.length) ?_ ?_
  · simp (maxSteps := 1000000) (disch := omega) only [stepS, reduceIte, Nat.reduceBEq, Nat.reduceEqDiff, tupleOf, stepT, stepX, heapR, lensR, Nat.reduceAdd, Nat.reduceLeDiff, i0]
    all_goals trivial
  rintro a B ⟨hB, g0, g2⟩
  have k0 : Le A B := by rw [hB]; exact .push _ _
  have rz : rowAt B A.length = some ([.int .i64 0, .string e0, .string e0, .int .i64 0, .string e0], .own, 0, true) := by rw [hB]; simp (maxSteps := 1000000) (disch := omega) only [stepS, reduceIte, Nat.reduceBEq, Nat.reduceEqDiff, tupleOf, stepT, stepX, heapR, lensR, Nat.reduceAdd, Nat.reduceLeDiff]
  clear hB i0
  have hzB := lt_of_get (rowAt_get rz)
  rename_i R0
  clear R0
  generalize hR : B = R at *
  clear hR B
  refine W_mid (fun a B => a 0 = v ∧ a 2 = ptr A.length ∧ a 5 = ptr (B.length - 1) ∧ R.length < B.length ∧ Le R B ∧ (∃ (b : Value) (k : Nat), one1 b ∧ RefA R.length B (.agg #[b, ii k, .bool false]) (some bs) ∧ rowAt B (B.length - 1) = some ([b, ii k, .bool false], .own, 0, true))) ?_ ?_
  · simp (maxSteps := 1000000) (disch := omega) only [stepS, reduceIte, Nat.reduceBEq, Nat.reduceEqDiff, tupleOf, stepT, stepX, heapR, lensR, Nat.reduceAdd, Nat.reduceLeDiff, g0, g2]
    refine ref01_From_spec (hv.le k0) hl fun C u k1 r1 => ?_
    obtain ⟨b, k, rfl, hb⟩ := r1.cells
    unfold refV
    have hb2 := hb.2
    have hRC := k1.len
    simp (maxSteps := 1000000) (disch := omega) only [stepS, reduceIte, Nat.reduceBEq, Nat.reduceEqDiff, tupleOf, stepT, stepX, heapR, lensR, Nat.reduceAdd, Nat.reduceLeDiff, g0, g2, hb2, Option.isNone_some, Nat.add_sub_cancel]
    have kk : Le R ((C ++ [Blk.row [.slice none 0 0, .int .i64 0, .bool false] .own 0 true]).set C.length (Blk.row [b, ii k, .bool false] .own 0 true)) := by (repeat first | exact Le.refl _ | assumption | refine Le.app ?_ _ | refine Le.set ?_ ?_ | omega | (simp only [List.length_append, List.length_singleton, List.length_set]; omega))
    exact ⟨by omega, kk, b, k, hb, r1.base k1 kk, by simp (maxSteps := 1000000) (disch := omega) only [stepS, reduceIte, Nat.reduceBEq, Nat.reduceEqDiff, tupleOf, stepT, stepX, heapR, lensR, Nat.reduceAdd, Nat.reduceLeDiff]⟩
  rintro a B ⟨g0, g2, g5, hzc, kB, b, k, hb, rr, rc⟩
  have hcR : R.length ≤ B.length - 1 := by omega
  generalize B.length - 1 = c at *
  generalize hk0 : (byteC (some bs)).2 = kn
  have hkle : kn ≤ 255 := by rw [← hk0]; exact byteC_255 _
  generalize hst0 : (byteC (some bs)).1 = st0
  refine W_mid (fun a B => a 0 = v ∧ a 2 = ptr A.length ∧ a 5 = ptr c ∧ a 6 = ii kn ∧ Le R B ∧ (∃ (b : Value) (k : Nat), one1 b ∧ RefA R.length B (.agg #[b, ii k, .bool st0.isNone]) st0 ∧ rowAt B c = some ([b, ii k, .bool st0.isNone], .own, 0, true))) ?_ ?_
  · simp (maxSteps := 1000000) (disch := omega) only [stepS, reduceIte, Nat.reduceBEq, Nat.reduceEqDiff, tupleOf, stepT, stepX, heapR, lensR, Nat.reduceAdd, Nat.reduceLeDiff, g0, g2, g5, rc]
    refine ref01_Byte_spec rr fun C u k1 r1 => ?_
    rw [hk0, hst0] at *
    obtain ⟨b2, k2, rfl, hb2⟩ := r1.cells
    unfold refV
    have hb3 := hb2.2
    have rcC := k1.row rc
    have hc2 := lt_of_get (rowAt_get rcC)
    have hRC := kB.trans k1
    simp (maxSteps := 1000000) (disch := omega) only [stepS, reduceIte, Nat.reduceBEq, Nat.reduceEqDiff, tupleOf, stepT, stepX, heapR, lensR, Nat.reduceAdd, Nat.reduceLeDiff, g0, g2, g5, rcC, hb3]
    have kk : Le R (C.set c (rowC b2 k2 st0.isNone)) := hRC.set hcR
    exact ⟨kk, b2, k2, hb2, r1.base hRC kk, by simp (maxSteps := 1000000) (disch := omega) only [stepS, reduceIte, Nat.reduceBEq, Nat.reduceEqDiff, tupleOf, stepT, stepX, heapR, lensR, Nat.reduceAdd, Nat.reduceLeDiff]⟩
  clear hzc rr rc g0 g2 g5 hb kB
  rintro a B ⟨g0, g2, g5, g6, kB, b, k, hb, rr, rc⟩
  generalize hkk : (kn : Int) = kk at g6
  refine W_mid (fun a B' => a 0 = v ∧ a 2 = ptr A.length ∧ a 5 = ptr c ∧ a 6 = ii kk ∧ a 7 = ptr B.length ∧ RefH R B' A.length c B.length st0 ⟨kk, e0, e0, 0, e0⟩) ?_ ?_
  · have hc2 := lt_of_get (rowAt_get rc)
    have rz2 := kB.row rz
    have hz2 := lt_of_get (rowAt_get rz2)
    have hRB := kB.len
    simp (maxSteps := 1000000) (disch := omega) only [stepS, reduceIte, Nat.reduceBEq, Nat.reduceEqDiff, tupleOf, stepT, stepX, heapR, lensR, Nat.reduceAdd, Nat.reduceLeDiff, g0, g2, g5, g6, rc]
    have kD : Le R ((B ++ [Blk.row [.int .i64 0, .string e0, .string e0, .int .i64 0, .string e0] .own 0 true]).set B.length (.row [ii kk, .string e0, .string e0, .int .i64 0, .string e0] .own 0 true)) := by (repeat first | exact Le.refl _ | assumption | refine Le.app ?_ _ | refine Le.set ?_ ?_ | omega | (simp only [List.length_append, List.length_singleton, List.length_set]; omega))
    exact ⟨kD, ⟨b, k, hb, rr.base kB kD, by simp (maxSteps := 1000000) (disch := omega) only [stepS, reduceIte, Nat.reduceBEq, Nat.reduceEqDiff, tupleOf, stepT, stepX, heapR, lensR, Nat.reduceAdd, Nat.reduceLeDiff, rc]⟩, by simp (maxSteps := 1000000) (disch := omega) only [stepS, reduceIte, Nat.reduceBEq, Nat.reduceEqDiff, tupleOf, stepT, stepX, heapR, lensR, Nat.reduceAdd, Nat.reduceLeDiff], by simp (maxSteps := 1000000) (disch := omega) only [stepS, reduceIte, Nat.reduceBEq, Nat.reduceEqDiff, tupleOf, stepT, stepX, heapR, lensR, Nat.reduceAdd, Nat.reduceLeDiff, rz2]⟩
  have hcj : c ≠ B.length := by have := lt_of_get (rowAt_get rc); omega
  have hjR : R.length ≤ B.length := kB.len
  clear rr rc g0 g2 g5 hb kB g6
  rintro a B' ⟨g0, g2, g5, g6, g7, hh⟩
  generalize B.length = j at *
  clear B
  refine W_mid (fun a B => B = B' ∧ a 0 = v ∧ a 2 = ptr A.length ∧ a 5 = ptr c ∧ a 6 = ii kk ∧ a 7 = ptr j ∧ a 8 = .bool (hN kk) ∧ a 9 = .bool (hT kk) ∧ a 10 = .bool (hI kk) ∧ a 11 = .bool (hA kk)) ?_ ?_
  · simp (maxSteps := 1000000) (disch := omega) only [stepS, reduceIte, Nat.reduceBEq, Nat.reduceEqDiff, tupleOf, stepT, stepX, heapR, lensR, Nat.reduceAdd, Nat.reduceLeDiff, g0, g2, g5, g6, g7]
    refine ref14_Has_spec ?_
    simp (maxSteps := 1000000) (disch := omega) only [stepS, reduceIte, Nat.reduceBEq, Nat.reduceEqDiff, tupleOf, stepT, stepX, heapR, lensR, Nat.reduceAdd, Nat.reduceLeDiff, g0, g2, g5, g6, g7, sExt, List.getElem?_toArray]
  rintro a B ⟨rfl, g0, g2, g5, g6, g7, g8, g9, g10, g11⟩
  generalize hs1 : tIf (hN kk) st0 = s1
  refine W_mid (fun a B => RefH R B A.length c j s1.1 ⟨kk, bA s1.2, e0, 0, e0⟩ ∧ a 0 = v ∧ a 2 = ptr A.length ∧ a 5 = ptr c ∧ a 6 = ii kk ∧ a 7 = ptr j ∧ a 9 = .bool (hT kk) ∧ a 10 = .bool (hI kk) ∧ a 11 = .bool (hA kk)) ?_ ?_
  · cases hn : hN kk with
    | true =>
      rw [hn] at g8
      obtain ⟨b, k, hb, rr, rc⟩ := hh.rr
      simp (maxSteps := 1000000) (disch := omega) only [stepS, reduceIte, Nat.reduceBEq, Nat.reduceEqDiff, tupleOf, stepT, stepX, heapR, lensR, Nat.reduceAdd, Nat.reduceLeDiff, g0, g2, g5, g6, g7, g8, g9, g10, g11, rc]
      refine ref01_TakeText_spec rr fun C u t k1 r1 t1 => ?_
      obtain ⟨b2, k2, rfl, hb2⟩ := r1.cells
      unfold refV
      have hb3 := hb2.2
      have rcC := k1.row rc
      have hc2 := lt_of_get (rowAt_get rcC)
      have rjC := k1.row hh.rj
      have hj2 := lt_of_get (rowAt_get rjC)
      have h2 := hh.read hzB hcR hjR hcj k1 hb2 r1
      have ts := (t1.base (hh.le.trans k1) h2.le).str
      simp only [afterR] at h2 ts
      simp (maxSteps := 1000000) (disch := omega) only [stepS, reduceIte, Nat.reduceBEq, Nat.reduceEqDiff, tupleOf, stepT, stepX, heapR, lensR, Nat.reduceAdd, Nat.reduceLeDiff, g0, g2, g5, g6, g7, g8, g9, g10, g11, rcC, rjC, hb3, ts]
      rw [← hs1, hn]
      exact h2.put hzB hjR hcj rfl
    | false =>
      have e : s1 = (st0, []) := by rw [← hs1, hn]; rfl
      rw [e]
      rw [hn] at g8
      simp (maxSteps := 1000000) (disch := omega) only [stepS, reduceIte, Nat.reduceBEq, Nat.reduceEqDiff, tupleOf, stepT, stepX, heapR, lensR, Nat.reduceAdd, Nat.reduceLeDiff, g0, g2, g5, g6, g7, g8, g9, g10, g11]
      exact hh
  clear hh g0 g2 g5 g6 g7 g8 g9 g10 g11
  rintro a B ⟨hh, g0, g2, g5, g6, g7, g9, g10, g11⟩
  generalize hs2 : tIf (hT kk) s1.1 = s2
  refine W_mid (fun a B => RefH R B A.length c j s2.1 ⟨kk, bA s1.2, bA s2.2, 0, e0⟩ ∧ a 0 = v ∧ a 2 = ptr A.length ∧ a 5 = ptr c ∧ a 6 = ii kk ∧ a 7 = ptr j ∧ a 10 = .bool (hI kk) ∧ a 11 = .bool (hA kk)) ?_ ?_
  · cases hn : hT kk with
    | true =>
      rw [hn] at g9
      obtain ⟨b, k, hb, rr, rc⟩ := hh.rr
      simp (maxSteps := 1000000) (disch := omega) only [stepS, reduceIte, Nat.reduceBEq, Nat.reduceEqDiff, tupleOf, stepT, stepX, heapR, lensR, Nat.reduceAdd, Nat.reduceLeDiff, g0, g2, g5, g6, g7, g9, g10, g11, rc]
      refine ref01_TakeText_spec rr fun C u t k1 r1 t1 => ?_
      obtain ⟨b2, k2, rfl, hb2⟩ := r1.cells
      unfold refV
      have hb3 := hb2.2
      have rcC := k1.row rc
      have hc2 := lt_of_get (rowAt_get rcC)
      have rjC := k1.row hh.rj
      have hj2 := lt_of_get (rowAt_get rjC)
      have h2 := hh.read hzB hcR hjR hcj k1 hb2 r1
      have ts := (t1.base (hh.le.trans k1) h2.le).str
      simp only [afterR] at h2 ts
      simp (maxSteps := 1000000) (disch := omega) only [stepS, reduceIte, Nat.reduceBEq, Nat.reduceEqDiff, tupleOf, stepT, stepX, heapR, lensR, Nat.reduceAdd, Nat.reduceLeDiff, g0, g2, g5, g6, g7, g9, g10, g11, rcC, rjC, hb3, ts]
      rw [← hs2, hn]
      exact h2.put hzB hjR hcj rfl
    | false =>
      have e : s2 = (s1.1, []) := by rw [← hs2, hn]; rfl
      rw [e]
      rw [hn] at g9
      simp (maxSteps := 1000000) (disch := omega) only [stepS, reduceIte, Nat.reduceBEq, Nat.reduceEqDiff, tupleOf, stepT, stepX, heapR, lensR, Nat.reduceAdd, Nat.reduceLeDiff, g0, g2, g5, g6, g7, g9, g10, g11]
      exact hh
  clear hh g0 g2 g5 g6 g7 g9 g10 g11
  rintro a B ⟨hh, g0, g2, g5, g6, g7, g10, g11⟩
  generalize hs3 : rnIf (hI kk) s2.1 = s3
  refine W_mid (fun a B => RefH R B A.length c j s3.1 ⟨kk, bA s1.2, bA s2.2, s3.2, e0⟩ ∧ a 0 = v ∧ a 2 = ptr A.length ∧ a 5 = ptr c ∧ a 6 = ii kk ∧ a 7 = ptr j ∧ a 11 = .bool (hA kk)) ?_ ?_
  · cases hn : hI kk with
    | true =>
      rw [hn] at g10
      obtain ⟨b, k, hb, rr, rc⟩ := hh.rr
      simp (maxSteps := 1000000) (disch := omega) only [stepS, reduceIte, Nat.reduceBEq, Nat.reduceEqDiff, tupleOf, stepT, stepX, heapR, lensR, Nat.reduceAdd, Nat.reduceLeDiff, g0, g2, g5, g6, g7, g10, g11, rc]
      have hs255 := byteC_255 s2.1
      refine ref01_Byte_spec rr fun C u k1 r1 => ?_
      rw [hn] at hs3
      have hs3 : s3 = refNumS s2.1 := hs3.symm
      unfold refNumS at hs3
      generalize (byteC s2.1).2 = sg at hs255 hs3 ⊢
      generalize (byteC s2.1).1 = sa at r1 hs3
      obtain ⟨b2, k2, rfl, hb2⟩ := r1.cells
      have kC1 : Le C ((C ++ [rowZ]).set C.length (rowC b2 k2 sa.isNone)) := by (repeat first | exact Le.refl _ | assumption | refine Le.app ?_ _ | refine Le.set ?_ ?_ | omega | (simp only [List.length_append, List.length_singleton, List.length_set]; omega))
      have r1' := r1.le kC1
      unfold refV at r1' ⊢
      have hb3 := hb2.2
      simp (maxSteps := 1000000) (disch := omega) only [stepS, reduceIte, Nat.reduceBEq, Nat.reduceEqDiff, tupleOf, stepT, stepX, heapR, lensR, Nat.reduceAdd, Nat.reduceLeDiff, g0, g2, g5, g6, g7, g10, g11, hb3]
      refine ref01_Take_spec (n := 4) r1' ⟨by omega, by omega⟩ fun D u t k3 r2 t2 => ?_
      have hu := unfixN_lt (takeC sa 4).2
      generalize (takeC sa 4).2 = tt at hs3 t2 hu
      generalize (takeC sa 4).1 = sb at r2 hs3
      obtain ⟨b4, k4, rfl, hb4⟩ := r2.cells
      unfold refV
      have hb5 := hb4.2
      have kBD := (k1.trans kC1).trans k3
      have rcC := kBD.row rc
      have hc2 := lt_of_get (rowAt_get rcC)
      have rjC := kBD.row hh.rj
      have hj2 := lt_of_get (rowAt_get rjC)
      have h2 := hh.read hzB hcR hjR hcj kBD hb4 r2
      have tb := t2.base (hh.le.trans kBD) h2.le
      obtain ⟨p, c', hs, _⟩ := tb.shape
      subst hs
      simp only [afterR] at h2 tb
      by_cases hlen : tt.length = 4
      · simp (maxSteps := 1000000) (disch := omega) only [stepS, reduceIte, Nat.reduceBEq, Nat.reduceEqDiff, tupleOf, stepT, stepX, heapR, lensR, Nat.reduceAdd, Nat.reduceLeDiff, g0, g2, g5, g6, g7, g10, g11, rcC, rjC, hb5]
        refine ref01_Unfix_spec tb ?_
        by_cases hsg : sg = 1
        · simp (maxSteps := 1000000) (disch := omega) only [stepS, reduceIte, Nat.reduceBEq, Nat.reduceEqDiff, tupleOf, stepT, stepX, heapR, lensR, Nat.reduceAdd, Nat.reduceLeDiff, g0, g2, g5, g6, g7, g10, g11, rcC, rjC, hb5, negI]
          rw [hs3, if_pos hsg, if_pos hlen, ← Int.zero_sub]
          have h3 := h2.put (o' := ⟨kk, bA s1.2, bA s2.2, (unfixN tt).1, e0⟩) hzB hjR hcj rfl
          exact h3.put hzB hjR hcj rfl
        · simp (maxSteps := 1000000) (disch := omega) only [stepS, reduceIte, Nat.reduceBEq, Nat.reduceEqDiff, tupleOf, stepT, stepX, heapR, lensR, Nat.reduceAdd, Nat.reduceLeDiff, g0, g2, g5, g6, g7, g10, g11, rcC, rjC, hb5, negI]
          rw [hs3, if_neg hsg, if_pos hlen]
          exact h2.put (o' := ⟨kk, bA s1.2, bA s2.2, (unfixN tt).1, e0⟩) hzB hjR hcj rfl
      · by_cases hsg : sg = 1
        · simp (maxSteps := 1000000) (disch := omega) only [stepS, reduceIte, Nat.reduceBEq, Nat.reduceEqDiff, tupleOf, stepT, stepX, heapR, lensR, Nat.reduceAdd, Nat.reduceLeDiff, g0, g2, g5, g6, g7, g10, g11, rcC, rjC, hb5, negI]
          rw [hs3, if_pos hsg, if_neg hlen]
          exact h2.put (o' := ⟨kk, bA s1.2, bA s2.2, -0, e0⟩) hzB hjR hcj rfl
        · simp (maxSteps := 1000000) (disch := omega) only [stepS, reduceIte, Nat.reduceBEq, Nat.reduceEqDiff, tupleOf, stepT, stepX, heapR, lensR, Nat.reduceAdd, Nat.reduceLeDiff, g0, g2, g5, g6, g7, g10, g11, rcC, rjC, hb5, negI]
          rw [hs3, if_neg hsg, if_neg hlen]
          exact h2
    | false =>
      have e : s3 = (s2.1, 0) := by rw [← hs3, hn]; rfl
      rw [e]
      rw [hn] at g10
      simp (maxSteps := 1000000) (disch := omega) only [stepS, reduceIte, Nat.reduceBEq, Nat.reduceEqDiff, tupleOf, stepT, stepX, heapR, lensR, Nat.reduceAdd, Nat.reduceLeDiff, g0, g2, g5, g6, g7, g10, g11]
      exact hh
  clear hh g0 g2 g5 g6 g7 g10 g11
  rintro a B ⟨hh, g0, g2, g5, g6, g7, g11⟩
  refine W_mid (fun a B' => B' = B ∧ a 0 = v ∧ a 2 = ptr A.length ∧ a 5 = ptr c ∧ a 6 = ii kk ∧ a 7 = ptr j ∧ a 11 = .bool (hA kk) ∧ a 21 = ii 1) ?_ ?_
  · simp (maxSteps := 1000000) (disch := omega) only [stepS, reduceIte, Nat.reduceBEq, Nat.reduceEqDiff, tupleOf, stepT, stepX, heapR, lensR, Nat.reduceAdd, Nat.reduceLeDiff, g0, g2, g5, g6, g7, g11]
  rintro a B ⟨rfl, g0, g2, g5, g6, g7, g11, g21⟩
  generalize hs4 : refIs kk s3.1 = s4
  refine W_mid (fun a B => RefH R B A.length c j s4.1 ⟨kk, bA s1.2, bA s2.2, s3.2, e0⟩ ∧ a 0 = v ∧ a 2 = ptr A.length ∧ a 5 = ptr c ∧ a 7 = ptr j ∧ a 11 = .bool (hA kk) ∧ a 21 = ii s4.2) ?_ ?_
  · by_cases hn : hA kk = true ∧ kk = 5
    · rw [hn.1] at g11
      obtain ⟨b, k, hb, rr, rc⟩ := hh.rr
      have hk5 := hn.2
      simp (maxSteps := 1000000) (disch := omega) only [stepS, reduceIte, Nat.reduceBEq, Nat.reduceEqDiff, tupleOf, stepT, stepX, heapR, lensR, Nat.reduceAdd, Nat.reduceLeDiff, g0, g2, g5, g6, g7, g11, g21, rc]
      refine ref01_Byte_spec rr fun C u k1 r1 => ?_
      obtain ⟨b2, k2, rfl, hb2⟩ := r1.cells
      unfold refV
      have hb3 := hb2.2
      have rcC := k1.row rc
      have hc2 := lt_of_get (rowAt_get rcC)
      have rjC := k1.row hh.rj
      have hj2 := lt_of_get (rowAt_get rjC)
      have h2 := hh.read hzB hcR hjR hcj k1 hb2 r1
      simp only [afterR] at h2
      simp (maxSteps := 1000000) (disch := omega) only [stepS, reduceIte, Nat.reduceBEq, Nat.reduceEqDiff, tupleOf, stepT, stepX, heapR, lensR, Nat.reduceAdd, Nat.reduceLeDiff, g0, g2, g5, g6, g7, g11, rcC, rjC, hb3]
      rw [← hs4, hn.1]
      unfold refIs
      rw [if_pos hn]
      exact ⟨h2, rfl, rfl⟩
    · have e : s4 = (s3.1, 1) := by rw [← hs4]; exact if_neg hn
      rw [e]
      cases hA' : hA kk with
      | true =>
        rw [hA'] at g11
        have hk5 : kk ≠ 5 := fun h => hn ⟨hA', h⟩
        simp (maxSteps := 1000000) (disch := omega) only [stepS, reduceIte, Nat.reduceBEq, Nat.reduceEqDiff, tupleOf, stepT, stepX, heapR, lensR, Nat.reduceAdd, Nat.reduceLeDiff, g0, g2, g5, g6, g7, g11, g21]
        first | exact hh | exact ⟨hh, rfl⟩
      | false =>
        rw [hA'] at g11
        simp (maxSteps := 1000000) (disch := omega) only [stepS, reduceIte, Nat.reduceBEq, Nat.reduceEqDiff, tupleOf, stepT, stepX, heapR, lensR, Nat.reduceAdd, Nat.reduceLeDiff, g0, g2, g5, g6, g7, g11, g21]
        first | exact hh | exact ⟨hh, rfl⟩
  clear hh g0 g2 g5 g6 g7 g11
  rintro a B' ⟨hh, g0, g2, g5, g7, g11, g21⟩
  generalize hs5 : rpIf (hA kk) s4 = s5
  refine W_mid (fun a B => RefH R B A.length c j s5.1 ⟨kk, bA s1.2, bA s2.2, s3.2, bA s5.2⟩ ∧ a 0 = v ∧ a 2 = ptr A.length ∧ a 5 = ptr c ∧ a 7 = ptr j) ?_ ?_
  · by_cases hn : hA kk = true ∧ s4.2 = 1
    · rw [hn.1] at g11
      obtain ⟨b, k, hb, rr, rc⟩ := hh.rr
      have hk5 := hn.2
      simp (maxSteps := 1000000) (disch := omega) only [stepS, reduceIte, Nat.reduceBEq, Nat.reduceEqDiff, tupleOf, stepT, stepX, heapR, lensR, Nat.reduceAdd, Nat.reduceLeDiff, g0, g2, g5, g7, g11, g21, rc]
      refine ref01_Take_spec (n := 32) rr ⟨by omega, by omega⟩ fun C u t k1 r1 t1 => ?_
      obtain ⟨b2, k2, rfl, hb2⟩ := r1.cells
      unfold refV
      have hb3 := hb2.2
      have rcC := k1.row rc
      have hc2 := lt_of_get (rowAt_get rcC)
      have rjC := k1.row hh.rj
      have hj2 := lt_of_get (rowAt_get rjC)
      have h2 := hh.read hzB hcR hjR hcj k1 hb2 r1
      have ts := (t1.base (hh.le.trans k1) h2.le).str
      simp only [afterR] at h2 ts
      simp (maxSteps := 1000000) (disch := omega) only [stepS, reduceIte, Nat.reduceBEq, Nat.reduceEqDiff, tupleOf, stepT, stepX, heapR, lensR, Nat.reduceAdd, Nat.reduceLeDiff, g0, g2, g5, g7, g11, g21, rcC, rjC, hb3, ts]
      rw [← hs5, hn.1]
      unfold rpIf
      rw [if_pos ⟨rfl, hn.2⟩]
      exact h2.put hzB hjR hcj rfl
    · have e : s5 = (s4.1, []) := by rw [← hs5]; exact if_neg hn
      rw [e]
      cases hA' : hA kk with
      | true =>
        rw [hA'] at g11
        have hk5 : s4.2 ≠ 1 := fun h => hn ⟨hA', h⟩
        simp (maxSteps := 1000000) (disch := omega) only [stepS, reduceIte, Nat.reduceBEq, Nat.reduceEqDiff, tupleOf, stepT, stepX, heapR, lensR, Nat.reduceAdd, Nat.reduceLeDiff, g0, g2, g5, g7, g11, g21]
        first | exact hh | exact ⟨hh, rfl⟩
      | false =>
        rw [hA'] at g11
        simp (maxSteps := 1000000) (disch := omega) only [stepS, reduceIte, Nat.reduceBEq, Nat.reduceEqDiff, tupleOf, stepT, stepX, heapR, lensR, Nat.reduceAdd, Nat.reduceLeDiff, g0, g2, g5, g7, g11, g21]
        first | exact hh | exact ⟨hh, rfl⟩
  clear hh g0 g2 g5 g7 g11
  rintro a B ⟨hh, g0, g2, g5, g7⟩
  have hP : parseR (some bs) = (⟨kk, bA s1.2, bA s2.2, s3.2, bA s5.2⟩, s5.1) := by
    unfold parseR
    simp only [hk0, hkk, hst0, hs1, hs2, hs3, hs4, hs5]
  have hfl := parseR_fin hl
  have hG : getR bs = if s5.1.isSome && opOk ⟨kk, bA s1.2, bA s2.2, s3.2, bA s5.2⟩ && decide (putO ⟨kk, bA s1.2, bA s2.2, s3.2, bA s5.2⟩ = bs.take (bs.length - leftC s5.1)) then some (⟨kk, bA s1.2, bA s2.2, s3.2, bA s5.2⟩, bs.length - leftC s5.1) else none := by
    unfold getR
    rw [hP]
  rw [hP] at hfl
  obtain ⟨hfin, hleft⟩ := hfl
  simp only at hfin hleft
  clear hP hs1 hs2 hs3 hs4 hs5
  generalize (⟨kk, bA s1.2, bA s2.2, s3.2, bA s5.2⟩ : OpV) = o at hh hG hfin
  generalize s5.1 = st at hh hG hleft
  rw [getR_eq] at hG
  have bad : getP bs = none → ∀ A', Le A A' → Q (.tuple #[OpV.zero.v, ii 0, ii 5]) A' := fun h A' k => by have := hq A' k; unfold getOV at this; rw [h] at this; exact this
  rw [OpV.v_eq] at bad
  simp only [OpV.zero] at bad
  obtain ⟨b, k, hb, rr, rc⟩ := hh.rr
  have rj := hh.rj
  simp (maxSteps := 1000000) (disch := omega) only [stepS, reduceIte, Nat.reduceBEq, Nat.reduceEqDiff, tupleOf, stepT, stepX, heapR, lensR, Nat.reduceAdd, Nat.reduceLeDiff, g0, g2, g5, g7, rj]
  refine ref14_Put_spec hfin (fun hop C t kC ot => ?_) (fun hop C kC => ?_)
  · skip
    have rzC := kC.row hh.rz
    have rjC := kC.row hh.rj
    have rcC := kC.row rc
    have hzC := lt_of_get (rowAt_get rzC)
    have vC := hv.le (k0.trans (hh.le.trans kC))
    simp (maxSteps := 1000000) (disch := omega) only [stepS, reduceIte, Nat.reduceBEq, Nat.reduceEqDiff, tupleOf, stepT, stepX, heapR, lensR, Nat.reduceAdd, Nat.reduceLeDiff, g0, g2, g5, g7, rcC, vC.len]
    refine ref01_Left_spec (rr.le kC) fun D kD => ?_
    have rcD := kD.row rcC
    have rzD := kD.row rzC
    have rjD := kD.row rjC
    have hzD := lt_of_get (rowAt_get rzD)
    have kAD := (k0.trans (hh.le.trans kC)).trans kD
    have otD := (ot.byt.le kD).str
    have vD := vC.le kD
    have hsub : ((bs.length : Int) - (leftC st : Nat)) = ((bs.length - leftC st : Nat) : Int) := by omega
    obtain ⟨u, u1, u2⟩ := vD.upto (k := bs.length - leftC st) (by omega)
    have us := u2.str
    cases st with
    | none =>
      have e : (none : CurS).isNone = true := rfl
      rw [e] at rcD
      have gn : getP bs = none := by rw [hG]; simp
      simp (maxSteps := 1000000) (disch := omega) only [stepS, reduceIte, Nat.reduceBEq, Nat.reduceEqDiff, tupleOf, stepT, stepX, heapR, lensR, Nat.reduceAdd, Nat.reduceLeDiff, g0, g2, g5, g7, rcD, rzD]
      exact bad gn _ (kAD.set (Nat.le_refl _))
    | some r =>
      have e : (some r : CurS).isNone = false := rfl
      rw [e] at rcD
      generalize bs.length - leftC (some r) = m at *
      by_cases hput : putO o = bs.take m
      · have gs : getP bs = some (o, m) := by rw [hG, hop]; simp [hput]
        have hne : decide ((⟨(putO o).toArray⟩ : ByteArray) ≠ ⟨(bs.take m).toArray⟩) = false := by rw [hput]; simp
        simp (maxSteps := 1000000) (disch := omega) only [stepS, reduceIte, Nat.reduceBEq, Nat.reduceEqDiff, tupleOf, stepT, stepX, heapR, lensR, Nat.reduceAdd, Nat.reduceLeDiff, g0, g2, g5, g7, rcD, rzD, rjD, hsub, u1, us, otD, hne]
        have := hq _ (kAD.set (b := .row [ii o.k, .string o.name, .string o.text, ii o.n, .string o.place] .own 0 true) (Nat.le_refl _))
        unfold getOV at this
        rw [gs] at this
        exact this
      · have gn : getP bs = none := by rw [hG, hop]; simp [hput]
        have hne : decide ((⟨(putO o).toArray⟩ : ByteArray) ≠ ⟨(bs.take m).toArray⟩) = true := decide_eq_true (fun h => hput (by have := congrArg bl h; exact this))
        simp (maxSteps := 1000000) (disch := omega) only [stepS, reduceIte, Nat.reduceBEq, Nat.reduceEqDiff, tupleOf, stepT, stepX, heapR, lensR, Nat.reduceAdd, Nat.reduceLeDiff, g0, g2, g5, g7, rcD, rzD, rjD, hsub, u1, us, otD, hne]
        exact bad gn _ (kAD.set (Nat.le_refl _))
  · skip
    have rzC := kC.row hh.rz
    have rjC := kC.row hh.rj
    have rcC := kC.row rc
    have hzC := lt_of_get (rowAt_get rzC)
    have vC := hv.le (k0.trans (hh.le.trans kC))
    simp (maxSteps := 1000000) (disch := omega) only [stepS, reduceIte, Nat.reduceBEq, Nat.reduceEqDiff, tupleOf, stepT, stepX, heapR, lensR, Nat.reduceAdd, Nat.reduceLeDiff, g0, g2, g5, g7, rcC, vC.len]
    refine ref01_Left_spec (rr.le kC) fun D kD => ?_
    have rcD := kD.row rcC
    have rzD := kD.row rzC
    have hzD := lt_of_get (rowAt_get rzD)
    have kAD := (k0.trans (hh.le.trans kC)).trans kD
    have gn : getP bs = none := by rw [hG, hop]; simp
    cases st with
    | none =>
      have e : (none : CurS).isNone = true := rfl
      rw [e] at rcD
      simp (maxSteps := 1000000) (disch := omega) only [stepS, reduceIte, Nat.reduceBEq, Nat.reduceEqDiff, tupleOf, stepT, stepX, heapR, lensR, Nat.reduceAdd, Nat.reduceLeDiff, g0, g2, g5, g7, rcD, rzD]
      exact bad gn _ (kAD.set (Nat.le_refl _))
    | some r =>
      have e : (some r : CurS).isNone = false := rfl
      rw [e] at rcD
      simp (maxSteps := 1000000) (disch := omega) only [stepS, reduceIte, Nat.reduceBEq, Nat.reduceEqDiff, tupleOf, stepT, stepX, heapR, lensR, Nat.reduceAdd, Nat.reduceLeDiff, g0, g2, g5, g7, rcD, rzD]
      exact bad gn _ (kAD.set (Nat.le_refl _))
end Go.AS.C


namespace Go.AS.C
open Go Go.Proofs
set_option linter.unusedVariables false
set_option linter.unusedSimpArgs false
set_option maxRecDepth 10000

theorem opFin_of {o : OpV} (h : opOk o = true) : o.Fin := by
  obtain ⟨h1, h2, h3, h4, h5, h6, h7, h8, h9, h10⟩ := opOk_iff.1 h
  have hk : 1 ≤ o.k ∧ o.k ≤ 7 := by unfold hK at h1; rw [decide_eq_true_eq] at h1; exact h1
  have hn : o.name.size ≤ 12 := by
    by_cases hn : hN o.k = true
    · rw [if_pos hn] at h2; exact (nameOk_size h2).2
    · rw [if_neg hn] at h2; rw [h2]; decide
  have hp : o.place.size ≤ 32 := by
    rcases h8 with h | h
    · rw [h]; decide
    · omega
  exact ⟨by omega, by omega, by omega, by omega, by omega⟩
abbrev rowZ5 : Blk := .row [.int .i64 0, .string ⟨#[]⟩, .string ⟨#[]⟩, .int .i64 0, .string ⟨#[]⟩] .own 0 true
theorem OpGets_spec {A : AH} {v : Value} {bs : List UInt8} {Q : Value → AH → Prop} (hg : Le [kB] A) (hv : Byt A v bs) (_ : bs.length < 2 ^ 50) (hq : ∀ A', Q (.bool true) A') : ACalls 1 Tryd.prog chantrylaw14_OpGets [v] Q A := by
  refine ACalls.of_fits mixed fits_chantrylaw14_OpGets rfl ?_
  unfold ic_chantrylaw14_OpGets
  have i0 : initA [v] 0 = v := rfl
  generalize initA [v] = a at i0
  refine W_mid (fun a B => B = A ∧ a 0 = v) ?_ ?_
  · simp (maxSteps := 1000000) (disch := omega) only [stepS, reduceIte, Nat.reduceBEq, Nat.reduceEqDiff, tupleOf, stepT, stepX, heapR, lensR, Nat.reduceAdd, Nat.reduceLeDiff, i0]
  rintro a B' ⟨hB, i0⟩
  obtain rfl : A = B' := hB.symm
  clear hB
  refine W_midR (fun a B => bs.length ≤ 300 ∧ B = A ∧ a 0 = v) ?_ ?_
  · by_cases hlen : bs.length ≤ 300
    · simp (maxSteps := 1000000) (disch := omega) only [stepS, reduceIte, Nat.reduceBEq, Nat.reduceEqDiff, tupleOf, stepT, stepX, heapR, lensR, Nat.reduceAdd, Nat.reduceLeDiff, i0, hv.len, reduceCtorEq, false_and, or_false, true_and]
      all_goals exact hlen
    · simp (maxSteps := 1000000) (disch := omega) only [stepS, reduceIte, Nat.reduceBEq, Nat.reduceEqDiff, tupleOf, stepT, stepX, heapR, lensR, Nat.reduceAdd, Nat.reduceLeDiff, i0, hv.len]
      refine wake hg ?_
      simp (maxSteps := 1000000) (disch := omega) only [stepS, reduceIte, Nat.reduceBEq, Nat.reduceEqDiff, tupleOf, stepT, stepX, heapR, lensR, Nat.reduceAdd, Nat.reduceLeDiff, reduceCtorEq, false_and, false_or, true_and]
      exact hq _
  rintro a B' ⟨hlen, hB, g0⟩
  obtain rfl : A = B' := hB.symm
  clear hB
  obtain ⟨o, n, e, hge, hof, hoe⟩ : ∃ (o : OpV) (n e : Nat), getOV bs = .tuple #[o.v, ii n, ii e] ∧ o.Fin ∧ (opOk o = true ∧ e = 0 ∧ n ≤ bs.length ∧ putO o = bs.take n ∨ opOk o = false ∧ e = 5) := by
    unfold getOV
    cases hp2 : getP bs with
    | none => exact ⟨OpV.zero, 0, 5, rfl, ⟨by decide, by decide, by decide, by decide, by decide⟩, .inr ⟨by decide +kernel, rfl⟩⟩
    | some x =>
      obtain ⟨h1, h2, r, h3⟩ := getP_iff.1 (show getP bs = some (x.1, x.2) by rw [hp2])
      refine ⟨x.1, x.2, 0, rfl, opFin_of h1, .inl ⟨h1, rfl, ?_, ?_⟩⟩
      · rw [h3, h2]; simp
      · rw [h3, h2]; simp
  rw [OpV.v_eq] at hge
  refine W_mid (fun a B => Le A B ∧ a 0 = v ∧ a 3 = ptr A.length ∧ a 4 = ii n ∧ a 5 = ii e ∧ rowAt B A.length = some (cellsO o, .own, 0, true)) ?_ ?_
  · simp (maxSteps := 1000000) (disch := omega) only [stepS, reduceIte, Nat.reduceBEq, Nat.reduceEqDiff, tupleOf, stepT, stepX, heapR, lensR, Nat.reduceAdd, Nat.reduceLeDiff, g0]
    refine op_Get_spec hv (by omega) ?_
    rw [hge]
    have k4 : Le A ((A ++ [rowZ5]).set A.length (Blk.row (cellsO o) .own 0 true)) := by (repeat first | exact Le.refl _ | assumption | refine Le.app ?_ _ | refine Le.set ?_ ?_ | omega | (simp only [List.length_append, List.length_singleton, List.length_set]; omega))
    simp (maxSteps := 1000000) (disch := omega) only [stepS, reduceIte, Nat.reduceBEq, Nat.reduceEqDiff, tupleOf, stepT, stepX, heapR, lensR, Nat.reduceAdd, Nat.reduceLeDiff, g0]
    exact k4
  rintro a B ⟨k1, g0, g3, g4, g5, r1⟩
  refine W_mid (fun a C => ∃ c, Le B C ∧ a 0 = v ∧ a 3 = ptr A.length ∧ a 4 = ii n ∧ a 5 = ii e ∧ a 6 = ptr c ∧ a 7 = ii n ∧ a 8 = ii e ∧ rowAt C c = some (cellsO o, .own, 0, true)) ?_ ?_
  · simp (maxSteps := 1000000) (disch := omega) only [stepS, reduceIte, Nat.reduceBEq, Nat.reduceEqDiff, tupleOf, stepT, stepX, heapR, lensR, Nat.reduceAdd, Nat.reduceLeDiff, g0, g3, g4, g5]
    refine ref14_Get_spec (hv.le k1) (by omega) ?_
    rw [hge]
    have k4 : Le B ((B ++ [rowZ5]).set B.length (Blk.row (cellsO o) .own 0 true)) := by (repeat first | exact Le.refl _ | assumption | refine Le.app ?_ _ | refine Le.set ?_ ?_ | omega | (simp only [List.length_append, List.length_singleton, List.length_set]; omega))
    simp (maxSteps := 1000000) (disch := omega) only [stepS, reduceIte, Nat.reduceBEq, Nat.reduceEqDiff, tupleOf, stepT, stepX, heapR, lensR, Nat.reduceAdd, Nat.reduceLeDiff, g0, g3, g4, g5]
    refine ⟨B.length, k4, rfl, ?_⟩
    simp (maxSteps := 1000000) (disch := omega) only [stepS, reduceIte, Nat.reduceBEq, Nat.reduceEqDiff, tupleOf, stepT, stepX, heapR, lensR, Nat.reduceAdd, Nat.reduceLeDiff]
  clear g0 g3 g4 g5
  rintro a C ⟨c, k2, g0, g3, g4, g5, g6, g7, g8, r6⟩
  have r3 := k2.row r1
  refine W_mid (fun a D => ∃ t f, Le C D ∧ a 0 = v ∧ a 3 = ptr A.length ∧ a 4 = ii n ∧ a 5 = ii e ∧ a 6 = ptr c ∧ a 7 = ii n ∧ a 8 = ii e ∧ a 9 = t ∧ a 10 = ii f ∧ (opOk o = true → f = 0 ∧ Byt D t (putO o))) ?_ ?_
  · simp (maxSteps := 1000000) (disch := omega) only [stepS, reduceIte, Nat.reduceBEq, Nat.reduceEqDiff, tupleOf, stepT, stepX, heapR, lensR, Nat.reduceAdd, Nat.reduceLeDiff, g0, g3, g4, g5, g6, g7, g8, r3]
    refine op_Put_spec hof (fun he D t kD oD => ?_) (fun he D kD => ?_)
    · simp (maxSteps := 1000000) (disch := omega) only [stepS, reduceIte, Nat.reduceBEq, Nat.reduceEqDiff, tupleOf, stepT, stepX, heapR, lensR, Nat.reduceAdd, Nat.reduceLeDiff, g0, g3, g4, g5, g6, g7, g8]
      exact ⟨_, 0, kD, rfl, rfl, fun _ => ⟨rfl, oD.byt⟩⟩
    · simp (maxSteps := 1000000) (disch := omega) only [stepS, reduceIte, Nat.reduceBEq, Nat.reduceEqDiff, tupleOf, stepT, stepX, heapR, lensR, Nat.reduceAdd, Nat.reduceLeDiff, g0, g3, g4, g5, g6, g7, g8]
      exact ⟨_, 1, kD, rfl, rfl, fun h => by rw [he] at h; cases h⟩
  clear g0 g3 g4 g5 g6 g7 g8
  rintro a D ⟨t, f, k3, g0, g3, g4, g5, g6, g7, g8, g9, g10, ht⟩
  have r3D := k3.row r3
  have r6D := k3.row r6
  have vD := hv.le ((k1.trans k2).trans k3)
  have hgD := hg.trans ((k1.trans k2).trans k3)
  have vs := vD.str
  have eq : ∀ A, sEqagg A false (Tryd.prog.keyLits 8 opT) (.agg #[ii o.k, .string o.name, .string o.text, ii o.n, .string o.place]) (.agg #[ii o.k, .string o.name, .string o.text, ii o.n, .string o.place]) = some (.bool true, A) := fun A => by
    have := eqop A false hof hof
    rw [decide_eq_true rfl] at this
    exact this
  have hnm : (⟨bs.toArray⟩ : ByteArray).size < 2 ^ 50 := by show bs.length < _; omega
  rcases hoe with ⟨ho, rfl, hn, hput⟩ | ⟨ho, rfl⟩
  · obtain ⟨rfl, htD⟩ := ht ho
    have ts := htD.str
    obtain ⟨u, u1, u2⟩ := vD.upto (k := n) hn
    have us := u2.str
    rw [hput] at ts
    simp (maxSteps := 1000000) (disch := omega) only [stepS, reduceIte, Nat.reduceBEq, Nat.reduceEqDiff, tupleOf, stepT, stepX, heapR, lensR, Nat.reduceAdd, Nat.reduceLeDiff, g0, g3, g4, g5, g6, g7, g8, g9, g10, r3D, r6D, vs, eq, ts, u1, us]
    refine op_Name_spec ?_
    simp (maxSteps := 1000000) (disch := omega) only [stepS, reduceIte, Nat.reduceBEq, Nat.reduceEqDiff, tupleOf, stepT, stepX, heapR, lensR, Nat.reduceAdd, Nat.reduceLeDiff, g0, vs]
    refine ref14_Name_spec hnm ?_
    simp (maxSteps := 1000000) (disch := omega) only [stepS, reduceIte, Nat.reduceBEq, Nat.reduceEqDiff, tupleOf, stepT, stepX, heapR, lensR, Nat.reduceAdd, Nat.reduceLeDiff, g0, vs, beq_self_eq_true]
    refine wake hgD ?_
    simp (maxSteps := 1000000) (disch := omega) only [stepS, reduceIte, Nat.reduceBEq, Nat.reduceEqDiff, tupleOf, stepT, stepX, heapR, lensR, Nat.reduceAdd, Nat.reduceLeDiff]
    exact hq _
  · simp (maxSteps := 1000000) (disch := omega) only [stepS, reduceIte, Nat.reduceBEq, Nat.reduceEqDiff, tupleOf, stepT, stepX, heapR, lensR, Nat.reduceAdd, Nat.reduceLeDiff, g0, g3, g4, g5, g6, g7, g8, g9, g10, r3D, r6D, vs, eq]
    refine op_Name_spec ?_
    simp (maxSteps := 1000000) (disch := omega) only [stepS, reduceIte, Nat.reduceBEq, Nat.reduceEqDiff, tupleOf, stepT, stepX, heapR, lensR, Nat.reduceAdd, Nat.reduceLeDiff, g0, vs]
    refine ref14_Name_spec hnm ?_
    simp (maxSteps := 1000000) (disch := omega) only [stepS, reduceIte, Nat.reduceBEq, Nat.reduceEqDiff, tupleOf, stepT, stepX, heapR, lensR, Nat.reduceAdd, Nat.reduceLeDiff, g0, vs, beq_self_eq_true]
    refine wake hgD ?_
    simp (maxSteps := 1000000) (disch := omega) only [stepS, reduceIte, Nat.reduceBEq, Nat.reduceEqDiff, tupleOf, stepT, stepX, heapR, lensR, Nat.reduceAdd, Nat.reduceLeDiff]
    exact hq _
end Go.AS.C
