/- Lemmas for the proof of a given statement; no conditions. -/
import Derived.Test.YtghagepgphaboaaDoorM7
set_option maxHeartbeats 1000000

namespace Go.AS.C
open Go Go.Proofs
set_option linter.unusedVariables false
set_option linter.unusedSimpArgs false
set_option maxRecDepth 10000

theorem fin_of {u : UpdV} (h : SmallU u) (r : RangeU u) : u.Fin := by
  obtain ⟨h1, h2, h3, h4, h5⟩ := h
  obtain ⟨r1, r2, r3⟩ := r
  exact ⟨r1, by omega, fun s hs => by have := h5 s hs; omega, r2, r3, by omega, by omega, by omega⟩
theorem fin_ok {u : UpdV} (h : updE u = 0) : u.Fin := by
  have h1 := getU_put h
  obtain ⟨q1, q2, q3, q4⟩ := updE_zero.1 h
  refine ⟨by omega, by omega, fun s hs => by have := q3.1 s hs; omega, ?_⟩
  have g : getP (putO u.op) = some (u.op, (putO u.op).length) := by
    have := getP_iff (bs := putO u.op) (o := u.op) (n := (putO u.op).length)
    exact this.2 ⟨q4, by simp, by simp⟩
  exact getP_fin g
theorem endU_or {au : Int} {ts : List ByteArray} {st : CurS} (h : (endU au ts st).2 ≠ 0) : (endU au ts st).1 = .zero := by
  revert h
  unfold endU
  cases st with
  | none => intro _; rfl
  | some r =>
    cases hp : getP r with
    | none => intro _; simp only [hp]
    | some x =>
      obtain ⟨o, n⟩ := x
      simp only [hp]
      split
      · intro _; rfl
      · intro h; exact absurd rfl h
theorem getU_or (bs : List UInt8) : (getU bs).1.Fin ∧ ((getU bs).2 = 0 → updE (getU bs).1 = 0 ∧ bs = putU (getU bs).1) := by
  have hz : UpdV.zero.Fin := ⟨by decide, by decide, fun s hs => (by cases hs), by decide, by decide, by decide, by decide, by decide⟩
  by_cases h : (getU bs).2 = 0
  · have e : getU bs = ((getU bs).1, 0) := by rw [← h]
    have h2 := getU_ok e
    exact ⟨fin_ok h2.1, fun _ => h2⟩
  · refine ⟨?_, fun h2 => absurd h2 h⟩
    rw [getU_end] at h ⊢
    split
    · exact hz
    · rename_i h3
      rw [if_neg h3] at h
      rw [endU_or h]
      exact hz
abbrev cellsU (u : UpdV) (p : Value) : List Value := [ii u.author, p, ii u.op.k, .string u.op.name, .string u.op.text, ii u.op.n, .string u.op.place]
/-- The bytes that Put gives, if any; the ID that Of gives, if any. -/
noncomputable def txU (u : UpdV) : List UInt8 := if updE u = 0 then putU u else []
noncomputable def idU (u : UpdV) : ByteArray := if updE u = 0 then ⟨(shaF (putU u)).toArray⟩ else e0
theorem txU_len (u : UpdV) : (txU u).length ≤ 384 := by
  unfold txU
  split
  · rename_i h; exact putU_len h
  · simp
theorem byt_nil (A : AH) : Byt A (.slice none 0 0) [] := ⟨rfl, .inl ⟨rfl, rfl⟩⟩
theorem OfU.item {A : AH} {y : Value} {u : UpdV} (h : OfU A y u) : ∃ p c, y = .agg #[.string (idU u), .slice p (txU u).length c] ∧ Byt A (.slice p (txU u).length c) (txU u) := by
  unfold OfU at h
  unfold idU txU
  split at h
  · rename_i he
    obtain ⟨t, rfl, ht⟩ := h
    obtain ⟨p, c, hs, _⟩ := ht.shape
    subst hs
    simp only [he, if_true]
    exact ⟨p, c, rfl, ht⟩
  · rename_i he
    simp only [he, if_false]
    exact ⟨none, 0, h, byt_nil A⟩
theorem update_Put_any {A : AH} {x : Value} {u : UpdV} {Q : Value → AH → Prop} (hx : UpdA A x u) (hf : u.Fin) (hq : ∀ A' t, Le A A' → Byt A' t (txU u) → Q (.tuple #[t, ii (updE u)]) A') : ACalls 1 Tryd.prog update_Put [x] Q A := by
  refine update_Put_spec hx hf (fun he C t k o => ?_) (fun he C k => ?_)
  · have := hq C t k (by unfold txU; rw [if_pos he]; exact o.byt)
    rw [he] at this
    exact this
  · exact hq C _ k (by unfold txU; rw [if_neg he]; exact byt_nil C)
theorem ref15_Put_any {A : AH} {x : Value} {u : UpdV} {Q : Value → AH → Prop} (hx : UpdA A x u) (hf : u.Fin) (hq : ∀ A' t, Le A A' → Byt A' t (txU u) → Q (.tuple #[t, ii (updE u)]) A') : ACalls 1 Tryd.prog chantryref15_Put [x] Q A := by
  refine ref15_Put_spec hx hf (fun he C t k o => ?_) (fun he C k => ?_)
  · have := hq C t k (by unfold txU; rw [if_pos he]; exact o.byt)
    rw [he] at this
    exact this
  · exact hq C _ k (by unfold txU; rw [if_neg he]; exact byt_nil C)
theorem UpdatePuts_spec {A : AH} {x y : Value} {u v : UpdV} {Q : Value → AH → Prop} (hg : Le [kB] A) (hx : UpdA A x u) (ru : RangeU u) (hy : UpdA A y v) (rv : RangeU v) (hq : ∀ A', Q (.bool true) A') : ACalls 1 Tryd.prog chantrylaw15_UpdatePuts [x, y] Q A := by
  have hx0 := hx
  have hy0 := hy
  obtain ⟨p, rfl, hp⟩ := hx
  obtain ⟨q, rfl, hq2⟩ := hy
  refine ACalls.of_fits mixed fits_chantrylaw15_UpdatePuts rfl ?_
  unfold ic_chantrylaw15_UpdatePuts
  generalize hxe : Value.agg #[ii u.author, p, ii u.op.k, .string u.op.name, .string u.op.text, ii u.op.n, .string u.op.place] = x at hx0
  generalize hye : Value.agg #[ii v.author, q, ii v.op.k, .string v.op.name, .string v.op.text, ii v.op.n, .string v.op.place] = y at hy0
  have i0 : initA [x, y] 0 = x := rfl
  have i1 : initA [x, y] 1 = y := rfl
  generalize initA [x, y] = a at i0 i1
  rw [← hxe] at i0
  rw [← hye] at i1
  have hp2 := (slT_one hp).2
  have hq3 := (slT_one hq2).2
  refine W_mid (fun a B => B = A ++ [.row (cellsU u p) .own 0 true, .row (cellsU v q) .own 0 true] ∧ a 2 = ptr A.length ∧ a 3 = ptr (A.length + 1)) ?_ ?_
  · simp (maxSteps := 1000000) (disch := omega) only [stepS, reduceIte, Nat.reduceBEq, Nat.reduceEqDiff, tupleOf, stepT, stepX, heapR, lensR, Nat.reduceAdd, Nat.reduceLeDiff, i0, i1, hp2, hq3]
    all_goals simp
  rintro a B ⟨hB, g2, g3⟩
  have k1 : Le A B := by rw [hB]; exact (Le.refl A).app _
  have r2 : rowAt B A.length = some (cellsU u p, .own, 0, true) := by rw [hB]; exact rowAt_own (by simp)
  have r3 : rowAt B (A.length + 1) = some (cellsU v q, .own, 0, true) := by rw [hB]; exact rowAt_own (by simp)
  have hxB := hx0.le k1
  have hyB := hy0.le k1
  have hgB := hg.trans k1
  clear i0 i1 hB
  subst hxe hye
  refine W_midR (fun a B' => (u.Fin ∧ v.Fin) ∧ B' = B ∧ a 2 = ptr A.length ∧ a 3 = ptr (A.length + 1)) ?_ ?_
  · simp (maxSteps := 1000000) (disch := omega) only [stepS, reduceIte, Nat.reduceBEq, Nat.reduceEqDiff, tupleOf, stepT, stepX, heapR, lensR, Nat.reduceAdd, Nat.reduceLeDiff, g2, g3, r2, r3]
    refine large_spec hxB fun b1 hb1 => ?_
    cases b1 with
    | true =>
      simp (maxSteps := 1000000) (disch := omega) only [stepS, reduceIte, Nat.reduceBEq, Nat.reduceEqDiff, tupleOf, stepT, stepX, heapR, lensR, Nat.reduceAdd, Nat.reduceLeDiff, g2, g3, r2, r3]
      refine wake hgB ?_
      simp (maxSteps := 1000000) (disch := omega) only [stepS, reduceIte, Nat.reduceBEq, Nat.reduceEqDiff, tupleOf, stepT, stepX, heapR, lensR, Nat.reduceAdd, Nat.reduceLeDiff, g2, g3, r2, r3, reduceCtorEq, false_and, false_or, true_and]
      exact hq _
    | false =>
      have fu := fin_of (hb1 rfl) ru
      simp (maxSteps := 1000000) (disch := omega) only [stepS, reduceIte, Nat.reduceBEq, Nat.reduceEqDiff, tupleOf, stepT, stepX, heapR, lensR, Nat.reduceAdd, Nat.reduceLeDiff, g2, g3, r2, r3]
      refine large_spec hyB fun b2 hb2 => ?_
      cases b2 with
      | true =>
        simp (maxSteps := 1000000) (disch := omega) only [stepS, reduceIte, Nat.reduceBEq, Nat.reduceEqDiff, tupleOf, stepT, stepX, heapR, lensR, Nat.reduceAdd, Nat.reduceLeDiff, g2, g3, r2, r3]
        refine wake hgB ?_
        simp (maxSteps := 1000000) (disch := omega) only [stepS, reduceIte, Nat.reduceBEq, Nat.reduceEqDiff, tupleOf, stepT, stepX, heapR, lensR, Nat.reduceAdd, Nat.reduceLeDiff, g2, g3, r2, r3, reduceCtorEq, false_and, false_or, true_and]
        exact hq _
      | false =>
        have fv := fin_of (hb2 rfl) rv
        simp (maxSteps := 1000000) (disch := omega) only [stepS, reduceIte, Nat.reduceBEq, Nat.reduceEqDiff, tupleOf, stepT, stepX, heapR, lensR, Nat.reduceAdd, Nat.reduceLeDiff, g2, g3, r2, r3, reduceCtorEq, false_and, or_false, true_and]
        all_goals exact ⟨fu, fv⟩
  rintro a B' ⟨⟨fu, fv⟩, rfl, g2, g3⟩
  have hlx := txU_len u
  simp (maxSteps := 1000000) (disch := omega) only [stepS, reduceIte, Nat.reduceBEq, Nat.reduceEqDiff, tupleOf, stepT, stepX, heapR, lensR, Nat.reduceAdd, Nat.reduceLeDiff, g2, g3, r2, r3]
  refine update_Put_any hxB fu fun C1 t1 k2 o1 => ?_
  simp (maxSteps := 1000000) (disch := omega) only [stepS, reduceIte, Nat.reduceBEq, Nat.reduceEqDiff, tupleOf, stepT, stepX, heapR, lensR, Nat.reduceAdd, Nat.reduceLeDiff, g2, g3, k2.row r2]
  refine ref15_Put_any (hxB.le k2) fu fun C2 t2 k3 o2 => ?_
  simp (maxSteps := 1000000) (disch := omega) only [stepS, reduceIte, Nat.reduceBEq, Nat.reduceEqDiff, tupleOf, stepT, stepX, heapR, lensR, Nat.reduceAdd, Nat.reduceLeDiff, g2, g3]
  refine update_Get_spec (o1.le k3) (by omega) fun C3 z k4 hz => ?_
  obtain ⟨fw, hw⟩ := getU_or (txU u)
  have hgp : updE u = 0 → (getU (txU u)).1 = u ∧ (getU (txU u)).2 = 0 := fun he => by
    have h1 : txU u = putU u := by unfold txU; rw [if_pos he]
    have h2 := getU_put he
    rw [h1, h2]; exact ⟨rfl, rfl⟩
  generalize (getU (txU u)).1 = w at hz fw hgp
  generalize (getU (txU u)).2 = gi at hgp
  have hz0 := hz
  obtain ⟨q4, rfl, hq4⟩ := hz
  have hq5 := (slT_one hq4).2
  have r2C := ((k2.trans k3).trans k4).row r2
  have h2C := lt_of_get (rowAt_get r2C)
  have kD : Le C3 ((C3 ++ [Blk.row zero7 .own 0 true]).set C3.length (Blk.row (cellsU w q4) .own 0 true)) := by (repeat first | exact Le.refl _ | assumption | refine Le.app ?_ _ | refine Le.set ?_ ?_ | omega | (simp only [List.length_append, List.length_singleton, List.length_set]; omega))
  have kAD := ((k2.trans k3).trans k4).trans kD
  simp (maxSteps := 1000000) (disch := omega) only [stepS, reduceIte, Nat.reduceBEq, Nat.reduceEqDiff, tupleOf, stepT, stepX, heapR, lensR, Nat.reduceAdd, Nat.reduceLeDiff, g2, g3, hq5, r2C]
  refine update_Of_spec (hgB.trans kAD) (hxB.le kAD) fu fun C4 y1 k5 hy1 => ?_
  obtain ⟨p1, c1, rfl, b1⟩ := hy1.item
  have k9 := kD.trans k5
  have r2C4 := k9.row r2C
  have r3C4 := (kAD.trans k5).row r3
  have r9C4 : rowAt C4 C3.length = some (cellsU w q4, .own, 0, true) := k5.row (by simp (maxSteps := 1000000) (disch := omega) only [stepS, reduceIte, Nat.reduceBEq, Nat.reduceEqDiff, tupleOf, stepT, stepX, heapR, lensR, Nat.reduceAdd, Nat.reduceLeDiff])
  have h2C4 := lt_of_get (rowAt_get r2C4)
  have kE : Le C4 ((C4 ++ [Blk.row [.string ⟨#[]⟩, .slice none 0 0] .own 0 true]).set C4.length (Blk.row [.string (idU u), .slice p1 (txU u).length c1] .own 0 true)) := by (repeat first | exact Le.refl _ | assumption | refine Le.app ?_ _ | refine Le.set ?_ ?_ | omega | (simp only [List.length_append, List.length_singleton, List.length_set]; omega))
  have kAE := (kAD.trans k5).trans kE
  have rE : rowAt ((C4 ++ [Blk.row [.string ⟨#[]⟩, .slice none 0 0] .own 0 true]).set C4.length (Blk.row [.string (idU u), .slice p1 (txU u).length c1] .own 0 true)) C4.length = some ([.string (idU u), .slice p1 (txU u).length c1], .own, 0, true) := by simp (maxSteps := 1000000) (disch := omega) only [stepS, reduceIte, Nat.reduceBEq, Nat.reduceEqDiff, tupleOf, stepT, stepX, heapR, lensR, Nat.reduceAdd, Nat.reduceLeDiff]
  simp (maxSteps := 1000000) (disch := omega) only [stepS, reduceIte, Nat.reduceBEq, Nat.reduceEqDiff, tupleOf, stepT, stepX, heapR, lensR, Nat.reduceAdd, Nat.reduceLeDiff, g2, g3, r2C4]
  refine ref15_Of_spec (hxB.le kAE) fu fun C5 y2 k6 hy2 => ?_
  obtain ⟨p2, c2, rfl, b2⟩ := hy2.item
  have r2D := (kE.trans k6).row r2C4
  have r3D := (kE.trans k6).row r3C4
  have r9D := (kE.trans k6).row r9C4
  have rED := k6.row rE
  have h2D := lt_of_get (rowAt_get r2D)
  have h3D := lt_of_get (rowAt_get r3D)
  have h9D := lt_of_get (rowAt_get r9D)
  have hED := lt_of_get (rowAt_get rED)
  have kF : Le C5 ((C5 ++ [Blk.row [.string ⟨#[]⟩, .slice none 0 0] .own 0 true]).set C5.length (Blk.row [.string (idU u), .slice p2 (txU u).length c2] .own 0 true)) := by (repeat first | exact Le.refl _ | assumption | refine Le.app ?_ _ | refine Le.set ?_ ?_ | omega | (simp only [List.length_append, List.length_singleton, List.length_set]; omega))
  have kAF := (kAE.trans k6).trans kF
  have k10 := (((k4.trans kD).trans k5).trans kE).trans (k6.trans kF)
  have s1 := ((o1.le k3).le k10).str
  have s2 := (o2.le k10).str
  have l1 := ((o1.le k3).le k10).len
  have s3 := (b1.le (kE.trans (k6.trans kF))).str
  have s4 := (b2.le kF).str
  have hxF := hxB.le kAF
  have hyF := hyB.le kAF
  have hzF := hz0.le ((kD.trans k5).trans (kE.trans (k6.trans kF)))
  have hgF := hgB.trans kAF
  by_cases he : updE u = 0
  · obtain ⟨rfl, rfl⟩ := hgp he
    rw [he]
    simp (maxSteps := 1000000) (disch := omega) only [stepS, reduceIte, Nat.reduceBEq, Nat.reduceEqDiff, tupleOf, stepT, stepX, heapR, lensR, Nat.reduceAdd, Nat.reduceLeDiff, g2, g3, r2D, r3D, r9D, rED, s1, s2]
    refine update_Check_spec hxF fu ?_
    rw [he]
    simp (maxSteps := 1000000) (disch := omega) only [stepS, reduceIte, Nat.reduceBEq, Nat.reduceEqDiff, tupleOf, stepT, stepX, heapR, lensR, Nat.reduceAdd, Nat.reduceLeDiff, g2, g3, r2D, r3D, r9D, rED, s1, s2, l1, hq5]
    refine ref15_Same_spec hxF hzF fu fu fun b hb => ?_
    obtain rfl : b = true := hb.2 rfl
    simp (maxSteps := 1000000) (disch := omega) only [stepS, reduceIte, Nat.reduceBEq, Nat.reduceEqDiff, tupleOf, stepT, stepX, heapR, lensR, Nat.reduceAdd, Nat.reduceLeDiff, g2, g3, r2D, r3D, r9D, rED, s3, s4]
    refine update_Same_spec hxF hyF fu fv fun b1 hb1 => ?_
    simp (maxSteps := 1000000) (disch := omega) only [stepS, reduceIte, Nat.reduceBEq, Nat.reduceEqDiff, tupleOf, stepT, stepX, heapR, lensR, Nat.reduceAdd, Nat.reduceLeDiff, g2, g3, r2D, r3D, r9D, rED, s3, s4]
    refine ref15_Same_spec hxF hyF fu fv fun b2 hb2 => ?_
    obtain rfl : b1 = b2 := by rw [Bool.eq_iff_iff, hb1, hb2]
    simp (maxSteps := 1000000) (disch := omega) only [stepS, reduceIte, Nat.reduceBEq, Nat.reduceEqDiff, tupleOf, stepT, stepX, heapR, lensR, Nat.reduceAdd, Nat.reduceLeDiff, g2, g3, r2D, r3D, r9D, rED, s3, s4, beq_self_eq_true]
    refine wake hgF ?_
    simp (maxSteps := 1000000) (disch := omega) only [stepS, reduceIte, Nat.reduceBEq, Nat.reduceEqDiff, tupleOf, stepT, stepX, heapR, lensR, Nat.reduceAdd, Nat.reduceLeDiff]
    exact hq _
  · have he1 : ((updE u : Nat) : Int) ≠ 0 := by omega
    generalize hei : ((updE u : Nat) : Int) = ei at *
    simp (maxSteps := 1000000) (disch := omega) only [stepS, reduceIte, Nat.reduceBEq, Nat.reduceEqDiff, tupleOf, stepT, stepX, heapR, lensR, Nat.reduceAdd, Nat.reduceLeDiff, g2, g3, r2D, r3D, r9D, rED, s1, s2]
    refine update_Check_spec hxF fu ?_
    rw [hei]
    simp (maxSteps := 1000000) (disch := omega) only [stepS, reduceIte, Nat.reduceBEq, Nat.reduceEqDiff, tupleOf, stepT, stepX, heapR, lensR, Nat.reduceAdd, Nat.reduceLeDiff, g2, g3, r2D, r3D, r9D, rED, s1, s2, l1, s3, s4, he1]
    refine update_Same_spec hxF hyF fu fv fun b1 hb1 => ?_
    simp (maxSteps := 1000000) (disch := omega) only [stepS, reduceIte, Nat.reduceBEq, Nat.reduceEqDiff, tupleOf, stepT, stepX, heapR, lensR, Nat.reduceAdd, Nat.reduceLeDiff, g2, g3, r2D, r3D, r9D, rED, s3, s4]
    refine ref15_Same_spec hxF hyF fu fv fun b2 hb2 => ?_
    obtain rfl : b1 = b2 := by rw [Bool.eq_iff_iff, hb1, hb2]
    simp (maxSteps := 1000000) (disch := omega) only [stepS, reduceIte, Nat.reduceBEq, Nat.reduceEqDiff, tupleOf, stepT, stepX, heapR, lensR, Nat.reduceAdd, Nat.reduceLeDiff, g2, g3, r2D, r3D, r9D, rED, s3, s4, beq_self_eq_true]
    refine wake hgF ?_
    simp (maxSteps := 1000000) (disch := omega) only [stepS, reduceIte, Nat.reduceBEq, Nat.reduceEqDiff, tupleOf, stepT, stepX, heapR, lensR, Nat.reduceAdd, Nat.reduceLeDiff]
    exact hq _
theorem UpdatePuts_law {A : AH} {v0 v1 : Value} (hG : Le [kB] A) (g0 : GoodV Tryd.prog A 9 updT v0) (g1 : GoodV Tryd.prog A 9 updT v1) : ACalls 1 Tryd.prog chantrylaw15_UpdatePuts [v0, v1] (fun v _ => v = .bool true) A := by
  obtain ⟨u, h0, r0⟩ := law_upd (F := 6) g0
  obtain ⟨w, h1, r1⟩ := law_upd (F := 6) g1
  exact UpdatePuts_spec hG h0 r0 h1 r1 (fun _ => rfl)
end Go.AS.C
