/- Lemmas for the proof of a given statement; no conditions. -/
import Derived.Test.YtpaegpjgegcdeaaM4
set_option maxHeartbeats 1000000

namespace Go.AS.C
open Go Go.Proofs
set_option linter.unusedVariables false
set_option linter.unusedSimpArgs false
set_option maxRecDepth 10000

/-! Whether two lists are the same. -/
theorem ref19_Same_spec {A : AH} {v w : Value} {l m : List CountV} {Q : Value → AH → Prop} (hv : CountsA A v l) (hw : CountsA A w m) (rv : ∀ c ∈ l, FinC c) (rw' : ∀ c ∈ m, FinC c) (hl : l.length < 2 ^ 50) (hm : m.length < 2 ^ 50) (hq : ∀ b : Bool, (b = true ↔ l = m) → Q (.bool b) A) : ACalls 0 Try.prog chantryref19_Same [v, w] Q A := by
  refine ACalls.of_fits mixed fits_chantryref19_Same rfl ?_
  unfold ic_chantryref19_Same
  have i0 : initA [v, w] 0 = v := rfl
  have i1 : initA [v, w] 1 = w := rfl
  generalize initA [v, w] = a at i0 i1
  have hvl := hv.len
  have hwl := hw.len
  by_cases hn : l.length = m.length
  · simp (maxSteps := 1000000) (disch := omega) only [stepS, reduceIte, Nat.reduceBEq, Nat.reduceEqDiff, tupleOf, stepT, i0, i1, hvl, hwl]
    refine W_loop (fun a' B => B = A ∧ ∃ k : Nat, k ≤ l.length ∧ l.take k = m.take k ∧ a' 0 = v ∧ a' 1 = w ∧ a' 5 = ii k) (fun a' _ => l.length - (iv (a' 5)).toNat) ?_ ?_
    · refine ⟨rfl, 0, by omega, rfl, ?_⟩
      simp (maxSteps := 1000000) (disch := omega) only [stepS, reduceIte, Nat.reduceBEq, Nat.reduceEqDiff, tupleOf, stepT, i0, i1]
      (all_goals (and_intros <;> first | rfl | assumption | (push_cast; rfl) | (congr 1; omega) | omega | (simp; done)))
    · rintro a2 B ⟨rfl, k, hk, hn2, g0, g1, g5⟩
      rcases Nat.lt_or_ge k l.length with hlt | hge
      · obtain ⟨s, hs⟩ := get_some hlt
        obtain ⟨t, ht⟩ := get_some (l := m) (k := k) (by omega)
        obtain ⟨p, p1, p2⟩ := hv.at hs
        have p3 := p2 B (.refl _)
        obtain ⟨q, q1, q2⟩ := hw.at ht
        have q3 := q2 B (.refl _)
        by_cases hst : s = t
        · have hd := (eqC (A := B) (rv s (List.mem_of_getElem? hs)) (rw' t (List.mem_of_getElem? ht))).1 hst
          simp (maxSteps := 1000000) (disch := omega) only [stepS, reduceIte, Nat.reduceBEq, Nat.reduceEqDiff, tupleOf, stepT, g0, g1, g5, hvl, hwl, p1, p3, q1, q3, hd]
          refine ⟨⟨k + 1, by omega, ?_, rfl⟩, by omega⟩
          rw [List.take_add_one, List.take_add_one, hs, ht, hn2, hst]
        · have hd := (eqC (A := B) (rv s (List.mem_of_getElem? hs)) (rw' t (List.mem_of_getElem? ht))).2 hst
          simp (maxSteps := 1000000) (disch := omega) only [stepS, reduceIte, Nat.reduceBEq, Nat.reduceEqDiff, tupleOf, stepT, g0, g1, g5, hvl, hwl, p1, p3, q1, q3, hd]
          exact hq false ⟨(fun h => by cases h), fun h => by subst h; rw [hs] at ht; injection ht with ht; exact absurd ht hst⟩
      · rw [List.take_of_length_le hge, List.take_of_length_le (by omega)] at hn2
        simp (maxSteps := 1000000) (disch := omega) only [stepS, reduceIte, Nat.reduceBEq, Nat.reduceEqDiff, tupleOf, stepT, g0, g1, g5, hvl]
        exact hq true ⟨fun _ => hn2, fun _ => rfl⟩
  · simp (maxSteps := 1000000) (disch := omega) only [stepS, reduceIte, Nat.reduceBEq, Nat.reduceEqDiff, tupleOf, stepT, i0, i1, hvl, hwl]
    exact hq false ⟨(fun h => by cases h), fun h => absurd (by rw [h]) hn⟩
theorem few_spec {A : AH} {v : Value} {l : List CountV} {Q : Value → AH → Prop} (hv : CountsA A v l) (hl : l.length < 2 ^ 50)
    (hq : ∀ b : Bool, (b = true → l.length ≤ 60 ∧ ∀ c ∈ l, c.name.size ≤ 100) → Q (.bool b) A) : ACalls 0 Try.prog chantrylaw19_Few [v] Q A := by
  refine ACalls.of_fits mixed fits_chantrylaw19_Few rfl ?_
  unfold ic_chantrylaw19_Few
  have i0 : initA [v] 0 = v := rfl
  generalize initA [v] = a at i0
  have hvl := hv.len
  by_cases hn : l.length > 60
  · simp (maxSteps := 1000000) (disch := omega) only [stepS, reduceIte, Nat.reduceBEq, Nat.reduceEqDiff, tupleOf, stepT, i0, hvl]
    exact hq false (by simp)
  · simp (maxSteps := 1000000) (disch := omega) only [stepS, reduceIte, Nat.reduceBEq, Nat.reduceEqDiff, tupleOf, stepT, i0, hvl]
    refine W_loop (fun a' B => B = A ∧ ∃ k : Nat, k ≤ l.length ∧ (∀ c ∈ l.take k, c.name.size ≤ 100) ∧ a' 0 = v ∧ a' 3 = ii k) (fun a' _ => l.length - (iv (a' 3)).toNat) ?_ ?_
    · refine ⟨rfl, 0, by omega, by simp, ?_⟩
      simp (maxSteps := 1000000) (disch := omega) only [stepS, reduceIte, Nat.reduceBEq, Nat.reduceEqDiff, tupleOf, stepT, i0]
      (all_goals (and_intros <;> first | rfl | assumption | (push_cast; rfl) | (congr 1; omega) | omega | (simp; done)))
    · rintro a2 B ⟨rfl, k, hk, hn2, g0, g3⟩
      rcases Nat.lt_or_ge k l.length with hlt | hge
      · obtain ⟨s, hs⟩ := get_some hlt
        obtain ⟨p, q, _, p1, p2, _, p3, _⟩ := hv.fld hs
        have p4 := p3 B (.refl _)
        by_cases hsz : s.name.size > 100
        · simp (maxSteps := 1000000) (disch := omega) only [stepS, reduceIte, Nat.reduceBEq, Nat.reduceEqDiff, tupleOf, stepT, g0, g3, hvl, p1, p2, p4]
          exact hq false (by simp)
        · simp (maxSteps := 1000000) (disch := omega) only [stepS, reduceIte, Nat.reduceBEq, Nat.reduceEqDiff, tupleOf, stepT, g0, g3, hvl, p1, p2, p4]
          refine ⟨⟨k + 1, by omega, ?_, rfl⟩, by omega⟩
          rw [List.take_add_one, hs]
          intro c hc
          rcases List.mem_append.1 hc with hc | hc
          · exact hn2 c hc
          · simp only [Option.toList_some, List.mem_singleton] at hc
            subst hc; omega
      · rw [List.take_of_length_le hge] at hn2
        simp (maxSteps := 1000000) (disch := omega) only [stepS, reduceIte, Nat.reduceBEq, Nat.reduceEqDiff, tupleOf, stepT, g0, g3, hvl]
        exact hq true fun _ => ⟨by omega, hn2⟩
end Go.AS.C


namespace Go.AS.C
open Go Go.Proofs
set_option linter.unusedVariables false
set_option linter.unusedSimpArgs false
set_option maxRecDepth 10000

/-! The chapter's example. -/
theorem pnilN_f {T : TypeId} {A : AH} {x : Addr} : (if kindOf (.pointer T) (.pointer (some x)) = true then sIsnil A (.pointer (some x)) true else none) = some (.bool true, A) := id rfl
theorem pnilN_t {T : TypeId} {A : AH} : (if kindOf (.pointer T) (.pointer none) = true then sIsnil A (.pointer none) true else none) = some (.bool false, A) := id rfl
theorem cRow_inj : ∀ {L M : List CountV}, L.map cRow = M.map cRow → L = M
  | [], [], _ => rfl
  | [], _ :: _, h => by cases h
  | _ :: _, [], h => by cases h
  | a :: L, b :: M, h => by
    rw [List.map_cons, List.map_cons] at h
    injection h with h1 h2
    have : a = b := by
      cases a; cases b
      unfold cRow at h1
      injection h1 with _ h3 _ h4
      simp only at h3 h4
      rw [h3, h4]
    rw [this, cRow_inj h2]
theorem finC_of {L : List CountV} (hL : OkL L) {b : Int} (hb : BndC b L) (hb1 : b ≤ 4611686018427387904) : ∀ c ∈ L, FinC c := by
  intro c hc
  have := nameOk_size (hL.2 c hc)
  have h2 := hb c hc
  exact ⟨by omega, by omega, by omega⟩
theorem finR_of {L : List CountV} (hL : OkL L) {b : Int} (hb : BndC b L) (hb1 : b ≤ 4611686018427387904) : ∀ r ∈ L.map cRow, FinR r := by
  intro r hr
  rw [List.mem_map] at hr
  obtain ⟨c, hc, rfl⟩ := hr
  have h := finC_of hL hb hb1 c hc
  exact ⟨⟨by simp [cRow], by simp [cRow]⟩, le_max h.1, Nat.zero_le _, h.2, Nat.zero_le _, Nat.zero_le _⟩
/-- What the counters' rows tell is loaded. -/
theorem loaded_spec {A : AH} {v : Value} {L : List CountV} {Q : Value → AH → Prop} (hv : RowsA A v (L.map cRow)) (hL : OkL L) (hb : BndC 9007199254740992 L) (hl : L.length ≤ 2 ^ 20)
    (hq : ∀ A', Le A A' → CtrA A' (A.length + 1) A.length L → Q (.tuple #[ptr (A.length + 1), ii 0]) A') : ACalls 0 Try.prog counter_Load [v] Q A := by
  refine load_spec hv (finR_of hL hb (by omega)) (by rw [List.length_map]; exact hl) (fun L' A' h k c => ?_) (fun h => absurd ⟨L, rfl, hL, hb⟩ h)
  have : L' = L := cRow_inj h.1.symm
  subst this
  exact hq A' k c
abbrev sa : ByteArray := ⟨#[97]⟩
abbrev sb : ByteArray := ⟨#[98]⟩
abbrev sA : ByteArray := ⟨#[65]⟩
theorem ok_a3 : okN sa 3 = true := by decide +kernel
theorem ok_a1 : okN sa (-1) = true := by decide +kernel
theorem ok_A : okN sA 1 = false := by decide +kernel
theorem wl1 : addR [] sa 3 = [⟨sa, 3⟩] := by unfold addR; rw [if_pos ok_a3]; rfl
theorem wl2 : addR [⟨sa, 3⟩] sa (-1) = [⟨sa, 2⟩] := by
  unfold addR; rw [if_pos ok_a1]
  simp only [addC]
  rw [if_neg (kl_irr _), if_pos trivial]
  rfl
theorem wl3 : addR [⟨sa, 2⟩] sA 1 = [⟨sa, 2⟩] := by unfold addR; rw [if_neg (by rw [ok_A]; decide)]
theorem wok : OkL [⟨sa, 2⟩] := ⟨List.pairwise_singleton _ _, fun c hc => by rw [List.mem_singleton.1 hc]; decide +kernel⟩
theorem wb : BndC 9007199254740992 [⟨sa, 2⟩] := fun c hc => by rw [List.mem_singleton.1 hc]; decide
theorem wlb : lookC [⟨sa, 2⟩] sb = none := by
  simp only [lookC]
  rw [if_neg (by decide +kernel)]
set_option maxHeartbeats 4000000 in
theorem awake_spec {A : AH} {Q : Value → AH → Prop} (hq : ∀ A', Le A A' → Q (.bool true) A') : ACalls 0 Try.prog chantrylaw19_awake [] Q A := by
  refine ACalls.of_fits mixed fits_chantrylaw19_awake rfl ?_
  unfold ic_chantrylaw19_awake
  generalize initA [] = a
  have e1 : errR sa 3 = 0 := by unfold errR; rw [if_pos ok_a3]
  have e2 : errR sa (-1) = 0 := by unfold errR; rw [if_pos ok_a1]
  have e3 : errR sA 1 = 1 := by unfold errR; rw [if_neg (by rw [ok_A]; decide)]
  simp (maxSteps := 1000000) (disch := omega) only [stepS, reduceIte, Nat.reduceBEq, Nat.reduceEqDiff, tupleOf, stepT, stepX, heapR, lensR, stepM, dsl, Nat.reduceAdd, Nat.reduceLeDiff, pnil_f]
  refine empty_spec fun B kB cB lB => ?_
  simp (maxSteps := 1000000) (disch := omega) only [stepS, reduceIte, Nat.reduceBEq, Nat.reduceEqDiff, tupleOf, stepT, stepX, heapR, lensR, stepM, dsl, Nat.reduceAdd, Nat.reduceLeDiff, pnil_f]
  refine add_spec cB OkL.nil.1 (fun c hc => by cases hc) (by unfold I64; omega) fun B1 c1 k1 _ => ?_
  rw [e1]
  rw [wl1] at c1
  have kB1 : Le A B1 := k1.le kB (Nat.le_refl _)
  simp (maxSteps := 1000000) (disch := omega) only [stepS, reduceIte, Nat.reduceBEq, Nat.reduceEqDiff, tupleOf, stepT, stepX, heapR, lensR, stepM, dsl, Nat.reduceAdd, Nat.reduceLeDiff, pnil_f]
  refine add_spec c1 (List.pairwise_singleton _ _) (fun c hc => by rw [List.mem_singleton.1 hc]; decide) (by unfold I64; omega) fun B2 c2 k2 _ => ?_
  rw [e2]
  rw [wl2] at c2
  have kB2 : Le A B2 := k2.le kB1 (Nat.le_refl _)
  simp (maxSteps := 1000000) (disch := omega) only [stepS, reduceIte, Nat.reduceBEq, Nat.reduceEqDiff, tupleOf, stepT, stepX, heapR, lensR, stepM, dsl, Nat.reduceAdd, Nat.reduceLeDiff, pnil_f]
  refine add_spec c2 wok.1 (fun c hc => by rw [List.mem_singleton.1 hc]; decide) (by unfold I64; omega) fun B3 c3 k3 _ => ?_
  rw [e3]
  rw [wl3] at c3
  have kB3 : Le A B3 := k3.le kB2 (Nat.le_refl _)
  clear k1 k2 k3 c1 c2 cB kB kB1 kB2 e1 e2 e3
  simp (maxSteps := 1000000) (disch := omega) only [stepS, reduceIte, Nat.reduceBEq, Nat.reduceEqDiff, tupleOf, stepT, stepX, heapR, lensR, stepM, dsl, Nat.reduceAdd, Nat.reduceLeDiff, pnil_f]
  refine of_spec c3 ?_
  have ea : lookC [⟨sa, 2⟩] sa = some 2 := rfl
  simp only [ea, Option.getD_some, Option.isSome_some]
  simp (maxSteps := 1000000) (disch := omega) only [stepS, reduceIte, Nat.reduceBEq, Nat.reduceEqDiff, tupleOf, stepT, stepX, heapR, lensR, stepM, dsl, Nat.reduceAdd, Nat.reduceLeDiff, pnil_f]
  refine of_spec c3 ?_
  simp only [wlb, Option.getD_none, Option.isSome_none]
  simp (maxSteps := 1000000) (disch := omega) only [stepS, reduceIte, Nat.reduceBEq, Nat.reduceEqDiff, tupleOf, stepT, stepX, heapR, lensR, stepM, dsl, Nat.reduceAdd, Nat.reduceLeDiff, pnil_f]
  refine rows_spec c3 wok (by decide) fun w B4 k4 hw => ?_
  simp (maxSteps := 1000000) (disch := omega) only [stepS, reduceIte, Nat.reduceBEq, Nat.reduceEqDiff, tupleOf, stepT, stepX, heapR, lensR, stepM, dsl, Nat.reduceAdd, Nat.reduceLeDiff, pnil_f]
  refine loaded_spec (L := [⟨sa, 2⟩]) hw.2.sl wok wb (by decide) fun B5 k5 c5 => ?_
  have c4 := (c3.le k4).le k5
  have kk := (kB3.trans k4).trans k5
  clear hw
  have hbd : fillA [ii 0, .string noT, .string noT, ii 0, .string noT, .string noT, .bool false] [(0, 1, ii 2), (1, 1, .string sa)] = some (rowE ⟨2, sa, noT, 0, noT, noT, false⟩) := rfl
  have hlit : sLit B5 [ii 0, .string noT, .string noT, ii 0, .string noT, .string noT, .bool false] 7 1 [(0, 7, .agg (rowE ⟨2, sa, noT, 0, noT, noT, false⟩).toArray)] = some (.slice (some ⟨B5.length, 0, none⟩) 1 1, B5 ++ [.row (rowE ⟨2, sa, noT, 0, noT, noT, false⟩) .own 7 true]) := litE _ rfl rfl rfl
  have hone : RowsA (B5 ++ [.row (rowE ⟨2, sa, noT, 0, noT, noT, false⟩) .own 7 true]) (.slice (some ⟨B5.length, 0, none⟩) 1 1) [⟨2, sa, noT, 0, noT, noT, false⟩] :=
    ⟨rfl, .inr (.inr ⟨B5.length, 0, 1, _, .own, true, rfl, Nat.le_refl _, get_last _ _, by decide, by simp [rowE], fun j _ => by rw [Nat.zero_add]; simp⟩)⟩
  have k6 : Le B5 (B5 ++ [.row (rowE ⟨2, sa, noT, 0, noT, noT, false⟩) .own 7 true]) := .push _ _
  simp (maxSteps := 1000000) (disch := omega) only [stepS, reduceIte, Nat.reduceBEq, Nat.reduceEqDiff, tupleOf, stepT, stepX, heapR, lensR, stepM, dsl, Nat.reduceAdd, Nat.reduceLeDiff, pnil_f, hbd, hlit]
  refine load_spec hone (fun r hr => by rw [List.mem_singleton.1 hr]; exact ⟨by unfold I64; decide, by decide, by decide, by unfold I64; decide, by decide, by decide⟩) (by decide) (fun L A' h _ _ => ?_) fun _ B7 k7 => ?_
  · exfalso
    cases L with
    | nil => have := h.len; cases this
    | cons c r =>
      have h1 := h.1
      rw [List.map_cons] at h1
      injection h1 with h1 _
      unfold cRow at h1
      injection h1 with h1
      exact absurd h1 (by decide)
  have c7 := (c4.le k6).le k7
  have d7 := (c5.le k6).le k7
  have kk7 := (kk.trans k6).trans k7
  clear c4 c5 hone hlit hbd
  simp (maxSteps := 1000000) (disch := omega) only [stepS, reduceIte, Nat.reduceBEq, Nat.reduceEqDiff, tupleOf, stepT, stepX, heapR, lensR, stepM, dsl, Nat.reduceAdd, Nat.reduceLeDiff, pnil_f]
  refine tell_spec c7 wok (by decide) fun u B8 k8 hu => ?_
  have hbd : fillA [.string noT, ii 0] [(0, 1, .string sa), (1, 1, ii 2)] = some [.string sa, ii 2] := rfl
  have hlit : sLit B8 [.string noT, ii 0] 2 1 [(0, 2, .agg #[.string sa, ii 2])] = some (.slice (some ⟨B8.length, 0, none⟩) 1 1, B8 ++ [.row (countE ⟨sa, 2⟩) .own 2 true]) := litE B8 (z := [.string noT, ii 0]) (e := countE ⟨sa, 2⟩) rfl rfl rfl
  have k9 : Le B8 (B8 ++ [.row (countE ⟨sa, 2⟩) .own 2 true]) := .push _ _
  have hone : CountsA (B8 ++ [.row (countE ⟨sa, 2⟩) .own 2 true]) (.slice (some ⟨B8.length, 0, none⟩) 1 1) [⟨sa, 2⟩] :=
    ⟨rfl, .inr (.inr ⟨B8.length, 0, 1, _, .own, true, rfl, Nat.le_refl _, get_last _ _, by decide, by simp [countE], fun j _ => by rw [Nat.zero_add]; simp⟩)⟩
  simp (maxSteps := 1000000) (disch := omega) only [stepS, reduceIte, Nat.reduceBEq, Nat.reduceEqDiff, tupleOf, stepT, stepX, heapR, lensR, stepM, dsl, Nat.reduceAdd, Nat.reduceLeDiff, pnil_f, hbd, hlit]
  refine ref19_Same_spec (CountsA.le hu.2.sl k9) hone (finC_of wok wb (by decide)) (finC_of wok wb (by decide)) (by decide) (by decide) fun b hb => ?_
  obtain rfl : b = true := hb.2 rfl
  clear hb hone hlit hbd hu
  simp (maxSteps := 1000000) (disch := omega) only [stepS, reduceIte, Nat.reduceBEq, Nat.reduceEqDiff, tupleOf, stepT, stepX, heapR, lensR, stepM, dsl, Nat.reduceAdd, Nat.reduceLeDiff, pnil_f, pnilN_f]
  refine tell_spec ((d7.le k8).le k9) wok (by decide) fun u2 C1 m1 hu2 => ?_
  simp (maxSteps := 1000000) (disch := omega) only [stepS, reduceIte, Nat.reduceBEq, Nat.reduceEqDiff, tupleOf, stepT, stepX, heapR, lensR, stepM, dsl, Nat.reduceAdd, Nat.reduceLeDiff, pnil_f, pnilN_f]
  refine tell_spec (((c7.le k8).le k9).le m1) wok (by decide) fun u3 C2 m2 hu3 => ?_
  simp (maxSteps := 1000000) (disch := omega) only [stepS, reduceIte, Nat.reduceBEq, Nat.reduceEqDiff, tupleOf, stepT, stepX, heapR, lensR, stepM, dsl, Nat.reduceAdd, Nat.reduceLeDiff, pnil_f, pnilN_f]
  refine ref19_Same_spec (CountsA.le hu2.2.sl m2) hu3.2.sl (finC_of wok wb (by decide)) (finC_of wok wb (by decide)) (by decide) (by decide) fun b hb => ?_
  obtain rfl : b = true := hb.2 rfl
  simp (maxSteps := 1000000) (disch := omega) only [stepS, reduceIte, Nat.reduceBEq, Nat.reduceEqDiff, tupleOf, stepT, stepX, heapR, lensR, stepM, dsl, Nat.reduceAdd, Nat.reduceLeDiff, pnil_f, pnilN_f]
  exact hq _ ((((kk7.trans k8).trans k9).trans m1).trans m2)
end Go.AS.C


namespace Go.AS.C
open Go Go.Proofs
set_option linter.unusedVariables false
set_option linter.unusedSimpArgs false
set_option maxRecDepth 10000

/-! Whatever is added, in two orders, makes the same. -/
def FA (L : List CountV) (m : List CountV) : List CountV := m.foldl (fun L c => addR L c.name c.n) L
theorem FA_app (L a b : List CountV) : FA L (a ++ b) = FA (FA L a) b := by unfold FA; rw [List.foldl_append]
theorem FA_snoc (L a : List CountV) (c : CountV) : FA L (a ++ [c]) = addR (FA L a) c.name c.n := by rw [FA_app]; rfl
theorem bnd_addR {L : List CountV} {b : Int} (hb : 0 ≤ b) (h : BndC b L) (s : ByteArray) (n : Int) : BndC (b + 2147483647) (addR L s n) := by
  unfold addR
  split
  · rename_i he
    unfold okN at he
    rw [Bool.and_eq_true, decide_eq_true_eq] at he
    exact BndC.add (m := 2147483647) he.2.1 he.2.2 hb (by omega) s h
  · exact h.mono (by omega)
theorem addR_len (L : List CountV) (s : ByteArray) (n : Int) : (addR L s n).length ≤ L.length + 1 := by
  unfold addR; split
  · exact add_len L s n
  · omega
theorem FA_ok : ∀ {m L : List CountV} {b : Int}, OkL L → 0 ≤ b → BndC b L → OkL (FA L m) ∧ BndC (b + m.length * 2147483647) (FA L m) ∧ (FA L m).length ≤ L.length + m.length
  | [], L, b, h, hb, hB => ⟨h, by simpa [FA] using hB, by simp [FA]⟩
  | c :: r, L, b, h, hb, hB => by
    obtain ⟨h1, h2, h3⟩ := FA_ok (m := r) (h.add c.name c.n) (show 0 ≤ b + 2147483647 by omega) (bnd_addR hb hB c.name c.n)
    have h4 := addR_len L c.name c.n
    refine ⟨h1, ?_, ?_⟩
    · refine BndC.mono (L := FA (addR L c.name c.n) r) h2 ?_
      simp only [List.length_cons]
      omega
    · show (FA (addR L c.name c.n) r).length ≤ _
      simp only [List.length_cons]
      omega
end Go.AS.C


namespace Go.AS.C
open Go Go.Proofs
set_option linter.unusedVariables false
set_option linter.unusedSimpArgs false
set_option maxRecDepth 10000

/-! Counters of any rows; and what is added to them. -/
theorem good_row {A : AH} {F : Nat} (cs : List Value) (h : Good Try.prog A (F + 2) 48 cs) : ∃ w : RowV, cs = rowE w ∧ (I64 w.kind ∧ w.name.size < 2 ^ 50 ∧ w.text.size < 2 ^ 50 ∧ I64 w.n ∧ w.id.size < 2 ^ 50 ∧ w.at'.size < 2 ^ 50) := by
  obtain ⟨hl, hf⟩ := good_fields Try.underlying48 h
  have hc : Try.prog.cellsOf 48 = 7 := by kernel_rfl
  rw [hc] at hl
  match cs, hl with
  | [c0, c1, c2, c3, c4, c5, c6], _ =>
    have e3 : Try.prog.cellsOf 3 = 1 := by kernel_rfl
    have e9 : Try.prog.cellsOf 9 = 1 := by kernel_rfl
    have e4 : Try.prog.cellsOf 4 = 1 := by kernel_rfl
    simp only [List.forall_mem_cons, e3, e9, e4, List.drop_zero, List.drop_succ_cons, List.take_succ_cons, List.take_zero] at hf
    obtain ⟨h0, h1, h2, h3, h4, h5, h6, _⟩ := hf
    obtain ⟨k, r0, b0⟩ := cell_int Try.underlying3 h0
    obtain ⟨nm, r1, b1⟩ := cell_str Try.underlying9 h1
    obtain ⟨tx, r2, b2⟩ := cell_str Try.underlying9 h2
    obtain ⟨n, r3, b3⟩ := cell_int Try.underlying3 h3
    obtain ⟨id, r4, b4⟩ := cell_str Try.underlying9 h4
    obtain ⟨at', r5, b5⟩ := cell_str Try.underlying9 h5
    obtain ⟨g, r6⟩ := cell_bool Try.underlying4 h6
    injection r0 with r0 _
    injection r1 with r1 _
    injection r2 with r2 _
    injection r3 with r3 _
    injection r4 with r4 _
    injection r5 with r5 _
    injection r6 with r6 _
    subst r0 r1 r2 r3 r4 r5 r6
    exact ⟨⟨k, nm, tx, n, id, at', g⟩, rfl, b0, b1, b2, b3, b4, b5⟩
theorem law_rowsV {A : AH} {F : Nat} {v : Value} (h : GoodV Try.prog A (F + 3) 38 v) : ∃ l : List RowV, RowsA A v l ∧ l.length < 2 ^ 50 ∧ ∀ w ∈ l, (I64 w.kind ∧ w.name.size < 2 ^ 50 ∧ w.text.size < 2 ^ 50 ∧ I64 w.n ∧ w.id.size < 2 ^ 50 ∧ w.at'.size < 2 ^ 50) :=
  law_rows Try.underlying38 (by kernel_rfl) (by decide +kernel) good_row h
theorem fin_row {w : RowV} (h : I64 w.kind ∧ w.name.size < 2 ^ 50 ∧ w.text.size < 2 ^ 50 ∧ I64 w.n ∧ w.id.size < 2 ^ 50 ∧ w.at'.size < 2 ^ 50) : FinR w := by
  have hm : maxLen = 9223372036854775807 := by decide
  obtain ⟨h1, h2, h3, h4, h5, h6⟩ := h
  exact ⟨h1, by omega, by omega, h4, by omega, by omega⟩
set_option maxHeartbeats 8000000 in
theorem CounterLoads_spec {A : AH} {v w : Value} {rs : List RowV} {l : List CountV} {Q : Value → AH → Prop} (hv : RowsA A v rs) (hvn : rs.length < 2 ^ 50) (hw : CountsA A w l) (hl : l.length < 2 ^ 50) (hi : ∀ c ∈ l, I64 c.n)
    (hr : ∀ w ∈ rs, (I64 w.kind ∧ w.name.size < 2 ^ 50 ∧ w.text.size < 2 ^ 50 ∧ I64 w.n ∧ w.id.size < 2 ^ 50 ∧ w.at'.size < 2 ^ 50)) (hq : ∀ A', Q (.bool true) A') :
    ACalls 0 Try.prog chantrylaw19_CounterLoads [v, w] Q A := by
  refine ACalls.of_fits mixed fits_chantrylaw19_CounterLoads rfl ?_
  unfold ic_chantrylaw19_CounterLoads
  have i0 : initA [v, w] 0 = v := rfl
  have i1 : initA [v, w] 1 = w := rfl
  generalize initA [v, w] = a at i0 i1
  have hvl := hv.len
  have hwl := hw.len
  have hfin : ∀ r ∈ rs, FinR r := fun r h => fin_row (hr r h)
  refine W_mid (fun a' B => B = A ∧ a' 0 = v ∧ a' 1 = w) ?_ ?_
  · simp (maxSteps := 1000000) (disch := omega) only [stepS, reduceIte, Nat.reduceBEq, Nat.reduceEqDiff, tupleOf, stepT, stepX, heapR, lensR, stepM, dsl, Nat.reduceAdd, Nat.reduceLeDiff, i0, i1]
  clear i0 i1
  rintro a B ⟨rfl, g0, g1⟩
  refine W_midR (fun a' E => rs.length ≤ 60 ∧ (l.length ≤ 60 ∧ ∀ c ∈ l, c.name.size ≤ 100) ∧ E = B ∧ a' 0 = v ∧ a' 1 = w) ?_ ?_
  · by_cases h60 : rs.length > 60
    · simp (maxSteps := 1000000) (disch := omega) only [stepS, reduceIte, Nat.reduceBEq, Nat.reduceEqDiff, tupleOf, stepT, stepX, heapR, lensR, stepM, dsl, Nat.reduceAdd, Nat.reduceLeDiff, g0, g1, hvl]
      refine awake_spec fun E _ => ?_
      simp (maxSteps := 1000000) (disch := omega) only [stepS, reduceIte, Nat.reduceBEq, Nat.reduceEqDiff, tupleOf, stepT, stepX, heapR, lensR, stepM, dsl, Nat.reduceAdd, Nat.reduceLeDiff, g0, g1]
      exact .inr (hq _)
    · simp (maxSteps := 1000000) (disch := omega) only [stepS, reduceIte, Nat.reduceBEq, Nat.reduceEqDiff, tupleOf, stepT, stepX, heapR, lensR, stepM, dsl, Nat.reduceAdd, Nat.reduceLeDiff, g0, g1, hvl]
      refine few_spec hw hl fun b hb => ?_
      cases b with
      | false =>
        simp (maxSteps := 1000000) (disch := omega) only [stepS, reduceIte, Nat.reduceBEq, Nat.reduceEqDiff, tupleOf, stepT, stepX, heapR, lensR, stepM, dsl, Nat.reduceAdd, Nat.reduceLeDiff, g0, g1]
        refine awake_spec fun E _ => ?_
        simp (maxSteps := 1000000) (disch := omega) only [stepS, reduceIte, Nat.reduceBEq, Nat.reduceEqDiff, tupleOf, stepT, stepX, heapR, lensR, stepM, dsl, Nat.reduceAdd, Nat.reduceLeDiff, g0, g1]
        exact .inr (hq _)
      | true =>
        simp (maxSteps := 1000000) (disch := omega) only [stepS, reduceIte, Nat.reduceBEq, Nat.reduceEqDiff, tupleOf, stepT, stepX, heapR, lensR, stepM, dsl, Nat.reduceAdd, Nat.reduceLeDiff, g0, g1]
        exact .inl (hb rfl)
  clear g0 g1
  rintro a E ⟨hn60, ⟨hl60, hls⟩, rfl, g0, g1⟩
  -- the rows' sizes
  refine W_midR (fun a' F => F = E ∧ a' 0 = v ∧ a' 1 = w) ?_ ?_
  · refine W_mid (fun a' F => F = E ∧ a' 0 = v ∧ a' 1 = w ∧ a' 5 = ii ((0 : Nat) : Int)) ?_ ?_
    · simp (maxSteps := 1000000) (disch := omega) only [stepS, reduceIte, Nat.reduceBEq, Nat.reduceEqDiff, tupleOf, stepT, stepX, heapR, lensR, stepM, dsl, Nat.reduceAdd, Nat.reduceLeDiff, g0, g1]
      rfl
    clear g0 g1
    rintro a F ⟨rfl, g0, g1, g5⟩
    rw [W_block]
    obtain ⟨I, hI⟩ : ∃ I : AT → AH → Prop, I = fun a G => G = F ∧ ∃ j : Nat, j ≤ rs.length ∧ a 0 = v ∧ a 1 = w ∧ a 5 = ii j := ⟨_, rfl⟩
    refine W_loop I (fun a _ => rs.length - (iv (a 5)).toNat) (by rw [hI]; exact ⟨rfl, 0, Nat.zero_le _, g0, g1, g5⟩) ?_
    rw [hI]
    clear g0 g1 g5
    rintro a2 G ⟨rfl, j, hj, g0, g1, g5⟩
    rcases Nat.lt_or_ge j rs.length with hlt | hge
    · obtain ⟨r, hrr⟩ := get_some hlt
      obtain ⟨p, p1, _, p2⟩ := hv.at hrr
      obtain ⟨q1, a1, b1⟩ := p2 1 (.string r.name) rfl
      obtain ⟨q2, a2', b2⟩ := p2 2 (.string r.text) rfl
      obtain ⟨q4, a4, b4⟩ := p2 4 (.string r.id) rfl
      obtain ⟨q5, a5, b5⟩ := p2 5 (.string r.at') rfl
      have c1 := b1 G (.refl _)
      have c2 := b2 G (.refl _)
      have c4 := b4 G (.refl _)
      have c5 := b5 G (.refl _)
      by_cases h1 : r.name.size > 100
      · simp (maxSteps := 1000000) (disch := omega) only [stepS, reduceIte, Nat.reduceBEq, Nat.reduceEqDiff, tupleOf, stepT, stepX, heapR, lensR, stepM, dsl, Nat.reduceAdd, Nat.reduceLeDiff, g0, g1, g5, hvl, p1, a1, c1]
        refine awake_spec fun E _ => ?_
        simp (maxSteps := 1000000) (disch := omega) only [stepS, reduceIte, Nat.reduceBEq, Nat.reduceEqDiff, tupleOf, stepT, stepX, heapR, lensR, stepM, dsl, Nat.reduceAdd, Nat.reduceLeDiff, g0, g1]
        exact .inr (hq _)
      · by_cases h2 : r.text.size > 100
        · simp (maxSteps := 1000000) (disch := omega) only [stepS, reduceIte, Nat.reduceBEq, Nat.reduceEqDiff, tupleOf, stepT, stepX, heapR, lensR, stepM, dsl, Nat.reduceAdd, Nat.reduceLeDiff, g0, g1, g5, hvl, p1, a1, c1, a2', c2]
          refine awake_spec fun E _ => ?_
          simp (maxSteps := 1000000) (disch := omega) only [stepS, reduceIte, Nat.reduceBEq, Nat.reduceEqDiff, tupleOf, stepT, stepX, heapR, lensR, stepM, dsl, Nat.reduceAdd, Nat.reduceLeDiff, g0, g1]
          exact .inr (hq _)
        · by_cases h4 : r.id.size > 100
          · simp (maxSteps := 1000000) (disch := omega) only [stepS, reduceIte, Nat.reduceBEq, Nat.reduceEqDiff, tupleOf, stepT, stepX, heapR, lensR, stepM, dsl, Nat.reduceAdd, Nat.reduceLeDiff, g0, g1, g5, hvl, p1, a1, c1, a2', c2, a4, c4]
            refine awake_spec fun E _ => ?_
            simp (maxSteps := 1000000) (disch := omega) only [stepS, reduceIte, Nat.reduceBEq, Nat.reduceEqDiff, tupleOf, stepT, stepX, heapR, lensR, stepM, dsl, Nat.reduceAdd, Nat.reduceLeDiff, g0, g1]
            exact .inr (hq _)
          · by_cases h5 : r.at'.size > 100
            · simp (maxSteps := 1000000) (disch := omega) only [stepS, reduceIte, Nat.reduceBEq, Nat.reduceEqDiff, tupleOf, stepT, stepX, heapR, lensR, stepM, dsl, Nat.reduceAdd, Nat.reduceLeDiff, g0, g1, g5, hvl, p1, a1, c1, a2', c2, a4, c4, a5, c5]
              refine awake_spec fun E _ => ?_
              simp (maxSteps := 1000000) (disch := omega) only [stepS, reduceIte, Nat.reduceBEq, Nat.reduceEqDiff, tupleOf, stepT, stepX, heapR, lensR, stepM, dsl, Nat.reduceAdd, Nat.reduceLeDiff, g0, g1]
              exact .inr (hq _)
            · simp (maxSteps := 1000000) (disch := omega) only [stepS, reduceIte, Nat.reduceBEq, Nat.reduceEqDiff, tupleOf, stepT, stepX, heapR, lensR, stepM, dsl, Nat.reduceAdd, Nat.reduceLeDiff, g0, g1, g5, hvl, p1, a1, c1, a2', c2, a4, c4, a5, c5]
              exact ⟨⟨j + 1, by omega, rfl⟩, by omega⟩
    · simp (maxSteps := 1000000) (disch := omega) only [stepS, reduceIte, Nat.reduceBEq, Nat.reduceEqDiff, tupleOf, stepT, stepX, heapR, lensR, stepM, dsl, Nat.reduceAdd, Nat.reduceLeDiff, g0, g1, g5, hvl]
      exact .inl trivial
  clear g0 g1
  rintro a F ⟨rfl, g0, g1⟩
  have os : ∀ (x : Nat) c z, one1 z → ∀ A', stQ (some ([c], .own, 0, true)) x 0 1 (.agg #[z]) A' = some (undef, A'.set x (.row [z] .own 0 true)) := fun x c z hz A' => by
    have h2 := hz.2
    have : ones [z] = true := by unfold ones; simp [h2]
    unfold stQ
    simp [Value.cells, this, setAll]
  -- what follows the calls of Load
  by_cases hex : ∃ L, LoadP rs L
  · obtain ⟨L, hL⟩ := hex
    simp (maxSteps := 1000000) (disch := omega) only [stepS, reduceIte, Nat.reduceBEq, Nat.reduceEqDiff, tupleOf, stepT, stepX, heapR, lensR, stepM, dsl, Nat.reduceAdd, Nat.reduceLeDiff, g0, g1]
    refine load_spec hv hfin (by omega) (fun L' D hL' kD cD => ?_) (fun h => absurd ⟨L, hL⟩ h)
    obtain rfl : L = L' := cRow_inj (hL.1.symm.trans hL'.1)
    simp (maxSteps := 1000000) (disch := omega) only [stepS, reduceIte, Nat.reduceBEq, Nat.reduceEqDiff, tupleOf, stepT, stepX, heapR, lensR, stepM, dsl, Nat.reduceAdd, Nat.reduceLeDiff, g0, g1]
    refine ref_load_spec (hv.le kD) hfin (fun r h => (hr r h).2.1) (by omega) (fun L2 u D2 hL2 kD2 hu => ?_) (fun h => absurd ⟨L, hL⟩ h)
    obtain rfl : L = L2 := cRow_inj (hL.1.symm.trans hL2.1)
    have hou := Sl.one1 hu
    have hst : sStore (D2 ++ [.row [.slice none 0 0] .own 0 true]) (ptr D2.length) (.agg #[u]) 1 = some (undef, D2 ++ [.row [u] .own 0 true]) := copy_el D2 (z := [.slice none 0 0]) (e := [u]) rfl rfl (by have h2 := hou.2; unfold ones; simp [h2])
    have kE : Le D2 (D2 ++ [.row [u] .own 0 true]) := .push _ _
    have rx : rowAt (D2 ++ [.row [u] .own 0 true]) D2.length = some ([u], .own, 0, true) := rowAt_own (get_last _ _)
    have cE := (cD.le kD2).le kE
    have kAE := (kD.trans kD2).trans kE
    have huE := hu.le kE
    have hxl : F.length + 1 < D2.length := by have := cD.lt.1; have := kD2.len; omega
    obtain ⟨x, hx⟩ : ∃ x, x = D2.length := ⟨_, rfl⟩
    obtain ⟨G0, hG0⟩ : ∃ G, G = D2 ++ [Blk.row [u] .own 0 true] := ⟨_, rfl⟩
    have hb0 : (true != true) = false := rfl
    rw [← hx] at hst rx hxl
    rw [← hG0] at hst kE rx cE kAE huE
    have hnew : (ptr D2.length) = ptr x := by rw [hx]
    have hlx : D2.length = x := hx.symm
    simp (maxSteps := 1000000) (disch := omega) only [stepS, reduceIte, Nat.reduceBEq, Nat.reduceEqDiff, tupleOf, stepT, stepX, heapR, lensR, stepM, dsl, Nat.reduceAdd, Nat.reduceLeDiff, g0, g1, hlx, hst, pnilN_f, hb0]
    clear hst kE cD kD kD2 hL' hL2 hu
    obtain ⟨I, hI⟩ : ∃ I : AT → AH → Prop, I = fun a H => ∃ j : Nat, ∃ z, j ≤ l.length ∧ Le F H ∧ CtrA H (F.length + 1) F.length (FA L (l.take j)) ∧ rowAt H x = some ([z], .own, 0, true) ∧ CountsA H z (FA L (l.take j)) ∧ a 1 = w ∧ a 6 = ptr (F.length + 1) ∧ a 8 = ptr x ∧ a 10 = ii j := ⟨_, rfl⟩
    refine W_loop I (fun a _ => l.length - (iv (a 10)).toNat) (by rw [hI]; refine ⟨0, u, Nat.zero_le _, kAE, cE, rx, huE, ?_⟩; simp (maxSteps := 1000000) (disch := omega) only [stepS, reduceIte, Nat.reduceBEq, Nat.reduceEqDiff, tupleOf, stepT, stepX, heapR, lensR, stepM, dsl, Nat.reduceAdd, Nat.reduceLeDiff, g0, g1]; (all_goals (and_intros <;> first | rfl | assumption | (push_cast; rfl) | (congr 1; omega) | omega | (simp; done)))) ?_
    rw [hI]
    clear g0 g1
    rintro a2 H ⟨j, z, hj, kH, cH, rH, hz, g1, g6, g8, g10⟩
    have hFA : ∀ m : List CountV, m.length ≤ 60 → OkL (FA L m) ∧ BndC 4611686018427387904 (FA L m) ∧ (FA L m).length ≤ 1000 := by
      intro m hm
      obtain ⟨h1, h2, h3⟩ := FA_ok (m := m) hL.2.1 (show (0 : Int) ≤ 9007199254740992 by omega) hL.2.2
      have := hL.len
      exact ⟨h1, h2.mono (by omega), by omega⟩
    rcases Nat.lt_or_ge j l.length with hlt | hge
    · obtain ⟨c, hc⟩ := get_some hlt
      have hcm := List.mem_of_getElem? hc
      obtain ⟨p, q0, q1, p1, p2, p3, p4, p5⟩ := hw.fld hc
      have p6 := p4 H kH
      have p7 := p5 H kH
      obtain ⟨f1, f3, f4⟩ := hFA (l.take j) (by rw [List.length_take]; omega)
      have ht : l.take j ++ [c] = l.take (j + 1) := by rw [List.take_add_one, hc]; rfl
      simp (maxSteps := 1000000) (disch := omega) only [stepS, reduceIte, Nat.reduceBEq, Nat.reduceEqDiff, tupleOf, stepT, stepX, heapR, lensR, stepM, dsl, Nat.reduceAdd, Nat.reduceLeDiff, g1, g6, g8, g10, hwl, pnilN_f, p1, p2, p3, p6, p7]
      refine add_spec cH f1.1 f3 (hi c hcm) fun J cJ kJ lJ => ?_
      rw [← FA_snoc, ht] at cJ
      have rJ : rowAt J x = some ([z], .own, 0, true) := rowAt_own (kJ.2 _ _ (by omega) (rowAt_get rH))
      have kAJ := kJ.le kH (Nat.le_refl _)
      have hzJ := hz.kpm cH kJ
      have p8 := p4 J kAJ
      have p9 := p5 J kAJ
      simp (maxSteps := 1000000) (disch := omega) only [stepS, reduceIte, Nat.reduceBEq, Nat.reduceEqDiff, tupleOf, stepT, stepX, heapR, lensR, stepM, dsl, Nat.reduceAdd, Nat.reduceLeDiff, g1, g6, g8, g10, hwl, p1, p2, p3, p8, p9, rJ]
      have hcs := hls c hcm
      refine ref_add_spec hzJ (by omega) f3 (hi c hcm) (by omega) fun u' K kK hu' => ?_
      rw [← FA_snoc, ht] at hu'
      have rK := kK.row rJ
      have oz := os x z u' (Sl.one1 hu')
      have hlt2 := lt_of_get (rowAt_get rK)
      have kS : Keep K x (K.set x (.row [u'] .own 0 true)) := Keep.set _ _ _
      simp (maxSteps := 1000000) (disch := omega) only [stepS, reduceIte, Nat.reduceBEq, Nat.reduceEqDiff, tupleOf, stepT, stepX, heapR, lensR, stepM, dsl, Nat.reduceAdd, Nat.reduceLeDiff, g1, g6, g8, g10, rK, oz]
      refine ⟨⟨j + 1, u', by omega, kS.le (kAJ.trans kK) (by omega), (cJ.le kK).kp kS (by omega) (by omega), ?_⟩, by omega⟩
      refine ⟨?_, Sl.kp hu' kS (rowAt_get rK) (by decide), rfl⟩
      first
        | exact rowAt_own (by rw [List.getElem?_set_self hlt2])
        | rfl
    · rw [List.take_of_length_le hge] at cH hz
      obtain ⟨f1, f3, f4⟩ := hFA l hl60
      simp (maxSteps := 1000000) (disch := omega) only [stepS, reduceIte, Nat.reduceBEq, Nat.reduceEqDiff, tupleOf, stepT, stepX, heapR, lensR, stepM, dsl, Nat.reduceAdd, Nat.reduceLeDiff, g1, g6, g8, g10, hwl, pnilN_f]
      refine of_nil ?_
      simp (maxSteps := 1000000) (disch := omega) only [stepS, reduceIte, Nat.reduceBEq, Nat.reduceEqDiff, tupleOf, stepT, stepX, heapR, lensR, stepM, dsl, Nat.reduceAdd, Nat.reduceLeDiff, g1, g6, g8, g10, rH]
      refine tell_spec cH f1 (by omega) fun t J kJ ht => ?_
      have hrd : ∀ R, RdOk R H J := fun R => Le.rd kJ R
      simp (maxSteps := 1000000) (disch := omega) only [stepS, reduceIte, Nat.reduceBEq, Nat.reduceEqDiff, tupleOf, stepT, stepX, heapR, lensR, stepM, dsl, Nat.reduceAdd, Nat.reduceLeDiff, g1, g6, g8, g10, hrd]
      refine ref19_Same_spec ht.2.sl (hz.le kJ) (finC_of f1 f3 (by omega)) (finC_of f1 f3 (by omega)) (by omega) (by omega) fun b hb => ?_
      obtain rfl : b = true := hb.2 rfl
      simp (maxSteps := 1000000) (disch := omega) only [stepS, reduceIte, Nat.reduceBEq, Nat.reduceEqDiff, tupleOf, stepT, stepX, heapR, lensR, stepM, dsl, Nat.reduceAdd, Nat.reduceLeDiff, g1, g6, g8, g10]
      refine add_nil ?_
      simp (maxSteps := 1000000) (disch := omega) only [stepS, reduceIte, Nat.reduceBEq, Nat.reduceEqDiff, tupleOf, stepT, stepX, heapR, lensR, stepM, dsl, Nat.reduceAdd, Nat.reduceLeDiff, g1, g6, g8, g10]
      refine tell_nil ?_
      simp (maxSteps := 1000000) (disch := omega) only [stepS, reduceIte, Nat.reduceBEq, Nat.reduceEqDiff, tupleOf, stepT, stepX, heapR, lensR, stepM, dsl, Nat.reduceAdd, Nat.reduceLeDiff, g1, g6, g8, g10]
      refine rows_nil ?_
      simp (maxSteps := 1000000) (disch := omega) only [stepS, reduceIte, Nat.reduceBEq, Nat.reduceEqDiff, tupleOf, stepT, stepX, heapR, lensR, stepM, dsl, Nat.reduceAdd, Nat.reduceLeDiff, g1, g6, g8, g10]
      refine awake_spec fun K _ => ?_
      simp (maxSteps := 1000000) (disch := omega) only [stepS, reduceIte, Nat.reduceBEq, Nat.reduceEqDiff, tupleOf, stepT, stepX, heapR, lensR, stepM, dsl, Nat.reduceAdd, Nat.reduceLeDiff, g1, g6, g8, g10]
      exact hq _
  · simp (maxSteps := 1000000) (disch := omega) only [stepS, reduceIte, Nat.reduceBEq, Nat.reduceEqDiff, tupleOf, stepT, stepX, heapR, lensR, stepM, dsl, Nat.reduceAdd, Nat.reduceLeDiff, g0, g1]
    refine load_spec hv hfin (by omega) (fun L' D hL' kD cD => absurd ⟨L', hL'⟩ hex) (fun _ D kD => ?_)
    simp (maxSteps := 1000000) (disch := omega) only [stepS, reduceIte, Nat.reduceBEq, Nat.reduceEqDiff, tupleOf, stepT, stepX, heapR, lensR, stepM, dsl, Nat.reduceAdd, Nat.reduceLeDiff, g0, g1]
    refine ref_load_spec (hv.le kD) hfin (fun r h => (hr r h).2.1) (by omega) (fun L2 u D2 hL2 kD2 hu => absurd ⟨L2, hL2⟩ hex) (fun _ D2 kD2 => ?_)
    have hst : sStore (D2 ++ [.row [.slice none 0 0] .own 0 true]) (ptr D2.length) (.agg #[.slice none 0 0]) 1 = some (undef, D2 ++ [.row [.slice none 0 0] .own 0 true]) := copy_el D2 (z := [.slice none 0 0]) (e := [.slice none 0 0]) rfl rfl rfl
    have rx : rowAt (D2 ++ [.row [.slice none 0 0] .own 0 true]) D2.length = some ([.slice none 0 0], .own, 0, true) := rowAt_own (get_last _ _)
    obtain ⟨x, hx⟩ : ∃ x, x = D2.length := ⟨_, rfl⟩
    obtain ⟨G0, hG0⟩ : ∃ G, G = D2 ++ [Blk.row [.slice none 0 0] .own 0 true] := ⟨_, rfl⟩
    have hb0 : (false != false) = false := rfl
    rw [← hx] at hst rx
    rw [← hG0] at hst rx
    have hlx : D2.length = x := hx.symm
    simp (maxSteps := 1000000) (disch := omega) only [stepS, reduceIte, Nat.reduceBEq, Nat.reduceEqDiff, tupleOf, stepT, stepX, heapR, lensR, stepM, dsl, Nat.reduceAdd, Nat.reduceLeDiff, g0, g1, hlx, hst, pnilN_t, hb0]
    obtain ⟨I, hI⟩ : ∃ I : AT → AH → Prop, I = fun a H => H = G0 ∧ a 1 = w ∧ a 6 = .pointer none ∧ a 8 = ptr x ∧ a 10 = ii ((0 : Nat) : Int) := ⟨_, rfl⟩
    refine W_loop I (fun a _ => 0) (by rw [hI]; simp (maxSteps := 1000000) (disch := omega) only [stepS, reduceIte, Nat.reduceBEq, Nat.reduceEqDiff, tupleOf, stepT, stepX, heapR, lensR, stepM, dsl, Nat.reduceAdd, Nat.reduceLeDiff, g0, g1]; exact ⟨by rw [hG0, hx]; simp, rfl⟩) ?_
    rw [hI]
    clear g0 g1
    rintro a2 H ⟨rfl, g1, g6, g8, g10⟩
    have hnil : CountsA H (.slice none 0 0) [] := (OwnE.nil 0 H 2).2.sl
    by_cases hl0 : 0 < l.length
    · simp (maxSteps := 1000000) (disch := omega) only [stepS, reduceIte, Nat.reduceBEq, Nat.reduceEqDiff, tupleOf, stepT, stepX, heapR, lensR, stepM, dsl, Nat.reduceAdd, Nat.reduceLeDiff, g1, g6, g8, g10, hwl, pnilN_t]
      refine of_nil ?_
      simp (maxSteps := 1000000) (disch := omega) only [stepS, reduceIte, Nat.reduceBEq, Nat.reduceEqDiff, tupleOf, stepT, stepX, heapR, lensR, stepM, dsl, Nat.reduceAdd, Nat.reduceLeDiff, g1, g6, g8, g10, rx]
      refine tell_nil ?_
      have hrd : ∀ R, RdOk R H H := fun R => Le.rd (.refl _) R
      simp (maxSteps := 1000000) (disch := omega) only [stepS, reduceIte, Nat.reduceBEq, Nat.reduceEqDiff, tupleOf, stepT, stepX, heapR, lensR, stepM, dsl, Nat.reduceAdd, Nat.reduceLeDiff, g1, g6, g8, g10, hrd]
      refine ref19_Same_spec hnil hnil (by simp) (by simp) (by decide) (by decide) fun b hb => ?_
      obtain rfl : b = true := hb.2 rfl
      simp (maxSteps := 1000000) (disch := omega) only [stepS, reduceIte, Nat.reduceBEq, Nat.reduceEqDiff, tupleOf, stepT, stepX, heapR, lensR, stepM, dsl, Nat.reduceAdd, Nat.reduceLeDiff, g1, g6, g8, g10]
      refine add_nil ?_
      simp (maxSteps := 1000000) (disch := omega) only [stepS, reduceIte, Nat.reduceBEq, Nat.reduceEqDiff, tupleOf, stepT, stepX, heapR, lensR, stepM, dsl, Nat.reduceAdd, Nat.reduceLeDiff, g1, g6, g8, g10]
      refine tell_nil ?_
      simp (maxSteps := 1000000) (disch := omega) only [stepS, reduceIte, Nat.reduceBEq, Nat.reduceEqDiff, tupleOf, stepT, stepX, heapR, lensR, stepM, dsl, Nat.reduceAdd, Nat.reduceLeDiff, g1, g6, g8, g10]
      refine rows_nil ?_
      simp (maxSteps := 1000000) (disch := omega) only [stepS, reduceIte, Nat.reduceBEq, Nat.reduceEqDiff, tupleOf, stepT, stepX, heapR, lensR, stepM, dsl, Nat.reduceAdd, Nat.reduceLeDiff, g1, g6, g8, g10]
      refine awake_spec fun K _ => ?_
      simp (maxSteps := 1000000) (disch := omega) only [stepS, reduceIte, Nat.reduceBEq, Nat.reduceEqDiff, tupleOf, stepT, stepX, heapR, lensR, stepM, dsl, Nat.reduceAdd, Nat.reduceLeDiff, g1, g6, g8, g10]
      exact hq _
    · simp (maxSteps := 1000000) (disch := omega) only [stepS, reduceIte, Nat.reduceBEq, Nat.reduceEqDiff, tupleOf, stepT, stepX, heapR, lensR, stepM, dsl, Nat.reduceAdd, Nat.reduceLeDiff, g1, g6, g8, g10, hwl]
      refine of_nil ?_
      simp (maxSteps := 1000000) (disch := omega) only [stepS, reduceIte, Nat.reduceBEq, Nat.reduceEqDiff, tupleOf, stepT, stepX, heapR, lensR, stepM, dsl, Nat.reduceAdd, Nat.reduceLeDiff, g1, g6, g8, g10, rx]
      refine tell_nil ?_
      have hrd : ∀ R, RdOk R H H := fun R => Le.rd (.refl _) R
      simp (maxSteps := 1000000) (disch := omega) only [stepS, reduceIte, Nat.reduceBEq, Nat.reduceEqDiff, tupleOf, stepT, stepX, heapR, lensR, stepM, dsl, Nat.reduceAdd, Nat.reduceLeDiff, g1, g6, g8, g10, hrd]
      refine ref19_Same_spec hnil hnil (by simp) (by simp) (by decide) (by decide) fun b hb => ?_
      obtain rfl : b = true := hb.2 rfl
      simp (maxSteps := 1000000) (disch := omega) only [stepS, reduceIte, Nat.reduceBEq, Nat.reduceEqDiff, tupleOf, stepT, stepX, heapR, lensR, stepM, dsl, Nat.reduceAdd, Nat.reduceLeDiff, g1, g6, g8, g10]
      refine add_nil ?_
      simp (maxSteps := 1000000) (disch := omega) only [stepS, reduceIte, Nat.reduceBEq, Nat.reduceEqDiff, tupleOf, stepT, stepX, heapR, lensR, stepM, dsl, Nat.reduceAdd, Nat.reduceLeDiff, g1, g6, g8, g10]
      refine tell_nil ?_
      simp (maxSteps := 1000000) (disch := omega) only [stepS, reduceIte, Nat.reduceBEq, Nat.reduceEqDiff, tupleOf, stepT, stepX, heapR, lensR, stepM, dsl, Nat.reduceAdd, Nat.reduceLeDiff, g1, g6, g8, g10]
      refine rows_nil ?_
      simp (maxSteps := 1000000) (disch := omega) only [stepS, reduceIte, Nat.reduceBEq, Nat.reduceEqDiff, tupleOf, stepT, stepX, heapR, lensR, stepM, dsl, Nat.reduceAdd, Nat.reduceLeDiff, g1, g6, g8, g10]
      refine awake_spec fun K _ => ?_
      simp (maxSteps := 1000000) (disch := omega) only [stepS, reduceIte, Nat.reduceBEq, Nat.reduceEqDiff, tupleOf, stepT, stepX, heapR, lensR, stepM, dsl, Nat.reduceAdd, Nat.reduceLeDiff, g1, g6, g8, g10]
      exact hq _
theorem CounterLoads_law {A : AH} {v0 v1 : Value} (g0 : GoodV Try.prog A 9 38 v0) (g1 : GoodV Try.prog A 9 22 v1) : ACalls 0 Try.prog 4 [v0, v1] (fun v _ => v = .bool true) A := by
  obtain ⟨rs, h1, h2, h3⟩ := law_rowsV g0
  obtain ⟨l, hl, hb, hi⟩ := law_counts g1
  exact CounterLoads_spec h1 h2 hl hb hi h3 (fun _ => rfl)
end Go.AS.C
