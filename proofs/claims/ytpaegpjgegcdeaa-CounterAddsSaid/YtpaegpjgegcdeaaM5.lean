/- Lemmas for the proof of a given statement; no conditions. -/
import Derived.Test.YtpaegpjgegcdeaaM4
set_option maxHeartbeats 1000000

namespace Go.AS.C
open Go Go.Proofs
set_option linter.unusedVariables false
set_option linter.unusedSimpArgs false
set_option maxRecDepth 10000

/-! The chapter's example. -/
theorem pnilN_f {T : TypeId} {A : AH} {x : Addr} : (if kindOf (.pointer T) (.pointer (some x)) = true then sIsnil A (.pointer (some x)) true else none) = some (.bool true, A) := id rfl
theorem cRow_inj : ∀ {L M : List CountV}, L.map cRow = M.map cRow → L = M
  | [], [], _ => rfl
  | [], _ :: _, h => by cases h
  | _ :: _, [], h => by cases h
  | a :: L, b :: M, h => by
    rw [List.map_cons, List.map_cons] at h
    injection h with h1 h2
    have : a = b := by
      cases a; cases b
      unfold cRow at h1
      injection h1 with _ h3 _ h4
      simp only at h3 h4
      rw [h3, h4]
    rw [this, cRow_inj h2]
theorem finC_of {L : List CountV} (hL : OkL L) {b : Int} (hb : BndC b L) (hb1 : b ≤ 4611686018427387904) : ∀ c ∈ L, FinC c := by
  intro c hc
  have := nameOk_size (hL.2 c hc)
  have h2 := hb c hc
  exact ⟨by omega, by omega, by omega⟩
theorem finR_of {L : List CountV} (hL : OkL L) {b : Int} (hb : BndC b L) (hb1 : b ≤ 4611686018427387904) : ∀ r ∈ L.map cRow, FinR r := by
  intro r hr
  rw [List.mem_map] at hr
  obtain ⟨c, hc, rfl⟩ := hr
  have h := finC_of hL hb hb1 c hc
  exact ⟨⟨by simp [cRow], by simp [cRow]⟩, le_max h.1, Nat.zero_le _, h.2, Nat.zero_le _, Nat.zero_le _⟩
/-- What the counters' rows tell is loaded. -/
theorem loaded_spec {A : AH} {v : Value} {L : List CountV} {Q : Value → AH → Prop} (hv : RowsA A v (L.map cRow)) (hL : OkL L) (hb : BndC 9007199254740992 L) (hl : L.length ≤ 2 ^ 20)
    (hq : ∀ A', Le A A' → CtrA A' (A.length + 1) A.length L → Q (.tuple #[ptr (A.length + 1), ii 0]) A') : ACalls 0 Try.prog counter_Load [v] Q A := by
  refine load_spec hv (finR_of hL hb (by omega)) (by rw [List.length_map]; exact hl) (fun L' A' h k c => ?_) (fun h => absurd ⟨L, rfl, hL, hb⟩ h)
  have : L' = L := cRow_inj h.1.symm
  subst this
  exact hq A' k c
abbrev sa : ByteArray := ⟨#[97]⟩
abbrev sb : ByteArray := ⟨#[98]⟩
abbrev sA : ByteArray := ⟨#[65]⟩
theorem ok_a3 : okN sa 3 = true := by decide +kernel
theorem ok_a1 : okN sa (-1) = true := by decide +kernel
theorem ok_A : okN sA 1 = false := by decide +kernel
theorem wl1 : addR [] sa 3 = [⟨sa, 3⟩] := by unfold addR; rw [if_pos ok_a3]; rfl
theorem wl2 : addR [⟨sa, 3⟩] sa (-1) = [⟨sa, 2⟩] := by
  unfold addR; rw [if_pos ok_a1]
  simp only [addC]
  rw [if_neg (kl_irr _), if_pos trivial]
  rfl
theorem wl3 : addR [⟨sa, 2⟩] sA 1 = [⟨sa, 2⟩] := by unfold addR; rw [if_neg (by rw [ok_A]; decide)]
theorem wok : OkL [⟨sa, 2⟩] := ⟨List.pairwise_singleton _ _, fun c hc => by rw [List.mem_singleton.1 hc]; decide +kernel⟩
theorem wb : BndC 9007199254740992 [⟨sa, 2⟩] := fun c hc => by rw [List.mem_singleton.1 hc]; decide
theorem wlb : lookC [⟨sa, 2⟩] sb = none := by
  simp only [lookC]
  rw [if_neg (by decide +kernel)]
set_option maxHeartbeats 4000000 in
theorem awake_spec {A : AH} {Q : Value → AH → Prop} (hq : ∀ A', Le A A' → Q (.bool true) A') : ACalls 0 Try.prog chantrylaw19_awake [] Q A := by
  refine ACalls.of_fits mixed fits_chantrylaw19_awake rfl ?_
  unfold ic_chantrylaw19_awake
  generalize initA [] = a
  have e1 : errR sa 3 = 0 := by unfold errR; rw [if_pos ok_a3]
  have e2 : errR sa (-1) = 0 := by unfold errR; rw [if_pos ok_a1]
  have e3 : errR sA 1 = 1 := by unfold errR; rw [if_neg (by rw [ok_A]; decide)]
  simp (maxSteps := 1000000) (disch := omega) only [stepS, reduceIte, Nat.reduceBEq, Nat.reduceEqDiff, tupleOf, stepT, stepX, heapR, lensR, stepM, dsl, Nat.reduceAdd, Nat.reduceLeDiff, pnil_f]
  refine empty_spec fun B kB cB lB => ?_
  simp (maxSteps := 1000000) (disch := omega) only [stepS, reduceIte, Nat.reduceBEq, Nat.reduceEqDiff, tupleOf, stepT, stepX, heapR, lensR, stepM, dsl, Nat.reduceAdd, Nat.reduceLeDiff, pnil_f]
  refine add_spec cB OkL.nil.1 (fun c hc => by cases hc) (by unfold I64; omega) fun B1 c1 k1 _ => ?_
  rw [e1]
  rw [wl1] at c1
  have kB1 : Le A B1 := k1.le kB (Nat.le_refl _)
  simp (maxSteps := 1000000) (disch := omega) only [stepS, reduceIte, Nat.reduceBEq, Nat.reduceEqDiff, tupleOf, stepT, stepX, heapR, lensR, stepM, dsl, Nat.reduceAdd, Nat.reduceLeDiff, pnil_f]
  refine add_spec c1 (List.pairwise_singleton _ _) (fun c hc => by rw [List.mem_singleton.1 hc]; decide) (by unfold I64; omega) fun B2 c2 k2 _ => ?_
  rw [e2]
  rw [wl2] at c2
  have kB2 : Le A B2 := k2.le kB1 (Nat.le_refl _)
  simp (maxSteps := 1000000) (disch := omega) only [stepS, reduceIte, Nat.reduceBEq, Nat.reduceEqDiff, tupleOf, stepT, stepX, heapR, lensR, stepM, dsl, Nat.reduceAdd, Nat.reduceLeDiff, pnil_f]
  refine add_spec c2 wok.1 (fun c hc => by rw [List.mem_singleton.1 hc]; decide) (by unfold I64; omega) fun B3 c3 k3 _ => ?_
  rw [e3]
  rw [wl3] at c3
  have kB3 : Le A B3 := k3.le kB2 (Nat.le_refl _)
  clear k1 k2 k3 c1 c2 cB kB kB1 kB2 e1 e2 e3
  simp (maxSteps := 1000000) (disch := omega) only [stepS, reduceIte, Nat.reduceBEq, Nat.reduceEqDiff, tupleOf, stepT, stepX, heapR, lensR, stepM, dsl, Nat.reduceAdd, Nat.reduceLeDiff, pnil_f]
  refine of_spec c3 ?_
  have ea : lookC [⟨sa, 2⟩] sa = some 2 := rfl
  simp only [ea, Option.getD_some, Option.isSome_some]
  simp (maxSteps := 1000000) (disch := omega) only [stepS, reduceIte, Nat.reduceBEq, Nat.reduceEqDiff, tupleOf, stepT, stepX, heapR, lensR, stepM, dsl, Nat.reduceAdd, Nat.reduceLeDiff, pnil_f]
  refine of_spec c3 ?_
  simp only [wlb, Option.getD_none, Option.isSome_none]
  simp (maxSteps := 1000000) (disch := omega) only [stepS, reduceIte, Nat.reduceBEq, Nat.reduceEqDiff, tupleOf, stepT, stepX, heapR, lensR, stepM, dsl, Nat.reduceAdd, Nat.reduceLeDiff, pnil_f]
  refine rows_spec c3 wok (by decide) fun w B4 k4 hw => ?_
  simp (maxSteps := 1000000) (disch := omega) only [stepS, reduceIte, Nat.reduceBEq, Nat.reduceEqDiff, tupleOf, stepT, stepX, heapR, lensR, stepM, dsl, Nat.reduceAdd, Nat.reduceLeDiff, pnil_f]
  refine loaded_spec (L := [⟨sa, 2⟩]) hw.2.sl wok wb (by decide) fun B5 k5 c5 => ?_
  have c4 := (c3.le k4).le k5
  have kk := (kB3.trans k4).trans k5
  clear hw
  have hbd : fillA [ii 0, .string noT, .string noT, ii 0, .string noT, .string noT, .bool false] [(0, 1, ii 2), (1, 1, .string sa)] = some (rowE ⟨2, sa, noT, 0, noT, noT, false⟩) := rfl
  have hlit : sLit B5 [ii 0, .string noT, .string noT, ii 0, .string noT, .string noT, .bool false] 7 1 [(0, 7, .agg (rowE ⟨2, sa, noT, 0, noT, noT, false⟩).toArray)] = some (.slice (some ⟨B5.length, 0, none⟩) 1 1, B5 ++ [.row (rowE ⟨2, sa, noT, 0, noT, noT, false⟩) .own 7 true]) := litE _ rfl rfl rfl
  have hone : RowsA (B5 ++ [.row (rowE ⟨2, sa, noT, 0, noT, noT, false⟩) .own 7 true]) (.slice (some ⟨B5.length, 0, none⟩) 1 1) [⟨2, sa, noT, 0, noT, noT, false⟩] :=
    ⟨rfl, .inr (.inr ⟨B5.length, 0, 1, _, .own, true, rfl, Nat.le_refl _, get_last _ _, by decide, by simp [rowE], fun j _ => by rw [Nat.zero_add]; simp⟩)⟩
  have k6 : Le B5 (B5 ++ [.row (rowE ⟨2, sa, noT, 0, noT, noT, false⟩) .own 7 true]) := .push _ _
  simp (maxSteps := 1000000) (disch := omega) only [stepS, reduceIte, Nat.reduceBEq, Nat.reduceEqDiff, tupleOf, stepT, stepX, heapR, lensR, stepM, dsl, Nat.reduceAdd, Nat.reduceLeDiff, pnil_f, hbd, hlit]
  refine load_spec hone (fun r hr => by rw [List.mem_singleton.1 hr]; exact ⟨by unfold I64; decide, by decide, by decide, by unfold I64; decide, by decide, by decide⟩) (by decide) (fun L A' h _ _ => ?_) fun _ B7 k7 => ?_
  · exfalso
    cases L with
    | nil => have := h.len; cases this
    | cons c r =>
      have h1 := h.1
      rw [List.map_cons] at h1
      injection h1 with h1 _
      unfold cRow at h1
      injection h1 with h1
      exact absurd h1 (by decide)
  have c7 := (c4.le k6).le k7
  have d7 := (c5.le k6).le k7
  have kk7 := (kk.trans k6).trans k7
  clear c4 c5 hone hlit hbd
  simp (maxSteps := 1000000) (disch := omega) only [stepS, reduceIte, Nat.reduceBEq, Nat.reduceEqDiff, tupleOf, stepT, stepX, heapR, lensR, stepM, dsl, Nat.reduceAdd, Nat.reduceLeDiff, pnil_f]
  refine tell_spec c7 wok (by decide) fun u B8 k8 hu => ?_
  have hbd : fillA [.string noT, ii 0] [(0, 1, .string sa), (1, 1, ii 2)] = some [.string sa, ii 2] := rfl
  have hlit : sLit B8 [.string noT, ii 0] 2 1 [(0, 2, .agg #[.string sa, ii 2])] = some (.slice (some ⟨B8.length, 0, none⟩) 1 1, B8 ++ [.row (countE ⟨sa, 2⟩) .own 2 true]) := litE B8 (z := [.string noT, ii 0]) (e := countE ⟨sa, 2⟩) rfl rfl rfl
  have k9 : Le B8 (B8 ++ [.row (countE ⟨sa, 2⟩) .own 2 true]) := .push _ _
  have hone : CountsA (B8 ++ [.row (countE ⟨sa, 2⟩) .own 2 true]) (.slice (some ⟨B8.length, 0, none⟩) 1 1) [⟨sa, 2⟩] :=
    ⟨rfl, .inr (.inr ⟨B8.length, 0, 1, _, .own, true, rfl, Nat.le_refl _, get_last _ _, by decide, by simp [countE], fun j _ => by rw [Nat.zero_add]; simp⟩)⟩
  simp (maxSteps := 1000000) (disch := omega) only [stepS, reduceIte, Nat.reduceBEq, Nat.reduceEqDiff, tupleOf, stepT, stepX, heapR, lensR, stepM, dsl, Nat.reduceAdd, Nat.reduceLeDiff, pnil_f, hbd, hlit]
  refine ref19_Same_spec (CountsA.le hu.2.sl k9) hone (finC_of wok wb (by decide)) (finC_of wok wb (by decide)) (by decide) (by decide) fun b hb => ?_
  obtain rfl : b = true := hb.2 rfl
  clear hb hone hlit hbd hu
  simp (maxSteps := 1000000) (disch := omega) only [stepS, reduceIte, Nat.reduceBEq, Nat.reduceEqDiff, tupleOf, stepT, stepX, heapR, lensR, stepM, dsl, Nat.reduceAdd, Nat.reduceLeDiff, pnil_f, pnilN_f]
  refine tell_spec ((d7.le k8).le k9) wok (by decide) fun u2 C1 m1 hu2 => ?_
  simp (maxSteps := 1000000) (disch := omega) only [stepS, reduceIte, Nat.reduceBEq, Nat.reduceEqDiff, tupleOf, stepT, stepX, heapR, lensR, stepM, dsl, Nat.reduceAdd, Nat.reduceLeDiff, pnil_f, pnilN_f]
  refine tell_spec (((c7.le k8).le k9).le m1) wok (by decide) fun u3 C2 m2 hu3 => ?_
  simp (maxSteps := 1000000) (disch := omega) only [stepS, reduceIte, Nat.reduceBEq, Nat.reduceEqDiff, tupleOf, stepT, stepX, heapR, lensR, stepM, dsl, Nat.reduceAdd, Nat.reduceLeDiff, pnil_f, pnilN_f]
  refine ref19_Same_spec (CountsA.le hu2.2.sl m2) hu3.2.sl (finC_of wok wb (by decide)) (finC_of wok wb (by decide)) (by decide) (by decide) fun b hb => ?_
  obtain rfl : b = true := hb.2 rfl
  simp (maxSteps := 1000000) (disch := omega) only [stepS, reduceIte, Nat.reduceBEq, Nat.reduceEqDiff, tupleOf, stepT, stepX, heapR, lensR, stepM, dsl, Nat.reduceAdd, Nat.reduceLeDiff, pnil_f, pnilN_f]
  exact hq _ ((((kk7.trans k8).trans k9).trans m1).trans m2)
end Go.AS.C


namespace Go.AS.C
open Go Go.Proofs
set_option linter.unusedVariables false
set_option linter.unusedSimpArgs false
set_option maxRecDepth 10000

/-! Whatever is added, in two orders, makes the same. -/
def FA (L : List CountV) (m : List CountV) : List CountV := m.foldl (fun L c => addR L c.name c.n) L
theorem FA_app (L a b : List CountV) : FA L (a ++ b) = FA (FA L a) b := by unfold FA; rw [List.foldl_append]
theorem FA_snoc (L a : List CountV) (c : CountV) : FA L (a ++ [c]) = addR (FA L a) c.name c.n := by rw [FA_app]; rfl
theorem bnd_addR {L : List CountV} {b : Int} (hb : 0 ≤ b) (h : BndC b L) (s : ByteArray) (n : Int) : BndC (b + 2147483647) (addR L s n) := by
  unfold addR
  split
  · rename_i he
    unfold okN at he
    rw [Bool.and_eq_true, decide_eq_true_eq] at he
    exact BndC.add (m := 2147483647) he.2.1 he.2.2 hb (by omega) s h
  · exact h.mono (by omega)
theorem addR_len (L : List CountV) (s : ByteArray) (n : Int) : (addR L s n).length ≤ L.length + 1 := by
  unfold addR; split
  · exact add_len L s n
  · omega
theorem FA_ok : ∀ {m L : List CountV} {b : Int}, OkL L → 0 ≤ b → BndC b L → OkL (FA L m) ∧ BndC (b + m.length * 2147483647) (FA L m) ∧ (FA L m).length ≤ L.length + m.length
  | [], L, b, h, hb, hB => ⟨h, by simpa [FA] using hB, by simp [FA]⟩
  | c :: r, L, b, h, hb, hB => by
    obtain ⟨h1, h2, h3⟩ := FA_ok (m := r) (h.add c.name c.n) (show 0 ≤ b + 2147483647 by omega) (bnd_addR hb hB c.name c.n)
    have h4 := addR_len L c.name c.n
    refine ⟨h1, ?_, ?_⟩
    · refine BndC.mono (L := FA (addR L c.name c.n) r) h2 ?_
      simp only [List.length_cons]
      omega
    · show (FA (addR L c.name c.n) r).length ≤ _
      simp only [List.length_cons]
      omega
/-- Of few counts. -/
theorem FA_few {m : List CountV} (hm : m.length ≤ 1000) : OkL (FA [] m) ∧ BndC 9007199254740992 (FA [] m) ∧ BndC 4611686018427387904 (FA [] m) ∧ (FA [] m).length ≤ 1000 := by
  obtain ⟨h1, h2, h3⟩ := FA_ok (m := m) OkL.nil (show (0 : Int) ≤ 0 by omega) (fun c hc => by cases hc)
  simp only [List.length_nil] at h3
  exact ⟨h1, h2.mono (by omega), h2.mono (by omega), by omega⟩
end Go.AS.C


namespace Go.AS.C
open Go Go.Proofs
set_option linter.unusedVariables false
set_option linter.unusedSimpArgs false
set_option maxRecDepth 10000

/-! Whatever is added. -/
set_option maxHeartbeats 8000000 in
theorem CounterAdds_spec {A : AH} {v : Value} {l : List CountV} {ask : ByteArray} {Q : Value → AH → Prop} (hv : CountsA A v l) (hl : l.length < 2 ^ 50) (hi : ∀ c ∈ l, I64 c.n) (hask : ask.size < 2 ^ 50) (hq : ∀ A', Q (.bool true) A') :
    ACalls 0 Try.prog chantrylaw19_CounterAdds [v, .string ask] Q A := by
  refine ACalls.of_fits mixed fits_chantrylaw19_CounterAdds rfl ?_
  unfold ic_chantrylaw19_CounterAdds
  have i0 : initA [v, .string ask] 0 = v := rfl
  have i1 : initA [v, .string ask] 1 = .string ask := rfl
  generalize initA [v, .string ask] = a at i0 i1
  have hvl := hv.len
  have ob : ∀ A' : AH, sBuild A' [.slice none 0 0] [] = some (.agg #[.slice none 0 0], A') := fun A' => rfl
  have os : ∀ (x : Nat) c z, one1 z → ∀ A', stQ (some ([c], .own, 0, true)) x 0 1 (.agg #[z]) A' = some (undef, A'.set x (.row [z] .own 0 true)) := fun x c z hz A' => by
    have h2 := hz.2
    have : ones [z] = true := by unfold ones; simp [h2]
    unfold stQ
    simp [Value.cells, this, setAll]
  refine W_mid (fun a' B => B = A ∧ a' 0 = v ∧ a' 1 = .string ask) ?_ ?_
  · simp (maxSteps := 1000000) (disch := omega) only [stepS, reduceIte, Nat.reduceBEq, Nat.reduceEqDiff, tupleOf, stepT, stepX, heapR, lensR, stepM, dsl, Nat.reduceAdd, Nat.reduceLeDiff, i0, i1]
  clear i0 i1
  rintro a B ⟨rfl, g0, g1⟩
  refine W_mid (fun a' D => (∃ D0, D = D0 ++ [.row [.slice none 0 0] .own 0 true] ∧ D0.length = B.length + 2 ∧ Le B D0 ∧ CtrA D0 (B.length + 1) B.length []) ∧ a' 0 = v ∧ a' 1 = .string ask ∧ a' 5 = ptr (B.length + 1) ∧ a' 6 = ptr (B.length + 2)) ?_ ?_
  · simp (maxSteps := 1000000) (disch := omega) only [stepS, reduceIte, Nat.reduceBEq, Nat.reduceEqDiff, tupleOf, stepT, stepX, heapR, lensR, stepM, dsl, Nat.reduceAdd, Nat.reduceLeDiff, g0, g1]
    refine empty_spec fun D0 k0 c0 l0 => ?_
    have hst : sStore (D0 ++ [.row [.slice none 0 0] .own 0 true]) (ptr D0.length) (.agg #[.slice none 0 0]) 1 = some (undef, D0 ++ [.row [.slice none 0 0] .own 0 true]) := copy_el D0 (z := [.slice none 0 0]) (e := [.slice none 0 0]) rfl rfl rfl
    simp (maxSteps := 1000000) (disch := omega) only [stepS, reduceIte, Nat.reduceBEq, Nat.reduceEqDiff, tupleOf, stepT, stepX, heapR, lensR, stepM, dsl, Nat.reduceAdd, Nat.reduceLeDiff, g0, g1, ob, l0]
    exact ⟨D0, by rw [← l0]; simp, l0, k0, c0⟩
  clear g0 g1
  rintro a D ⟨⟨D0, hD, lD0, kD0, cD0⟩, g0, g1, g5, g6⟩
  obtain ⟨x, hx⟩ : ∃ x, x = B.length + 2 := ⟨_, rfl⟩
  have kD1 : Le D0 D := by rw [hD]; exact .push _ _
  have rD : rowAt D x = some ([.slice none 0 0], .own, 0, true) := by rw [hD, hx, ← lD0]; exact rowAt_own (get_last _ _)
  have cD := cD0.le kD1
  have kD := kD0.trans kD1
  rw [← hx] at g6
  clear hD kD1 cD0 kD0 lD0
  refine W_midR (fun a' E => (l.length ≤ 60 ∧ ∀ c ∈ l, c.name.size ≤ 100) ∧ E = D ∧ a' 0 = v ∧ a' 1 = .string ask ∧ a' 5 = ptr (B.length + 1) ∧ a' 6 = ptr x) ?_ ?_
  · simp (maxSteps := 1000000) (disch := omega) only [stepS, reduceIte, Nat.reduceBEq, Nat.reduceEqDiff, tupleOf, stepT, stepX, heapR, lensR, stepM, dsl, Nat.reduceAdd, Nat.reduceLeDiff, g0, g1]
    refine few_spec (hv.le kD) hl fun b hb => ?_
    cases b with
    | false =>
      simp (maxSteps := 1000000) (disch := omega) only [stepS, reduceIte, Nat.reduceBEq, Nat.reduceEqDiff, tupleOf, stepT, stepX, heapR, lensR, stepM, dsl, Nat.reduceAdd, Nat.reduceLeDiff, g0, g1, g5, g6]
      refine awake_spec fun E _ => ?_
      simp (maxSteps := 1000000) (disch := omega) only [stepS, reduceIte, Nat.reduceBEq, Nat.reduceEqDiff, tupleOf, stepT, stepX, heapR, lensR, stepM, dsl, Nat.reduceAdd, Nat.reduceLeDiff, g0, g1]
      exact .inr (hq _)
    | true =>
      by_cases h1 : ask.size > 100
      · simp (maxSteps := 1000000) (disch := omega) only [stepS, reduceIte, Nat.reduceBEq, Nat.reduceEqDiff, tupleOf, stepT, stepX, heapR, lensR, stepM, dsl, Nat.reduceAdd, Nat.reduceLeDiff, g0, g1, g5, g6]
        refine awake_spec fun E _ => ?_
        simp (maxSteps := 1000000) (disch := omega) only [stepS, reduceIte, Nat.reduceBEq, Nat.reduceEqDiff, tupleOf, stepT, stepX, heapR, lensR, stepM, dsl, Nat.reduceAdd, Nat.reduceLeDiff, g0, g1]
        exact .inr (hq _)
      · simp (maxSteps := 1000000) (disch := omega) only [stepS, reduceIte, Nat.reduceBEq, Nat.reduceEqDiff, tupleOf, stepT, stepX, heapR, lensR, stepM, dsl, Nat.reduceAdd, Nat.reduceLeDiff, g0, g1, g5, g6, pnil_f]
        exact .inl (hb rfl)
  clear g0 g1 g5 g6
  rintro a E ⟨⟨hl60, hls⟩, rfl, g0, g1, g5, g6⟩
  refine W_mid (fun a' F => Le B F ∧ CtrA F (B.length + 1) B.length (FA [] l) ∧ (∃ z, rowAt F x = some ([z], .own, 0, true) ∧ CountsA F z (FA [] l)) ∧ a' 1 = .string ask ∧ a' 5 = ptr (B.length + 1) ∧ a' 6 = ptr x) ?_ ?_
  · refine W_mid (fun a' F => F = E ∧ a' 0 = v ∧ a' 1 = .string ask ∧ a' 5 = ptr (B.length + 1) ∧ a' 6 = ptr x ∧ a' 7 = ii ((0 : Nat) : Int)) ?_ ?_
    · simp (maxSteps := 1000000) (disch := omega) only [stepS, reduceIte, Nat.reduceBEq, Nat.reduceEqDiff, tupleOf, stepT, stepX, heapR, lensR, stepM, dsl, Nat.reduceAdd, Nat.reduceLeDiff, g0, g1, g5, g6]
      rfl
    clear g0 g1 g5 g6
    rintro a F ⟨rfl, g0, g1, g5, g6, g7⟩
    rw [W_block]
    obtain ⟨I, hI⟩ : ∃ I : AT → AH → Prop, I = fun a G => ∃ (j : Nat) (z : Value), j ≤ l.length ∧ Le B G ∧ CtrA G (B.length + 1) B.length (FA [] (l.take j)) ∧ rowAt G x = some ([z], .own, 0, true) ∧ CountsA G z (FA [] (l.take j)) ∧ a 0 = v ∧ a 1 = .string ask ∧ a 5 = ptr (B.length + 1) ∧ a 6 = ptr x ∧ a 7 = ii j := ⟨_, rfl⟩
    refine W_loop I (fun a _ => l.length - (iv (a 7)).toNat) (by rw [hI]; exact ⟨0, .slice none 0 0, Nat.zero_le _, kD, cD, rD, (OwnE.nil 0 F 2).2.sl, g0, g1, g5, g6, g7⟩) ?_
    clear g0 g1 g5 g6 g7
    intro a2 G hinv
    rw [hI] at hinv
    obtain ⟨j, z, hj, kG, cG, rG, hz, g0, g1, g5, g6, g7⟩ := hinv
    rcases Nat.lt_or_ge j l.length with hlt | hge
    rotate_left
    · rw [List.take_of_length_le hge] at cG hz
      simp (maxSteps := 1000000) (disch := omega) only [stepS, reduceIte, Nat.reduceBEq, Nat.reduceEqDiff, tupleOf, stepT, stepX, heapR, lensR, stepM, dsl, Nat.reduceAdd, Nat.reduceLeDiff, g0, g1, g5, g6, g7, hvl]
      exact ⟨kG, cG, z, rG, hz⟩
    obtain ⟨c, hc⟩ := get_some hlt
    have hcm := List.mem_of_getElem? hc
    obtain ⟨p, q0, q1, p1, p2, p3, p4, p5⟩ := hv.fld hc
    have ht : l.take j ++ [c] = l.take (j + 1) := by rw [List.take_add_one, hc]; rfl
    have hdec : l.length - (j + 1) < l.length - j := by omega
    obtain ⟨L, hL⟩ : ∃ L, L = FA [] (l.take j) := ⟨_, rfl⟩
    obtain ⟨L', hL'⟩ : ∃ L, L = FA [] (l.take (j + 1)) := ⟨_, rfl⟩
    have hLL : L' = addR L c.name c.n := by rw [hL', hL, ← ht, FA_snoc]
    obtain ⟨f1, f2, f3, f4⟩ := FA_few (m := l.take j) (by rw [List.length_take]; omega)
    obtain ⟨h1, h2, h3, h4⟩ := FA_few (m := l.take (j + 1)) (by rw [List.length_take]; omega)
    rw [← hL] at f1 f2 f3 f4 cG hz
    rw [← hL'] at h1 h2 h3 h4
    refine W_mid (fun a' G' => G' = G ∧ a' 0 = v ∧ a' 1 = .string ask ∧ a' 5 = ptr (B.length + 1) ∧ a' 6 = ptr x ∧ a' 7 = ii j) ?_ ?_
    · simp (maxSteps := 1000000) (disch := omega) only [stepS, reduceIte, Nat.reduceBEq, Nat.reduceEqDiff, tupleOf, stepT, stepX, heapR, lensR, stepM, dsl, Nat.reduceAdd, Nat.reduceLeDiff, g0, g1, g5, g6, g7, hvl]
    have g7o := g7
    clear g0 g1 g5 g6 g7
    rintro b G' ⟨rfl, g0, g1, g5, g6, g7⟩
    refine W_midR (fun a' H => ∃ w, Le B H ∧ CtrA H (B.length + 1) B.length L' ∧ rowAt H x = some ([w], .own, 0, true) ∧ CountsA H w L' ∧ a' 0 = v ∧ a' 1 = .string ask ∧ a' 5 = ptr (B.length + 1) ∧ a' 6 = ptr x ∧ a' 7 = ii j) ?_ ?_
    rotate_left
    · clear g0 g1 g5 g6 g7 b
      rintro b H ⟨w, e1, e2, e3, e4, g0, g1, g5, g6, g7⟩
      simp (maxSteps := 1000000) (disch := omega) only [stepS, reduceIte, Nat.reduceBEq, Nat.reduceEqDiff, tupleOf, stepT, stepX, heapR, lensR, stepM, dsl, Nat.reduceAdd, Nat.reduceLeDiff, g0, g1, g5, g6, g7, g7o]
      rw [hI]
      have hcd : l.length - (iv (ii ((j : Int) + 1))).toNat < l.length - (iv (ii (j : Int))).toNat := by
        show l.length - ((j : Int) + 1).toNat < l.length - (j : Int).toNat
        omega
      rw [hL'] at e2 e4
      refine ⟨⟨j + 1, w, by omega, e1, e2, e3, e4, by simp (maxSteps := 1000000) (disch := omega) only [stepS, reduceIte, Nat.reduceBEq, Nat.reduceEqDiff, tupleOf, stepT, stepX, heapR, lensR, stepM, dsl, Nat.reduceAdd, Nat.reduceLeDiff, g0], by simp (maxSteps := 1000000) (disch := omega) only [stepS, reduceIte, Nat.reduceBEq, Nat.reduceEqDiff, tupleOf, stepT, stepX, heapR, lensR, stepM, dsl, Nat.reduceAdd, Nat.reduceLeDiff, g1], by simp (maxSteps := 1000000) (disch := omega) only [stepS, reduceIte, Nat.reduceBEq, Nat.reduceEqDiff, tupleOf, stepT, stepX, heapR, lensR, stepM, dsl, Nat.reduceAdd, Nat.reduceLeDiff, g5], by simp (maxSteps := 1000000) (disch := omega) only [stepS, reduceIte, Nat.reduceBEq, Nat.reduceEqDiff, tupleOf, stepT, stepX, heapR, lensR, stepM, dsl, Nat.reduceAdd, Nat.reduceLeDiff, g6], by simp (maxSteps := 1000000) (disch := omega) only [stepS, reduceIte, Nat.reduceBEq, Nat.reduceEqDiff, tupleOf, stepT, stepX, heapR, lensR, stepM, dsl, Nat.reduceAdd, Nat.reduceLeDiff, g7]; rfl⟩, ?_⟩
      first
        | exact hcd
        | omega
    rw [W_block]
    have p6 := p4 G' kG
    have p7 := p5 G' kG
    have hcs := hls c hcm
    obtain ⟨Z, hZ⟩ : ∃ Z : AT → AH → Prop, Z = fun a' C => ∃ (y : Nat) (u : Value), Le G' C ∧ rowAt C y = some ([u], .own, 0, true) ∧ CountsA C u L' ∧ a' 0 = v ∧ a' 1 = .string ask ∧ a' 5 = ptr (B.length + 1) ∧ a' 6 = ptr x ∧ a' 7 = ii j ∧ a' 8 = ptr y ∧ a' 9 = ii (errR c.name c.n) := ⟨_, rfl⟩
    refine W_mid Z ?_ ?_
    · have hzo := Sl.one1 hz
      simp (maxSteps := 1000000) (disch := omega) only [stepS, reduceIte, Nat.reduceBEq, Nat.reduceEqDiff, tupleOf, stepT, stepX, heapR, lensR, stepM, dsl, Nat.reduceAdd, Nat.reduceLeDiff, g0, g1, g5, g6, g7, rG, p1, p2, p3, p6, p7]
      refine W_alt ?_ ?_
      · simp (maxSteps := 1000000) (disch := omega) only [stepS, reduceIte, Nat.reduceBEq, Nat.reduceEqDiff, tupleOf, stepT, stepX, heapR, lensR, stepM, dsl, Nat.reduceAdd, Nat.reduceLeDiff, g0, g1, g5, g6, g7]
        refine ref_add_spec hz (by omega) f3 (hi c hcm) (by omega) fun u B3 k3 hu => ?_
        rw [← hLL] at hu
        have hrd : ∀ R, RdOk R G' (B3 ++ [Blk.row [.slice none 0 0] .own 0 true]) := fun R => (k3.trans (.push _ _)).rd R
        have hrd2 : ∀ R, RdOk R B3 (B3 ++ [Blk.row [.slice none 0 0] .own 0 true]) := fun R => Le.rd (.push _ _) R
        have ou := Sl.one1 hu
        have hst : sStore (B3 ++ [.row [.slice none 0 0] .own 0 true]) (ptr B3.length) (.agg #[u]) 1 = some (undef, B3 ++ [.row [u] .own 0 true]) := copy_el B3 (z := [.slice none 0 0]) (e := [u]) rfl rfl (by have h2 := ou.2; unfold ones; simp [h2])
        simp (maxSteps := 1000000) (disch := omega) only [stepS, reduceIte, Nat.reduceBEq, Nat.reduceEqDiff, tupleOf, stepT, stepX, heapR, lensR, stepM, dsl, Nat.reduceAdd, Nat.reduceLeDiff, g0, g1, g5, g6, g7, hrd, hrd2, hst]
        rw [hZ]
        exact ⟨B3.length, u, k3.trans (.push _ _), rowAt_own (get_last _ _), hu.le (.push _ _), by simp (maxSteps := 1000000) (disch := omega) only [stepS, reduceIte, Nat.reduceBEq, Nat.reduceEqDiff, tupleOf, stepT, stepX, heapR, lensR, stepM, dsl, Nat.reduceAdd, Nat.reduceLeDiff, g0], by simp (maxSteps := 1000000) (disch := omega) only [stepS, reduceIte, Nat.reduceBEq, Nat.reduceEqDiff, tupleOf, stepT, stepX, heapR, lensR, stepM, dsl, Nat.reduceAdd, Nat.reduceLeDiff, g1], by simp (maxSteps := 1000000) (disch := omega) only [stepS, reduceIte, Nat.reduceBEq, Nat.reduceEqDiff, tupleOf, stepT, stepX, heapR, lensR, stepM, dsl, Nat.reduceAdd, Nat.reduceLeDiff, g5], by simp (maxSteps := 1000000) (disch := omega) only [stepS, reduceIte, Nat.reduceBEq, Nat.reduceEqDiff, tupleOf, stepT, stepX, heapR, lensR, stepM, dsl, Nat.reduceAdd, Nat.reduceLeDiff, g6], by simp (maxSteps := 1000000) (disch := omega) only [stepS, reduceIte, Nat.reduceBEq, Nat.reduceEqDiff, tupleOf, stepT, stepX, heapR, lensR, stepM, dsl, Nat.reduceAdd, Nat.reduceLeDiff, g7], by simp (maxSteps := 1000000) (disch := omega) only [stepS, reduceIte, Nat.reduceBEq, Nat.reduceEqDiff, tupleOf, stepT, stepX, heapR, lensR, stepM, dsl, Nat.reduceAdd, Nat.reduceLeDiff, g0], by simp (maxSteps := 1000000) (disch := omega) only [stepS, reduceIte, Nat.reduceBEq, Nat.reduceEqDiff, tupleOf, stepT, stepX, heapR, lensR, stepM, dsl, Nat.reduceAdd, Nat.reduceLeDiff, g0]⟩
      · have hrd0 : ∀ R, RdOk R G' (G' ++ [Blk.row [.slice none 0 0] .own 0 true]) := fun R => Le.rd (.push _ _) R
        obtain ⟨E, hE⟩ : ∃ E : AH, E = G' ++ [Blk.row [.slice none 0 0] .own 0 true] := ⟨_, rfl⟩
        have kE : Le G' E := by rw [hE]; exact .push _ _
        have r10 : rowAt E G'.length = some ([.slice none 0 0], .own, 0, true) := by rw [hE]; exact rowAt_own (get_last _ _)
        simp (maxSteps := 1000000) (disch := omega) only [stepS, reduceIte, Nat.reduceBEq, Nat.reduceEqDiff, tupleOf, stepT, stepX, heapR, lensR, stepM, dsl, Nat.reduceAdd, Nat.reduceLeDiff, g0, g1, g5, g6, g7, hrd0]
        rw [← hE]
        clear hE hrd0
        refine ref_add_spec (hz.le kE) (by omega) f3 (hi c hcm) (by omega) fun u B3 k3 hu => ?_
        rw [← hLL] at hu
        have r11 := k3.row r10
        have hrd : ∀ R, RdOk R E B3 := fun R => k3.rd R
        have ou := os G'.length (.slice none 0 0) u (Sl.one1 hu)
        have kS : Keep B3 G'.length (B3.set G'.length (.row [u] .own 0 true)) := Keep.set _ _ _
        have l11 := lt_of_get (rowAt_get r11)
        simp (maxSteps := 1000000) (disch := omega) only [stepS, reduceIte, Nat.reduceBEq, Nat.reduceEqDiff, tupleOf, stepT, stepX, heapR, lensR, stepM, dsl, Nat.reduceAdd, Nat.reduceLeDiff, g0, g1, g5, g6, g7, hrd, r11, ou]
        rw [hZ]
        exact ⟨G'.length, u, kS.le (kE.trans k3) (Nat.le_refl _), rowAt_own (by rw [List.getElem?_set_self l11]), Sl.kp hu kS (rowAt_get r11) (by decide), by simp (maxSteps := 1000000) (disch := omega) only [stepS, reduceIte, Nat.reduceBEq, Nat.reduceEqDiff, tupleOf, stepT, stepX, heapR, lensR, stepM, dsl, Nat.reduceAdd, Nat.reduceLeDiff, g0], by simp (maxSteps := 1000000) (disch := omega) only [stepS, reduceIte, Nat.reduceBEq, Nat.reduceEqDiff, tupleOf, stepT, stepX, heapR, lensR, stepM, dsl, Nat.reduceAdd, Nat.reduceLeDiff, g1], by simp (maxSteps := 1000000) (disch := omega) only [stepS, reduceIte, Nat.reduceBEq, Nat.reduceEqDiff, tupleOf, stepT, stepX, heapR, lensR, stepM, dsl, Nat.reduceAdd, Nat.reduceLeDiff, g5], by simp (maxSteps := 1000000) (disch := omega) only [stepS, reduceIte, Nat.reduceBEq, Nat.reduceEqDiff, tupleOf, stepT, stepX, heapR, lensR, stepM, dsl, Nat.reduceAdd, Nat.reduceLeDiff, g6], by simp (maxSteps := 1000000) (disch := omega) only [stepS, reduceIte, Nat.reduceBEq, Nat.reduceEqDiff, tupleOf, stepT, stepX, heapR, lensR, stepM, dsl, Nat.reduceAdd, Nat.reduceLeDiff, g7], by simp (maxSteps := 1000000) (disch := omega) only [stepS, reduceIte, Nat.reduceBEq, Nat.reduceEqDiff, tupleOf, stepT, stepX, heapR, lensR, stepM, dsl, Nat.reduceAdd, Nat.reduceLeDiff, g0], by simp (maxSteps := 1000000) (disch := omega) only [stepS, reduceIte, Nat.reduceBEq, Nat.reduceEqDiff, tupleOf, stepT, stepX, heapR, lensR, stepM, dsl, Nat.reduceAdd, Nat.reduceLeDiff, g0]⟩
    clear g0 g1 g5 g6 g7 b
    intro b C hz2
    rw [hZ] at hz2
    obtain ⟨y, u, kC, rC, hu, g0, g1, g5, g6, g7, g8, g9⟩ := hz2
    have rx := kC.row rG
    have ou := os x z u (Sl.one1 hu)
    have lx := lt_of_get (rowAt_get rx)
    refine W_mid (fun a' D => D = C.set x (.row [u] .own 0 true) ∧ a' 0 = v ∧ a' 1 = .string ask ∧ a' 5 = ptr (B.length + 1) ∧ a' 6 = ptr x ∧ a' 7 = ii j ∧ a' 9 = ii (errR c.name c.n)) ?_ ?_
    · simp (maxSteps := 1000000) (disch := omega) only [stepS, reduceIte, Nat.reduceBEq, Nat.reduceEqDiff, tupleOf, stepT, stepX, heapR, lensR, stepM, dsl, Nat.reduceAdd, Nat.reduceLeDiff, g0, g1, g5, g6, g7, g8, g9, rC, rx, ou]
    clear g0 g1 g5 g6 g7 g8 g9 b
    rintro b D1 ⟨hD1, g0, g1, g5, g6, g7, g9⟩
    have kS : Keep C x D1 := by rw [hD1]; exact Keep.set _ _ _
    have cD1 := (cG.le kC).kp kS (by omega) (by omega)
    have rD1 : rowAt D1 x = some ([u], .own, 0, true) := by rw [hD1]; exact rowAt_own (by rw [List.getElem?_set_self lx])
    have huD := Sl.kp hu kS (rowAt_get rx) (by decide)
    have kD1 := kS.le (kG.trans kC) (by omega)
    clear hD1
    have p8 := p4 D1 kD1
    have p9 := p5 D1 kD1
    simp (maxSteps := 1000000) (disch := omega) only [stepS, reduceIte, Nat.reduceBEq, Nat.reduceEqDiff, tupleOf, stepT, stepX, heapR, lensR, stepM, dsl, Nat.reduceAdd, Nat.reduceLeDiff, g0, g1, g5, g6, g7, g9, p1, p2, p3, p8, p9]
    refine add_spec cD1 f1.1 f3 (hi c hcm) fun E1 cE1 kE1 _ => ?_
    rw [← hLL] at cE1
    have rE1 : rowAt E1 x = some ([u], .own, 0, true) := rowAt_own (kE1.2 _ _ (by omega) (rowAt_get rD1))
    have huE : CountsA E1 u L' := CountsA.kpm huD cD1 kE1
    have kBE := kE1.le kD1 (Nat.le_refl _)
    have hne : decide (errR c.name c.n ≠ errR c.name c.n) = false := by simp
    simp (maxSteps := 1000000) (disch := omega) only [stepS, reduceIte, Nat.reduceBEq, Nat.reduceEqDiff, tupleOf, stepT, stepX, heapR, lensR, stepM, dsl, Nat.reduceAdd, Nat.reduceLeDiff, g0, g1, g5, g6, g7, g9, hne, rE1]
    refine tell_spec cE1 h1 (by omega) fun t F1 kF1 htt => ?_
    have hrd : ∀ R, RdOk R E1 F1 := fun R => Le.rd kF1 R
    simp (maxSteps := 1000000) (disch := omega) only [stepS, reduceIte, Nat.reduceBEq, Nat.reduceEqDiff, tupleOf, stepT, stepX, heapR, lensR, stepM, dsl, Nat.reduceAdd, Nat.reduceLeDiff, g0, g1, g5, g6, g7, g9, hrd]
    refine ref19_Same_spec htt.2.sl (huE.le kF1) (finC_of h1 h3 (by omega)) (finC_of h1 h3 (by omega)) (by omega) (by omega) fun bb hbb => ?_
    obtain rfl : bb = true := hbb.2 rfl
    have rF1 := kF1.row rE1
    simp (maxSteps := 1000000) (disch := omega) only [stepS, reduceIte, Nat.reduceBEq, Nat.reduceEqDiff, tupleOf, stepT, stepX, heapR, lensR, stepM, dsl, Nat.reduceAdd, Nat.reduceLeDiff, g0, g1, g5, g6, g7, g9, rF1]
    refine rows_spec (cE1.le kF1) h1 (by omega) fun r1 F2 kF2 hr1 => ?_
    have hrd : ∀ R, RdOk R F1 F2 := fun R => Le.rd kF2 R
    simp (maxSteps := 1000000) (disch := omega) only [stepS, reduceIte, Nat.reduceBEq, Nat.reduceEqDiff, tupleOf, stepT, stepX, heapR, lensR, stepM, dsl, Nat.reduceAdd, Nat.reduceLeDiff, g0, g1, g5, g6, g7, g9, hrd]
    refine ref_rows_spec ((huE.le kF1).le kF2) (by omega) fun r2 F3 kF3 hr2 => ?_
    simp (maxSteps := 1000000) (disch := omega) only [stepS, reduceIte, Nat.reduceBEq, Nat.reduceEqDiff, tupleOf, stepT, stepX, heapR, lensR, stepM, dsl, Nat.reduceAdd, Nat.reduceLeDiff, g0, g1, g5, g6, g7, g9]
    refine ref19_SameRows_spec (RowsA.le hr1.2.sl kF3) hr2.2.sl (finR_of h1 h3 (by omega)) (finR_of h1 h3 (by omega)) (by rw [List.length_map]; omega) (by rw [List.length_map]; omega) fun bb hbb => ?_
    obtain rfl : bb = true := hbb.2 rfl
    have kEF := (kF1.trans kF2).trans kF3
    have rF3 := kEF.row rE1
    simp (maxSteps := 1000000) (disch := omega) only [stepS, reduceIte, Nat.reduceBEq, Nat.reduceEqDiff, tupleOf, stepT, stepX, heapR, lensR, stepM, dsl, Nat.reduceAdd, Nat.reduceLeDiff, g0, g1, g5, g6, g7, g9, reduceCtorEq, false_and, or_false, true_and]
    exact ⟨u, kBE.trans kEF, cE1.le kEF, rF3, huE.le kEF⟩
  clear g0 g1 g5 g6 cD rD kD
  rintro a F ⟨kF, cF, ⟨z, rF, hz⟩, g1, g5, g6⟩
  obtain ⟨f1, f2, f3, f4⟩ := FA_few (m := l) (by omega)
  simp (maxSteps := 1000000) (disch := omega) only [stepS, reduceIte, Nat.reduceBEq, Nat.reduceEqDiff, tupleOf, stepT, stepX, heapR, lensR, stepM, dsl, Nat.reduceAdd, Nat.reduceLeDiff, g1, g5, g6]
  refine of_spec cF ?_
  simp (maxSteps := 1000000) (disch := omega) only [stepS, reduceIte, Nat.reduceBEq, Nat.reduceEqDiff, tupleOf, stepT, stepX, heapR, lensR, stepM, dsl, Nat.reduceAdd, Nat.reduceLeDiff, g1, g5, g6, rF]
  refine ref_of_spec hz (by omega) fun F1 k1 => ?_
  simp (maxSteps := 1000000) (disch := omega) only [stepS, reduceIte, Nat.reduceBEq, Nat.reduceEqDiff, tupleOf, stepT, stepX, heapR, lensR, stepM, dsl, Nat.reduceAdd, Nat.reduceLeDiff, g1, g5, g6]
  refine rows_spec (cF.le k1) f1 (by omega) fun r1 F2 k2 hr1 => ?_
  simp (maxSteps := 1000000) (disch := omega) only [stepS, reduceIte, Nat.reduceBEq, Nat.reduceEqDiff, tupleOf, stepT, stepX, heapR, lensR, stepM, dsl, Nat.reduceAdd, Nat.reduceLeDiff, g1, g5, g6]
  refine loaded_spec hr1.2.sl f1 f2 (by omega) fun F3 k3 c3 => ?_
  have cc := ((cF.le k1).le k2).le k3
  have d1 : decide ((lookC (FA [] l) ask).getD 0 = (lookC (FA [] l) ask).getD 0) = true := by simp
  have d2 : ((lookC (FA [] l) ask).isSome == (lookC (FA [] l) ask).isSome) = true := by simp
  simp (maxSteps := 1000000) (disch := omega) only [stepS, reduceIte, Nat.reduceBEq, Nat.reduceEqDiff, tupleOf, stepT, stepX, heapR, lensR, stepM, dsl, Nat.reduceAdd, Nat.reduceLeDiff, g1, g5, g6, pnilN_f, d1, d2]
  refine tell_spec c3 f1 (by omega) fun t1 F4 k4 ht1 => ?_
  simp (maxSteps := 1000000) (disch := omega) only [stepS, reduceIte, Nat.reduceBEq, Nat.reduceEqDiff, tupleOf, stepT, stepX, heapR, lensR, stepM, dsl, Nat.reduceAdd, Nat.reduceLeDiff, g1, g5, g6, pnilN_f]
  refine tell_spec (cc.le k4) f1 (by omega) fun t2 F5 k5 ht2 => ?_
  simp (maxSteps := 1000000) (disch := omega) only [stepS, reduceIte, Nat.reduceBEq, Nat.reduceEqDiff, tupleOf, stepT, stepX, heapR, lensR, stepM, dsl, Nat.reduceAdd, Nat.reduceLeDiff, g1, g5, g6, pnilN_f]
  refine ref19_Same_spec (CountsA.le ht1.2.sl k5) ht2.2.sl (finC_of f1 f3 (by omega)) (finC_of f1 f3 (by omega)) (by omega) (by omega) fun b hb => ?_
  obtain rfl : b = true := hb.2 rfl
  simp (maxSteps := 1000000) (disch := omega) only [stepS, reduceIte, Nat.reduceBEq, Nat.reduceEqDiff, tupleOf, stepT, stepX, heapR, lensR, stepM, dsl, Nat.reduceAdd, Nat.reduceLeDiff, g1, g5, g6, pnilN_f]
  refine awake_spec fun F6 _ => ?_
  simp (maxSteps := 1000000) (disch := omega) only [stepS, reduceIte, Nat.reduceBEq, Nat.reduceEqDiff, tupleOf, stepT, stepX, heapR, lensR, stepM, dsl, Nat.reduceAdd, Nat.reduceLeDiff, g1, g5, g6]
  exact hq _
theorem CounterAdds_law {A : AH} {v0 v1 : Value} (g0 : GoodV Try.prog A 9 22 v0) (g1 : GoodV Try.prog A 9 9 v1) : ACalls 0 Try.prog 3 [v0, v1] (fun v _ => v = .bool true) A := by
  obtain ⟨l, hl, hb, hi⟩ := law_counts g0
  obtain ⟨s, rfl, hs⟩ := law_str Try.underlying9 g1
  exact CounterAdds_spec hl hb hi hs (fun _ => rfl)
end Go.AS.C
